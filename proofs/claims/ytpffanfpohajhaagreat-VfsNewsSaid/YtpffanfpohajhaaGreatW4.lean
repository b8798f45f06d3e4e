/- Walk of sameActs, which writes over what it compares. Condition: bounds on lengths. -/
import Derived.Test.YtpffanfpohajhaaGreatW3
namespace Go.Proofs.YtpffanfpohajhaaGreat
open Go Go.MapKept
open Go.RowKit hiding intOf

theorem cells_lt {a : Act8} {j : Nat} {u : Value} (h : a.cells[j]? = some u) : j < 8 := (List.getElem?_eq_some_iff.1 h).1

theorem acts_at (l : List Act8) : ∀ (i : Nat) (p : Act8), l[i]? = some p → ∀ j, j < 8 → (acts l)[i * 8 + j]? = p.cells[j]? := by
  induction l with
  | nil => intro i p h; simp at h
  | cons q l ih =>
    intro i p h j hj
    have e : acts (q :: l) = q.cells ++ acts l := by simp [acts]
    have h8 : q.cells.length = 8 := rfl
    rw [e]
    cases i with
    | zero =>
      simp only [List.getElem?_cons_zero, Option.some.injEq] at h
      subst h
      rw [Nat.zero_mul, Nat.zero_add, List.getElem?_append_left (by omega)]
    | succ i =>
      rw [List.getElem?_append_right (by omega), h8, show (i + 1) * 8 + j - 8 = i * 8 + j from by omega]
      exact ih i p (by simpa using h) j hj

theorem act_neq (a b : Act8) (w : World) : (binOp .neq 96 (.agg #[.int .i64 a.op, .int .i64 a.dir, .string a.name, .int .i64 a.node, .int .i64 a.to, .string a.other, .int .i64 a.pos, .int .i64 a.n]) (.agg #[.int .i64 b.op, .int .i64 b.dir, .string b.name, .int .i64 b.node, .int .i64 b.to, .string b.other, .int .i64 b.pos, .int .i64 b.n])).run Tryz.prog w = .ok (.bool (!decide (a = b))) w := by
  go_simp
  obtain ⟨a1, a2, a3, a4, a5, a6, a7, a8⟩ := a
  obtain ⟨b1, b2, b3, b4, b5, b6, b7, b8⟩ := b
  have hs := str_eq a3 b3
  have hs2 := str_eq a6 b6
  simp only [Act8.mk.injEq]
  by_cases h1 : a1 = b1 <;> by_cases h2 : a2 = b2 <;> by_cases h4 : a4 = b4 <;> by_cases h5 : a5 = b5 <;> by_cases h7 : a7 = b7 <;> by_cases h8 : a8 = b8 <;> simp [h1, h2, h4, h5, h7, h8] at hs hs2 ⊢ <;> by_cases h3 : a3 = b3 <;> by_cases h6 : a6 = b6 <;> simp [h3, h6] at hs hs2 ⊢ <;> simp_all

end Go.Proofs.YtpffanfpohajhaaGreat
