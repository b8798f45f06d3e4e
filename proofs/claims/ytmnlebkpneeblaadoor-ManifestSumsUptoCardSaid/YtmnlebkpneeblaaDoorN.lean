/- Walks of the two Hexes: a sum's digits. No condition but the sum's length. -/
import Derived.Test.YtmnlebkpneeblaaDoorM
import Derived.Test.YtmnlebkpneeblaaDoorK0
namespace Go.Proofs.YtmnlebkpneeblaaDoor
open Go Go.RowKit

theorem wp_app8 {w : World} {o : Oper} {a : Act} {K : Act → World → Prop} {Q : Exit → Act → World → Prop} (s x : Operand)
    (ho : o.op = .call { callee := .builtin .append, args := #[s, x], argTypes := #[28, 28] }) (hty : o.type = 28)
    (v : Value) (l : List UInt8) (hs : a.eval s = v) (hown : w.ownsRow 0 5 1 v l.length (u8s l)) (xv : Value) (m : List UInt8) (hx : a.eval x = xv) (hsrc : Src8 w xv m) (hb : l.length + m.length ≤ 1099511627776)
    (h : ∀ v' w', w'.ownsRow 0 5 1 v' (l ++ m).length (u8s (l ++ m)) → w.grownBy w' v.ownBlock → (∀ b, v'.ownBlock = some b → v.ownBlock = some b ∨ w.heap.size ≤ b) → (v' = .slice none 0 0 ↔ v = .slice none 0 0 ∧ m = []) →
      K (a.put o.dst v') w') : o.wp Tryd.prog a w K Q := by
  obtain ⟨v', w', hr, h2, h3, h4, h5⟩ := app8 hown hsrc hb
  unfold Oper.wp execOp
  simp only [ho, hty, resolve, invoke, builtin, Sem.run_bind, Sem.run_pure, Result.andThen_ok, List.map_toArray, List.map_cons, List.map_nil, hs, hx, hr]
  exact h v' w' h2 h3 h4 h5

def digs : ByteArray := ⟨#[48, 49, 50, 51, 52, 53, 54, 55, 56, 57, 97, 98, 99, 100, 101, 102]⟩
def dig (n : Nat) : UInt8 := digs.data.toList.getD n 0
def hexL (l : List UInt8) : List UInt8 := l.flatMap fun x => [dig (x.toNat / 16), dig (x.toNat % 16)]
theorem hexL_snoc (l : List UInt8) (x : UInt8) : hexL (l ++ [x]) = hexL l ++ [dig (x.toNat / 16), dig (x.toNat % 16)] := by simp [hexL]
theorem hexL_length (l : List UInt8) : (hexL l).length = 2 * l.length := by
  induction l with
  | nil => rfl
  | cons x l ih => unfold hexL at *; rw [List.flatMap_cons, List.length_append, ih]; simp; omega

/-- A new slice of two bytes is a source. -/
theorem src_two (w : World) (x y : UInt8) : Src8 (w.alloc (.cells #[.int .u8 x.toNat, .int .u8 y.toNat] 5)) (.slice (some ⟨w.heap.size, 0, none⟩) 2 2) [x, y] :=
  .inr ⟨w.heap.size, 0, 2, rfl, by simp, by simp, by omega, fun j b hj => by
    have hr := Row.new w [Value.int .u8 x.toNat, Value.int .u8 y.toNat] 5
    rw [Nat.zero_add]
    refine hr.cell j ?_
    have h2 : j < 2 := (List.getElem?_eq_some_iff.1 hj).1
    have : j = 0 ∨ j = 1 := by omega
    rcases this with rfl | rfl
    · simp at hj; subst hj; rfl
    · simp at hj; subst hj; rfl⟩
theorem G8.app2 {B : Nat} {w0 w w' : World} {v v' : Value} {l : List UInt8} {x y : UInt8} (h : G8 B w0 w v l) (o : Obj) (ho : w'.ownsRow 0 5 1 v' (l.length + 2) (u8s (l ++ [x, y]))) (hg : (w.alloc o).grownBy w' v.ownBlock)
    (hn : ∀ g, v'.ownBlock = some g → v.ownBlock = some g ∨ w.heap.size + 1 ≤ g) : G8 B w0 w' v' (l ++ [x, y]) := by
  have hb := (h.below.alloc h.size o).grown hg (by have := h.size; simp; omega) h.blk
  refine ⟨by unfold Own8; rw [List.length_append]; exact ho, hb, fun g hg' => ?_, ?_⟩
  · rcases hn g hg' with k | k
    · exact h.blk g k
    · have := h.size; omega
  · have := hg.size; have := h.size; simp at *; omega

theorem run_index24 (w : World) (l : List UInt8) (i : Nat) (hl : l.length = 32) (hi : i < 32) :
    (Instr.index 24 (.agg (u8s l).toArray) (.int .i64 i)).run Tryd.prog w = .ok (.int .u8 (l.getD i 0).toNat) w := by
  have hv := u8s_at (l := l) (j := i) (by omega)
  have h1 : (0 : Int) ≤ (i : Int) ∧ (i : Int) < ((32 : Nat) : Int) := by omega
  have size5 : ∀ w, (sizeOf 5).run Tryd.prog w = .ok 1 w := fun w => by kernel_rfl
  have agg5 : ∀ w, (isAgg 5).run Tryd.prog w = .ok false w := fun w => by kernel_rfl
  unfold Instr.index
  simp only [asIntOf, Sem.run_bind, Sem.run_pure, Result.andThen_ok, run_underlying Tryd.underlying24]
  rw [if_pos h1, Sem.run_bind, size5]
  simp only [Result.andThen_ok, Int.toNat_natCast, Nat.mul_one]
  unfold part
  rw [Sem.run_bind, agg5]
  simp only [Result.andThen_ok, List.getElem?_toArray, hv]
  rfl
theorem run_dig (w : World) (k : IntKind) (n : Nat) (h : n < 16) : (Instr.index 9 (.string digs) (.int k n)).run Tryd.prog w = .ok (.int .u8 (dig n).toNat) w := by
  have hd : digs[n]? = some (dig n) := by
    unfold dig
    rw [List.getD_eq_getElem?_getD]
    have : digs.data.toList[n]? = digs[n]? := by
      have h16 : n < digs.size := h
      rw [getElem?_pos digs n h16, List.getElem?_eq_getElem (by exact h)]
      rfl
    rw [this]
    rw [getElem?_pos digs n h]
    rfl
  unfold Instr.index
  simp only [asIntOf, Sem.run_bind, Sem.run_pure, Result.andThen_ok, run_underlying Tryd.underlying9]
  have h1 : (0 : Int) ≤ (n : Int) := by omega
  simp only [h1, if_true, Int.toNat_natCast, hd]
  rfl
end Go.Proofs.YtmnlebkpneeblaaDoor
