/- Bytes appended to an own row; walk of slices.Clone. Condition: at most 2^40 bytes. -/
import Derived.Test.YtmnlebkpneeblaaDoorC
namespace Go.Proofs.YtmnlebkpneeblaaDoor
open Go Go.RowKit

/-- A slice of bytes that is read; nil, or without room, too. -/
def Src8 (w : World) (v : Value) (l : List UInt8) : Prop :=
  (∃ a, v = .slice a 0 0 ∧ l = []) ∨ ∃ g o c, v = .slice (some ⟨g, o, none⟩) l.length c ∧ g < w.heap.size ∧ l.length ≤ c ∧ c ≤ 9223372036854775807 ∧ Rd8 w g o l
theorem info5 : (Tryd.prog.info? 5).map (fun i => (i.zero, i.size, i.bytes)) = some (some (.int .u8 0), 1, 1) := by kernel_rfl
theorem u8s_one (l : List UInt8) : ∀ u ∈ u8s l, u.oneCell' = true := by
  intro u hu
  obtain ⟨b, _, rfl⟩ := List.mem_map.1 hu
  rfl
theorem u8s_append (a b : List UInt8) : u8s (a ++ b) = u8s a ++ u8s b := List.map_append
theorem Rd8.cells {w : World} {g o : Nat} {l : List UInt8} (h : Rd8 w g o l) : ∀ j u, (u8s l)[j]? = some u → w.cell? ((⟨g, o, none⟩ : Addr).add j) = some u := by
  intro j u hu
  unfold u8s at hu
  rw [List.getElem?_map] at hu
  obtain ⟨b, hb, rfl⟩ := Option.map_eq_some_iff.1 hu
  rw [Addr.add_mid]
  exact h j b hb

theorem eql_nil28 (w : World) (a : Option Addr) (n c : Nat) : (binOp .eql 28 (.slice a n c) (.slice none 0 0)).run Tryd.prog w = .ok (.bool a.isNone) w := by
  simp only [binOp]
  simp [Op.equal, Op.maxDepth, Lib.run_equalIn_slice_nil w 9999 28 5 a n c 0 0 Tryd.underlying28]
/-- What append on bytes does. -/
theorem app8 {w : World} {v : Value} {l : List UInt8} (hown : w.ownsRow 0 5 1 v l.length (u8s l)) {x : Value} {m : List UInt8} (hs : Src8 w x m) (hb : l.length + m.length ≤ 1099511627776) :
    ∃ v' w', (Builtin.append_ #[28, 28] 28 #[v, x]).run Tryd.prog w = .ok v' w' ∧ w'.ownsRow 0 5 1 v' (l ++ m).length (u8s (l ++ m)) ∧ w.grownBy w' v.ownBlock ∧
      (∀ b, v'.ownBlock = some b → v.ownBlock = some b ∨ w.heap.size ≤ b) ∧ (v' = .slice none 0 0 ↔ v = .slice none 0 0 ∧ m = []) := by
  obtain ⟨i, hi, z0, z1, z2⟩ := info_parts info5
  have key : ∀ (a : Addr) (c : Nat), (∀ j u, (u8s m)[j]? = some u → w.cell? (a.add j) = some u) → ∃ v' w', (Builtin.append_ #[28, 28] 28 #[v, .slice (some a) m.length c]).run Tryd.prog w = .ok v' w' ∧ w'.ownsRow 0 5 1 v' (l ++ m).length (u8s (l ++ m)) ∧ w.grownBy w' v.ownBlock ∧
      (∀ b, v'.ownBlock = some b → v.ownBlock = some b ∨ w.heap.size ≤ b) ∧ (v' = .slice none 0 0 ↔ v = .slice none 0 0 ∧ m = []) := by
    intro a c hcl
    obtain ⟨v', w', h1, h2, h3, h4⟩ := run_append_own (P := Tryd.prog) (w := w) 0 28 28 5 i (.int .u8 0) 1 1 Tryd.underlying28 hi z0 z1 z2 rfl (by decide) v l.length (u8s l) hown a m.length c (u8s m)
      (by rw [u8s_length, Nat.mul_one]) hcl (u8s_one m) (by unfold maxLen; omega) (by omega) (Nat.zero_le _)
    refine ⟨v', w', h1, ?_, h3, fun b hb' => ?_, h4.trans ⟨fun h => ⟨h.1, List.eq_nil_of_length_eq_zero h.2⟩, fun h => ⟨h.1, by rw [h.2]; rfl⟩⟩⟩
    · rw [List.length_append, u8s_append]; exact h2
    · rcases hown.2 with ⟨rfl, hn⟩ | ⟨g0, cap, cur, rfl, hbg, hg0, hnc, hcm, hcs, htake⟩
      · have hown0 : w.ownsRow w.heap.size 5 1 (.slice none 0 0) l.length (u8s l) := ⟨hown.1, .inl ⟨rfl, hn⟩⟩
        obtain ⟨v2, w2, k1, k2, _, _⟩ := run_append_own (P := Tryd.prog) (w := w) w.heap.size 28 28 5 i (.int .u8 0) 1 1 Tryd.underlying28 hi z0 z1 z2 rfl (by decide) _ l.length (u8s l) hown0 a m.length c (u8s m)
          (by rw [u8s_length, Nat.mul_one]) hcl (u8s_one m) (by unfold maxLen; omega) (by omega) (Nat.le_refl _)
        rw [h1] at k1
        injection k1 with e1 e2
        subst e1 e2
        exact .inr (k2.lt b hb').1
      · by_cases hroom : l.length + m.length ≤ cap
        · have hr := run_append_room (P := Tryd.prog) w 28 28 5 i Tryd.underlying28 hi g0 l.length cap cur hg0 a m.length c (u8s m) (by rw [u8s_length, z1, Nat.mul_one]) hcl (u8s_one m) hroom (by rw [u8s_length, z1, hcs, Nat.mul_one, Nat.mul_one]; exact hroom)
          rw [h1] at hr
          injection hr with e1 e2
          subst e1
          exact .inl hb'
        · have holds : ∀ j u, (u8s l)[j]? = some u → w.cell? ((⟨g0, 0, none⟩ : Addr).add j) = some u := hown.cells (g := g0) rfl
          have hr := run_append_grow (P := Tryd.prog) w 28 28 5 i (.int .u8 0) Tryd.underlying28 hi z0 ⟨g0, 0, none⟩ l.length cap (u8s l) (by rw [u8s_length, z1, Nat.mul_one]) holds a m.length c (u8s m) (by rw [u8s_length, z1, Nat.mul_one]) hcl (by omega) (by omega) (by rw [z2]; exact growslice_fits (by omega) (by omega))
          rw [h1] at hr
          injection hr with e1 e2
          subst e1
          right
          injection hb' with hb'
          exact Nat.le_of_eq hb'
  rcases hs with ⟨a, rfl, rfl⟩ | ⟨g, o, c, rfl, hg, hc, _, hrd⟩
  · cases a with
    | none => exact ⟨v, w, run_append_owned_none (P := Tryd.prog) w 0 28 28 5 i 1 Tryd.underlying28 hi v l.length (u8s l) hown, by simpa using hown, ⟨rfl, rfl, rfl, Nat.le_refl _, fun _ _ _ => rfl⟩, fun b h => .inl h, by simp⟩
    | some a => exact key a 0 (fun j u hu => by cases hu)
  · exact key ⟨g, o, none⟩ c hrd.cells
theorem wpList_app8 {w : World} {ops : Array Oper} {rest : List Oper} {o : Oper} {a : Act} {Q : Exit → Act → World → Prop} (hgd : o.guard = none) (s x : Operand)
    (ho : o.op = .call { callee := .builtin .append, args := #[s, x], argTypes := #[28, 28] }) (hty : o.type = 28)
    (v : Value) (l : List UInt8) (hs : a.eval s = v) (hown : w.ownsRow 0 5 1 v l.length (u8s l)) (xv : Value) (m : List UInt8) (hx : a.eval x = xv) (hsrc : Src8 w xv m) (hb : l.length + m.length ≤ 1099511627776)
    (h : ∀ v' w', w'.ownsRow 0 5 1 v' (l ++ m).length (u8s (l ++ m)) → w.grownBy w' v.ownBlock → (∀ b, v'.ownBlock = some b → v.ownBlock = some b ∨ w.heap.size ≤ b) → (v' = .slice none 0 0 ↔ v = .slice none 0 0 ∧ m = []) →
      wpList Tryd.prog ops Q rest (a.put o.dst v') w') :
    wpList Tryd.prog ops Q (o :: rest) a w := by
  refine wpList_plain hgd fun K' hK => ?_
  obtain ⟨v', w', hr, h2, h3, h4, h5⟩ := app8 hown hsrc hb
  unfold Oper.wp execOp
  simp only [ho, hty, resolve, invoke, builtin, Sem.run_bind, Sem.run_pure, Result.andThen_ok, List.map_toArray, List.map_cons, List.map_nil, hs, hx, hr]
  exact hK _ _ (h v' w' h2 h3 h4 h5)
end Go.Proofs.YtmnlebkpneeblaaDoor
