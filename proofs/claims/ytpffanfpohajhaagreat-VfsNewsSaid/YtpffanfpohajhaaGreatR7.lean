/- Walk of List of the reference. Condition: bounds on lengths. -/
import Derived.Test.YtpffanfpohajhaaGreatR6
namespace Go.Proofs.YtpffanfpohajhaaGreat
open Go Go.MapKept
open Go.RowKit hiding intOf

def listRR (R : Rf) (n : Int) : List (ByteArray × Int) × Int := match findR R n with | none => ([], 100) | some d => if d.kind = 1 then (d.ents, 0) else ([], 101)

theorem named_one (l : List (ByteArray × Int)) : ∀ u ∈ named l, u.oneCell' = true := by
  intro u hu
  unfold named at hu
  obtain ⟨p, _, hp⟩ := List.mem_flatMap.1 hu
  simp only [List.mem_cons, List.not_mem_nil, or_false] at hp
  rcases hp with rfl | rfl <;> rfl

set_option maxRecDepth 100000 in
set_option maxHeartbeats 1000000 in
theorem ListR_any (q : Nat) (R : Rf) (l : List (NodeL × Value × Value)) (lv tv : Value) (w : World) (h : RefAt w q R l lv tv) (n : Int) (hl : l.length ≤ 1073741824) (hs : ∀ p ∈ l, p.1.ents.length ≤ 1073741824) :
    Calls Tryz.prog 64 #[ptr q, .int .i64 n] w (ListPost w (listRR R n).2 (listRR R n).1) := by
  have HC := Lib.hid (atN_any q R l lv tv w h n hl)
  rcases at_case h n with ⟨hf, hv⟩ | ⟨k0, nd0, dv0, ev0, g, c, hf, hk, rfl, hv⟩
  · have he : listRR R n = ([], 100) := by unfold listRR; rw [hf]
    rw [he]
    rw [hv] at HC
    clear h hf hv he
    unfold ptr at *
    go_enter Tryz.func64, Tryz.ntmps64
    go_wp2_with fail
    refine HC.out.mono ?_
    rintro e w1 ⟨rfl, rfl⟩
    go_wp2_with fail
    go_ret2
    exact ⟨_, rfl, World.ownsRow_nil _ _ _ _, Below.refl _ _⟩
  · obtain ⟨b, o, eb, hc⟩ := h.rd.cells hk
    injection eb with eb
    injection eb with e1 e2 _
    subst e1 e2
    obtain ⟨_, pe⟩ := h.parts _ (List.mem_of_getElem? hk)
    have hel := hs _ (List.mem_of_getElem? hk)
    simp only at pe hel
    have x1 := hc 1 _ (by omega) rfl
    have x9 := hc 9 _ (by omega) rfl
    rw [Nat.zero_add] at x1 x9
    have hglt : g < w.heap.size := World.block_lt_of_cell? w ⟨g, k0 * 10 + 1, none⟩ x1
    rw [hv] at HC
    have hlen := pe.1
    have HE := Lib.hid pe
    clear h hc hk hs pe
    by_cases hkd : nd0.kind = 1
    · have he : listRR R n = (nd0.ents, 0) := by unfold listRR; rw [hf]; simp only; rw [if_pos hkd]
      rw [he]
      have t : (nd0.kind != 1) = false := by simpa using hkd
      clear hf hv he hkd
      unfold ptr at *
      obtain ⟨i0, hi, hz0, hz1, hz2⟩ := info_parts info101
      rcases HE.out.2 with ⟨cap, rfl, h0⟩ | ⟨b2, o2, cap, rfl, hcc⟩
      · have hnil : nd0.ents = [] := List.eq_nil_of_length_eq_zero h0
        rw [hnil] at x9 ⊢
        simp only [List.length_nil] at x9
        clear HE hlen hel
        go_enter Tryz.func64, Tryz.ntmps64
        go_wp2_with fail
        refine HC.out.mono ?_
        rintro e w1 ⟨rfl, rfl⟩
        go_wp2_with fail
        go_ret2
        exact ⟨_, rfl, World.ownsRow_made w1 #[] 0 (Nat.le_refl _) (Nat.zero_le _) rfl, (Below.refl _ _).alloc (Nat.le_refl _) _⟩
      · have HCC := Lib.hid hcc
        clear hcc HE
        go_enter Tryz.func64, Tryz.ntmps64
        go_wp2_with fail
        refine HC.out.mono ?_
        rintro e w1 ⟨rfl, rfl⟩
        go_wp2_with (at_builtin; refine wpList_append_own_at _ rfl _ _ 74 rfl w1.heap.size 101 i0 (.agg #[.string ByteArray.empty, .int .i64 0]) 2 24 Tryz.underlying74 hi hz0 hz1 hz2 rfl (by decide) _ _ _ rfl (World.ownsRow_made w1 #[] 0 (Nat.le_refl _) (Nat.zero_le _) rfl) ⟨b2, o2, none⟩ nd0.ents.length cap (named nd0.ents) rfl hlen ?c1 (named_one _) ?c3 ?c4 ?c5 ?_)
        case c1 =>
          intro j u hj
          obtain ⟨hlt, hcell⟩ := HCC.out j u hj
          rw [Addr.add_mid]
          exact (World.cell?_of_block (w := w1) (a := ⟨b2, o2 + j, none⟩) (heap_alloc_old w1 _ hlt)).trans hcell
        case c3 => unfold maxLen; omega
        case c4 => omega
        case c5 => simp
        intro v' w4 hown4 hgrow4 _ _
        have HO := Lib.hid hown4
        have HB := Lib.hid ((Below.refl w1.heap.size w1).grown ((World.grownBy_alloc w1 _ _).trans hgrow4) (Nat.le_refl _) (fun j hj => by cases hj; exact Nat.le_refl _))
        clear hown4 hgrow4
        go_wp2_with fail
        go_ret2
        exact ⟨v', rfl, HO.out, HB.out⟩
    · have he : listRR R n = ([], 101) := by unfold listRR; rw [hf]; simp only; rw [if_neg hkd]
      rw [he]
      have t : (nd0.kind != 1) = true := by simpa using hkd
      clear hf hv he hkd HE
      unfold ptr at *
      go_enter Tryz.func64, Tryz.ntmps64
      go_wp2_with fail
      refine HC.out.mono ?_
      rintro e w1 ⟨rfl, rfl⟩
      go_wp2_with fail
      go_ret2
      exact ⟨_, rfl, World.ownsRow_nil _ _ _ _, Below.refl _ _⟩
end Go.Proofs.YtpffanfpohajhaaGreat
