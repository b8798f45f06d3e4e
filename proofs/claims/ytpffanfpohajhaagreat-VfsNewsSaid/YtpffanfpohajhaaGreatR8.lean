/- Walk of Stat of the reference. Condition: bounds on lengths. -/
import Derived.Test.YtpffanfpohajhaaGreatR7
namespace Go.Proofs.YtpffanfpohajhaaGreat
open Go Go.MapKept
open Go.RowKit hiding intOf

def statRR (R : Rf) (n : Int) : StatL × Int := match findR R n with
  | none => (StatL.zero, 100)
  | some d => (⟨n, d.kind, d.mt, linksR R.img.list n, (d.data.length : Int) + d.target.size + d.ents.length⟩, 0)

set_option maxRecDepth 100000 in
set_option maxHeartbeats 1000000 in
theorem StatR_any (q : Nat) (R : Rf) (l : List (NodeL × Value × Value)) (lv tv : Value) (w : World) (h : RefAt w q R l lv tv) (n : Int) (hl : l.length ≤ 1073741824)
    (hs : ∀ p ∈ l, p.1.ents.length ≤ 1073741824 ∧ p.1.data.length ≤ 1073741824 ∧ p.1.target.size ≤ 1073741824) (he : entsR R.img.list ≤ 281474976710656) :
    Calls Tryz.prog 23 #[ptr q, .int .i64 n] w (StatPost (statRR R n) w) := by
  have hB : Below w.heap.size w (w.alloc (.cells StatL.zero.cells.toArray 48)) := (Below.refl _ _).alloc (Nat.le_refl _) _
  have h1 := h.below hB
  have HC := Lib.hid (atN_any q R l lv tv _ h1 n hl)
  have HK := Lib.hid (links_any lv l _ (h1.below (Below.refl _ _).drew).rd n hl (by rw [h.list]; exact he))
  rw [h.list] at HK
  have HB := Lib.hid hB
  have hrow : (w.alloc (.cells StatL.zero.cells.toArray 48)).heap[w.heap.size]? = some (.cells StatL.zero.cells.toArray 48 (0, 0)) := (heap_alloc _ _).1
  have HROW := Lib.hid hrow
  clear hB hrow
  rcases at_case h n with ⟨hf, hv⟩ | ⟨k0, nd0, dv0, ev0, g, c, hf, hk, rfl, hv⟩
  · have her : statRR R n = (StatL.zero, 100) := by unfold statRR; rw [hf]
    rw [her]
    rw [hv] at HC
    clear h h1 hf hv her hs
    unfold ptr at *
    go_enter Tryz.func23, Tryz.ntmps23
    go_wp2_with fail
    refine HC.out.mono ?_
    rintro e w1 ⟨rfl, rfl⟩
    go_wp2_with (refine wpList_store_row rfl 48 _ _ rfl w.heap.size _ rfl rfl 48 _ HROW.out (by kernel_rfl) rfl (by simp [Value.oneCell']) ?_)
    refine ret_row2 (g := w.heap.size) rfl rfl (setRow_heap _ _ _ _ _ _ HROW.out) Tryz.underlying48 rfl (by kernel_rfl) rfl ⟨rfl, below_setRow HB.out (Nat.le_refl _) _⟩
  · obtain ⟨b, o, eb, hc⟩ := h1.rd.cells hk
    injection eb with eb
    injection eb with e1 e2 _
    subst e1 e2
    obtain ⟨pd, pe⟩ := h.parts _ (List.mem_of_getElem? hk)
    obtain ⟨s1, s2, s3⟩ := hs _ (List.mem_of_getElem? hk)
    simp only at pd pe s1 s2 s3
    obtain ⟨da, dc, rfl⟩ := pd.form
    obtain ⟨ea, ec, rfl⟩ := pe.form
    have x1 := hc 1 _ (by omega) rfl
    have x2 := hc 2 _ (by omega) rfl
    have x3 := hc 3 _ (by omega) rfl
    have x4 := hc 4 _ (by omega) rfl
    have x5 := hc 5 _ (by omega) rfl
    have x6 := hc 6 _ (by omega) rfl
    have x7 := hc 7 _ (by omega) rfl
    have x8 := hc 8 _ (by omega) rfl
    have x9 := hc 9 _ (by omega) rfl
    rw [Nat.zero_add] at x1 x2 x3 x4 x5 x6 x7 x8 x9
    have c3 : (w.alloc (.cells StatL.zero.cells.toArray 48)).cell? ⟨q, 3, none⟩ = some (.slice (some ⟨g, 0, none⟩) l.length c) := h1.row.cell 3 rfl
    have her : statRR R n = (⟨n, nd0.kind, nd0.mt, linksR R.img.list n, (nd0.data.length : Int) + nd0.target.size + nd0.ents.length⟩, 0) := by unfold statRR; rw [hf]
    rw [her]
    rw [hv] at HC
    have a1 := wrap_add (a := nd0.data.length) (b := nd0.target.size) (by omega) (by omega) (by omega) (by omega)
    have a2 := wrap_add (a := (nd0.data.length : Int) + nd0.target.size) (b := nd0.ents.length) (by omega) (by omega) (by omega) (by omega)
    clear h h1 hf hv her hs hc hk pd pe
    unfold ptr at *
    go_enter Tryz.func23, Tryz.ntmps23
    go_wp2_with fail
    refine HC.out.mono ?_
    rintro e w1 ⟨rfl, rfl⟩
    generalize hW : w.alloc (.cells StatL.zero.cells.toArray 48) = w1 at *
    go_wp2
    go_still_tail 34, (by kernel_rfl)
    still_call HK.out
    repeat still_step
    refine wpStill_nil ?_
    refine wpList_store_row rfl 48 _ _ rfl w.heap.size _ rfl rfl 48 _ HROW.out (by kernel_rfl) rfl (by simp [Value.oneCell']) ?_
    go_wp2
    refine ret_row2 (g := w.heap.size) rfl rfl (setRow_heap _ _ _ _ _ _ HROW.out) Tryz.underlying48 rfl (by kernel_rfl) rfl ⟨rfl, below_setRow HB.out.drew (Nat.le_refl _) _⟩
end Go.Proofs.YtpffanfpohajhaaGreat
