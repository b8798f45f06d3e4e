/- Walk of asks: List. Condition: the two answer alike, and bounds. -/
import Derived.Test.YtpffanfpohajhaaGreatN4
namespace Go.Proofs.YtpffanfpohajhaaGreat
open Go Go.MapKept
open Go.RowKit hiding intOf

set_option maxRecDepth 100000 in
set_option maxHeartbeats 2000000 in
theorem asks_list (o : OpL) (bv xa xb xc xd : Value) (hk : o.kind = 13) (b : Nat) (F : Fs) (f : Fp) (R : Rf) (q : Nat) (l : List (NodeL × Value × Value)) (lv tv : Value) (w : World) (h : PairAt w b F f R q l lv tv)
    (hq1 : listR F o.dir = (listRR R o.dir).1) (hq2 : listErr F o.dir = (listRR R o.dir).2) (hen : ∀ i, F.get o.dir = some i → EntsOk i.ents) (hle : (listR F o.dir).length ≤ 1073741824) (hsm : Small R.img.list) :
    Calls Tryz.prog 19 #[ptr b, .agg (o.cells bv xa xb xc xd).toArray] w (BoolBelow true w) := by
  have hbw : Below w.heap.size w (w.alloc (.cells (o.cells bv xa xb xc xd).toArray 39)) := (Below.refl _ _).alloc (Nat.le_refl _) _
  have hr : Row (w.alloc (.cells (o.cells bv xa xb xc xd).toArray 39)) w.heap.size (o.cells bv xa xb xc xd) := ⟨39, (heap_alloc w _).1⟩
  have k0 := hr.cell 0 rfl
  have k2 := hr.cell 2 rfl
  rw [hk] at k0
  have hsz : (w.alloc (.cells (o.cells bv xa xb xc xd).toArray 39)).heap.size = w.heap.size + 1 := by simp
  have h1 := h.below hbw
  have p0 : (w.alloc (.cells (o.cells bv xa xb xc xd).toArray 39)).cell? ⟨b, 0, none⟩ = some (.pointer (some ⟨f.p, 0, none⟩)) := h1.row.cell 0 rfl
  have p1 : (w.alloc (.cells (o.cells bv xa xb xc xd).toArray 39)).cell? ⟨b, 1, none⟩ = some (.pointer (some ⟨q, 0, none⟩)) := h1.row.cell 1 rfl
  have hll := h1.ref.list
  have hC1 := List_any F f (w.alloc (.cells (o.cells bv xa xb xc xd).toArray 39)).drew (h1.fs.below (Below.refl _ _).drew) o.dir hen
  have hC2 : ∀ w', Below (w.heap.size + 1) (w.alloc (.cells (o.cells bv xa xb xc xd).toArray 39)) w' → Calls Tryz.prog 64 #[ptr q, .int .i64 o.dir] w' (ListPost w' (listRR R o.dir).2 (listRR R o.dir).1) := fun w' hw' =>
    ListR_any q R l lv tv w' (h1.ref.below (by rw [hsz]; exact hw')) o.dir (by have := congrArg List.length hll; have := hsm.few; simp at *; omega) (fun p hp => hsm.ents p.1 (by rw [← hll]; exact List.mem_map_of_mem hp))
  rw [← hq1, ← hq2] at hC2
  generalize listR F o.dir = L at *
  generalize listErr F o.dir = E at *
  have HLE := Lib.hid hle
  have HC1 := Lib.hid hC1
  have HC2 := Lib.hid hC2
  have HW := Lib.hid hbw
  have hbl : b < w.heap.size + 1 := by rw [← hsz]; exact h1.row.lt
  have HSZ := Lib.hid hsz
  clear h hbw h1 hk hq1 hq2 hen hle hsm hr hll hC1 hC2 hsz
  unfold ptr at *
  go_enter Tryz.func19, Tryz.ntmps19
  go_wp2_with fail
  generalize w.alloc (.cells (o.cells bv xa xb xc xd).toArray 39) = w1 at *
  go_region_held3 (fun w' => w'.cell? ⟨b, 0, none⟩ = some (.pointer (some ⟨f.p, 0, none⟩)) ∧ w'.cell? ⟨w.heap.size, 2, none⟩ = some (.int .i64 o.dir)) (go_keep)
    (first
      | (go_at_call 48; refine HC1.out.mono ?_; rintro e w2 ⟨v2, rfl, ho2, hb2⟩; have z0 := (hb2.cell (p := ⟨b, 0, none⟩) (by show b < w1.heap.size; rw [HSZ.out]; exact hbl)).trans p0; have z1 := (hb2.cell (p := ⟨b, 1, none⟩) (by show b < w1.heap.size; rw [HSZ.out]; exact hbl)).trans p1; have z2 := (hb2.cell (p := ⟨w.heap.size, 2, none⟩) (by show w.heap.size < w1.heap.size; rw [HSZ.out]; omega)).trans k2))
  have hb12 : Below (w.heap.size + 1) w1 w2.drew := by rw [← HSZ.out]; exact ((Below.refl _ _).drew.trans hb2).drew
  have HB12 := Lib.hid hb12
  have hC3 := HC2.out w2.drew hb12
  have HC3 := Lib.hid hC3
  have HO2 := Lib.hid ho2
  have HB2 := Lib.hid hb2
  have hs2 : w.heap.size + 1 ≤ w2.heap.size := by rw [← HSZ.out]; exact hb2.size
  clear hb12 hC3 hb2 HC1 HC2 ho2
  go_wp2_with fail
  go_region_held3 (fun w' => w'.cell? ⟨b, 1, none⟩ = some (.pointer (some ⟨q, 0, none⟩)) ∧ w'.cell? ⟨w.heap.size, 2, none⟩ = some (.int .i64 o.dir)) (go_keep)
    (first
      | (go_at_call 64; refine HC3.out.mono ?_; rintro e w3 ⟨v3, rfl, ho3, hb3⟩; have y1 := (hb3.cell (p := ⟨b, 1, none⟩) (by show b < w2.heap.size; omega)).trans z1; have y2 := (hb3.cell (p := ⟨w.heap.size, 2, none⟩) (by show w.heap.size < w2.heap.size; omega)).trans z2))
  have ho23 : w3.ownsRow w1.drew.heap.size 101 2 v2 L.length (named L) := own_below (w := w2.drew) (own_below HO2.out (Below.refl _ _).drew) hb3
  have hsn := sameNamed_two L L v2 v3 w1.drew.heap.size w3 (by rw [show w1.drew.heap.size = w.heap.size + 1 from HSZ.out]; exact Nat.le_trans hs2 hb3.size) ho23 (Rd.of_own ho3) (fun g hg e => by
    have h1 := (World.ownsRow.lt HO2.out g hg).2
    have h2 := (World.ownsRow.lt ho3 g e).1
    exact absurd h1 (Nat.not_lt.2 h2)) HLE.out HLE.out
  rw [decide_eq_true rfl] at hsn
  have HSN := Lib.hid hsn
  have hbig : Below w.heap.size w w3 := HW.out.trans (((HB12.out).trans (hb3.mono hs2)).mono (by omega))
  have HBIG := Lib.hid hbig
  have hle3 : w.heap.size ≤ w1.drew.heap.size := HW.out.size
  clear hsn ho23 ho3 hb3 hbig
  go_wp2_with fail
  refine HSN.out.mono ?_
  rintro e w4 ⟨rfl, hb4⟩
  have HB4 := Lib.hid hb4
  clear hb4
  go_wp2_with fail
  go_ret
  exact ⟨rfl, HBIG.out.trans (HB4.out.mono hle3)⟩
end Go.Proofs.YtpffanfpohajhaaGreat
