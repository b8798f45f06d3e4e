/- Walk of whole: all of it is the document's. Condition: the two agree, and bounds. -/
import Derived.Test.YtpffanfpohajhaaGreatN1
namespace Go.Proofs.YtpffanfpohajhaaGreat
open Go Go.MapKept
open Go.RowKit hiding intOf

def Fs.img (F : Fs) : ImgL := ⟨F.nodes, F.bytes, F.next, F.nodesL⟩

/-- What a list of nodes is bounded by. -/
structure Small (l : List NodeL) : Prop where
  few : l.length ≤ 1073741824
  data : ∀ x ∈ l, x.data.length ≤ 1073741824
  ents : ∀ x ∈ l, x.ents.length ≤ 1073741824

theorem NodesOwn.below {w w' : World} {base : Nat} {v : Value} {l : List (NodeL × Value × Value)} (h : NodesOwn w base v l) (hb : Below w.heap.size w w') : NodesOwn w' base v l :=
  ⟨own_below h.row hb, fun p hp => ⟨own_below (h.parts p hp).1 hb, own_below (h.parts p hp).2 hb⟩⟩

set_option maxRecDepth 100000 in
set_option maxHeartbeats 1000000 in
theorem whole_any (b : Nat) (F : Fs) (f : Fp) (R : Rf) (q : Nat) (l : List (NodeL × Value × Value)) (lv tv : Value) (w : World) (h : PairAt w b F f R q l lv tv) (ho : InosOk F.inos)
    (himg : F.img = R.img) (htr : F.trace = R.trace) (hsm : Small R.img.list) (htl : R.trace.length ≤ 1073741824) :
    Calls Tryz.prog 18 #[ptr b] w (BoolBelow true w) := by
  have p0 : w.cell? ⟨b, 0, none⟩ = some (ptr f.p) := h.row.cell 0 rfl
  have HH := Lib.hid h
  have HI := Lib.hid (Image_any F f w h.fs ho)
  have HSM := Lib.hid hsm
  have HIMG := Lib.hid himg
  have HTR := Lib.hid htr
  have HTL := Lib.hid htl
  clear h ho hsm himg htr htl
  unfold ptr at p0 ⊢
  go_enter Tryz.func18, Tryz.ntmps18
  go_wp2_with fail
  refine HI.out.mono ?_
  rintro e w1 ⟨iv, la, rfl, hla, hown, hb1⟩
  obtain ⟨ia, ic, rfl⟩ := (Sh.of_own hown.row).form
  have hpair := HH.out.below hb1
  have HB1 := Lib.hid hb1
  have HOWN := Lib.hid hown
  have HLA := Lib.hid hla
  have HP1 := Lib.hid hpair
  clear hb1 hown hla hpair HI p0
  unfold imgCells
  go_wp2_with fail
  have hbw : Below w1.heap.size w1 (w1.alloc (.cells (imgCells F.nodes F.bytes F.next (.slice ia la.length ic)) 37)) := (Below.refl _ _).alloc (Nat.le_refl _) _
  have hrow : (w1.alloc (.cells (imgCells F.nodes F.bytes F.next (.slice ia la.length ic)) 37)).heap[w1.heap.size]? = some (.cells (imgCells F.nodes F.bytes F.next (.slice ia la.length ic)) 37 (0, 0)) := (heap_alloc _ _).1
  change Code.wp _ _ _ _ (w1.alloc (.cells (imgCells F.nodes F.bytes F.next (.slice ia la.length ic)) 37))
  have hsz : (w1.alloc (.cells (imgCells F.nodes F.bytes F.next (.slice ia la.length ic)) 37)).heap.size = w1.heap.size + 1 := by simp
  generalize w1.alloc (.cells (imgCells F.nodes F.bytes F.next (.slice ia la.length ic)) 37) = w2 at *
  have h2 := HP1.out.below hbw
  have p0 : w2.cell? ⟨b, 0, none⟩ = some (.pointer (some ⟨f.p, 0, none⟩)) := h2.row.cell 0 rfl
  have p1 : w2.cell? ⟨b, 1, none⟩ = some (.pointer (some ⟨q, 0, none⟩)) := h2.row.cell 1 rfl
  have r0 : w2.cell? ⟨q, 0, none⟩ = some (.int .i64 R.img.nodes) := h2.ref.row.cell 0 rfl
  have r1 : w2.cell? ⟨q, 1, none⟩ = some (.int .i64 R.img.bytes) := h2.ref.row.cell 1 rfl
  have r2 : w2.cell? ⟨q, 2, none⟩ = some (.int .i64 R.img.next) := h2.ref.row.cell 2 rfl
  have r3 : w2.cell? ⟨q, 3, none⟩ = some lv := h2.ref.row.cell 3 rfl
  have x0 : w2.cell? ⟨w1.heap.size, 0, none⟩ = some (.int .i64 F.nodes) := by simp [World.cell?, hrow, imgCells]
  have x1 : w2.cell? ⟨w1.heap.size, 1, none⟩ = some (.int .i64 F.bytes) := by simp [World.cell?, hrow, imgCells]
  have x2 : w2.cell? ⟨w1.heap.size, 2, none⟩ = some (.int .i64 F.next) := by simp [World.cell?, hrow, imgCells]
  have x3 : w2.cell? ⟨w1.heap.size, 3, none⟩ = some (.slice ia la.length ic) := by simp [World.cell?, hrow, imgCells]
  have hsame := Same_any F.img R.img (.slice ia la.length ic) lv la l w2.drew (((NodesRd.of_own HOWN.out).below hbw).below (Below.refl _ _).drew) (h2.ref.rd.below (Below.refl _ _).drew) HLA.out h2.ref.list
    (by have := congrArg List.length HLA.out; have h4 := congrArg (fun x : ImgL => x.list.length) HIMG.out; have := HSM.out.few; simp [Fs.img] at *; omega) (by have := congrArg List.length h2.ref.list; have := HSM.out.few; simp at *; omega)
    (fun p hp => HSM.out.ents p.1 (by rw [← HIMG.out]; show p.1 ∈ F.nodesL; rw [← HLA.out]; exact List.mem_map_of_mem hp))
  rw [decide_eq_true HIMG.out] at hsame
  have HSAME := Lib.hid hsame
  have H2 := Lib.hid h2
  have HBW := Lib.hid hbw
  have HROW := Lib.hid hrow
  have HSZ := Lib.hid hsz
  clear hsame h2 hbw hrow hsz
  go_wp2
  go_still_tail 8, (by kernel_rfl)
  change wpList _ _ _ _ _ w2.drew
  go_wp2_with fail
  refine HSAME.out.mono ?_
  rintro e w3 ⟨rfl, hb3⟩
  have hs1 : w.heap.size ≤ w1.heap.size := HB1.out.size
  have hb23 : Below w2.heap.size w2 w3 := (Below.refl _ _).drew.trans hb3
  have hb13 : Below w1.heap.size w1 w3 := HBW.out.trans (hb23.mono (by have := HSZ.out; omega))
  have hrow3 : w3.heap[w1.heap.size]? = some (.cells (imgCells F.nodes F.bytes F.next (.slice ia la.length ic)) 37 (0, 0)) := (hb23.block _ (by have := HSZ.out; omega)).trans HROW.out
  have y0 : w3.cell? ⟨w1.heap.size, 0, none⟩ = some (.int .i64 F.nodes) := by simp [World.cell?, hrow3, imgCells]
  have y1 : w3.cell? ⟨w1.heap.size, 1, none⟩ = some (.int .i64 F.bytes) := by simp [World.cell?, hrow3, imgCells]
  have y2 : w3.cell? ⟨w1.heap.size, 2, none⟩ = some (.int .i64 F.next) := by simp [World.cell?, hrow3, imgCells]
  have y3 : w3.cell? ⟨w1.heap.size, 3, none⟩ = some (.slice ia la.length ic) := by simp [World.cell?, hrow3, imgCells]
  have hll : la.length = R.img.list.length := by
    have := congrArg List.length HLA.out
    have h4 := congrArg (fun x : ImgL => x.list.length) HIMG.out
    simp [Fs.img] at *
    omega
  have hmem : ∀ p ∈ la, p.1 ∈ R.img.list := fun p hp => by rw [← HIMG.out]; show p.1 ∈ F.nodesL; rw [← HLA.out]; exact List.mem_map_of_mem hp
  have hwipe := wipe_any w3 w.heap.size F.nodes F.bytes F.next (.slice ia la.length ic) la (HOWN.out.below hb13) (Nat.le_trans hs1 hb13.size) (by rw [hll]; exact HSM.out.few) (fun p hp => ⟨HSM.out.data _ (hmem p hp), HSM.out.ents _ (hmem p hp)⟩)
  have hb03 : Below w.heap.size w w3 := HB1.out.trans (hb13.mono hs1)
  have HWIPE := Lib.hid hwipe
  have HB03 := Lib.hid hb03
  clear hb3 hs1 hb23 hb13 hrow3 hll hmem hwipe hb03 x0 x1 x2 x3 p0 p1 r0 r1 r2 r3 H2 HSAME
  go_wp2_with fail
  refine HWIPE.out.mono ?_
  rintro e w4 ⟨rfl, hb4⟩
  have hb04 : Below w.heap.size w w4 := HB03.out.trans hb4
  have h4 := HH.out.below hb04.drew
  have p0 : w4.cell? ⟨b, 0, none⟩ = some (.pointer (some ⟨f.p, 0, none⟩)) := h4.row.cell 0 rfl
  have p1 : w4.cell? ⟨b, 1, none⟩ = some (.pointer (some ⟨q, 0, none⟩)) := h4.row.cell 1 rfl
  have r4 : w4.cell? ⟨q, 4, none⟩ = some tv := h4.ref.row.cell 4 rfl
  have htr := Trace_any F f w4.drew h4.fs (by rw [HTR.out]; have := HTL.out; omega)
  have HTRACE := Lib.hid htr
  have H4 := Lib.hid h4
  have HB04 := Lib.hid hb04
  have hbl : b < w4.heap.size := h4.row.lt
  have hql : q < w4.heap.size := h4.ref.row.lt
  clear hb4 hb04 h4 htr y0 y1 y2 y3
  unfold ptr at HTRACE
  go_wp2
  go_region_held3 (fun w' => w'.cell? ⟨b, 0, none⟩ = some (.pointer (some ⟨f.p, 0, none⟩)) ∧ w'.cell? ⟨b, 1, none⟩ = some (.pointer (some ⟨q, 0, none⟩)) ∧ w'.cell? ⟨q, 4, none⟩ = some tv) (go_keep)
    (first
      | (go_at_call_of 47 (Value.pointer (some ⟨f.p, 0, none⟩)); refine HTRACE.out.mono ?_; rintro e w5 ⟨v5, rfl, ho5, hn5, hb5⟩; have z0 := (hb5.cell (p := ⟨b, 0, none⟩) hbl).trans p0; have z1 := (hb5.cell (p := ⟨b, 1, none⟩) hbl).trans p1; have z2 := (hb5.cell (p := ⟨q, 4, none⟩) hql).trans r4)
      | (go_at_call 61; refine (sameActs_any F.trace R.trace v5 tv w4.drew w5 hb5 ho5 H4.out.ref.trace (by rw [HTR.out]; exact HTL.out) HTL.out).mono ?_; rintro e w6 ⟨rfl, hb6⟩; have z0' := (hb6.cell (p := ⟨b, 0, none⟩) hbl).trans z0; have z1' := (hb6.cell (p := ⟨b, 1, none⟩) hbl).trans z1; have z2' := (hb6.cell (p := ⟨q, 4, none⟩) hql).trans z2))
  go_wp2
  go_ret
  exact ⟨congrArg (fun b => Ending.returned (.bool b)) (decide_eq_true HTR.out), (HB04.out.drew.trans (hb5.mono HB04.out.size)).trans (hb6.mono HB04.out.size)⟩
end Go.Proofs.YtpffanfpohajhaaGreat
