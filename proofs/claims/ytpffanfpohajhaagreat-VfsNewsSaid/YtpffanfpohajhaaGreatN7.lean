/- Walk of asks: Free. Condition: the two agree, and bounds. -/
import Derived.Test.YtpffanfpohajhaaGreatN5
namespace Go.Proofs.YtpffanfpohajhaaGreat
open Go Go.MapKept
open Go.RowKit hiding intOf

set_option maxRecDepth 100000 in
set_option maxHeartbeats 2000000 in
theorem asks_free (o : OpL) (bv xa xb xc xd : Value) (hk : o.kind = 20) (b : Nat) (F : Fs) (f : Fp) (R : Rf) (q : Nat) (l : List (NodeL × Value × Value)) (lv tv : Value) (w : World) (h : PairAt w b F f R q l lv tv)
    (ho : InosOk F.inos) (himg : F.img = R.img) (htr : F.trace = R.trace) (hfree : freeR F = freeRR R) (hsm : Small R.img.list) (htl : R.trace.length ≤ 1073741824)
    (h1' : 0 ≤ F.nodes ∧ F.nodes ≤ 4096) (h2' : 0 ≤ F.bytes ∧ F.bytes ≤ 4194304) (h3' : 0 ≤ F.used ∧ F.used ≤ F.bytes) (hbs : bytesR R.img.list ≤ 4194304) :
    Calls Tryz.prog 19 #[ptr b, .agg (o.cells bv xa xb xc xd).toArray] w (BoolBelow true w) := by
  have hbw : Below w.heap.size w (w.alloc (.cells (o.cells bv xa xb xc xd).toArray 39)) := (Below.refl _ _).alloc (Nat.le_refl _) _
  have hr : Row (w.alloc (.cells (o.cells bv xa xb xc xd).toArray 39)) w.heap.size (o.cells bv xa xb xc xd) := ⟨39, (heap_alloc w _).1⟩
  have k0 := hr.cell 0 rfl
  rw [hk] at k0
  have hsz : (w.alloc (.cells (o.cells bv xa xb xc xd).toArray 39)).heap.size = w.heap.size + 1 := by simp
  have h1 := h.below hbw
  have p0 : (w.alloc (.cells (o.cells bv xa xb xc xd).toArray 39)).cell? ⟨b, 0, none⟩ = some (.pointer (some ⟨f.p, 0, none⟩)) := h1.row.cell 0 rfl
  have p1 : (w.alloc (.cells (o.cells bv xa xb xc xd).toArray 39)).cell? ⟨b, 1, none⟩ = some (.pointer (some ⟨q, 0, none⟩)) := h1.row.cell 1 rfl
  have hll := h1.ref.list
  have hC1 := free_any F f (w.alloc (.cells (o.cells bv xa xb xc xd).toArray 39)) h1.fs h1' h2' h3' ho.few
  have hn : R.img.nodes = F.nodes := (congrArg ImgL.nodes himg).symm
  have hby : R.img.bytes = F.bytes := (congrArg ImgL.bytes himg).symm
  have hC2 : ∀ n, Calls Tryz.prog 70 #[ptr q] ((w.alloc (.cells (o.cells bv xa xb xc xd).toArray 39)).drewN n) (TwoQuiet (freeRR R) ((w.alloc (.cells (o.cells bv xa xb xc xd).toArray 39)).drewN n)) := fun n =>
    FreeR_any q R l lv tv _ (h1.ref.below (below_drewN (Below.refl _ _) n)) (by have := congrArg List.length hll; have := hsm.few; simp at *; omega) hbs (by rw [hn]; omega) (by rw [hby]; omega)
  have hC3 : ∀ n, Calls Tryz.prog 18 #[ptr b] ((w.alloc (.cells (o.cells bv xa xb xc xd).toArray 39)).drewN n) (BoolBelow true ((w.alloc (.cells (o.cells bv xa xb xc xd).toArray 39)).drewN n)) := fun n =>
    whole_any b F f R q l lv tv _ (h1.below (below_drewN (Below.refl _ _) n)) ho himg htr hsm htl
  rw [← hfree] at hC2
  generalize freeR F = u at *
  have HC1 := Lib.hid hC1
  have HC2 := Lib.hid hC2
  have HC3 := Lib.hid hC3
  have HW := Lib.hid hbw
  have hbl : b < w.heap.size + 1 := by rw [← hsz]; exact h1.row.lt
  have HSZ := Lib.hid hsz
  clear h hbw h1 hk hsm hr hll hC1 hC2 hC3 hsz ho himg htr hfree htl h1' h2' h3' hbs hn hby
  unfold ptr at *
  go_enter Tryz.func19, Tryz.ntmps19
  go_wp2_with fail
  generalize w.alloc (.cells (o.cells bv xa xb xc xd).toArray 39) = w1 at *
  refine HC1.out.mono ?_
  rintro e w2 ⟨rfl, n1, rfl⟩
  go_wp2_with fail
  refine (HC2.out n1).mono ?_
  rintro e w3 ⟨rfl, n2, rfl⟩
  have hC4 := HC3.out (n1 + n2)
  have HC4 := Lib.hid hC4
  clear hC4
  go_wp2_with fail
  refine HC4.out.mono ?_
  rintro e w4 ⟨rfl, hb4⟩
  have HB4 := Lib.hid hb4
  clear hb4
  go_wp2_with fail
  go_ret
  exact ⟨rfl, HW.out.trans ((below_drewN (Below.refl _ _) (n1 + n2)).trans (HB4.out.mono (by have := HW.out.size; exact this)))⟩
end Go.Proofs.YtpffanfpohajhaaGreat
