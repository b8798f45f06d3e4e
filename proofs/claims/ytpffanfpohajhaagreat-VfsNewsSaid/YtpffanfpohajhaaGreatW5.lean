/- Walk of sameActs. Condition: bounds on lengths. -/
import Derived.Test.YtpffanfpohajhaaGreatW4
namespace Go.Proofs.YtpffanfpohajhaaGreat
open Go Go.MapKept
open Go.RowKit hiding intOf

def actOver : Array Value := #[.int .i64 4713, .int .i64 0, .string ByteArray.empty, .int .i64 0, .int .i64 0, .string ByteArray.empty, .int .i64 0, .int .i64 0]
theorem setCells_over (w : World) (g o : Nat) : w.setCells g o actOver.toList = (((((((w.setCell ⟨g, o, none⟩ (.int .i64 4713)).setCell ⟨g, o + 1, none⟩ (.int .i64 0)).setCell ⟨g, o + 2, none⟩ (.string ⟨#[]⟩)).setCell ⟨g, o + 3, none⟩ (.int .i64 0)).setCell ⟨g, o + 4, none⟩ (.int .i64 0)).setCell ⟨g, o + 5, none⟩ (.string ⟨#[]⟩)).setCell ⟨g, o + 6, none⟩ (.int .i64 0)).setCell ⟨g, o + 7, none⟩ (.int .i64 0) := by
  simp only [actOver, World.setCells]
  rfl
theorem over_info : (Tryz.prog.info? 96).map (·.size) = some actOver.size := by kernel_rfl
theorem over_one : actOver.all (·.oneCell') = true := by kernel_rfl
theorem there_drewN {w : World} {g o n : Nat} (h : w.there g o n) (m : Nat) : (w.drewN m).there g o n := h

set_option maxRecDepth 100000 in
set_option maxHeartbeats 1000000 in
theorem sameActs_any (A B : List Act8) (av bv : Value) (W w : World) (hw : Below W.heap.size W w) (ha : w.ownsRow W.heap.size 96 8 av A.length (acts A)) (hb : Rd W bv B.length 8 (acts B)) (hl : A.length ≤ 1073741824) (hl2 : B.length ≤ 1073741824) :
    Calls Tryz.prog 61 #[av, bv] w (BoolFrom (decide (A = B)) W.heap.size w) := by
  obtain ⟨aa, ac, rfl⟩ := (Sh.of_own ha).form
  obtain ⟨ba, bc, rfl⟩ := hb.form
  have HA := Lib.hid ha
  have HB := Lib.hid hb
  have HW := Lib.hid hw
  clear ha hb hw
  cases t6 : (A.length : Int) != B.length with
  | true =>
    have hne : decide (A = B) = false := decide_eq_false (by rintro rfl; simp at t6)
    rw [hne]
    clear hne
    go_enter Tryz.func61, Tryz.ntmps61
    go_wp2_with fail
    go_ret
    exact ⟨rfl, Below.refl _ _⟩
  | false =>
    have q6 : A.length = B.length := by simp at t6; omega
    have Q6 := Lib.hid q6
    clear q6
    go_enter Tryz.func61, Tryz.ntmps61
    go_wp2_with fail
    go_loopw [5] (fun iv wr => ∃ k : Nat, k ≤ A.length ∧ iv = .int .i64 k ∧ Step (fun _ _ => False) W.heap.size w wr ∧ (∀ g : Nat, aa = some ⟨g, 0, none⟩ → ∀ j : Nat, k * 8 ≤ j → wr.cell? ⟨g, j, none⟩ = w.cell? ⟨g, j, none⟩) ∧ A.take k = B.take k) (fun iv _ => A.length - (RowKit.intOf iv).toNat)
    case atStart => exact ⟨0, Nat.zero_le _, rfl, Step.refl _ _ _, fun _ _ _ _ => rfl, rfl⟩
    case round =>
      obtain ⟨k, hk, rfl, hS, hcells, hpre⟩ := hrel
      have HS := Lib.hid hS
      have HC := Lib.hid hcells
      have HPRE := Lib.hid hpre
      clear hS hcells hpre
      by_cases hlt : k < A.length
      · obtain ⟨g, cur, rfl, hbg, hg, hsz, hca⟩ := own_at HA.out (by omega)
        obtain ⟨b2, o2, rfl, hcb⟩ := (HB.out.below (HW.out.trans HS.out.below)).get (by have := Q6.out; omega)
        obtain ⟨cur', hg', hsz', _⟩ := HS.out.shape g cur 96 hg
        have hltb : k < B.length := by have := Q6.out; omega
        have hltb' : (k : Int) < (B.length : Int) := by omega
        have hlta' : (k : Int) < (A.length : Int) := by omega
        have hk0 : (0 : Int) ≤ (k : Int) := by omega
        have gp := List.getElem?_eq_getElem hlt
        have gq := List.getElem?_eq_getElem hltb
        have GP := Lib.hid gp
        have GQ := Lib.hid gq
        have xx := acts_at A k _ gp
        have yy := acts_at B k _ gq
        have cx : ∀ j u, (A[k].cells)[j]? = some u → wr.cell? ⟨g, k * 8 + j, none⟩ = some u := fun j u h => (HC.out g rfl (k * 8 + j) (by omega)).trans (hca _ _ (by rw [xx j (cells_lt h)]; exact h))
        have cy : ∀ j u, (B[k].cells)[j]? = some u → wr.cell? ⟨b2, o2 + k * 8 + j, none⟩ = some u := fun j u h => by rw [Nat.add_assoc]; exact hcb _ _ (by rw [yy j (cells_lt h)]; exact h)
        have hnn := act_neq A[k] B[k]
        generalize A[k] = p at *
        generalize B[k] = q at *
        clear xx yy gp gq hca hcb
        have x0 := cx 0 _ rfl
        have x1 := cx 1 _ rfl
        have x2 := cx 2 _ rfl
        have x3 := cx 3 _ rfl
        have x4 := cx 4 _ rfl
        have x5 := cx 5 _ rfl
        have x6 := cx 6 _ rfl
        have x7 := cx 7 _ rfl
        have y0 := cy 0 _ rfl
        have y1 := cy 1 _ rfl
        have y2 := cy 2 _ rfl
        have y3 := cy 3 _ rfl
        have y4 := cy 4 _ rfl
        have y5 := cy 5 _ rfl
        have y6 := cy 6 _ rfl
        have y7 := cy 7 _ rfl
        rw [Nat.add_zero] at x0 y0
        clear cx cy
        have HT := Lib.hid (there_of hg' (o := k * 8) (n := actOver.size) (by have : actOver.size = 8 := rfl; omega))
        have HG := Lib.hid hg'
        have z0 := (HT.out 0 (by decide)).2
        have z1 := (HT.out 1 (by decide)).2
        have z2 := (HT.out 2 (by decide)).2
        have z3 := (HT.out 3 (by decide)).2
        have z4 := (HT.out 4 (by decide)).2
        have z5 := (HT.out 5 (by decide)).2
        have z6 := (HT.out 6 (by decide)).2
        have z7 := (HT.out 7 (by decide)).2
        rw [Nat.add_zero] at z0
        clear hg hg' hsz hsz'
        cases t7 : !decide (p = q) with
        | true =>
          have hne : decide (A = B) = false := decide_eq_false (by
            rintro rfl
            have := GP.out.symm.trans GQ.out
            simp only [Option.some.injEq] at this
            simp [this] at t7)
          have HNE := Lib.hid hne
          rw [t7] at hnn
          clear hne t7
          go_wp2
          go_quiet (fail)
          go_wp2_with fail
          go_ret
          exact ⟨congrArg (fun b => Ending.returned (.bool b)) HNE.out.symm, HS.out.below.trans (below_drewN (Below.refl _ _) _)⟩
        | false =>
          have q7 : p = q := by simpa using t7
          rw [t7] at hnn
          have Q7 := Lib.hid q7
          clear q7 t7
          go_wp2
          go_quiet (fail)
          go_wp2_with fail
          case roundEnd =>
            rw [← setCells_over]
            have s1 : Step (fun _ _ => False) W.heap.size w ((wr.drewN nq).setCells g (k * 8) actOver.toList) := (HS.out.drewN nq).trans (Step.setCells hbg (fun _ h => h) actOver.toList (k * 8) _ HG.out)
            have s2 : ∀ j, k * 8 + 8 ≤ j → ((wr.drewN nq).setCells g (k * 8) actOver.toList).cell? ⟨g, j, none⟩ = w.cell? ⟨g, j, none⟩ := fun j hj => (cell_setCells_past actOver.toList hj).trans (HC.out g rfl j (by omega))
            generalize (wr.drewN nq).setCells g (k * 8) actOver.toList = wx at s1 s2 ⊢
            refine ⟨⟨k + 1, by omega, rfl, s1, ?_, ?_⟩, ?_⟩
            · intro g' hg' j hj
              obtain rfl : g = g' := by simpa using hg'
              exact s2 j (by omega)
            · rw [List.take_add_one, List.take_add_one, HPRE.out, GP.out, GQ.out, Q7.out]
            · change A.length - ((k : Int) + 1).toNat < A.length - (k : Int).toNat; omega
      · have hlt' : ¬ (k : Int) < (A.length : Int) := by omega
        have heq : decide (A = B) = true := by
          refine decide_eq_true ?_
          have hp := HPRE.out
          rwa [List.take_of_length_le (by omega), List.take_of_length_le (by have := Q6.out; omega)] at hp
        have HEQ := Lib.hid heq
        clear heq
        obtain ⟨i6, hi6, z61, z62, z63⟩ := info_parts info96
        have hsh := (Sh.of_own HA.out).step HS.out
        have HSH := Lib.hid hsh
        have hwr : W.heap.size ≤ wr.heap.size := (HW.out.trans HS.out.below).size
        have HWR := Lib.hid hwr
        clear hsh hwr
        go_wp2_with (at_builtin; refine wpList_append_step rfl _ _ 93 rfl (fun _ _ => False) W.heap.size 96 i6 (.agg #[.int .i64 0, .int .i64 0, .string ByteArray.empty, .int .i64 0, .int .i64 0, .string ByteArray.empty, .int .i64 0, .int .i64 0]) 8 80 Tryz.underlying93 hi6 z61 z62 z63 _ A.length rfl (HSH.out.step (Step.alloc (Step.refl (fun _ _ => False) _ _) HWR.out _)) ⟨wr.heap.size, 0, none⟩ 1 1 [.int .i64 4714, .int .i64 0, .string ByteArray.empty, .int .i64 0, .int .i64 0, .string ByteArray.empty, .int .i64 0, .int .i64 0] rfl rfl ?c1 ?c2 ?c3 ?c4 ?c5 (fun _ h => h) (by decide) ?_)
        case c1 => exact fun j u h => h
        case c2 => simp [Value.oneCell']
        case c3 => unfold maxLen; omega
        case c4 => omega
        case c5 => have := HWR.out; simp; omega
        intro v5 w5 hs5
        have HS5 := Lib.hid (HS.out.below.alloc HWR.out _ |>.trans hs5.below)
        clear hs5
        go_wp2_with fail
        go_ret
        exact ⟨congrArg (fun b => Ending.returned (.bool b)) HEQ.out.symm, HS5.out⟩
end Go.Proofs.YtpffanfpohajhaaGreat
