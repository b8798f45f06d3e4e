/- Walk of sameNamed, when the second slice lies elsewhere. Condition: bounds on lengths. -/
import Derived.Test.YtpffanfpohajhaaGreatN3
namespace Go.Proofs.YtpffanfpohajhaaGreat
open Go Go.MapKept
open Go.RowKit hiding intOf

theorem heap_setCells_ne (g : Nat) {k : Nat} (h : k ≠ g) : ∀ (vs : List Value) (o : Nat) (w : World), (w.setCells g o vs).heap[k]? = w.heap[k]?
  | [], _, _ => rfl
  | v :: r, o, w => (heap_setCells_ne g h r (o + 1) _).trans (Below.heap_setCell w _ v k h)

set_option maxRecDepth 100000 in
set_option maxHeartbeats 4000000 in
theorem sameNamed_two (A B : List (ByteArray × Int)) (av bv : Value) (base : Nat) (w : World) (hbase : base ≤ w.heap.size) (ha : w.ownsRow base 101 2 av A.length (named A)) (hb : Rd w bv B.length 2 (named B)) (hap : ∀ g, av.ownBlock = some g → bv.ownBlock ≠ some g) (hl : A.length ≤ 1073741824) (hl2 : B.length ≤ 1073741824) :
    Calls Tryz.prog 65 #[av, bv] w (BoolFrom (decide (A = B)) base w) := by
  obtain ⟨aa, ac, rfl⟩ := (Sh.of_own ha).form
  obtain ⟨ba, bc, rfl⟩ := hb.form
  have HA := Lib.hid ha
  have HB := Lib.hid hb
  have HBASE := Lib.hid hbase
  have HAP := Lib.hid hap
  clear ha hb hbase hap
  cases t6 : (A.length : Int) != B.length with
  | true =>
    have hne : decide (A = B) = false := decide_eq_false (by rintro rfl; simp at t6)
    rw [hne]
    clear hne
    go_enter Tryz.func65, Tryz.ntmps65
    go_wp2_with fail
    go_ret
    exact ⟨rfl, Below.refl _ _⟩
  | false =>
    have q6 : A.length = B.length := by simp at t6; omega
    have Q6 := Lib.hid q6
    clear q6
    go_enter Tryz.func65, Tryz.ntmps65
    go_wp2_with fail
    go_loopw [5] (fun iv wr => ∃ k : Nat, k ≤ A.length ∧ iv = .int .i64 k ∧ Step (fun _ _ => False) base w wr ∧ (∀ b2, b2 < w.heap.size → (∀ g : Nat, aa = some ⟨g, 0, none⟩ → b2 ≠ g) → wr.heap[b2]? = w.heap[b2]?) ∧ (∀ g : Nat, aa = some ⟨g, 0, none⟩ → ∀ j : Nat, k * 2 ≤ j → wr.cell? ⟨g, j, none⟩ = w.cell? ⟨g, j, none⟩) ∧ A.take k = B.take k) (fun iv _ => A.length - (RowKit.intOf iv).toNat)
    case atStart => exact ⟨0, Nat.zero_le _, rfl, Step.refl _ _ _, fun _ _ _ => rfl, fun _ _ _ _ => rfl, rfl⟩
    case round =>
      obtain ⟨k, hk, rfl, hS, hoth, hcells, hpre⟩ := hrel
      have HO := Lib.hid hoth
      have HS := Lib.hid hS
      have HC := Lib.hid hcells
      have HPRE := Lib.hid hpre
      clear hS hcells hpre hoth
      by_cases hlt : k < A.length
      · obtain ⟨g, cur, rfl, hbg, hg, hsz, hca⟩ := own_at HA.out (by omega)
        obtain ⟨b2, o2, rfl, hcb⟩ := HB.out.get (by have := Q6.out; omega)
        have hb2 : ∀ j u, (named B)[j]? = some u → wr.cell? ⟨b2, o2 + j, none⟩ = some u := fun j u hj => (World.cell?_of_block (a := ⟨b2, o2 + j, none⟩) (HO.out b2 (World.block_lt_of_cell? w _ (hcb j u hj)) (fun g' hg' e => by
          have hgg : g = g' := by simpa using hg'
          exact HAP.out g rfl (by rw [hgg, ← e]; rfl)))).trans (hcb j u hj)
        have HB2 := Lib.hid hb2
        obtain ⟨cur', hg', hsz', _⟩ := HS.out.shape g cur 101 hg
        have hltb : k < B.length := by have := Q6.out; omega
        have hltb' : (k : Int) < (B.length : Int) := by omega
        have hlta' : (k : Int) < (A.length : Int) := by omega
        have hk0 : (0 : Int) ≤ (k : Int) := by omega
        have gp := List.getElem?_eq_getElem hlt
        have gq := List.getElem?_eq_getElem hltb
        have GP := Lib.hid gp
        have GQ := Lib.hid gq
        obtain ⟨x1, x2⟩ := named_at A k _ gp
        obtain ⟨y1, y2⟩ := named_at B k _ gq
        have cx1 := (HC.out g rfl (2 * k) (by omega)).trans (hca _ _ x1)
        have cx2 := (HC.out g rfl (2 * k + 1) (by omega)).trans (hca _ _ x2)
        have cy1 := hb2 _ _ y1
        have cy2 := hb2 _ _ y2
        have hnn := named_neq A[k] B[k]
        generalize A[k] = p at *
        generalize B[k] = q at *
        clear x1 x2 y1 y2 gp gq hca hcb hb2 HB2
        rw [show 2 * k + 1 = k * 2 + 1 from by omega] at cx2 cy2
        rw [← Nat.add_assoc] at cy2
        rw [Nat.mul_comm 2 k] at cx1 cy1
        have HT := Lib.hid (there_of hg' (o := k * 2) (n := 2) (by omega))
        have HG := Lib.hid hg'
        clear hg hg' hsz hsz'
        cases t7 : !decide (p = q) with
        | true =>
          have hne : decide (A = B) = false := decide_eq_false (by
            rintro rfl
            have := GP.out.symm.trans GQ.out
            simp only [Option.some.injEq] at this
            simp [this] at t7)
          have HNE := Lib.hid hne
          rw [t7] at hnn
          clear hne t7
          go_wp2
          go_quiet (fail)
          go_wp2_with fail
          go_ret
          exact ⟨congrArg (fun b => Ending.returned (.bool b)) HNE.out.symm, HS.out.below.trans (below_drewN (Below.refl _ _) _)⟩
        | false =>
          have q7 : p = q := by simpa using t7
          rw [t7] at hnn
          have Q7 := Lib.hid q7
          clear q7 t7
          go_wp2
          go_quiet (fail)
          go_wp2_with (refine wpList_store_mid rfl 101 _ _ rfl g (k * 2) _ rfl rfl HT.out (by kernel_rfl) (by simp [Value.oneCell']) ?_)
          case roundEnd =>
            refine ⟨⟨k + 1, by omega, rfl, (HS.out.drewN nq).trans (Step.setCells hbg (fun _ h => h) _ _ _ HG.out), ?_, ?_, ?_⟩, ?_⟩
            · intro b3 hb3 hne
              exact (heap_setCells_ne g (hne g rfl) _ _ (wr.drewN nq)).trans (HO.out b3 hb3 hne)
            · intro g' hg' j hj
              injection hg' with hg'
              injection hg' with hg' _ _
              subst hg'
              exact (cell_setCells_past _ (by simp; omega)).trans (HC.out g rfl j (by omega))
            · rw [List.take_add_one, List.take_add_one, HPRE.out, GP.out, GQ.out, Q7.out]
            · change A.length - ((k : Int) + 1).toNat < A.length - (k : Int).toNat; omega
      · have hlt' : ¬ (k : Int) < (A.length : Int) := by omega
        have heq : decide (A = B) = true := by
          refine decide_eq_true ?_
          have hp := HPRE.out
          rwa [List.take_of_length_le (by omega), List.take_of_length_le (by have := Q6.out; omega)] at hp
        have HEQ := Lib.hid heq
        clear heq
        obtain ⟨i6, hi6, z61, z62, z63⟩ := info_parts info101
        have hsh := (Sh.of_own HA.out).step HS.out
        have HSH := Lib.hid hsh
        have hwr : base ≤ wr.heap.size := Nat.le_trans HBASE.out HS.out.below.size
        have HWR := Lib.hid hwr
        clear hsh hwr
        go_wp2_with (at_builtin; refine wpList_append_step rfl _ _ 74 rfl (fun _ _ => False) base 101 i6 (.agg #[.string ByteArray.empty, .int .i64 0]) 2 24 Tryz.underlying74 hi6 z61 z62 z63 _ A.length rfl (HSH.out.step (Step.alloc (Step.refl (fun _ _ => False) _ _) HWR.out _)) ⟨wr.heap.size, 0, none⟩ 1 1 [.string ⟨#[103, 114, 111, 119, 110]⟩, .int .i64 0] rfl rfl ?c1 ?c2 ?c3 ?c4 ?c5 (fun _ h => h) (by decide) ?_)
        case c2 => simp [Value.oneCell']
        case c3 => unfold maxLen; omega
        case c4 => omega
        case c5 => have := HWR.out; simp; omega
        intro v5 w5 hs5
        have HS5 := Lib.hid (HS.out.below.alloc HWR.out _ |>.trans hs5.below)
        clear hs5
        go_wp2_with fail
        go_ret
        exact ⟨congrArg (fun b => Ending.returned (.bool b)) HEQ.out.symm, HS5.out⟩
end Go.Proofs.YtpffanfpohajhaaGreat
