/- Walks of sameNamed and sameActs, which write over what they compare. Condition: bounds on lengths. -/
import Derived.Test.YtpffanfpohajhaaGreatW2
namespace Go.Proofs.YtpffanfpohajhaaGreat
open Go Go.MapKept
open Go.RowKit hiding intOf

/-- A bool; own rows alone were written. -/
def BoolFrom (b : Bool) (base : Nat) (w : World) (e : Ending) (w' : World) : Prop := e = .returned (.bool b) ∧ Below base w w'

theorem own_at {w : World} {base : Nat} {e : TypeId} {size : Nat} {a : Option Addr} {cap n : Nat} {xs : List Value} (h : w.ownsRow base e size (.slice a n cap) n xs) (hn : 0 < n) :
    ∃ g cur, a = some ⟨g, 0, none⟩ ∧ base ≤ g ∧ w.heap[g]? = some (.cells cur e (0, 0)) ∧ n * size ≤ cur.size ∧ ∀ j u, xs[j]? = some u → w.cell? ⟨g, j, none⟩ = some u := by
  obtain ⟨h1, ⟨_, h0⟩ | ⟨g, cap', cur, h2, h3, h4, h5, h6, h7, h8⟩⟩ := h
  · omega
  · injection h2 with h2 _ _
    refine ⟨g, cur, h2, h3, h4, by rw [h7]; exact Nat.mul_le_mul_right _ h5, fun j u hj => ?_⟩
    rw [← h8, List.getElem?_take] at hj
    split at hj
    · simp [World.cell?, h4, ← hj]
    · cases hj

theorem cell_setCells_past {w : World} {g o : Nat} (vs : List Value) {j : Nat} (h : o + vs.length ≤ j) : (w.setCells g o vs).cell? ⟨g, j, none⟩ = w.cell? ⟨g, j, none⟩ :=
  World.cell?_setCells_out g vs o w ⟨g, j, none⟩ (fun _ _ => .inr h)

set_option maxRecDepth 100000 in
set_option maxHeartbeats 4000000 in
theorem sameNamed_any (A B : List (ByteArray × Int)) (av bv : Value) (W w : World) (hw : Below W.heap.size W w) (ha : w.ownsRow W.heap.size 101 2 av A.length (named A)) (hb : Rd W bv B.length 2 (named B)) (hl : A.length ≤ 1073741824) (hl2 : B.length ≤ 1073741824) :
    Calls Tryz.prog 65 #[av, bv] w (BoolFrom (decide (A = B)) W.heap.size w) := by
  obtain ⟨aa, ac, rfl⟩ := (Sh.of_own ha).form
  obtain ⟨ba, bc, rfl⟩ := hb.form
  have HA := Lib.hid ha
  have HB := Lib.hid hb
  have HW := Lib.hid hw
  clear ha hb hw
  cases t6 : (A.length : Int) != B.length with
  | true =>
    have hne : decide (A = B) = false := decide_eq_false (by rintro rfl; simp at t6)
    rw [hne]
    clear hne
    go_enter Tryz.func65, Tryz.ntmps65
    go_wp2_with fail
    go_ret
    exact ⟨rfl, Below.refl _ _⟩
  | false =>
    have q6 : A.length = B.length := by simp at t6; omega
    have Q6 := Lib.hid q6
    clear q6
    go_enter Tryz.func65, Tryz.ntmps65
    go_wp2_with fail
    go_loopw [5] (fun iv wr => ∃ k : Nat, k ≤ A.length ∧ iv = .int .i64 k ∧ Step (fun _ _ => False) W.heap.size w wr ∧ (∀ g : Nat, aa = some ⟨g, 0, none⟩ → ∀ j : Nat, k * 2 ≤ j → wr.cell? ⟨g, j, none⟩ = w.cell? ⟨g, j, none⟩) ∧ A.take k = B.take k) (fun iv _ => A.length - (RowKit.intOf iv).toNat)
    case atStart => exact ⟨0, Nat.zero_le _, rfl, Step.refl _ _ _, fun _ _ _ _ => rfl, rfl⟩
    case round =>
      obtain ⟨k, hk, rfl, hS, hcells, hpre⟩ := hrel
      have HS := Lib.hid hS
      have HC := Lib.hid hcells
      have HPRE := Lib.hid hpre
      clear hS hcells hpre
      by_cases hlt : k < A.length
      · obtain ⟨g, cur, rfl, hbg, hg, hsz, hca⟩ := own_at HA.out (by omega)
        obtain ⟨b2, o2, rfl, hcb⟩ := (HB.out.below (HW.out.trans HS.out.below)).get (by have := Q6.out; omega)
        obtain ⟨cur', hg', hsz', _⟩ := HS.out.shape g cur 101 hg
        have hltb : k < B.length := by have := Q6.out; omega
        have hltb' : (k : Int) < (B.length : Int) := by omega
        have hlta' : (k : Int) < (A.length : Int) := by omega
        have hk0 : (0 : Int) ≤ (k : Int) := by omega
        have gp := List.getElem?_eq_getElem hlt
        have gq := List.getElem?_eq_getElem hltb
        have GP := Lib.hid gp
        have GQ := Lib.hid gq
        obtain ⟨x1, x2⟩ := named_at A k _ gp
        obtain ⟨y1, y2⟩ := named_at B k _ gq
        have cx1 := (HC.out g rfl (2 * k) (by omega)).trans (hca _ _ x1)
        have cx2 := (HC.out g rfl (2 * k + 1) (by omega)).trans (hca _ _ x2)
        have cy1 := hcb _ _ y1
        have cy2 := hcb _ _ y2
        have hnn := named_neq A[k] B[k]
        generalize A[k] = p at *
        generalize B[k] = q at *
        clear x1 x2 y1 y2 gp gq hca hcb
        rw [show 2 * k + 1 = k * 2 + 1 from by omega] at cx2 cy2
        rw [← Nat.add_assoc] at cy2
        rw [Nat.mul_comm 2 k] at cx1 cy1
        have HT := Lib.hid (there_of hg' (o := k * 2) (n := 2) (by omega))
        have HG := Lib.hid hg'
        clear hg hg' hsz hsz'
        cases t7 : !decide (p = q) with
        | true =>
          have hne : decide (A = B) = false := decide_eq_false (by
            rintro rfl
            have := GP.out.symm.trans GQ.out
            simp only [Option.some.injEq] at this
            simp [this] at t7)
          have HNE := Lib.hid hne
          rw [t7] at hnn
          clear hne t7
          go_wp2
          go_quiet (fail)
          go_wp2_with fail
          go_ret
          exact ⟨congrArg (fun b => Ending.returned (.bool b)) HNE.out.symm, HS.out.below.trans (below_drewN (Below.refl _ _) _)⟩
        | false =>
          have q7 : p = q := by simpa using t7
          rw [t7] at hnn
          have Q7 := Lib.hid q7
          clear q7 t7
          go_wp2
          go_quiet (fail)
          go_wp2_with (refine wpList_store_mid rfl 101 _ _ rfl g (k * 2) _ rfl rfl HT.out (by kernel_rfl) (by simp [Value.oneCell']) ?_)
          case roundEnd =>
            refine ⟨⟨k + 1, by omega, rfl, (HS.out.drewN nq).trans (Step.setCells hbg (fun _ h => h) _ _ _ HG.out), ?_, ?_⟩, ?_⟩
            · intro g' hg' j hj
              injection hg' with hg'
              injection hg' with hg' _ _
              subst hg'
              exact (cell_setCells_past _ (by simp; omega)).trans (HC.out g rfl j (by omega))
            · rw [List.take_add_one, List.take_add_one, HPRE.out, GP.out, GQ.out, Q7.out]
            · change A.length - ((k : Int) + 1).toNat < A.length - (k : Int).toNat; omega
      · have hlt' : ¬ (k : Int) < (A.length : Int) := by omega
        have heq : decide (A = B) = true := by
          refine decide_eq_true ?_
          have hp := HPRE.out
          rwa [List.take_of_length_le (by omega), List.take_of_length_le (by have := Q6.out; omega)] at hp
        have HEQ := Lib.hid heq
        clear heq
        obtain ⟨i6, hi6, z61, z62, z63⟩ := info_parts info101
        have hsh := (Sh.of_own HA.out).step HS.out
        have HSH := Lib.hid hsh
        have hwr : W.heap.size ≤ wr.heap.size := (HW.out.trans HS.out.below).size
        have HWR := Lib.hid hwr
        clear hsh hwr
        go_wp2_with (at_builtin; refine wpList_append_step rfl _ _ 74 rfl (fun _ _ => False) W.heap.size 101 i6 (.agg #[.string ByteArray.empty, .int .i64 0]) 2 24 Tryz.underlying74 hi6 z61 z62 z63 _ A.length rfl (HSH.out.step (Step.alloc (Step.refl (fun _ _ => False) _ _) HWR.out _)) ⟨wr.heap.size, 0, none⟩ 1 1 [.string ⟨#[103, 114, 111, 119, 110]⟩, .int .i64 0] rfl rfl ?c1 ?c2 ?c3 ?c4 ?c5 (fun _ h => h) (by decide) ?_)
        case c2 => simp [Value.oneCell']
        case c3 => unfold maxLen; omega
        case c4 => omega
        case c5 => have := HWR.out; simp; omega
        intro v5 w5 hs5
        have HS5 := Lib.hid (HS.out.below.alloc HWR.out _ |>.trans hs5.below)
        clear hs5
        go_wp2_with fail
        go_ret
        exact ⟨congrArg (fun b => Ending.returned (.bool b)) HEQ.out.symm, HS5.out⟩
end Go.Proofs.YtpffanfpohajhaaGreat
