/- Walk of the program's turn: 64 bytes taken. Condition: the slice holds 64 bytes; the table of cubes is as laid. -/
import Derived.Test.YtmnlebkpneeblaaDoorC
import Derived.Test.YtmnlebkpneeblaaDoorD0
import Derived.Deep.MidRow
namespace Go.Proofs.YtmnlebkpneeblaaDoor
open Go Go.RowKit

/-- A hash's cells: eight words, the rest, how many bytes. -/
def hcells (v : List Int) (rv : Value) (n : Int) : List Value := u32s v ++ [rv, .int .u64 n]

/-- Only block p has turned, and there are new ones. -/
structure Only (p : Nat) (w w' : World) : Prop where
  os : w'.os = w.os
  tape : w'.tape = w.tape
  output : w'.output = w.output
  size : w.heap.size ≤ w'.heap.size
  block : ∀ k, k < w.heap.size → k ≠ p → w'.heap[k]? = w.heap[k]?
theorem Only.refl (p : Nat) (w : World) : Only p w w := ⟨rfl, rfl, rfl, Nat.le_refl _, fun _ _ _ => rfl⟩
theorem Only.of_below {p : Nat} {w w' : World} (h : Below w.heap.size w w') : Only p w w' := ⟨h.os, h.tape, h.output, h.size, fun k hk _ => h.block k hk⟩
theorem Only.trans {p : Nat} {a b c : World} (h : Only p a b) (k : Only p b c) : Only p a c :=
  ⟨k.os.trans h.os, k.tape.trans h.tape, k.output.trans h.output, Nat.le_trans h.size k.size, fun i hi hn => (k.block i (Nat.lt_of_lt_of_le hi h.size) hn).trans (h.block i hi hn)⟩
theorem Only.setCell {p : Nat} {a w : World} (h : Only p a w) (o : Nat) (v : Value) : Only p a (w.setCell ⟨p, o, none⟩ v) :=
  ⟨h.os, h.tape, h.output, by simpa [World.setCell] using h.size, fun k hk hn => (heap_setCell_other w ⟨p, o, none⟩ k v hn).trans (h.block k hk hn)⟩
theorem Only.drew {p : Nat} {a w : World} (h : Only p a w) : Only p a w.drew := ⟨h.os, h.tape, h.output, h.size, h.block⟩
theorem Only.drewN {p : Nat} {a w : World} (h : Only p a w) (n : Nat) : Only p a (w.drewN n) := ⟨h.os, h.tape, h.output, h.size, h.block⟩
theorem Only.below {p B : Nat} {w w' : World} (h : Only p w w') (hp : B ≤ p) (hB : B ≤ w.heap.size) : Below B w w' := ⟨h.os, h.tape, h.output, h.size, fun k hk => h.block k (by omega) (by omega)⟩

theorem hcells_at {v : List Int} {rv : Value} {n : Int} {i : Nat} {x : Value} (h : (u32s v)[i]? = some x) : (hcells v rv n)[i]? = some x := by
  unfold hcells
  rw [List.getElem?_append_left (List.getElem?_eq_some_iff.1 h).1, h]
theorem hcells_set {v : List Int} {rv : Value} {n : Int} {i : Nat} (h : i < v.length) (x : Value) : (hcells v rv n).set i x = (u32s v).set i x ++ [rv, .int .u64 n] := by
  unfold hcells
  rw [List.set_append_left _ _ (by rw [u32s_length]; exact h)]
theorem upto_length {u v : List Int} {i : Nat} (h : u.length = v.length) (hi : i ≤ u.length) : (upto u v i).length = u.length := by
  unfold upto
  rw [List.length_append, List.length_take, List.length_zipWith, List.length_drop]
  omega
theorem u32_max : IntKind.u32.max = (4294967295 : Int) := by decide
theorem round_e' (v : S8) (kt st : Int) : (v.d + (v.h + bits .xor .u32 (bits .xor .u32 (rorW v.e 6) (rorW v.e 11)) (rorW v.e 25) + bits .xor .u32 (bits .and .u32 v.e v.f) (bits .and .u32 (bits .xor .u32 IntKind.u32.max v.e) v.g) + kt + st)) % 4294967296 = (v.round kt st).e := by
  rw [u32_max]
  simp only [S8.round, oneW, IntKind.wrap_u32']
  omega
theorem round_a' (v : S8) (kt st : Int) : (v.h + bits .xor .u32 (bits .xor .u32 (rorW v.e 6) (rorW v.e 11)) (rorW v.e 25) + bits .xor .u32 (bits .and .u32 v.e v.f) (bits .and .u32 (bits .xor .u32 IntKind.u32.max v.e) v.g) + kt + st + (bits .xor .u32 (bits .xor .u32 (rorW v.a 2) (rorW v.a 13)) (rorW v.a 22) + bits .xor .u32 (bits .xor .u32 (bits .and .u32 v.a v.b) (bits .and .u32 v.a v.c)) (bits .and .u32 v.b v.c))) % 4294967296 = (v.round kt st).a := by
  rw [u32_max]
  simp only [S8.round, oneW, twoW, IntKind.wrap_u32']
  omega

theorem same_quiet {P : Program} {f : FuncId} {args : Array Value} {w : World} {a n : Nat} {v : Value}
    (h : Calls P f args (w.drewN (a + n)) fun e w' => e = .returned v ∧ w' = w.drewN (a + n)) :
    Calls P f args (w.drewN (a + n)) fun e w'' => e = .returned v ∧ ∃ m, w'' = w.drewN (a + m) :=
  h.mono fun _ _ ⟨he, hm⟩ => ⟨he, n, hm⟩

def DoneHash (p : Nat) (w : World) (cs : List Value) (e : Ending) (w' : World) : Prop := e = .returned (.tuple #[]) ∧ Row w' p cs ∧ Only p w w'

set_option maxRecDepth 100000 in
set_option maxHeartbeats 4000000 in
theorem turn_any (p : Nat) (h : S8) (rv : Value) (n : Int) (g o c : Nat) (m : List UInt8) (w : World) (hm : m.length = 64) (hg : g < w.heap.size) (hc : Rd8 w g o m) (hcap : 64 ≤ c) (hcap2 : c ≤ 9223372036854775807)
    (hp : Row w p (hcells h.list rv n)) (hk : w.rangeAt 1 0 (u32s Ks)) (h1 : 1 < w.heap.size) :
    Calls Tryd.prog 18 #[.pointer (some ⟨p, 0, none⟩), .slice (some ⟨g, o, none⟩) 64 c] w (DoneHash p w (hcells (h.takes m).list rv n)) := by
  have HC := Lib.hid hc
  have HM := Lib.hid hm
  have HK := Lib.hid hk
  have HG := Lib.hid hg
  have HP := Lib.hid hp
  have H1 := Lib.hid h1
  have HPL := Lib.hid hp.lt
  clear hc hm hk hg hp h1
  go_enter Tryd.func18, Tryd.ntmps18
  go_wp2_with fail
  have hb4 := (Below.refl w.heap.size w).alloc (Nat.le_refl _) (.cells (u32s (schedZ m 0)).toArray 40)
  have r4 : Row (w.alloc (.cells (u32s (schedZ m 0)).toArray 40)) w.heap.size (u32s (schedZ m 0)) := Row.new _ _ _
  have HB4 := Lib.hid hb4
  have R4 := Lib.hid r4
  clear hb4 r4
  go_loopw [19] (fun tv wr => ∃ t : Nat, t ≤ 64 ∧ tv = .int .i64 t ∧ Row wr w.heap.size (u32s (schedZ m t)) ∧ Below w.heap.size w wr) (fun tv _ => 64 - (RowKit.intOf tv).toNat)
  case atStart => exact ⟨0, Nat.zero_le _, rfl, R4.out, HB4.out⟩
  case round =>
    obtain ⟨t, ht, rfl, hrow, hbw⟩ := hrel
    by_cases hlt : t < 64
    · have hlt' : (t : Int) < 64 := by omega
      have h0 : (0 : Int) ≤ (t : Int) := by omega
      by_cases h16 : t < 16
      · have h16' : (t : Int) < 16 := by omega
        have HROW := Lib.hid hrow
        have HBW := Lib.hid hbw
        clear hrow hbw
        have q0 : (0 : Int) ≤ 4 * (t : Int) := by omega
        have q1 : 4 * (t : Int) + 4 ≤ 64 := by omega
        have q2 : 4 * (t : Int) ≤ 4 * (t : Int) + 4 := by omega
        have q3 : 4 * (t : Int) + 4 ≤ (c : Int) := by omega
        have q4 : (0 : Int) ≤ 4 * (t : Int) + 4 := by omega
        have e0 : IntKind.i64.wrap (4 * (t : Int)) = 4 * t := IntWalk.i64_in _ (by omega)
        have e1 : IntKind.i64.wrap (4 * (t : Int) + 4) = 4 * t + 4 := IntWalk.i64_in _ (by omega)
        have n0 : (4 * (t : Int)).toNat = 4 * t := by omega
        have n1 : (4 * (t : Int) + 4).toNat = 4 * t + 4 := by omega
        have n2 : (4 * t + 4) - 4 * t = 4 := by omega
        go_wp2_with fail
        obtain ⟨wo, rfl⟩ : ∃ wo : World, wo = wr := ⟨_, rfl⟩
        go_loopw [32] (fun kv wr => ∃ k : Nat, k ≤ 4 ∧ kv = .int .i64 k ∧ Row wr w.heap.size ((u32s (schedZ m t)).set t (.int .u32 (partW m t k))) ∧ Below w.heap.size w wr) (fun kv _ => 4 - (RowKit.intOf kv).toNat)
        case atStart =>
          refine ⟨0, Nat.zero_le _, rfl, ?_, HBW.out⟩
          have e : (u32s (schedZ m t)).set t (.int .u32 (partW m t 0)) = u32s (schedZ m t) := by
            have := schedZ_new m (Nat.le_refl t) hlt
            obtain ⟨hlt3, he⟩ := List.getElem?_eq_some_iff.1 this
            conv => rhs; rw [← List.set_getElem_self hlt3, he]
            rfl
          rw [e]; exact HROW.out
        case round =>
          obtain ⟨k, hk, rfl, hrk, hbk⟩ := hrel
          by_cases hk4 : k < 4
          · have hk4' : (k : Int) < 4 := by omega
            have hk0 : (0 : Int) ≤ (k : Int) := by omega
            have hb : wr.cell? ⟨g, o + 4 * t + k, none⟩ = some (.int .u8 (bt m (4 * t + k))) := by
              have := (HC.out.below hbk HG.out).at (j := 4 * t + k) (by have := HM.out; omega)
              rwa [← Nat.add_assoc] at this
            have hc : wr.cell? ⟨w.heap.size, t, none⟩ = some (.int .u32 (partW m t k)) := hrk.cell t (by rw [List.getElem?_set_self (by rw [u32s_length, schedZ_length m ht]; omega)])
            have hf := hrk.frozen t
            have HP1 : Hid (partW m t (k + 1) = bits .or .u32 (partW m t k * 256 % 4294967296) (bt m (4 * t + k))) := Lib.hid rfl
            have HRK := Lib.hid hrk
            have HBK := Lib.hid hbk
            generalize partW m t k = pw at *
            generalize hbb : bt m (4 * t + k) = bb at *
            have HBB := Lib.hid (hbb ▸ bt_lt m (4 * t + k))
            clear hrk hbk hbb
            go_wp2_with fail
            case roundEnd =>
              refine ⟨⟨k + 1, by omega, rfl, ?_, HBK.out.setCell (Nat.le_refl _) _⟩, ?_⟩
              · have e : bb % 4294967296 = bb := by have := HBB.out; omega
                rw [e]
                have := HRK.out.set t (.int .u32 (bits .or .u32 (pw * 256 % 4294967296) bb))
                rw [List.set_set] at this
                rw [HP1.out]
                exact this
              · change 4 - ((k : Int) + 1).toNat < 4 - (k : Int).toNat; omega
          · obtain rfl : k = 4 := by omega
            rw [partW_four, schedZ_set m hlt (by unfold nextW; rw [if_pos h16])] at hrk
            have hk4' : ¬ ((4 : Nat) : Int) < 4 := by omega
            have HRK := Lib.hid hrk
            have HBK := Lib.hid hbk
            clear hrk hbk
            go_wp2_with fail
            case roundEnd =>
              refine ⟨⟨t + 1, by omega, rfl, HRK.out, HBK.out⟩, ?_⟩
              change 64 - ((t : Int) + 1).toNat < 64 - (t : Int).toNat; omega
      · have h16' : ¬ (t : Int) < 16 := by omega
        have c15 := hrow.cell (t - 15) (schedZ_old m (j := t - 15) (by omega) ht)
        have c2 := hrow.cell (t - 2) (schedZ_old m (j := t - 2) (by omega) ht)
        have c7 := hrow.cell (t - 7) (schedZ_old m (j := t - 7) (by omega) ht)
        have c16 := hrow.cell (t - 16) (schedZ_old m (j := t - 16) (by omega) ht)
        have c0 := hrow.cell t (schedZ_new m (Nat.le_refl t) hlt)
        have f0 := hrow.frozen t
        have HN : Hid (nextW m t (sched m t) = mixW ((sched m t).getD (t - 2) 0) ((sched m t).getD (t - 7) 0) ((sched m t).getD (t - 15) 0) ((sched m t).getD (t - 16) 0)) := Lib.hid (by unfold nextW; rw [if_neg h16])
        generalize (sched m t).getD (t - 2) 0 = y at *
        generalize (sched m t).getD (t - 7) 0 = a at *
        generalize (sched m t).getD (t - 15) 0 = x at *
        generalize (sched m t).getD (t - 16) 0 = c' at *
        have HROW := Lib.hid hrow
        have HBW := Lib.hid hbw
        clear hrow hbw
        have p0 : (15 : Int) ≤ (t : Int) := by omega
        have p1 : (2 : Int) ≤ (t : Int) := by omega
        have p2 : (7 : Int) ≤ (t : Int) := by omega
        have p3 : (16 : Int) ≤ (t : Int) := by omega
        have q0 : (0 : Int) ≤ (t : Int) - 15 := by omega
        have q1 : (t : Int) - 15 < 64 := by omega
        have q2 : (0 : Int) ≤ (t : Int) - 2 := by omega
        have q3 : (t : Int) - 2 < 64 := by omega
        have q4 : (0 : Int) ≤ (t : Int) - 7 := by omega
        have q5 : (t : Int) - 7 < 64 := by omega
        have q6 : (0 : Int) ≤ (t : Int) - 16 := by omega
        have q7 : (t : Int) - 16 < 64 := by omega
        have e0 : IntKind.i64.wrap ((t : Int) - 15) = t - 15 := IntWalk.i64_in _ (by omega)
        have e1 : IntKind.i64.wrap ((t : Int) - 2) = t - 2 := IntWalk.i64_in _ (by omega)
        have e2 : IntKind.i64.wrap ((t : Int) - 7) = t - 7 := IntWalk.i64_in _ (by omega)
        have e3 : IntKind.i64.wrap ((t : Int) - 16) = t - 16 := IntWalk.i64_in _ (by omega)
        have n0 : ((t : Int) - 15).toNat = t - 15 := by omega
        have n1 : ((t : Int) - 2).toNat = t - 2 := by omega
        have n2 : ((t : Int) - 7).toNat = t - 7 := by omega
        have n3 : ((t : Int) - 16).toNat = t - 16 := by omega
        go_wp2_with fail
        go_quiet (fail)
        have d7 : (wr.drewN nq).cell? ⟨w.heap.size, t - 7, none⟩ = some (.int .u32 a) := c7
        have d16 : (wr.drewN nq).cell? ⟨w.heap.size, t - 16, none⟩ = some (.int .u32 c') := c16
        have d0 : (wr.drewN nq).cell? ⟨w.heap.size, t, none⟩ = some (.int .u32 0) := c0
        have df : (wr.drewN nq).frozen? ⟨w.heap.size, t, none⟩ = false := f0
        have HROWY : Hid (Row (wr.drewN nq) w.heap.size (u32s (schedZ m t))) := Lib.hid HROW.out
        have HBWY : Hid (Below w.heap.size w (wr.drewN nq)) := Lib.hid (below_drewN HBW.out _)
        clear c15 c2 c7 c16 c0 f0 HROW HBW
        generalize wr.drewN nq = wy at *
        go_wp2_with fail
        go_still_tail 29, (by kernel_rfl)
        still_call (ror_any _ _ _ (by decide) (by decide))
        repeat still_step
        still_call (ror_any _ _ _ (by decide) (by decide))
        repeat still_step
        still_call (ror_any _ _ _ (by decide) (by decide))
        repeat still_step
        still_call (ror_any _ _ _ (by decide) (by decide))
        repeat still_step
        refine wpStill_nil ?_
        change wpList _ _ _ _ _ wy.drew
        go_wp2_with fail
        case roundEnd =>
          have hm' : ((bits .xor .u32 (bits .xor .u32 (rorW y 17) (rorW y 19)) (y / 1024) + a + bits .xor .u32 (bits .xor .u32 (rorW x 7) (rorW x 18)) (x / 8) + c') % 4294967296) = mixW y a x c' := by
            simp only [mixW, IntKind.wrap_u32']
            omega
          rw [hm']
          refine ⟨⟨t + 1, by omega, rfl, ?_, (HBWY.out.setCell (Nat.le_refl _) _).drew⟩, ?_⟩
          · have := HROWY.out.set t (.int .u32 (nextW m t (sched m t)))
            rw [schedZ_set m hlt rfl, HN.out] at this
            exact this.drew
          · change 64 - ((t : Int) + 1).toNat < 64 - (t : Int).toNat; omega
    · obtain rfl : t = 64 := by omega
      rw [schedZ_full] at hrow
      have hlt' : ¬ ((64 : Nat) : Int) < 64 := by omega
      clear hlt ht
      have hpr := HP.out.below hbw HPL.out
      have x0 := hpr.cell 0 rfl
      have x1 := hpr.cell 1 rfl
      have x2 := hpr.cell 2 rfl
      have x3 := hpr.cell 3 rfl
      have x4 := hpr.cell 4 rfl
      have x5 := hpr.cell 5 rfl
      have x6 := hpr.cell 6 rfl
      have x7 := hpr.cell 7 rfl
      have HPR := Lib.hid hpr
      have HROW := Lib.hid hrow
      have HBW := Lib.hid hbw
      clear hrow hbw hpr
      have hk : wr.rangeAt 1 0 (u32s Ks) := fun j v hj => (HBW.out.cell (p := ⟨1, 0 + j, none⟩) H1.out).trans (HK.out j v hj)
      have HKW := Lib.hid hk
      clear hk
      have hb5 := (Below.refl wr.heap.size wr).alloc (Nat.le_refl _) (.cells (u32s h.list).toArray 34)
      have r5 : Row (wr.alloc (.cells (u32s h.list).toArray 34)) wr.heap.size (u32s h.list) := Row.new _ _ _
      have HB5 := Lib.hid hb5
      have R5 := Lib.hid r5
      have HL3 : Hid (w.heap.size < wr.heap.size) := Lib.hid HROW.out.lt
      clear hb5 r5
      go_wp2_with (refine wpList_load_mid rfl 40 _ rfl 1 0 rfl (u32s Ks) _ (World.rangeAt_alloc HKW.out _) Tryd.underlying40 rfl (by kernel_rfl) ?_)
      clear x0 x1 x2 x3 x4 x5 x6 x7
      obtain ⟨wo, rfl⟩ : ∃ wo : World, wo = wr := ⟨_, rfl⟩
      go_loopw [89] (fun tv wr => ∃ t : Nat, t ≤ 64 ∧ tv = .int .i64 t ∧ Row wr wo.heap.size (u32s (h.rounds Ks (sched m 64) t).list) ∧ Below wo.heap.size wo wr) (fun tv _ => 64 - (RowKit.intOf tv).toNat)
      case atStart => exact ⟨0, Nat.zero_le _, rfl, R5.out, HB5.out⟩
      case round =>
        obtain ⟨t, ht, rfl, hrow, hbx⟩ := hrel
        by_cases hlt : t < 64
        · have hlt2 : (t : Int) < 64 := by omega
          have h0 : (0 : Int) ≤ (t : Int) := by omega
          have HV : Hid (h.rounds Ks (sched m 64) (t + 1) = (h.rounds Ks (sched m 64) t).round (Ks.getD t 0) ((sched m 64).getD t 0)) := Lib.hid rfl
          have hix := fun W => run_index40 W Ks t rfl hlt
          have hst : wr.cell? ⟨w.heap.size, t, none⟩ = some (.int .u32 ((sched m 64).getD t 0)) := (HROW.out.below hbx HL3.out).cell t (u32s_at (by rw [sched_length]; exact hlt))
          generalize h.rounds Ks (sched m 64) t = v at *
          generalize Ks.getD t 0 = kt at *
          generalize (sched m 64).getD t 0 = st at *
          have c0 := hrow.cell 0 rfl
          have c1 := hrow.cell 1 rfl
          have c2 := hrow.cell 2 rfl
          have c4 := hrow.cell 4 rfl
          have c5 := hrow.cell 5 rfl
          have c6 := hrow.cell 6 rfl
          have c7 := hrow.cell 7 rfl
          have HROWX := Lib.hid hrow
          have HBX := Lib.hid hbx
          clear hrow hbx
          go_wp2_with fail
          go_quiet (fail)
          revert nq
          intro n1
          go_wp2_with fail
          go_quiet ((go_at_call 22; exact same_quiet (ror_any _ _ _ (by decide) (by decide))))
          revert nq
          intro n2
          go_wp2_with fail
          go_quiet ((go_at_call 22; exact same_quiet (ror_any _ _ _ (by decide) (by decide))))
          revert nq
          intro n3
          rw [World.drewN_drewN]
          generalize n1 + n2 + n3 = nq3
          have HROWY : Hid (Row (wr.drewN nq3) wo.heap.size (u32s v.list)) := Lib.hid HROWX.out
          have HBY : Hid (Below wo.heap.size wo (wr.drewN nq3)) := Lib.hid (below_drewN HBX.out _)
          clear c0 c1 c2 c4 c5 c6 c7 HROWX HBX hst
          generalize wr.drewN nq3 = wy at *
          obtain ⟨w6, hcp, hr6, hb6⟩ := copy7 HROWY.out.drew
          have y4 := hr6.cell 4 rfl
          have y0 := hr6.cell 0 rfl
          have g4 := hr6.frozen 4
          have g0 := hr6.frozen 0
          have HR6 := Lib.hid hr6
          have HB6 := Lib.hid (hb6 wo.heap.size (Nat.le_refl _))
          clear hr6 hb6
          go_wp2_with fail
          go_still_tail 2, (by kernel_rfl)
          change wpList _ _ _ _ _ wy.drew
          go_wp2_with fail
          case roundEnd =>
            rw [round_e' v kt st, round_a' v kt st]
            refine ⟨⟨t + 1, by omega, rfl, ?_, ?_⟩, ?_⟩
            · rw [HV.out]
              exact (HR6.out.set 4 _).set 0 _
            · exact ((HBY.out.trans (below_of_drew HB6.out)).setCell (Nat.le_refl _) _).setCell (Nat.le_refl _) _
            · change 64 - ((t : Int) + 1).toNat < 64 - (t : Int).toNat; omega
        · obtain rfl : t = 64 := by omega
          have hlt2 : ¬ ((64 : Nat) : Int) < 64 := by omega
          clear hlt ht
          have HV : Hid (h.takes m = h.plus (h.rounds Ks (sched m 64) 64)) := Lib.hid rfl
          generalize h.rounds Ks (sched m 64) 64 = v at *
          have c0 := hrow.cell 0 rfl
          have c1 := hrow.cell 1 rfl
          have c2 := hrow.cell 2 rfl
          have c3 := hrow.cell 3 rfl
          have c4 := hrow.cell 4 rfl
          have c5 := hrow.cell 5 rfl
          have c6 := hrow.cell 6 rfl
          have c7 := hrow.cell 7 rfl
          have hpw : p < wo.heap.size := Nat.lt_trans HPL.out HL3.out
          have HPX : Hid (Row wr p (hcells (upto h.list v.list 0) rv n)) := Lib.hid (HPR.out.below hbx hpw)
          have HOX : Hid (Only p w wr) := Lib.hid (Only.of_below (HBW.out.trans (hbx.mono (Nat.le_of_lt HL3.out))))
          clear hrow hbx
          go_wp2_with fail
          clear c0 c1 c2 c3 c4 c5 c6 c7
          go_loopw [163] (fun iv wr => ∃ i : Nat, i ≤ 8 ∧ iv = .int .i64 i ∧ Row wr p (hcells (upto h.list v.list i) rv n) ∧ Only p w wr) (fun iv _ => 8 - (RowKit.intOf iv).toNat)
          case atStart => exact ⟨0, Nat.zero_le _, rfl, HPX.out, HOX.out⟩
          case round =>
            obtain ⟨i, hi, rfl, hra, hoz⟩ := hrel
            by_cases hlt : i < 8
            · have hlt2 : (i : Int) < 8 := by omega
              have h0 : (0 : Int) ≤ (i : Int) := by omega
              have hix : ∀ W, (Instr.index 34 (.agg #[.int .u32 v.a, .int .u32 v.b, .int .u32 v.c, .int .u32 v.d, .int .u32 v.e, .int .u32 v.f, .int .u32 v.g, .int .u32 v.h]) (.int .i64 i)).run Tryd.prog W = .ok (.int .u32 (v.list.getD i 0)) W := fun W => run_index34 W v.list i rfl hlt
              have x0 := hra.cell i (hcells_at (upto_at (v := v.list) rfl hlt))
              have xf := hra.frozen i
              have HS : Hid ((hcells (upto h.list v.list i) rv n).set i (.int .u32 (addW (h.list.getD i 0) (v.list.getD i 0))) = hcells (upto h.list v.list (i + 1)) rv n) := Lib.hid (by
                rw [hcells_set (by rw [upto_length (u := h.list) (v := v.list) rfl (Nat.le_of_lt hlt)]; exact hlt), upto_set (u := h.list) (v := v.list) rfl hlt]; rfl)
              generalize h.list.getD i 0 = x at *
              generalize v.list.getD i 0 = y at *
              have HRA := Lib.hid hra
              have HOZ := Lib.hid hoz
              clear hra hoz
              go_wp2_with fail
              go_still_tail 11, (by kernel_rfl)
              change wpList _ _ _ _ _ wr.drew
              go_wp2_with fail
              case roundEnd =>
                have hp : (x + y) % 4294967296 = addW x y := by unfold addW; rw [IntKind.wrap_u32']
                rw [hp]
                refine ⟨⟨i + 1, by omega, rfl, ?_, (HOZ.out.setCell _ _).drew⟩, ?_⟩
                · rw [← HS.out]; exact (HRA.out.set i _).drew
                · change 8 - ((i : Int) + 1).toNat < 8 - (i : Int).toNat; omega
            · obtain rfl : i = 8 := by omega
              have hlt2 : ¬ ((8 : Nat) : Int) < 8 := by omega
              have hu : upto h.list v.list 8 = (h.plus v).list := rfl
              rw [hu, ← HV.out] at hra
              have HRA := Lib.hid hra
              have HOZ := Lib.hid hoz
              clear hra hoz hlt hi hu
              go_wp2_with fail
              go_end0
              exact ⟨rfl, HRA.out, HOZ.out⟩
end Go.Proofs.YtmnlebkpneeblaaDoor
