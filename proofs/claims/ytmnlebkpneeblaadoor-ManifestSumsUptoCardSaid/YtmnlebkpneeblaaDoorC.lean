/- Walk of the reference's block: 64 bytes taken. Condition: the slice holds 64 bytes. -/
import Derived.Test.YtmnlebkpneeblaaDoorB
namespace Go.Proofs.YtmnlebkpneeblaaDoor
open Go Go.RowKit

/-- Bytes that are read: the cells of a slice's address. -/
def Rd8 (w : World) (g o : Nat) (m : List UInt8) : Prop := ∀ j b, m[j]? = some b → w.cell? ⟨g, o + j, none⟩ = some (.int .u8 b.toNat)
theorem Rd8.at {w : World} {g o : Nat} {m : List UInt8} (h : Rd8 w g o m) {j : Nat} (hj : j < m.length) : w.cell? ⟨g, o + j, none⟩ = some (.int .u8 (bt m j)) := by
  have := h j _ (List.getElem?_eq_getElem hj)
  rw [this]
  unfold bt
  rw [List.getD_eq_getElem?_getD, List.getElem?_eq_getElem hj]
  rfl
theorem Rd8.below {B : Nat} {w w' : World} {g o : Nat} {m : List UInt8} (h : Rd8 w g o m) (hb : Below B w w') (hlt : g < B) : Rd8 w' g o m :=
  fun j b hj => (hb.cell (p := ⟨g, o + j, none⟩) hlt).trans (h j b hj)

theorem u32_ones : (if IntKind.u32.signed = true then -1 else IntKind.u32.max) = (4294967295 : Int) := by decide
theorem round_e (v : S8) (kt st : Int) : (v.d + (v.h + bits .xor .u32 (bits .xor .u32 (rorW v.e 6) (rorW v.e 11)) (rorW v.e 25) + bits .xor .u32 (bits .and .u32 v.e v.f) (bits .and .u32 (bits .xor .u32 (if IntKind.u32.signed = true then -1 else IntKind.u32.max) v.e) v.g) + kt + st)) % 4294967296 = (v.round kt st).e := by
  rw [u32_ones]
  simp only [S8.round, oneW, IntKind.wrap_u32']
  omega
theorem round_a (v : S8) (kt st : Int) : (v.h + bits .xor .u32 (bits .xor .u32 (rorW v.e 6) (rorW v.e 11)) (rorW v.e 25) + bits .xor .u32 (bits .and .u32 v.e v.f) (bits .and .u32 (bits .xor .u32 (if IntKind.u32.signed = true then -1 else IntKind.u32.max) v.e) v.g) + kt + st + (bits .xor .u32 (bits .xor .u32 (rorW v.a 2) (rorW v.a 13)) (rorW v.a 22) + bits .xor .u32 (bits .xor .u32 (bits .and .u32 v.a v.b) (bits .and .u32 v.a v.c)) (bits .and .u32 v.b v.c))) % 4294967296 = (v.round kt st).a := by
  rw [u32_ones]
  simp only [S8.round, oneW, twoW, IntKind.wrap_u32']
  omega
theorem eight_sets {W : World} {b : Nat} {v : S8} {kt st A E : Int} (h : Row W b (u32s v.list)) (hA : A = (v.round kt st).a) (hE : E = (v.round kt st).e) :
    Row ((((((((W.setCell ⟨b, 0, none⟩ (.int .u32 A)).setCell ⟨b, 1, none⟩ (.int .u32 v.a)).setCell ⟨b, 2, none⟩ (.int .u32 v.b)).setCell ⟨b, 3, none⟩ (.int .u32 v.c)).setCell ⟨b, 4, none⟩ (.int .u32 E)).setCell ⟨b, 5, none⟩ (.int .u32 v.e)).setCell ⟨b, 6, none⟩ (.int .u32 v.f)).setCell ⟨b, 7, none⟩ (.int .u32 v.g)) b (u32s (v.round kt st).list) := by
  subst hA hE
  exact ((((((((h.set 0 _).set 1 _).set 2 _).set 3 _).set 4 _).set 5 _).set 6 _).set 7 _)

theorem eight_over {W : World} {b : Nat} {z : S8} (h : Row W b (u32s [0, 0, 0, 0, 0, 0, 0, 0])) :
    Row ((((((((W.setCell ⟨b, 0, none⟩ (.int .u32 z.a)).setCell ⟨b, 1, none⟩ (.int .u32 z.b)).setCell ⟨b, 2, none⟩ (.int .u32 z.c)).setCell ⟨b, 3, none⟩ (.int .u32 z.d)).setCell ⟨b, 4, none⟩ (.int .u32 z.e)).setCell ⟨b, 5, none⟩ (.int .u32 z.f)).setCell ⟨b, 6, none⟩ (.int .u32 z.g)).setCell ⟨b, 7, none⟩ (.int .u32 z.h)) b (u32s z.list) :=
  ((((((((h.set 0 _).set 1 _).set 2 _).set 3 _).set 4 _).set 5 _).set 6 _).set 7 _)

theorem drewN_drewN (w : World) (a b : Nat) : (w.drewN a).drewN b = w.drewN (a + b) := by simp [World.drewN, Nat.add_assoc]
theorem quiet_more2 {P : Program} {f : FuncId} {args : Array Value} {w : World} {a n : Nat} {v : Value}
    (h : ∀ W, Calls P f args W fun e w' => e = .returned v ∧ ∃ m, w' = W.drewN m) :
    Calls P f args (w.drewN (a + n)) fun e w'' => e = .returned v ∧ ∃ m, w'' = w.drewN (a + m) :=
  (h _).mono fun _ _ ⟨he, m, hm⟩ => ⟨he, n + m, by rw [hm, drewN_drewN, Nat.add_assoc]⟩

set_option maxRecDepth 100000 in
set_option maxHeartbeats 2000000 in
theorem block_any (h : S8) (ks : List Int) (hk : ks.length = 64) (g o c : Nat) (m : List UInt8) (w : World) (hm : m.length = 64) (hg : g < w.heap.size) (hc : Rd8 w g o m) :
    Calls Tryd.prog 17 #[.agg (u32s h.list).toArray, .agg (u32s ks).toArray, .slice (some ⟨g, o, none⟩) 64 c] w fun e w' => e = .returned (.agg (u32s (h.plus (h.rounds ks (sched m 64) 64)).list).toArray) ∧ Below w.heap.size w w' := by
  have HC := Lib.hid hc
  have HM := Lib.hid hm
  have HK := Lib.hid hk
  have HG := Lib.hid hg
  clear hc hm hk hg
  go_enter Tryd.func17, Tryd.ntmps17
  go_wp2_with fail
  generalize hw3 : ((w.alloc (.cells (u32s h.list).toArray 34)).alloc (.cells (u32s ks).toArray 40)).alloc (.cells #[.int .u32 0, .int .u32 0, .int .u32 0, .int .u32 0, .int .u32 0, .int .u32 0, .int .u32 0, .int .u32 0] 34) = w3
  have hs3 : w3.heap.size = w.heap.size + 1 + 1 + 1 := by subst hw3; simp
  have r0 : Row w3 w.heap.size (u32s h.list) := by subst hw3; exact (((Row.new w _ _).alloc _).alloc _)
  have r1 : Row w3 (w.heap.size + 1) (u32s ks) := by subst hw3; exact (Row.new_at (w := w.alloc (.cells (u32s h.list).toArray 34)) (u32s ks) 40 (by simp)).alloc _
  have r2 : Row w3 (w.heap.size + 1 + 1) (u32s [0, 0, 0, 0, 0, 0, 0, 0]) := by subst hw3; exact Row.new_at (w := (w.alloc (.cells (u32s h.list).toArray 34)).alloc (.cells (u32s ks).toArray 40)) (u32s [0, 0, 0, 0, 0, 0, 0, 0]) 34 (by simp)
  have hb3 : Below w.heap.size w w3 := by subst hw3; exact (((Below.refl _ _).alloc (Nat.le_refl _) _).alloc (by simp) _).alloc (by simp; omega) _
  have hb4 := (Below.refl w3.heap.size w3).alloc (Nat.le_refl _) (.cells (u32s (schedZ m 0)).toArray 40)
  have r4 : Row (w3.alloc (.cells (u32s (schedZ m 0)).toArray 40)) w3.heap.size (u32s (schedZ m 0)) := Row.new _ _ _
  have hrd := (HC.out.below hb3 HG.out)
  rw [← hs3]
  have HS3 := Lib.hid hs3
  have R0 := Lib.hid r0
  have R1 := Lib.hid r1
  have R2 := Lib.hid r2
  have HB3 := Lib.hid hb3
  have HB4 := Lib.hid hb4
  have R4 := Lib.hid r4
  have RD := Lib.hid hrd
  have hg3 : g < w3.heap.size := by have := HG.out; omega
  have HG3 := Lib.hid hg3
  clear hw3 hs3 r0 r1 r2 hb3 hb4 r4 hrd hg3 HC HG
  go_loopw [8] (fun tv wr => ∃ t : Nat, t ≤ 64 ∧ tv = .int .i64 t ∧ Row wr w3.heap.size (u32s (schedZ m t)) ∧ Below w3.heap.size w3 wr) (fun tv _ => 64 - (RowKit.intOf tv).toNat)
  case atStart => exact ⟨0, Nat.zero_le _, rfl, R4.out, HB4.out⟩
  case round =>
    obtain ⟨t, ht, rfl, hrow, hbw⟩ := hrel
    by_cases hlt : t < 64
    · have hlt' : (t : Int) < 64 := by omega
      have h0 : (0 : Int) ≤ (t : Int) := by omega
      by_cases h16 : t < 16
      · have h16' : (t : Int) < 16 := by omega
        have rd := RD.out.below hbw HG3.out
        have b0 := rd.at (j := 4 * t) (by have := HM.out; omega)
        have b1 := rd.at (j := 4 * t + 1) (by have := HM.out; omega)
        have b2 := rd.at (j := 4 * t + 2) (by have := HM.out; omega)
        have b3 := rd.at (j := 4 * t + 3) (by have := HM.out; omega)
        have c0 := hrow.cell t (schedZ_new m (Nat.le_refl t) hlt)
        have f0 := hrow.frozen t
        have HROW := Lib.hid hrow
        have HBW := Lib.hid hbw
        clear hrow hbw rd
        have q0 : (0 : Int) ≤ 4 * (t : Int) := by omega
        have q1 : 4 * (t : Int) < 64 := by omega
        have q2 : (0 : Int) ≤ 4 * (t : Int) + 1 := by omega
        have q3 : 4 * (t : Int) + 1 < 64 := by omega
        have q4 : (0 : Int) ≤ 4 * (t : Int) + 2 := by omega
        have q5 : 4 * (t : Int) + 2 < 64 := by omega
        have q6 : (0 : Int) ≤ 4 * (t : Int) + 3 := by omega
        have q7 : 4 * (t : Int) + 3 < 64 := by omega
        have e0 : IntKind.i64.wrap (4 * (t : Int)) = 4 * t := IntWalk.i64_in _ (by omega)
        have e1 : IntKind.i64.wrap (4 * (t : Int) + 1) = 4 * t + 1 := IntWalk.i64_in _ (by omega)
        have e2 : IntKind.i64.wrap (4 * (t : Int) + 2) = 4 * t + 2 := IntWalk.i64_in _ (by omega)
        have e3 : IntKind.i64.wrap (4 * (t : Int) + 3) = 4 * t + 3 := IntWalk.i64_in _ (by omega)
        have n0 : (4 * (t : Int)).toNat = 4 * t := by omega
        have n1 : (4 * (t : Int) + 1).toNat = 4 * t + 1 := by omega
        have n2 : (4 * (t : Int) + 2).toNat = 4 * t + 2 := by omega
        have n3 : (4 * (t : Int) + 3).toNat = 4 * t + 3 := by omega
        go_wp2_with fail
        go_still_tail 35, (by kernel_rfl)
        change wpList _ _ _ _ _ wr.drew
        go_wp2_with fail
        case roundEnd =>
          refine ⟨⟨t + 1, by omega, rfl, ?_, ?_⟩, ?_⟩
          · have hn : (bt m (4 * t) % 4294967296 * 16777216 + bt m (4 * t + 1) % 4294967296 * 65536 + bt m (4 * t + 2) % 4294967296 * 256 + bt m (4 * t + 3)) % 4294967296 = nextW m t (sched m t) := by
              unfold nextW wordW
              rw [if_pos h16]
              have := bt_lt m (4 * t)
              have := bt_lt m (4 * t + 1)
              have := bt_lt m (4 * t + 2)
              have := bt_lt m (4 * t + 3)
              omega
            have := HROW.out.set t (.int .u32 (nextW m t (sched m t)))
            rw [schedZ_set m hlt rfl, ← hn] at this
            exact this.drew
          · exact (HBW.out.setCell (Nat.le_refl _) _).drew
          · change 64 - ((t : Int) + 1).toNat < 64 - (t : Int).toNat; omega
      · have h16' : ¬ (t : Int) < 16 := by omega
        have g15 : (sched m t).getD (t - 15) 0 = (sched m t).getD (t - 15) 0 := rfl
        have c15 := hrow.cell (t - 15) (schedZ_old m (j := t - 15) (by omega) ht)
        have c2 := hrow.cell (t - 2) (schedZ_old m (j := t - 2) (by omega) ht)
        have c7 := hrow.cell (t - 7) (schedZ_old m (j := t - 7) (by omega) ht)
        have c16 := hrow.cell (t - 16) (schedZ_old m (j := t - 16) (by omega) ht)
        have c0 := hrow.cell t (schedZ_new m (Nat.le_refl t) hlt)
        have f0 := hrow.frozen t
        have HN : Hid (nextW m t (sched m t) = mixW ((sched m t).getD (t - 2) 0) ((sched m t).getD (t - 7) 0) ((sched m t).getD (t - 15) 0) ((sched m t).getD (t - 16) 0)) := Lib.hid (by unfold nextW; rw [if_neg h16])
        generalize (sched m t).getD (t - 2) 0 = y at *
        generalize (sched m t).getD (t - 7) 0 = a at *
        generalize (sched m t).getD (t - 15) 0 = x at *
        generalize (sched m t).getD (t - 16) 0 = c' at *
        have HROW := Lib.hid hrow
        have HBW := Lib.hid hbw
        clear hrow hbw g15
        have p0 : (15 : Int) ≤ (t : Int) := by omega
        have p1 : (2 : Int) ≤ (t : Int) := by omega
        have p2 : (7 : Int) ≤ (t : Int) := by omega
        have p3 : (16 : Int) ≤ (t : Int) := by omega
        have q0 : (0 : Int) ≤ (t : Int) - 15 := by omega
        have q1 : (t : Int) - 15 < 64 := by omega
        have q2 : (0 : Int) ≤ (t : Int) - 2 := by omega
        have q3 : (t : Int) - 2 < 64 := by omega
        have q4 : (0 : Int) ≤ (t : Int) - 7 := by omega
        have q5 : (t : Int) - 7 < 64 := by omega
        have q6 : (0 : Int) ≤ (t : Int) - 16 := by omega
        have q7 : (t : Int) - 16 < 64 := by omega
        have e0 : IntKind.i64.wrap ((t : Int) - 15) = t - 15 := IntWalk.i64_in _ (by omega)
        have e1 : IntKind.i64.wrap ((t : Int) - 2) = t - 2 := IntWalk.i64_in _ (by omega)
        have e2 : IntKind.i64.wrap ((t : Int) - 7) = t - 7 := IntWalk.i64_in _ (by omega)
        have e3 : IntKind.i64.wrap ((t : Int) - 16) = t - 16 := IntWalk.i64_in _ (by omega)
        have n0 : ((t : Int) - 15).toNat = t - 15 := by omega
        have n1 : ((t : Int) - 2).toNat = t - 2 := by omega
        have n2 : ((t : Int) - 7).toNat = t - 7 := by omega
        have n3 : ((t : Int) - 16).toNat = t - 16 := by omega
        have hkeep : ∀ (w' : World) (v : Value), w'.cell? ⟨w3.heap.size, t - 7, none⟩ = some (.int .u32 a) → w'.cell? ⟨w3.heap.size, t - 16, none⟩ = some (.int .u32 c') →
            (w'.setCell ⟨w3.heap.size, t, none⟩ v).cell? ⟨w3.heap.size, t - 7, none⟩ = some (.int .u32 a) ∧ (w'.setCell ⟨w3.heap.size, t, none⟩ v).cell? ⟨w3.heap.size, t - 16, none⟩ = some (.int .u32 c') := fun w' v k1 k2 =>
          ⟨by rw [World.cell?_setCell_other _ _ _ _ (by intro e; injection e; omega)]; exact k1, by rw [World.cell?_setCell_other _ _ _ _ (by intro e; injection e; omega)]; exact k2⟩
        have HK2 := Lib.hid hkeep
        clear hkeep
        go_wp2_with fail
        go_quiet (fail)
        go_wp2_with fail
        go_region_held3 (fun w' => w'.cell? ⟨w3.heap.size, t - 7, none⟩ = some (.int .u32 a) ∧ w'.cell? ⟨w3.heap.size, t - 16, none⟩ = some (.int .u32 c')) (first | exact HK2.out _ _ c7 c16 | (go_keep))
          (first
            | (go_at_call 21; refine (rorR_any _ _ _ (by decide) (by decide)).mono ?_; rintro e w' ⟨rfl, nn, rfl⟩))
        go_wp2_with fail
        case roundEnd =>
          have hr : ∀ n, Row ((wr.drewN n).setCell ⟨w3.heap.size, t, none⟩ (.int .u32 (mixW y a x c'))) w3.heap.size (u32s (schedZ m (t + 1))) := fun n => by
            have := (HROW.out.drewN n).set t (.int .u32 (nextW m t (sched m t)))
            rw [schedZ_set m hlt rfl, HN.out] at this
            exact this
          refine ⟨⟨t + 1, by omega, rfl, hr _, (below_drewN HBW.out _).setCell (Nat.le_refl _) _⟩, ?_⟩
          change 64 - ((t : Int) + 1).toNat < 64 - (t : Int).toNat; omega
    · obtain rfl : t = 64 := by omega
      rw [schedZ_full] at hrow
      have hlt' : ¬ ((64 : Nat) : Int) < 64 := by omega
      clear hlt ht
      have x0 := (R0.out.below hbw (by have := HS3.out; omega)).cell 0 rfl
      have x1 := (R0.out.below hbw (by have := HS3.out; omega)).cell 1 rfl
      have x2 := (R0.out.below hbw (by have := HS3.out; omega)).cell 2 rfl
      have x3 := (R0.out.below hbw (by have := HS3.out; omega)).cell 3 rfl
      have x4 := (R0.out.below hbw (by have := HS3.out; omega)).cell 4 rfl
      have x5 := (R0.out.below hbw (by have := HS3.out; omega)).cell 5 rfl
      have x6 := (R0.out.below hbw (by have := HS3.out; omega)).cell 6 rfl
      have x7 := (R0.out.below hbw (by have := HS3.out; omega)).cell 7 rfl
      have HROW := Lib.hid hrow
      have HBW := Lib.hid hbw
      clear hrow hbw
      go_wp2_with fail
      obtain ⟨wo, rfl⟩ : ∃ wo : World, wo = wr := ⟨_, rfl⟩
      have hb5 := (Below.refl wo.heap.size wo).alloc (Nat.le_refl _) (.cells (u32s h.list).toArray 34)
      have r5 : Row (wo.alloc (.cells (u32s h.list).toArray 34)) wo.heap.size (u32s h.list) := Row.new _ _ _
      have HB5 := Lib.hid hb5
      have R5 := Lib.hid r5
      have hl3 : w3.heap.size < wo.heap.size := HROW.out.lt
      have HL3 := Lib.hid hl3
      clear hb5 r5 x0 x1 x2 x3 x4 x5 x6 x7 hl3
      go_loopw [12] (fun tv wr => ∃ t : Nat, t ≤ 64 ∧ tv = .int .i64 t ∧ Row wr wo.heap.size (u32s (h.rounds ks (sched m 64) t).list) ∧ Below wo.heap.size wo wr) (fun tv _ => 64 - (RowKit.intOf tv).toNat)
      case atStart => exact ⟨0, Nat.zero_le _, rfl, R5.out, HB5.out⟩
      case round =>
        obtain ⟨t, ht, rfl, hrow, hbx⟩ := hrel
        by_cases hlt : t < 64
        · have hlt2 : (t : Int) < 64 := by omega
          have h0 : (0 : Int) ≤ (t : Int) := by omega
          have HV : Hid (h.rounds ks (sched m 64) (t + 1) = (h.rounds ks (sched m 64) t).round (ks.getD t 0) ((sched m 64).getD t 0)) := Lib.hid rfl
          have hkt : wr.cell? ⟨w.heap.size + 1, t, none⟩ = some (.int .u32 (ks.getD t 0)) := ((R1.out.below HBW.out (by have := HS3.out; omega)).below hbx (by have := HS3.out; have := HL3.out; omega)).cell t (u32s_at (by rw [HK.out]; exact hlt))
          have hst : wr.cell? ⟨w3.heap.size, t, none⟩ = some (.int .u32 ((sched m 64).getD t 0)) := (HROW.out.below hbx HL3.out).cell t (u32s_at (by rw [sched_length]; exact hlt))
          generalize h.rounds ks (sched m 64) t = v at *
          generalize ks.getD t 0 = kt at *
          generalize (sched m 64).getD t 0 = st at *
          have c0 := hrow.cell 0 rfl
          have c1 := hrow.cell 1 rfl
          have c2 := hrow.cell 2 rfl
          have c3 := hrow.cell 3 rfl
          have c4 := hrow.cell 4 rfl
          have c5 := hrow.cell 5 rfl
          have c6 := hrow.cell 6 rfl
          have c7 := hrow.cell 7 rfl
          have f0 := hrow.frozen 0
          have f1 := hrow.frozen 1
          have f2 := hrow.frozen 2
          have f3 := hrow.frozen 3
          have f4 := hrow.frozen 4
          have f5 := hrow.frozen 5
          have f6 := hrow.frozen 6
          have f7 := hrow.frozen 7
          have HROWX := Lib.hid hrow
          have HBX := Lib.hid hbx
          clear hrow hbx
          go_wp2_with fail
          go_quiet (fail)
          go_wp2_with fail
          go_quiet ((go_at_call 21; exact quiet_more2 (fun W => rorR_any _ _ W (by decide) (by decide))))
          go_wp2_with (go_at_call 21; refine (rorR_any _ _ _ (by decide) (by decide)).mono ?_; rintro e w' ⟨rfl, nn, rfl⟩)
          case roundEnd =>
            refine ⟨⟨t + 1, by omega, rfl, ?_, ?_⟩, ?_⟩
            · rw [HV.out]
              exact eight_sets (HROWX.out.drewN _) (round_a v kt st) (round_e v kt st)
            · exact ((((((((below_drewN HBX.out _).setCell (Nat.le_refl _) _).setCell (Nat.le_refl _) _).setCell (Nat.le_refl _) _).setCell (Nat.le_refl _) _).setCell (Nat.le_refl _) _).setCell (Nat.le_refl _) _).setCell (Nat.le_refl _) _).setCell (Nat.le_refl _) _
            · change 64 - ((t : Int) + 1).toNat < 64 - (t : Int).toNat; omega
        · obtain rfl : t = 64 := by omega
          have hlt2 : ¬ ((64 : Nat) : Int) < 64 := by omega
          clear hlt ht
          generalize hv : h.rounds ks (sched m 64) 64 = v at *
          have HROWX := Lib.hid hrow
          have HBX := Lib.hid hbx
          have HV := Lib.hid hv
          clear hrow hbx hv
          go_wp2_with fail
          obtain ⟨w1, rfl⟩ : ∃ w1 : World, w1 = wr := ⟨_, rfl⟩
          have hsz := HS3.out
          have hl3 := HL3.out
          have hbase : Below w.heap.size w w1 := (HB3.out.trans (HBW.out.mono (by omega))).trans (HBX.out.mono (by omega))
          have ra : Row w1 w.heap.size (u32s (upto h.list v.list 0)) := (R0.out.below HBW.out (by omega)).below HBX.out (by omega)
          have rb : Row w1 (w.heap.size + 1 + 1) (u32s [0, 0, 0, 0, 0, 0, 0, 0]) := (R2.out.below HBW.out (by omega)).below HBX.out (by omega)
          have hne : w.heap.size ≠ wo.heap.size := by omega
          have HBASE := Lib.hid hbase
          have RA := Lib.hid ra
          have RB := Lib.hid rb
          have HNE := Lib.hid hne
          clear hsz hl3 hbase ra rb hne hlt' hlt2 HBW HROW HB5 R5 RD HB3 R0 R1 R2 R4 HB4 HG3 HK
          go_loopw [21] (fun iv wr => ∃ i : Nat, i ≤ 8 ∧ iv = .int .i64 i ∧ Row wr w.heap.size (u32s (upto h.list v.list i)) ∧ Row wr wo.heap.size (u32s v.list) ∧ Row wr (w.heap.size + 1 + 1) (u32s [0, 0, 0, 0, 0, 0, 0, 0]) ∧ Below w.heap.size w wr) (fun iv _ => 8 - (RowKit.intOf iv).toNat)
          case atStart => exact ⟨0, Nat.zero_le _, rfl, RA.out, HROWX.out, RB.out, HBASE.out⟩
          case round =>
            obtain ⟨i, hi, rfl, hra, hrv, hrb, hbz⟩ := hrel
            by_cases hlt : i < 8
            · have hlt2 : (i : Int) < 8 := by omega
              have h0 : (0 : Int) ≤ (i : Int) := by omega
              have x0 := hra.cell i (upto_at rfl hlt)
              have x1 := hrv.cell i (u32s_at (l := v.list) hlt)
              have xf := hra.frozen i
              have HS : Hid ((u32s (upto h.list v.list i)).set i (.int .u32 (addW (h.list.getD i 0) (v.list.getD i 0))) = u32s (upto h.list v.list (i + 1))) := Lib.hid (upto_set rfl hlt)
              generalize h.list.getD i 0 = p at *
              generalize v.list.getD i 0 = q at *
              have HRA := Lib.hid hra
              have HRV := Lib.hid hrv
              have HRB := Lib.hid hrb
              have HBZ := Lib.hid hbz
              clear hra hrv hrb hbz
              go_wp2_with fail
              go_still_tail 9, (by kernel_rfl)
              change wpList _ _ _ _ _ wr.drew
              go_wp2_with fail
              case roundEnd =>
                have hp : (p + q) % 4294967296 = addW p q := by unfold addW; rw [IntKind.wrap_u32']
                rw [hp]
                refine ⟨⟨i + 1, by omega, rfl, ?_, ?_, ?_, ?_⟩, ?_⟩
                · rw [← HS.out]; exact (HRA.out.set i _).drew
                · exact (HRV.out.set_other (Ne.symm HNE.out) _).drew
                · exact (HRB.out.set_other (by show w.heap.size + 1 + 1 ≠ w.heap.size; omega) _).drew
                · exact (HBZ.out.setCell (Nat.le_refl _) _).drew
                · change 8 - ((i : Int) + 1).toNat < 8 - (i : Int).toNat; omega
            · obtain rfl : i = 8 := by omega
              have hlt2 : ¬ ((8 : Nat) : Int) < 8 := by omega
              have hu : upto h.list v.list 8 = (h.plus v).list := rfl
              rw [hu] at hra
              have HVV : Hid (h.plus (h.rounds ks (sched m 64) 64) = h.plus v) := Lib.hid (by rw [HV.out])
              generalize h.plus v = z at *
              have c0 := hra.cell 0 rfl
              have c1 := hra.cell 1 rfl
              have c2 := hra.cell 2 rfl
              have c3 := hra.cell 3 rfl
              have c4 := hra.cell 4 rfl
              have c5 := hra.cell 5 rfl
              have c6 := hra.cell 6 rfl
              have c7 := hra.cell 7 rfl
              have d0 := hrb.cell 0 rfl
              have d1 := hrb.cell 1 rfl
              have d2 := hrb.cell 2 rfl
              have d3 := hrb.cell 3 rfl
              have d4 := hrb.cell 4 rfl
              have d5 := hrb.cell 5 rfl
              have d6 := hrb.cell 6 rfl
              have d7 := hrb.cell 7 rfl
              have f0 := hrb.frozen 0
              have f1 := hrb.frozen 1
              have f2 := hrb.frozen 2
              have f3 := hrb.frozen 3
              have f4 := hrb.frozen 4
              have f5 := hrb.frozen 5
              have f6 := hrb.frozen 6
              have f7 := hrb.frozen 7
              have HRA := Lib.hid hra
              have HRB := Lib.hid hrb
              have HBZ := Lib.hid hbz
              clear hra hrv hrb hbz hlt hi hu
              go_wp2_with fail
              obtain ⟨T, hT⟩ := eight_over (z := z) HRB.out
              refine bodyPost_ret (v := .agg (u32s z.list).toArray) (results_cell_row (p := 6) (ty := 34) rfl _ _ (w.heap.size + 1 + 1) T _ _ _ rfl hT Tryd.underlying34 rfl (by kernel_rfl)) rfl ⟨by rw [HVV.out], ?_⟩
              exact (((((((HBZ.out.setCell (by show _ ≤ w.heap.size + 1 + 1; omega) _).setCell (by show _ ≤ w.heap.size + 1 + 1; omega) _).setCell (by show _ ≤ w.heap.size + 1 + 1; omega) _).setCell (by show _ ≤ w.heap.size + 1 + 1; omega) _).setCell (by show _ ≤ w.heap.size + 1 + 1; omega) _).setCell (by show _ ≤ w.heap.size + 1 + 1; omega) _).setCell (by show _ ≤ w.heap.size + 1 + 1; omega) _).setCell (by show _ ≤ w.heap.size + 1 + 1; omega) _
end Go.Proofs.YtmnlebkpneeblaaDoor
