/- Walk of sum: the sum of what a hash took. Condition: bounds; the tables are as laid. -/
import Derived.Test.YtmnlebkpneeblaaDoorH
import Derived.Test.YtmnlebkpneeblaaDoorI
import Derived.Deep.RegionHeld3
namespace Go.Proofs.YtmnlebkpneeblaaDoor
open Go Go.RowKit

def padK (n : Int) : Nat := ((119 - n % 64) % 64).toNat
def padL (n : Int) : List UInt8 := 0x80 :: List.replicate (padK n) 0
theorem padL_length (n : Int) : (padL n).length = padK n + 1 := by simp [padL]
theorem padK_lt (n : Int) : padK n < 64 := by unfold padK; omega
def outL (v : S8) : List UInt8 := v.list.flatMap (be 4)
/-- The sum of n bytes, of which so many blocks are taken and so many wait. -/
def sumL (v : S8) (rest : List UInt8) (n : Int) : List UInt8 := outL (absorb v (rest ++ (padL n ++ be 8 (8 * n)))).1

theorem be4_length (n : Int) : (be 4 n).length = 4 := be_length 4 n

/-- The sum's bytes, as far as they are out. -/
def outZ (v : S8) (i : Nat) : List UInt8 := (v.list.take i).flatMap (be 4) ++ List.replicate (32 - 4 * i) 0
theorem flat_length (l : List Int) : (l.flatMap (be 4)).length = 4 * l.length := by
  induction l with
  | nil => rfl
  | cons x l ih => rw [List.flatMap_cons, List.length_append, be4_length, ih, List.length_cons]; omega
theorem outZ_length (v : S8) {i : Nat} (h : i ≤ 8) : (outZ v i).length = 32 := by
  unfold outZ
  rw [List.length_append, flat_length, List.length_replicate, List.length_take]
  have : v.list.length = 8 := rfl
  omega
theorem outZ_step (v : S8) {i : Nat} (h : i < 8) : (outZ v i).take (4 * i) ++ be 4 (v.list.getD i 0) ++ (outZ v i).drop (4 * i + 4) = outZ v (i + 1) := by
  have h8 : v.list.length = 8 := rfl
  have hl : ((v.list.take i).flatMap (be 4)).length = 4 * i := by rw [flat_length, List.length_take]; omega
  unfold outZ
  rw [List.take_left' hl, ← hl, List.drop_append, hl]
  rw [List.drop_replicate]
  rw [List.take_succ_eq_append_getElem (by omega), List.flatMap_append, List.flatMap_singleton, List.getD_eq_getElem?_getD, List.getElem?_eq_getElem (by omega)]
  have e : 32 - 4 * i - (4 * i + 4 - 4 * i) = 32 - 4 * (i + 1) := by omega
  rw [e, List.drop_eq_nil_of_le (by omega)]
  simp
theorem outZ_full (v : S8) : outZ v 8 = outL v := by unfold outZ outL; simp [S8.list]
theorem be4_wrap (x : Int) : be 4 (x % 18446744073709551616) = be 4 x := by
  have h : ∀ a b : Int, a % 256 = b % 256 → byteI a = byteI b := fun a b e => by unfold byteI; rw [e]
  simp only [be, List.nil_append, List.cons_append]
  rw [h (x % 18446744073709551616) x (by omega), h (x % 18446744073709551616 / 256) (x / 256) (by omega), h (x % 18446744073709551616 / 256 / 256) (x / 256 / 256) (by omega), h (x % 18446744073709551616 / 256 / 256 / 256) (x / 256 / 256 / 256) (by omega)]

theorem be4_wrap' (x : Int) : be 4 (IntKind.u64.wrap x) = be 4 x := by rw [IntKind.wrap_u64]; exact be4_wrap x

theorem copy4 {W : World} {S b o : Nat} {ds : List UInt8} {x : Int} (h : Row W S (u8s ds)) (hl : ds.length = 32) (ho : o + 4 ≤ 32) (hs : Row W b (u8s (be 4 x))) :
    ∃ W', (Builtin.copy_ #[28, 28] 3 #[.slice (some ⟨S, o, none⟩) (32 - o) (32 - o), .slice (some ⟨b, 0, none⟩) 4 4]).run Tryd.prog W = .ok (.int .i64 4) W' ∧
      Row W' S (u8s (ds.take o ++ be 4 x ++ ds.drop (o + 4))) ∧ Only S W W' := by
  obtain ⟨T, hT⟩ := h
  have hlen : (u8s (be 4 x)).length = 4 := by rw [u8s_length, be4_length]
  have hr := run_copy_row (P := Tryd.prog) W 28 28 3 5 S o (32 - o) (32 - o) ⟨b, 0, none⟩ 4 4 (u8s ds).toArray T (u8s (be 4 x)) Tryd.underlying28 (by kernel_rfl) hT
    (by rw [hlen]; show 4 = min 4 (32 - o); omega)
    (fun j y hj => by
      have hadd : (⟨b, 0, none⟩ : Addr).add j = ⟨b, j, none⟩ := by unfold Addr.add; split <;> simp_all
      rw [hadd]
      exact hs.cell j hj)
    (by rw [hlen]; show o + 4 ≤ (u8s ds).toArray.size; rw [List.size_toArray, u8s_length, hl]; omega) (u8s_one _)
  rw [hlen] at hr
  refine ⟨_, hr, ⟨T, ?_⟩, ⟨rfl, rfl, rfl, by simp, fun k _ hn => setRow_other W S k _ hn⟩⟩
  rw [setRow_heap W S _ _ T _ hT]
  unfold u8s
  simp

def SumP (l : List UInt8) (w : World) (e : Ending) (w' : World) : Prop := e = .returned (.agg (u8s l).toArray) ∧ Below w.heap.size w w'

theorem row_of_own {w : World} {base g n : Nat} {xs : List Value} (h : w.ownsRow base 5 1 (.slice (some ⟨g, 0, none⟩) n n) n xs) : Row w g xs := by
  rcases h.2 with ⟨h, _⟩ | ⟨g', cap, cur, e, _, hg, _, _, hs, ht⟩
  · cases h
  · injection e with e1 _ e3
    injection e1 with e1
    injection e1 with e1
    subst e1 e3
    refine ⟨5, ?_⟩
    rw [hg, ← ht, List.take_of_length_le (by rw [Array.length_toList, hs]; exact Nat.le_refl _)]

theorem pad_set (n : Int) : (List.replicate (padK n + 1) (Value.int .u8 0)).set 0 (.int .u8 128) = u8s (padL n) := by
  rw [List.replicate_succ, List.set_cons_zero]
  unfold padL u8s
  rw [List.map_cons, List.map_replicate]
  rfl

set_option maxRecDepth 100000 in
set_option maxHeartbeats 4000000 in
theorem sum_any (p : Nat) (v : S8) (rest : List UInt8) (n : Int) (rv : Value) (w : World) (h : HashAt w p v rest n rv) (hl : rest.length ≤ 549755813888) (hn : 0 ≤ n) (hn2 : n ≤ 549755813888) (hk : w.rangeAt 1 0 (u32s Ks)) (h1 : 2 ≤ w.heap.size) :
    Calls Tryd.prog 13 #[.pointer (some ⟨p, 0, none⟩)] w (SumP (sumL v rest n) w) := by
  obtain ⟨i5, hi5, z51, z52, z53⟩ := info_parts info5
  have hb0 : Below w.heap.size w (w.alloc (.cells (u8s (List.replicate 32 0)).toArray 24)) := (Below.refl _ _).alloc (Nat.le_refl _) _
  have hr0 : Row (w.alloc (.cells (u8s (List.replicate 32 0)).toArray 24)) w.heap.size (u8s (List.replicate 32 0)) := Row.new _ _ _
  have hsz0 : (w.alloc (.cells (u8s (List.replicate 32 0)).toArray 24)).heap.size = w.heap.size + 1 := by simp
  have HB0 := Lib.hid hb0
  have HR0 := Lib.hid hr0
  have HH := Lib.hid (h.below hb0)
  have HC := Lib.hid (copied_any p v rest n rv _ (h.below hb0) (by omega))
  have HK := Lib.hid hk
  have HN := Lib.hid hn
  have HS0 := Lib.hid hsz0
  have H1 := Lib.hid h1
  clear h hk hb0 hr0 hn hsz0 h1
  go_enter Tryd.func13, Tryd.ntmps13
  go_wp2_with fail
  change Calls _ _ _ (w.alloc (.cells (u8s (List.replicate 32 0)).toArray 24)) _
  generalize w.alloc (.cells (u8s (List.replicate 32 0)).toArray 24) = w0 at *
  refine HC.out.mono ?_
  rintro e w1 ⟨q, rq, rfl, hq, hb1, hnew⟩
  have hp1 := HH.out.below hb1
  have x9 := hp1.row.cell 9 rfl
  have HQ := Lib.hid hq
  have HB1 := Lib.hid hb1
  have HNEW := Lib.hid hnew
  have HP1 := Lib.hid hp1
  clear hq hb1 hnew hp1 HC HH
  have g0 : 0 ≤ n := HN.out
  have g1 : (0 : Int) ≤ n % 64 := by omega
  have g2 : n % 64 < 64 := by omega
  obtain ⟨kk, hkk⟩ : ∃ kk, kk = padK n + 1 := ⟨_, rfl⟩
  have hL : 1 + (119 - n) % 64 = ((kk : Nat) : Int) := by rw [hkk]; unfold padK; omega
  have HLL := Lib.hid hL
  have HKK := Lib.hid hkk
  have HX9 := Lib.hid x9
  clear hkk hL
  go_wp2_with (refine wpList_make_full _ rfl _ _ 28 rfl 0 5 i5 (.int .u8 0) 1 Tryd.underlying28 hi5 z51 z52 .i64 .i64 _ _ kk rfl rfl HLL.out HLL.out ?b2 ?b3 (Nat.zero_le _) ?_)
  case b2 => rw [z53]; have := HKK.out; have := padK_lt n; omega
  case b3 => have := HKK.out; have := padK_lt n; unfold maxLen; omega
  intro w2 hown hgr
  have e2 : (madeCells #[Value.int .u8 0] kk).toList = List.replicate kk (Value.int .u8 0) := toList_madeCells_one _ _
  rw [e2] at hown
  have hrw : Row w2 w1.heap.size (List.replicate kk (Value.int .u8 0)) := row_of_own hown
  have hown3 := (World.ownsRow.stored hown 0 (.int .u8 128)).1
  have HO3 : Hid (Own8 (w2.setCell ⟨w1.heap.size, 0, none⟩ (.int .u8 128)) (.slice (some ⟨w1.heap.size, 0, none⟩) kk kk) (padL n)) := Lib.hid (by
    unfold Own8
    have e3 := HKK.out
    rw [padL_length, ← e3]
    rw [← pad_set, ← e3]
    exact hown3)
  have hb12 : Below w1.heap.size w1 w2 := (Below.refl _ _).grown hgr (Nat.le_refl _) (fun k hk => by cases hk)
  clear hown hown3 hgr x9 e2
  have hk0 : (0 : Int) < (kk : Int) := by have := HKK.out; omega
  have c0 := hrw.cell 0 (v := .int .u8 0) (by rw [List.getElem?_replicate, if_pos (by have := HKK.out; omega)])
  have f0 := hrw.frozen 0
  have hb2 : Below w1.heap.size w1 (w2.setCell ⟨w1.heap.size, 0, none⟩ (.int .u8 128)) := hb12.setCell (Nat.le_refl _) _
  have hr2 := hrw.set 0 (.int .u8 128)
  rw [HKK.out, pad_set] at hr2
  have x9' : (w2.setCell ⟨w1.heap.size, 0, none⟩ (.int .u8 128)).cell? ⟨p, 9, none⟩ = some (.int .u64 n) := (hb2.cell (p := ⟨p, 9, none⟩) HP1.out.row.lt).trans HX9.out
  have x9'' : w2.cell? ⟨p, 9, none⟩ = some (.int .u64 n) := (hb12.cell (p := ⟨p, 9, none⟩) HP1.out.row.lt).trans HX9.out
  have hne : p ≠ w1.heap.size := Nat.ne_of_lt HP1.out.row.lt
  have e8 : IntKind.u64.wrap (8 * n) = 8 * n := by rw [IntKind.wrap_u64]; omega
  have HB2 := Lib.hid hb2
  have HR2 := Lib.hid hr2
  clear hrw hb2 hr2 hi5 z51 z52 z53 hb12
  go_wp2_with fail
  generalize w2.setCell ⟨w1.heap.size, 0, none⟩ (.int .u8 128) = w3 at *
  refine (high8_any (8 * n) w3).mono ?_
  rintro e w4 ⟨rfl, hr4, hb4⟩
  rw [be_length]
  have hb14 : Below w1.heap.size w1 w4 := HB2.out.trans (hb4.mono HB2.out.size)
  have HB14 := Lib.hid hb14
  have HO4 : Hid (Own8 w4 (.slice (some ⟨w1.heap.size, 0, none⟩) kk kk) (padL n)) := Lib.hid (HO3.out.of_block fun b hb => hb4.block b (HO3.out.lt hb))
  have HS4 : Hid (Src8 w4 (.slice (some ⟨w3.heap.size, 0, none⟩) 8 8) (be 8 (8 * n))) := Lib.hid (.inr ⟨w3.heap.size, 0, 8, by rw [be_length], hr4.lt, by rw [be_length]; omega, by omega, fun j b hj => by
    rw [Nat.zero_add]
    exact hr4.cell j (by unfold u8s; rw [List.getElem?_map, hj]; rfl)⟩)
  clear hr4 hb4 hb14 c0 f0 x9' x9''
  go_wp2_with (at_builtin; refine wpList_app8 rfl _ _ rfl rfl _ (padL n) rfl HO4.out _ (be 8 (8 * n)) rfl HS4.out ?c1 ?_)
  case c1 => rw [padL_length, be_length]; have := padK_lt n; omega
  intro av w5 ho5 hgr5 hnew5 _
  have hb15 : Below w1.heap.size w1 w5 := HB14.out.grown hgr5 HB14.out.size (fun k hk => by injection hk with hk; exact Nat.le_of_eq hk)
  have hown5 : Own8 w5 av (padL n ++ be 8 (8 * n)) := by unfold Own8; rw [List.length_append]; exact ho5
  have hs0 := HS0.out
  have hs1 := HB1.out.size
  have hb05 : Below w.heap.size w w5 := (HB0.out.trans (HB1.out.mono (by omega))).trans (hb15.mono (by omega))
  have h1' := H1.out
  have hk5 : w5.rangeAt 1 0 (u32s Ks) := fun j x hj => (hb05.cell (p := ⟨1, 0 + j, none⟩) (by show 1 < _; omega)).trans (HK.out j x hj)
  have hdis : ∀ g, av.ownBlock = some g → ¬ HashS q rq g := fun g hg hh => by
    have h2 := HQ.out.lt hh
    have h3 := HB14.out.size
    rcases hnew5 g hg with h | h
    · injection h with h; have : w1.heap.size = g := h; omega
    · omega
  have HT := Lib.hid (takes_any q v rest n rq av (padL n ++ be 8 (8 * n)) w5 (HQ.out.below hb15) (own_src hown5) hdis (by rw [List.length_append, padL_length, be_length]; have := padK_lt n; omega) HN.out (by omega) hk5 (fun x hx => by have := HNEW.out x hx; omega))
  have HB15 := Lib.hid hb15
  have HB05 := Lib.hid hb05
  clear ho5 hgr5 hnew5 hb15 hown5 hs0 hs1 hb05 h1' hk5 hdis
  go_wp2_with fail
  refine HT.out.mono ?_
  rintro e w6 ⟨rfl, rq', hq6, hc6, _⟩
  have HZ : Hid (sumL v rest n = outL (absorb v (rest ++ (padL n ++ be 8 (8 * n)))).1) := Lib.hid rfl
  generalize (absorb v (rest ++ (padL n ++ be 8 (8 * n)))) = zz at *
  obtain ⟨z, zr⟩ := zz
  simp only at hq6 HZ
  have hb56 : Below w.heap.size w5 w6 := hc6.below HB05.out.size (fun x hx => by have := HNEW.out x hx; have := HS0.out; omega)
  have hb06 : Below w.heap.size w w6 := HB05.out.trans hb56
  have hres : Row w6 w.heap.size (u8s (List.replicate 32 0)) := by
    have h2 : Row w5 w.heap.size (u8s (List.replicate 32 0)) := (HR0.out.below HB1.out (by have := HS0.out; omega)).below HB15.out (by have := HS0.out; have := HB1.out.size; omega)
    exact h2.of_block (hc6.block w.heap.size h2.lt (fun hh => by have := HNEW.out _ hh; have := HS0.out; omega))
  have hql : q < w6.heap.size := hq6.row.lt
  have x0 := hq6.row.cell 0 rfl
  have x1 := hq6.row.cell 1 rfl
  have x2 := hq6.row.cell 2 rfl
  have x3 := hq6.row.cell 3 rfl
  have x4 := hq6.row.cell 4 rfl
  have x5 := hq6.row.cell 5 rfl
  have x6 := hq6.row.cell 6 rfl
  have x7 := hq6.row.cell 7 rfl
  have HB06 := Lib.hid hb06
  have HRES := Lib.hid hres
  have hr7 := Row.new w6 (u8s (outZ z 0)) 24
  have hb7 := (Below.refl w6.heap.size w6).alloc (Nat.le_refl _) (.cells (u8s (outZ z 0)).toArray 24)
  have HR7 := Lib.hid hr7
  have HB7 := Lib.hid hb7
  clear hq6 hc6 hb56 hb06 hres hr7 hb7 HT
  go_wp2_with fail
  clear x0 x1 x2 x3 x4 x5 x6 x7
  go_loopw [36] (fun iv wr => ∃ i : Nat, i ≤ 8 ∧ iv = .int .i64 i ∧ Row wr w6.heap.size (u8s (outZ z i)) ∧ Below w6.heap.size w6 wr) (fun iv _ => 8 - (RowKit.intOf iv).toNat)
  case atStart => exact ⟨0, Nat.zero_le _, rfl, HR7.out, HB7.out⟩
  case round =>
    obtain ⟨i, hi, rfl, hrow, hbw⟩ := hrel
    by_cases hlt : i < 8
    · have hlt2 : (i : Int) < 8 := by omega
      have h0 : (0 : Int) ≤ (i : Int) := by omega
      have hix : ∀ W, (Instr.index 34 (.agg #[.int .u32 z.a, .int .u32 z.b, .int .u32 z.c, .int .u32 z.d, .int .u32 z.e, .int .u32 z.f, .int .u32 z.g, .int .u32 z.h]) (.int .i64 i)).run Tryd.prog W = .ok (.int .u32 (z.list.getD i 0)) W := fun W => run_index34 W z.list i rfl hlt
      have HST := Lib.hid (outZ_step z hlt)
      have HROW := Lib.hid hrow
      have HBW := Lib.hid hbw
      clear hrow hbw
      have q0 : (0 : Int) ≤ 4 * (i : Int) := by omega
      have q1 : 4 * (i : Int) ≤ 32 := by omega
      have e0 : IntKind.i64.wrap (4 * (i : Int)) = 4 * i := IntWalk.i64_in _ (by omega)
      have n0 : (4 * (i : Int)).toNat = 4 * i := by omega
      generalize z.list.getD i 0 = x at *
      go_wp2_with fail
      go_region_held3 (fun _ => True) (trivial)
        (first
          | (go_at_call 20; refine (high4_any _ _).mono ?_; rintro e w8 ⟨rfl, hr8, hb8⟩; rw [be_length]; rw [be4_wrap'] at hr8; obtain ⟨w9, hcp, hr9, ho9⟩ := copy4 (b := wr.heap.size) (o := 4 * i) (HROW.out.drew.below hb8 HROW.out.lt) (outZ_length z hi) (by omega) hr8))
      rw [HST.out] at hr9
      have hb9 : Below w6.heap.size w6 w9 := (HBW.out.trans ((below_of_drew hb8).mono HBW.out.size)).trans (ho9.below (Nat.le_refl _) (Nat.le_trans HBW.out.size hb8.size))
      have HR9 := Lib.hid hr9
      have HB9 := Lib.hid hb9
      clear hcp hr9 ho9 hb8 hr8 hb9
      go_wp2_with fail
      case roundEnd =>
        refine ⟨⟨i + 1, by omega, rfl, HR9.out, HB9.out⟩, ?_⟩
        change 8 - ((i : Int) + 1).toNat < 8 - (i : Int).toNat; omega
    · obtain rfl : i = 8 := by omega
      have hlt2 : ¬ ((8 : Nat) : Int) < 8 := by omega
      rw [outZ_full] at hrow
      have hlen : (u8s (outL z)).length = 32 := by rw [u8s_length, ← outZ_full, outZ_length z (Nat.le_refl _)]
      have hres : Row wr w.heap.size (u8s (List.replicate 32 0)) := HRES.out.below hbw HRES.out.lt
      have hbase : Below w.heap.size w wr := HB06.out.trans (hbw.mono HB06.out.size)
      have HLEN := Lib.hid hlen
      have HRNG := Lib.hid hrow.range
      have HTH : Hid (wr.there w.heap.size 0 (u8s (outL z)).toArray.size) := Lib.hid (hres.there _ (by rw [List.size_toArray, hlen]; decide))
      have HFIN := Lib.hid (hres.over (vs := u8s (outL z)) (by rw [hlen]; rfl))
      have HBF := Lib.hid (below_setCells (Nat.le_refl _) (u8s (outL z)) 0 w wr hbase)
      clear hrow hbw hlen hres hbase hlt hi
      go_wp2_with (first
        | (refine wpList_load_mid rfl 24 _ rfl w6.heap.size 0 rfl (u8s (outL z)) _ HRNG.out Tryd.underlying24 rfl (by rw [HLEN.out]; kernel_rfl) ?_)
        | (refine wpList_store_mid rfl 24 _ _ rfl w.heap.size 0 (u8s (outL z)).toArray rfl rfl HTH.out (by rw [List.size_toArray, HLEN.out]; kernel_rfl) (all_oneCell_toArray (u8s_one _)) ?_))
      obtain ⟨T, hT⟩ := HFIN.out
      exact bodyPost_ret (v := .agg (u8s (outL z)).toArray) (results_cell_row (p := 2) (ty := 24) rfl _ _ w.heap.size T _ _ _ rfl hT Tryd.underlying24 rfl (by rw [List.size_toArray, HLEN.out]; kernel_rfl)) rfl ⟨by rw [HZ.out], HBF.out⟩
end Go.Proofs.YtmnlebkpneeblaaDoor
