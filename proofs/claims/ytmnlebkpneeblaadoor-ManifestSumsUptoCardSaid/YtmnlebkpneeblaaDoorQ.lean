/- Walk of ManifestSums. Condition: the pieces are together not too long; the tables are as laid. -/
import Derived.Test.YtmnlebkpneeblaaDoorQ0
import Derived.Stop.BytesEq
namespace Go.Proofs.YtmnlebkpneeblaaDoor
open Go Go.RowKit

/-- Slices of bytes, as they came in. -/
structure Pieces (w : World) (pa : Option Addr) (ps : List (List UInt8)) : Prop where
  at_ : ∀ i p, ps[i]? = some p → ∃ v b o, pa = some ⟨b, o, none⟩ ∧ b < w.heap.size ∧ w.cell? ⟨b, o + i, none⟩ = some v ∧ Src8 w v p
theorem Pieces.below {w w' : World} {pa : Option Addr} {ps : List (List UInt8)} (h : Pieces w pa ps) (hb : Below w.heap.size w w') : Pieces w' pa ps :=
  ⟨fun i p hp => by
    obtain ⟨v, b, o, e, h1, h2, h3⟩ := h.at_ i p hp
    exact ⟨v, b, o, e, Nat.lt_of_lt_of_le h1 hb.size, (hb.cell (p := ⟨b, o + i, none⟩) h1).trans h2, h3.below hb⟩⟩

theorem size5 (w : World) : (sizeOf 5).run Tryd.prog w = .ok 1 w := by kernel_rfl
theorem eql24 (w : World) (x y : List UInt8) (hx : x.length = 32) (hy : y.length = 32) : (binOp .eql 24 (.agg (u8s x).toArray) (.agg (u8s y).toArray)).run Tryd.prog w = .ok (.bool (x == y)) w :=
  run_eql_bytes (P := Tryd.prog) w 24 5 32 Tryd.underlying24 Tryd.underlying5 size5 x y hx hy
theorem neq24 (w : World) (x y : List UInt8) (hx : x.length = 32) (hy : y.length = 32) : (binOp .neq 24 (.agg (u8s x).toArray) (.agg (u8s y).toArray)).run Tryd.prog w = .ok (.bool (!(x == y))) w := by
  rw [run_neq_struct]
  have := run_equalIn_bytes (P := Tryd.prog) w 9998 24 5 32 Tryd.underlying24 Tryd.underlying5 size5 x y hx hy
  show ((Op.equalIn 10000 24 (.agg (u8s x).toArray) (.agg (u8s y).toArray)).run Tryd.prog w).andThen _ = _
  unfold u8s
  rw [show (Op.equalIn 10000 24 (.agg (x.map fun b => Value.int .u8 b.toNat).toArray) (.agg (y.map fun b => Value.int .u8 b.toNat).toArray)).run Tryd.prog w = .ok (x == y) w from this]
  rfl

theorem wpAnyH_only {md : Region.Mode} {ops : Array Oper} {Q : Exit → Act → World → Prop} {S : World → Prop} {i : Nat} {o : Oper} {fuel : Nat} {listed : Array Bool} {a : Act} {w : World} (ho : ops[i]? = some o) (hr : Region.ready md ops listed = [i]) (hw : Region.wanted o (yielded ops a.tmps) = true)
    (h : ∀ K : Act → World → Prop, (∀ a w, S w → wpAnyH Tryd.prog md ops Q S fuel (listed.setIfInBounds i true) a w → K a w) → o.wp Tryd.prog a w K Q) : wpAnyH Tryd.prog md ops Q S (fuel + 1) listed a w :=
  wpAnyH_all hr (by simp) fun j hj => by
    obtain rfl : j = i := by simpa using hj
    exact wpOp_step ho fun K hK => by
      rw [if_pos hw]
      exact h K fun a w hS hW => hK a w ⟨hS, hW⟩
theorem G8.appL {B : Nat} {w0 w w' : World} {v v' : Value} {l m : List UInt8} (h : G8 B w0 w v l) (o : Obj) (ho : w'.ownsRow 0 5 1 v' (l ++ m).length (u8s (l ++ m))) (hg : (w.alloc o).grownBy w' v.ownBlock)
    (hn : ∀ g, v'.ownBlock = some g → v.ownBlock = some g ∨ w.heap.size + 1 ≤ g) : G8 B w0 w' v' (l ++ m) := by
  have hb := (h.below.alloc h.size o).grown hg (by have := h.size; simp; omega) h.blk
  refine ⟨ho, hb, fun g hg' => ?_, ?_⟩
  · rcases hn g hg' with k | k
    · exact h.blk g k
    · have := h.size; omega
  · have := hg.size; have := h.size; simp at *; omega
/-- A new slice of three bytes is a source. -/
theorem src_three (w : World) : Src8 (w.alloc (.cells #[.int .u8 1, .int .u8 2, .int .u8 3] 5)) (.slice (some ⟨w.heap.size, 0, none⟩) 3 3) [1, 2, 3] :=
  .inr ⟨w.heap.size, 0, 3, rfl, by simp, by simp, by omega, fun j b hj => by
    have hr := Row.new w [Value.int .u8 1, Value.int .u8 2, Value.int .u8 3] 5
    rw [Nat.zero_add]
    refine hr.cell j ?_
    have h2 : j < 3 := (List.getElem?_eq_some_iff.1 hj).1
    have : j = 0 ∨ j = 1 ∨ j = 2 := by omega
    rcases this with rfl | rfl | rfl
    · simp at hj; subst hj; rfl
    · simp at hj; subst hj; rfl
    · simp at hj; subst hj; rfl⟩
theorem cat_le (ps : List (List UInt8)) (i : Nat) : ((ps.take i).flatten).length ≤ (ps.map List.length).sum := by
  have h : ps.flatten.length = (ps.map List.length).sum := List.length_flatten
  rw [← h]
  conv => rhs; rw [← List.take_append_drop i ps]
  rw [List.flatten_append, List.length_append]
  omega
theorem cat_snoc {ps : List (List UInt8)} {i : Nat} {p : List UInt8} (h : ps[i]? = some p) : (ps.take (i + 1)).flatten = (ps.take i).flatten ++ p := by
  rw [List.take_add_one, h, List.flatten_append]
  simp
/-- An own slice that is not empty: where it lies. -/
theorem Own8.some {w : World} {v : Value} {l : List UInt8} (h : Own8 w v l) (hl : 0 < l.length) : ∃ g c, v = .slice (some ⟨g, 0, none⟩) l.length c ∧ g < w.heap.size ∧ l.length ≤ c ∧ c ≤ 9223372036854775807 ∧ Rd8 w g 0 l := by
  rcases own_src h with ⟨_, _, rfl⟩ | ⟨g, o, c, rfl, h1, h2, h3, h4⟩
  · simp at hl
  · rcases h.2 with ⟨e, _⟩ | ⟨g', cap, cur, e, _⟩
    · cases e
    · injection e with e1 _ _
      injection e1 with e1
      injection e1 with e1 e2 _
      subst e1 e2
      exact ⟨_, _, rfl, h1, h2, h3, h4⟩
def BoolBelow (b : Bool) (w : World) (e : Ending) (w' : World) : Prop := e = .returned (.bool b) ∧ Below w.heap.size w w'

theorem heldTake {md : Region.Mode} {ops : Array Oper} {Q : Exit → Act → World → Prop} {S : World → Prop} (i d : Nat) {oi : Oper} (v : Value) {fuel : Nat} {listed : Array Bool} {a : Act} {w : World} (hi : ops[i]? = some oi) (hd : oi.dst = some d)
    (hs : Region.noSelect ops = true) (hf : Region.free md ops listed i = true) (hr : (Region.ready md ops listed).contains i = true)
    (hQ : ∀ c a w, Q (.panic c) (a.put oi.dst v) w → Q (.panic c) a w) (hy : YieldsIf Tryd.prog ops S oi v a) (hS : S w)
    (h : wpAnyH Tryd.prog md ops Q S fuel (listed.setIfInBounds i true) (a.put (some d) v) w) : wpAnyH Tryd.prog md ops Q S (fuel + 1) listed a w :=
  wpAnyH_take hi hs hf hr hQ hy hS (by rw [hd]; exact h)

set_option maxRecDepth 100000 in
set_option maxHeartbeats 8000000 in
theorem law_any (pa : Option Addr) (pc : Nat) (ps : List (List UInt8)) (s : List UInt8) (w : World) (hp : Pieces w pa ps) (hpn : ps = [] → pa = none ∨ pa ≠ none) (hs : s.length = 32) (hk : Laid w)
    (hb : (ps.map List.length).sum ≤ 1048576) (hn : ps.length ≤ 1048576) : Calls Tryd.prog 3 #[.slice pa ps.length pc, .agg (u8s s).toArray] w (BoolBelow true w) := by
  have hr0 := Row.new w (u8s s) 24
  have hb0 := (Below.refl w.heap.size w).alloc (Nat.le_refl _) (.cells (u8s s).toArray 24)
  have hsz0 : (w.alloc (.cells (u8s s).toArray 24)).heap.size = w.heap.size + 1 := by simp
  have HR0 := Lib.hid hr0
  have HB0 := Lib.hid hb0
  have HSZ0 := Lib.hid hsz0
  have HP := Lib.hid hp
  have HK := Lib.hid hk
  have HS := Lib.hid hs
  have HBB := Lib.hid hb
  clear hr0 hb0 hsz0 hp hk hs hb hpn
  go_enter Tryd.func3, Tryd.ntmps3
  go_wp2_with fail
  generalize w.alloc (.cells (u8s s).toArray 24) = w0 at *
  refine (New_any w0 (HK.out.below HB0.out HK.out.two).squares).mono ?_
  rintro e w1 ⟨q, rq, rfl, hq, hb1, hnew⟩
  have hr1 : Row w1 w.heap.size (u8s s) := HR0.out.below hb1 HR0.out.lt
  have HRNG : Hid (w1.rangeAt w.heap.size 0 (u8s s)) := Lib.hid hr1.range
  have HQ := Lib.hid hq
  have HB1 := Lib.hid hb1
  have HNEW := Lib.hid hnew
  clear hq hb1 hnew hr1
  have hlen : (u8s s).length = 32 := by rw [u8s_length, HS.out]
  have hone := u8s_one s
  have hinfo : (Tryd.prog.info? 24).map (·.size) = some (u8s s).length := by rw [hlen]; kernel_rfl
  have hu24 := Tryd.underlying24
  have hx0 := HRNG.out
  go_wp2_with fail
  have hsl : w.heap.size < w1.heap.size := by have := HSZ0.out; have := HB1.out.size; omega
  refine wp_region_noPanic ?_
  refine wp_region_held_drew (S := fun w' => w'.rangeAt w.heap.size 0 (u8s s)) (by kernel_rfl) HRNG.out (fun _ => ?_)
  have hS : Hid (w1.drew.rangeAt w.heap.size 0 (u8s s)) := Lib.hid HRNG.out
  refine wpAnyH_take (i := 0) (v := ?_) rfl (by kernel_rfl) (by kernel_rfl) (by kernel_rfl) (fun _ _ _ h => h) ?_ (by exact hS.out) ?_
  rotate_left
  · (refine Or.inl ⟨by rfl, fun W hSw => ?_⟩; go_simp; try (with_reducible rfl))
  try simp only [Act.put, List.setIfInBounds_toArray, List.set_cons_zero, List.set_cons_succ]
  refine wpAnyH_take (i := 1) (v := ?_) rfl (by kernel_rfl) (by kernel_rfl) (by kernel_rfl) (fun _ _ _ h => h) ?_ (by exact hS.out) ?_
  rotate_left
  · (refine Or.inl ⟨by rfl, fun W hSw => ?_⟩; go_simp; try (with_reducible rfl))
  try simp only [Act.put, List.setIfInBounds_toArray, List.set_cons_zero, List.set_cons_succ]
  refine wpAnyH_take (i := 2) (v := ?_) rfl (by kernel_rfl) (by kernel_rfl) (by kernel_rfl) (fun _ _ _ h => h) ?_ (by exact hS.out) ?_
  rotate_left
  · (refine Or.inl ⟨by rfl, fun W hSw => ?_⟩; go_simp; try (with_reducible rfl))
  try simp only [Act.put, List.setIfInBounds_toArray, List.set_cons_zero, List.set_cons_succ]
  refine wpAnyH_take (i := 3) (v := .agg (u8s s).toArray) rfl (by kernel_rfl) (by kernel_rfl) (by kernel_rfl) (fun _ _ _ h => h) ?_ (by exact hS.out) ?_
  · exact yieldsIf_load_mid (by rfl) 24 _ rfl w.heap.size 0 rfl (u8s s) _ (fun _ h => h) hu24 rfl hinfo
  try simp only [Act.put, List.setIfInBounds_toArray, List.set_cons_zero, List.set_cons_succ]
  refine wpAnyH_take (i := 5) (v := .agg (u8s s).toArray) rfl (by kernel_rfl) (by kernel_rfl) (by kernel_rfl) (fun _ _ _ h => h) ?_ (by exact hS.out) ?_
  · exact yieldsIf_load_mid (by rfl) 24 _ rfl w.heap.size 0 rfl (u8s s) _ (fun _ h => h) hu24 rfl hinfo
  try simp only [Act.put, List.setIfInBounds_toArray, List.set_cons_zero, List.set_cons_succ]
  refine wpAnyH_only (i := 4) rfl (by kernel_rfl) (by rfl) (fun K hK => ?_)
  go_simp
  refine (Hex_any s _ HS.out).mono ?_
  rintro e w2 ⟨rfl, hb2⟩
  have hS2 : Hid (w2.rangeAt w.heap.size 0 (u8s s)) := Lib.hid fun j v hj => (hb2.cell (p := ⟨w.heap.size, 0 + j, none⟩) hsl).trans (HRNG.out j v hj)
  have HB2 := Lib.hid (below_of_drew hb2)
  refine hK _ _ hS2.out ?_
  clear hK K hb2 hS
  try simp only [Act.put, List.setIfInBounds_toArray, List.set_cons_zero, List.set_cons_succ]
  refine wpAnyH_only (i := 6) rfl (by kernel_rfl) (by rfl) (fun K hK => ?_)
  go_simp
  refine (HexR_any s _ HS.out).mono ?_
  rintro e w3 ⟨rfl, hb3⟩
  have hS3 : Hid (w3.rangeAt w.heap.size 0 (u8s s)) := Lib.hid fun j v hj => (hb3.cell (p := ⟨w.heap.size, 0 + j, none⟩) (Nat.lt_of_lt_of_le hsl HB2.out.size)).trans (hS2.out j v hj)
  have HB3 := Lib.hid hb3
  refine hK _ _ hS3.out ?_
  clear hK K hb3 hS2
  try simp only [Act.put, List.setIfInBounds_toArray, List.set_cons_zero, List.set_cons_succ]
  refine wpAnyH_take (i := 7) (v := ?_) rfl (by kernel_rfl) (by kernel_rfl) (by kernel_rfl) (fun _ _ _ h => h) ?_ (by exact hS3.out) ?_
  rotate_left
  · (refine Or.inl ⟨by rfl, fun W hSw => ?_⟩; go_simp; try (with_reducible rfl))
  try simp only [Act.put, List.setIfInBounds_toArray, List.set_cons_zero, List.set_cons_succ]
  refine wpAnyH_take (i := 8) (v := ?_) rfl (by kernel_rfl) (by kernel_rfl) (by kernel_rfl) (fun _ _ _ h => h) ?_ (by exact hS3.out) ?_
  rotate_left
  · (refine Or.inl ⟨by rfl, fun W hSw => ?_⟩; go_simp; try (with_reducible rfl))
  try simp only [Act.put, List.setIfInBounds_toArray, List.set_cons_zero, List.set_cons_succ]
  refine wpAnyH_done (by kernel_rfl) (NoPanic.normal ?_) _
  go_wp2_with fail
  have hb03 : Below w.heap.size w w1 := HB0.out.trans (HB1.out.mono HB0.out.size)
  have hb3 : Below w.heap.size w w3 := (hb03.trans (HB2.out.mono hb03.size)).trans (HB3.out.mono (Nat.le_trans hb03.size HB2.out.size))
  have hst : LawSt w.heap.size w w3 q rq (.slice none 0 0) [] := by
    refine ⟨?_, World.ownsRow_nil _ _ _ _, hb3, fun x hx => by have := HNEW.out x hx; have := HSZ0.out; omega, fun x hx => by cases hx⟩
    rw [absorb_lt (by simp)]
    exact (HQ.out.below HB2.out).below HB3.out
  have HST := Lib.hid hst
  clear hb03 hb3 hst hx0 hone hinfo hu24 hsl hlen
  go_loopw [5, 6, 7] (fun hv av iv wr => ∃ (i p : Nat) (rv : Value) (a : Option Addr) (c : Nat), i ≤ ps.length ∧ hv = .pointer (some ⟨p, 0, none⟩) ∧ iv = .int .i64 i ∧ av = .slice a ((ps.take i).flatten).length c ∧ LawSt w.heap.size w wr p rv (.slice a ((ps.take i).flatten).length c) ((ps.take i).flatten)) (fun _ _ iv _ => ps.length - (RowKit.intOf iv).toNat)
  case atStart => exact ⟨0, q, rq, none, 0, Nat.zero_le _, rfl, rfl, rfl, HST.out⟩
  case round =>
    obtain ⟨i, p, rv, aa, ac, hi, rfl, rfl, rfl, hst⟩ := hrel
    have hall := Nat.le_trans (cat_le ps i) HBB.out
    by_cases hlt : i < ps.length
    · obtain ⟨x, hx⟩ : ∃ x, ps[i]? = some x := ⟨_, List.getElem?_eq_getElem hlt⟩
      have hcat := cat_snoc hx
      have hcl := Nat.le_trans (cat_le ps (i + 1)) HBB.out
      rw [hcat, List.length_append] at hcl
      obtain ⟨xv, pb, po, rfl, hpb, hpcw, hxw⟩ := HP.out.at_ i x hx
      obtain ⟨xa, xc, rfl⟩ := hxw.form
      have hpcell : wr.cell? ⟨pb, po + i, none⟩ = some (.slice xa x.length xc) := (hst.below.cell (p := ⟨pb, po + i, none⟩) hpb).trans hpcw
      have hxs := hxw.below (hst.below)
      have HPB := Lib.hid hpb
      replace hpb : pb < wr.heap.size := Nat.lt_of_lt_of_le hpb hst.below.size
      have HXW := Lib.hid hxw
      have HPCW := Lib.hid hpcw
      generalize (ps.take i).flatten = all at *
      have HCAT := Lib.hid hcat
      have HX := Lib.hid hx
      have HST2 := Lib.hid hst
      have HXS := Lib.hid hxs
      clear hcat hx hst hxs hxw hpcw
      have hlt' : (i : Int) < (ps.length : Int) := by omega
      have h0 : (0 : Int) ≤ (i : Int) := by omega
      have HE := Lib.hid (own_empty wr)
      have HBE := Lib.hid ((Below.refl wr.heap.size wr).alloc (Nat.le_refl _) (.cells #[] 5))
      have HSE := Lib.hid (HXS.out.below HBE.out)
      go_wp2_with (at_builtin; refine wpList_app8 rfl _ _ rfl rfl _ [] rfl HE.out _ x rfl HSE.out (by simp; omega) ?_)
      intro v4 w4 ho4 hgr4 hnew4 _
      have hg4 : G8 wr.heap.size wr w4 v4 x := by
        refine ⟨ho4, HBE.out.grown hgr4 (by simp) (fun k hk => by injection hk with hk; exact Nat.le_of_eq hk), fun g hg => ?_, ?_⟩
        · rcases hnew4 g hg with h | h
          · injection h with h; exact Nat.le_of_eq h
          · omega
        · have := hgr4.size; simp at this; omega
      obtain ⟨a4, c4, rfl⟩ := own_form hg4.own
      have HG4 := Lib.hid hg4
      have HO4 := Lib.hid (hg4.ownA (.cells #[.int .u8 1, .int .u8 2, .int .u8 3] 5))
      have HS4 := Lib.hid (src_three w4)
      clear ho4 hgr4 hnew4 hg4 HE HBE HSE
      go_wp2_with (at_builtin; refine wpList_app8 rfl _ _ rfl rfl _ x rfl HO4.out _ [1, 2, 3] rfl HS4.out (by simp; omega) ?_)
      intro v5 w5 ho5 hgr5 hnew5 _
      have hg5 : G8 wr.heap.size wr w5 v5 (x ++ [1, 2, 3]) := HG4.out.appL _ (by rw [List.length_append]; exact ho5) hgr5 hnew5
      obtain ⟨gi, ci, rfl, hgi, hci1, hci2, hird⟩ := hg5.own.some (by simp)
      have hgi2 : wr.heap.size ≤ gi := hg5.blk gi rfl
      have HG5 := Lib.hid hg5
      have HIRD := Lib.hid hird
      have hxl : (x ++ [1, 2, 3]).length = x.length + 3 := by simp
      rw [hxl] at hci1
      rw [hxl]
      have HXL := Lib.hid hxl
      have hpc5 : w5.cell? ⟨pb, po + i, none⟩ = some (.slice xa x.length xc) := (hg5.below.cell (p := ⟨pb, po + i, none⟩) hpb).trans hpcell
      have hci3 : (x.length : Int) ≤ (ci : Int) := by omega
      have hx0 : (0 : Int) ≤ (x.length : Int) := by omega
      have hsrc5 : Src8 w5 (.slice (some ⟨gi, 0, none⟩) x.length ci) x := .inr ⟨gi, 0, ci, rfl, hgi, by omega, hci2, fun j b hj => HIRD.out j b (by rw [List.getElem?_append_left (List.getElem?_eq_some_iff.1 hj).1]; exact hj)⟩
      have HSRC5 := Lib.hid hsrc5
      have hb5 : Below w.heap.size w w5 := HST2.out.below.trans (hg5.below.mono HST2.out.below.size)
      have HB5 := Lib.hid hb5
      have HOF := Lib.hid (Of_any _ x w5 hsrc5 (fun g hg => by injection hg with hg; have h : gi = g := hg; rw [← h]; exact hgi) (by omega) (HK.out.below hb5 HK.out.two))
      clear ho5 hgr5 hnew5 hg5 hird hxl hsrc5 hb5 HO4 HS4 HG4 hpcell
      go_wp2_with fail
      refine HOF.out.mono ?_
      rintro e w6 ⟨rfl, hb6⟩
      have hz6 := Row.new w6 (u8s (List.replicate 32 0)) 24
      have hzl : (u8s (shaP x)).length = 32 := by rw [u8s_length]; exact sumL_length _ _ _
      have HZ6 := Lib.hid hz6
      have HZL := Lib.hid hzl
      have HB6 := Lib.hid hb6
      clear hz6 hzl hb6 HOF
      go_wp2_with (refine wpList_store_row rfl 24 _ _ rfl w6.heap.size (u8s (shaP x)) (u8s (List.replicate 32 0)) rfl rfl HZ6.out (by rw [HZL.out]; rfl) (by rw [HZL.out]; kernel_rfl) (u8s_one _) ?_)
      intro w7 h7 o7 z7
      have hz7 : w7.heap.size = w6.heap.size + 1 := z7
      have hb67 : Below w6.heap.size w6 w7 := ((Below.refl w6.heap.size w6).alloc (Nat.le_refl _) _).trans (o7.below (Nat.le_refl _) (by simp))
      have hb57 : Below w5.heap.size w5 w7 := HB6.out.trans (hb67.mono HB6.out.size)
      have hbr7 : Below wr.heap.size wr w7 := HG5.out.below.trans (hb57.mono HG5.out.size)
      have h67 := HB6.out.size
      have hbw7 : Below w.heap.size w w7 := HB5.out.trans (hb57.mono HB5.out.size)
      have hm7 : Mid w.heap.size w w7 p rv (.slice aa all.length ac) gi (x.length + 3) ci w6.heap.size all all (x ++ [1, 2, 3]) (shaP x) := by
        have hin7 := HG5.out.own.keep hb57
        rw [HXL.out] at hin7
        have hh := HST2.out.hash
        have ha := HST2.out.own
        have hg6 : gi < w6.heap.size := Nat.lt_of_lt_of_le hgi h67
        have hs5 := HG5.out.size
        have hsw := HST2.out.below.size
        refine ⟨hh.below hbr7, ha.keep hbr7, hin7, h7, hbw7, fun y hy => ?_, fun y hy => ?_, ⟨by omega, by omega⟩⟩
        · have := hh.lt hy
          have := HST2.out.hashB y hy
          omega
        · have := ha.lt hy
          obtain ⟨k1, k2⟩ := HST2.out.ownB y hy
          exact ⟨k1, by omega, by omega, k2⟩
      have HM7 := Lib.hid hm7
      clear h7 o7 z7 hz7 hb67 hb57 hbr7 h67 hm7 hbw7 hpc5 hgi HB6 HZ6 hgi2 HG5 HIRD HSRC5 HB5
      by_cases hpar : i % 2 = 1
      case' neg =>
        have hpt : (((i : Int) % 2) == 1) = false := by rw [beq_eq_false_iff_ne]; omega
        have hpc : w7.cell? ⟨pb, po + i, none⟩ = some (.slice xa x.length xc) := (HM7.out.below.cell (p := ⟨pb, po + i, none⟩) HPB.out).trans HPCW.out
        go_wp2_with fail
        have HM := HM7
        clear HM7
      case' pos =>
        have hpt : (((i : Int) % 2) == 1) = true := by rw [beq_iff_eq]; omega
        go_wp2_with fail
        refine (Clone_any p _ _ _ rv _ HM7.out.hash (by have := absorb_rest_le S8.begins all; omega)).mono ?_
        rintro e w8 ⟨p8, rv8, rfl, hh8, hb8, hnew8⟩
        have hm8 := HM7.out.clone hh8 hb8 hnew8
        have ho8 := HM7.out.keep hb8
        have HM8 := Lib.hid hm8
        have HO8 := Lib.hid ho8
        have hap : ∀ y, HashS p rv y → w.heap.size ≤ y ∧ ¬ HashS p8 rv8 y ∧ y ≠ gi ∧ y ≠ w6.heap.size ∧ (Value.slice aa all.length ac).ownBlock ≠ some y := fun y hy => by
          obtain ⟨k1, k2, k3⟩ := HM7.out.hashB y hy
          refine ⟨k1, fun k => ?_, k2, k3, fun k => (HM7.out.ownB y k).2.2.2 hy⟩
          have := hnew8 y k
          have := HM7.out.hash.lt hy
          omega
        have HAP := Lib.hid hap
        clear hh8 hb8 hnew8 hm8 ho8 hap
        have kc := fun (w : World) (C : Array Value) (n c : Nat) => Lib.run_convert_bytes_const (P := Tryd.prog) w 28 5 C n c Tryd.underlying28 Tryd.underlying5
        go_wp2_with fail
        clear kc
        have hb9 : Below w8.heap.size w8 (w8.alloc (.cells (u8s way).toArray 5 (11, 12))) := (Below.refl _ _).alloc (Nat.le_refl _) _
        have hs9 := src_way w8
        have HM9 := Lib.hid (HM8.out.keep hb9)
        have HO9 := Lib.hid (HO8.out.keep hb9)
        have hz9 : gi < w8.heap.size := HM8.out.giLt
        change Calls Tryd.prog 9 #[.pointer (some ⟨p, 0, none⟩), .slice (some ⟨w8.heap.size, 0, none⟩) 11 11] (w8.alloc (.cells (u8s way).toArray 5 (11, 12))) _
        have hl8 := HO8.out.hash
        generalize w8.alloc (.cells (u8s way).toArray 5 (11, 12)) = w9 at *
        refine (Write_any p _ _ _ rv _ way w9 HO9.out.hash hs9 (fun g hg hs => ?c1) (by have := absorb_rest_le S8.begins all; show _ + 11 ≤ _; omega) (by omega) (by omega) (HK.out.below HM9.out.below HK.out.two).cubes (fun y hy => by have := HK.out.two; have := (HM7.out.hashB y hy).1; omega)).mono ?_
        case c1 =>
          have hg2 : w8.heap.size = g := Option.some.inj hg
          have := hl8.lt hs
          omega
        rintro e w10 ⟨rfl, rv10, hh10, hc10, hn10⟩
        have hm10 := HM9.out.other hc10 HAP.out
        have HM := Lib.hid hm10
        have hpc : w10.cell? ⟨pb, po + i, none⟩ = some (.slice xa x.length xc) := (HM.out.below.cell (p := ⟨pb, po + i, none⟩) HPB.out).trans HPCW.out
        clear hb9 hs9 HM9 HO9 hz9 hl8 hh10 hc10 hn10 hm10 HM7 HM8 HO8 HAP
        go_wp2_with fail
        clear hpc
      case' neg =>
        clear hpc
        obtain ⟨w10, rfl⟩ : ∃ w10 : World, w10 = w7 := ⟨_, rfl⟩
        obtain ⟨p8, rfl⟩ : ∃ p8 : Nat, p8 = p := ⟨_, rfl⟩
        obtain ⟨rv8, rfl⟩ : ∃ rv8 : Value, rv8 = rv := ⟨_, rfl⟩
      all_goals
        refine (Write_any p8 _ _ _ rv8 _ x w10 HM.out.hash HM.out.inn.front (fun g hg hs => (HM.out.hashB g hs).2.1 (by injection hg with hg; exact hg.symm)) (by have := absorb_rest_le S8.begins all; omega) (by omega) (by omega) (HK.out.below HM.out.below HK.out.two).cubes (fun y hy => by have := HK.out.two; have := (HM.out.hashB y hy).1; omega)).mono ?_
        rintro e w11 ⟨rfl, rv11, hh11, hc11, hn11⟩
        have hm11 := HM.out.write hh11 hc11 hn11
        have HM11 := Lib.hid hm11
        clear hh11 hc11 hn11 hm11 HM
        go_wp2_with fail
        refine wp_region_noPanic ?_
        refine wp_region_held_drew (S := fun W => Below w11.heap.size w11 W) (by kernel_rfl) (Below.refl _ _).drew (fun _ => ?_)
        have HSS : Hid (Below w11.heap.size w11 w11.drew) := Lib.hid (Below.refl _ _).drew
        refine heldTake 0 65 (?_) rfl rfl (by kernel_rfl) (by kernel_rfl) (by kernel_rfl) (fun _ _ _ h => h) ?_ (by exact HSS.out) ?_
        rotate_left
        · (refine Or.inl ⟨by rfl, fun W hSw => ?_⟩; go_simp; try (with_reducible rfl))
        try simp only [Act.put, List.setIfInBounds_toArray, List.set_cons_zero, List.set_cons_succ]
        refine heldTake 1 66 (.string ⟨(x ++ [1, 2, 3]).toArray⟩) rfl rfl (by kernel_rfl) (by kernel_rfl) (by kernel_rfl) (fun _ _ _ h => h) ?_ (by exact HSS.out) ?_
        · (refine Or.inl ⟨by rfl, fun W hSw => ?_⟩; have hcv := own_string (l := x ++ [1, 2, 3]) (c := ci) (a := some ⟨gi, 0, none⟩) (by rw [HXL.out]; exact HM11.out.inn.keep hSw); rw [HXL.out] at hcv; go_simp)
        try simp only [Act.put, List.setIfInBounds_toArray, List.set_cons_zero, List.set_cons_succ]
        refine heldTake 2 67 (?_) rfl rfl (by kernel_rfl) (by kernel_rfl) (by kernel_rfl) (fun _ _ _ h => h) ?_ (by exact HSS.out) ?_
        rotate_left
        · (refine Or.inl ⟨by rfl, fun W hSw => ?_⟩; go_simp; try (with_reducible rfl))
        try simp only [Act.put, List.setIfInBounds_toArray, List.set_cons_zero, List.set_cons_succ]
        refine heldTake 3 68 (?_) rfl rfl (by kernel_rfl) (by kernel_rfl) (by kernel_rfl) (fun _ _ _ h => h) ?_ (by exact HSS.out) ?_
        rotate_left
        · (refine Or.inl ⟨by rfl, fun W hSw => ?_⟩; go_simp; try (with_reducible rfl))
        try simp only [Act.put, List.setIfInBounds_toArray, List.set_cons_zero, List.set_cons_succ]
        refine heldTake 4 69 (?_) rfl rfl (by kernel_rfl) (by kernel_rfl) (by kernel_rfl) (fun _ _ _ h => h) ?_ (by exact HSS.out) ?_
        rotate_left
        · (refine Or.inl ⟨by rfl, fun W hSw => ?_⟩; go_simp; try (with_reducible rfl))
        try simp only [Act.put, List.setIfInBounds_toArray, List.set_cons_zero, List.set_cons_succ]
        refine heldTake 5 70 (.slice xa x.length xc) rfl rfl (by kernel_rfl) (by kernel_rfl) (by kernel_rfl) (fun _ _ _ h => h) ?_ (by exact HSS.out) ?_
        · (refine Or.inl ⟨by rfl, fun W hSw => ?_⟩; have hpc : W.cell? ⟨pb, po + i, none⟩ = some (.slice xa x.length xc) := ((HM11.out.below.trans (hSw.mono HM11.out.below.size)).cell (p := ⟨pb, po + i, none⟩) HPB.out).trans HPCW.out; go_simp)
        try simp only [Act.put, List.setIfInBounds_toArray, List.set_cons_zero, List.set_cons_succ]
        refine heldTake 6 71 (.string ⟨x.toArray⟩) rfl rfl (by kernel_rfl) (by kernel_rfl) (by kernel_rfl) (fun _ _ _ h => h) ?_ (by exact HSS.out) ?_
        · (refine Or.inl ⟨by rfl, fun W hSw => ?_⟩; have hcv := src_string (HXW.out.below (HM11.out.below.trans (hSw.mono HM11.out.below.size))); go_simp)
        try simp only [Act.put, List.setIfInBounds_toArray, List.set_cons_zero, List.set_cons_succ]
        refine heldTake 7 72 (.string ⟨(x ++ [1, 2, 3]).toArray⟩) rfl rfl (by kernel_rfl) (by kernel_rfl) (by kernel_rfl) (fun _ _ _ h => h) ?_ (by exact HSS.out) ?_
        · (refine Or.inl ⟨by rfl, fun W hSw => ?_⟩; rw [← bytes_cat]; go_simp; try omega)
        try simp only [Act.put, List.setIfInBounds_toArray, List.set_cons_zero, List.set_cons_succ]
        refine heldTake 8 73 (.bool false) rfl rfl (by kernel_rfl) (by kernel_rfl) (by kernel_rfl) (fun _ _ _ h => h) ?_ (by exact HSS.out) ?_
        · (refine Or.inl ⟨by rfl, fun W hSw => ?_⟩; have hne := neq_same W ⟨(x ++ [1, 2, 3]).toArray⟩ _ rfl; go_simp)
        try simp only [Act.put, List.setIfInBounds_toArray, List.set_cons_zero, List.set_cons_succ]
        refine heldTake 9 74 (?_) rfl rfl (by kernel_rfl) (by kernel_rfl) (by kernel_rfl) (fun _ _ _ h => h) ?_ (by exact HSS.out) ?_
        rotate_left
        · (refine Or.inl ⟨by rfl, fun W hSw => ?_⟩; go_simp; try (with_reducible rfl))
        try simp only [Act.put, List.setIfInBounds_toArray, List.set_cons_zero, List.set_cons_succ]
        refine heldTake 10 75 (.agg (u8s (shaP x)).toArray) rfl rfl (by kernel_rfl) (by kernel_rfl) (by kernel_rfl) (fun _ _ _ h => h) ?_ (by exact HSS.out) ?_
        · exact yieldsIf_load_mid (by rfl) 24 (.tmp 9) rfl w6.heap.size 0 rfl (u8s (shaP x)) _ (fun _ h => (HM11.out.one.below h HM11.out.one.lt).range) Tryd.underlying24 rfl (by rw [HZL.out]; kernel_rfl)
        try simp only [Act.put, List.setIfInBounds_toArray, List.set_cons_zero, List.set_cons_succ]
        refine heldTake 11 76 (?_) rfl rfl (by kernel_rfl) (by kernel_rfl) (by kernel_rfl) (fun _ _ _ h => h) ?_ (by exact HSS.out) ?_
        rotate_left
        · (refine Or.inl ⟨by rfl, fun W hSw => ?_⟩; go_simp; try (with_reducible rfl))
        try simp only [Act.put, List.setIfInBounds_toArray, List.set_cons_zero, List.set_cons_succ]
        refine heldTake 12 77 (?_) rfl rfl (by kernel_rfl) (by kernel_rfl) (by kernel_rfl) (fun _ _ _ h => h) ?_ (by exact HSS.out) ?_
        rotate_left
        · (refine Or.inl ⟨by rfl, fun W hSw => ?_⟩; go_simp; try (with_reducible rfl))
        try simp only [Act.put, List.setIfInBounds_toArray, List.set_cons_zero, List.set_cons_succ]
        refine heldTake 13 78 (?_) rfl rfl (by kernel_rfl) (by kernel_rfl) (by kernel_rfl) (fun _ _ _ h => h) ?_ (by exact HSS.out) ?_
        rotate_left
        · (refine Or.inl ⟨by rfl, fun W hSw => ?_⟩; go_simp; try (with_reducible rfl))
        try simp only [Act.put, List.setIfInBounds_toArray, List.set_cons_zero, List.set_cons_succ]
        refine heldTake 14 79 (.slice xa x.length xc) rfl rfl (by kernel_rfl) (by kernel_rfl) (by kernel_rfl) (fun _ _ _ h => h) ?_ (by exact HSS.out) ?_
        · (refine Or.inl ⟨by rfl, fun W hSw => ?_⟩; have hpc : W.cell? ⟨pb, po + i, none⟩ = some (.slice xa x.length xc) := ((HM11.out.below.trans (hSw.mono HM11.out.below.size)).cell (p := ⟨pb, po + i, none⟩) HPB.out).trans HPCW.out; go_simp)
        try simp only [Act.put, List.setIfInBounds_toArray, List.set_cons_zero, List.set_cons_succ]
        refine wpAnyH_only (i := 15) rfl (by kernel_rfl) (by rfl) (fun K hK => ?_)
        go_simp
        refine (OfR_any _ x _ (HXW.out.below (HM11.out.below.trans (HSS.out.mono HM11.out.below.size))) (by omega)).mono ?_
        rintro e w12 ⟨rfl, hb12⟩
        have hs12 : Below w11.heap.size w11 w12 := HSS.out.trans (hb12.mono HSS.out.size)
        clear HSS
        have HSS := Lib.hid hs12
        refine hK _ _ HSS.out ?_
        clear hK K hb12 hs12
        try simp only [Act.put, List.setIfInBounds_toArray, List.set_cons_zero, List.set_cons_succ]
        refine heldTake 16 81 (.bool false) rfl rfl (by kernel_rfl) (by kernel_rfl) (by kernel_rfl) (fun _ _ _ h => h) ?_ (by exact HSS.out) ?_
        · (refine Or.inl ⟨by rfl, fun W hSw => ?_⟩; have hne := eqIn24 W (shaP x) (by have := HZL.out; rwa [u8s_length] at this); go_simp)
        try simp only [Act.put, List.setIfInBounds_toArray, List.set_cons_zero, List.set_cons_succ]
        refine heldTake 17 82 (?_) rfl rfl (by kernel_rfl) (by kernel_rfl) (by kernel_rfl) (fun _ _ _ h => h) ?_ (by exact HSS.out) ?_
        rotate_left
        · (refine Or.inl ⟨by rfl, fun W hSw => ?_⟩; go_simp; try (with_reducible rfl))
        try simp only [Act.put, List.setIfInBounds_toArray, List.set_cons_zero, List.set_cons_succ]
        refine wpAnyH_done (by kernel_rfl) (NoPanic.normal ?_) _
        have HM12 := Lib.hid (HM11.out.keep HSS.out)
        clear HSS HM11
        go_wp2_with fail
        have hin0 := HM12.out.inn
        have HN0 := Lib.hid hin0
        obtain ⟨wo, hwo⟩ : ∃ wo : World, wo = wr := ⟨_, rfl⟩
        subst hwo
        clear hin0
        go_loopw [11] (fun kv wr => ∃ (k : Nat) (l : List UInt8), k ≤ x.length + 3 ∧ kv = .int .i64 k ∧ l.length = x.length + 3 ∧ Own8 wr (.slice (some ⟨gi, 0, none⟩) (x.length + 3) ci) l ∧ Chg (fun b => b = gi) w12 wr) (fun kv _ => x.length + 3 - (RowKit.intOf kv).toNat)
        case atStart => exact ⟨0, x ++ [1, 2, 3], Nat.zero_le _, rfl, HXL.out, HN0.out, Chg.refl _ _⟩
        case round =>
          obtain ⟨k, l, hk, rfl, hl, hown, hchg⟩ := hrel
          by_cases hlk : k < x.length + 3
          · have hlk2 : (k : Int) < ((x.length + 3 : Nat) : Int) := by omega
            have hlk3 : (k : Int) < (x.length : Int) + 3 := by omega
            have h0k : (0 : Int) ≤ (k : Int) := by omega
            have hown1 : wr.ownsRow 0 5 1 (.slice (some ⟨gi, 0, none⟩) (x.length + 3) ci) (x.length + 3) (u8s l) := by
              unfold Own8 at hown
              rw [hl] at hown
              exact hown
            have f0 := World.ownsRow.frozenAt hown1 k
            have c0 := World.ownsRow.cells hown1 (g := gi) rfl k _ (u8s_at (l := l) (j := k) (by omega))
            rw [Addr.add_mid, Nat.zero_add] at c0
            have hown2 := (World.ownsRow.stored hown1 k (.int .u8 238)).1
            have hchg2 : Chg (fun b => b = gi) w12 (wr.setCell ⟨gi, k, none⟩ (.int .u8 238)) := by
              refine hchg.trans ⟨rfl, rfl, rfl, by simp [World.setCell], fun j hj hn => heap_setCell_other wr ⟨gi, k, none⟩ j (.int .u8 238) hn⟩
            have HO2 : Hid (Own8 (wr.setCell ⟨gi, k, none⟩ (.int .u8 238)) (.slice (some ⟨gi, 0, none⟩) (x.length + 3) ci) (l.set k 238)) := Lib.hid (by
              unfold Own8
              rw [List.length_set, hl, u8s_set]
              exact hown2)
            have HC2 := Lib.hid hchg2
            have HLL := Lib.hid hl
            clear hown1
            clear hown hown2 hchg hchg2 hl
            go_wp2_with fail
            case roundEnd =>
              refine ⟨⟨k + 1, l.set k 238, by omega, rfl, by rw [List.length_set]; exact HLL.out, HO2.out, HC2.out⟩, ?_⟩
              change x.length + 3 - ((k : Int) + 1).toNat < x.length + 3 - (k : Int).toNat; omega
          · obtain rfl : k = x.length + 3 := by omega
            have hbr : Below w.heap.size w wr := HM12.out.below.trans (hchg.below HM12.out.below.size fun k hk => by rw [hk]; exact HM12.out.giB.1)
            have hpc : wr.cell? ⟨pb, po + i, none⟩ = some (.slice xa x.length xc) := (hbr.cell (p := ⟨pb, po + i, none⟩) HPB.out).trans HPCW.out
            have hall8 : Own8 wr (.slice aa all.length ac) all := HM12.out.own.of_block fun b hb => hchg.block b (HM12.out.own.lt hb) (HM12.out.ownB b hb).2.1
            have HAL := Lib.hid hall8
            have HSX := Lib.hid (HXW.out.below hbr)
            have HCH := Lib.hid hchg
            have HBR := Lib.hid hbr
            clear hown hchg hall8 hbr hl
            go_wp2_with (at_builtin; refine wpList_app8 rfl _ _ rfl rfl _ all rfl HAL.out _ x rfl HSX.out (by omega) ?_)
            intro v13 w13 ho13 hgr13 hnew13 _
            have hst13 : LawSt w.heap.size w w13 p8 rv11 v13 (all ++ x) := HM12.out.appended HCH.out (by rw [List.length_append]; exact ho13) hgr13 hnew13
            obtain ⟨a13, c13, rfl⟩ := own_form ho13
            have HST13 := Lib.hid hst13
            clear ho13 hgr13 hnew13 hst13 HAL HSX hpc
            have HB13 := Lib.hid (HST13.out.below.size)
            by_cases hm3 : i % 3 = 0
            · have hm3' : ((i : Int) % 3) = 0 := by omega
              have hm3b : (((i : Int) % 3) == 0) = true := by rw [beq_iff_eq]; exact hm3'
              go_wp2_with fail
              refine (Sum_any p8 _ _ _ rv11 w13 HST13.out.hash (by have := absorb_rest_le S8.begins (all ++ x); rw [List.length_append] at this; omega) (by omega) (by rw [List.length_append]; omega) (HK.out.below HST13.out.below HK.out.two)).mono ?_
              rintro e w14 ⟨rfl, hb14⟩
              change Below w13.heap.size w13 w14 at hb14
              rw [show sumL (absorb S8.begins (all ++ x)).1 (absorb S8.begins (all ++ x)).2 ((all ++ x).length : Nat) = shaP (all ++ x) from rfl]
              have hst14 := HST13.out.keep hb14 HB13.out
              have HST14 := Lib.hid hst14
              clear hb14 hst14
              have heq := fun (W : World) => eqIn24 W (shaP (all ++ x)) (sumL_length _ _ _)
              go_wp2_with fail
              refine (OfR_any _ (all ++ x) w14 (by have hh := own_src HST14.out.own; rw [← List.length_append] at hh ⊢; exact hh) (by rw [List.length_append]; omega)).mono ?_
              rintro e w15 ⟨rfl, hb15⟩
              have hst15 := HST14.out.keep hb15 (by have := HST14.out.below.size; omega)
              have HST15 := Lib.hid hst15
              clear hb15 hst15
              go_wp2_with fail
              case roundEnd =>
                have hst := HST15.out
                rw [← List.length_append] at hst ⊢
                have hcat := HCAT.out
                rw [← hcat] at hst ⊢
                refine ⟨⟨i + 1, p8, rv11, a13, c13, by omega, rfl, by rw [Int.natCast_add]; rfl, rfl, hst⟩, ?_⟩
                change ps.length - ((i : Int) + 1).toNat < ps.length - (i : Int).toNat; omega
            · have hm3' : ¬ ((i : Int) % 3) = 0 := by omega
              have hm3b : (((i : Int) % 3) == 0) = false := by rw [beq_eq_false_iff_ne]; exact hm3'
              go_wp2_with fail
              case roundEnd =>
                have hst := HST13.out
                rw [← List.length_append] at hst ⊢
                have hcat := HCAT.out
                rw [← hcat] at hst ⊢
                refine ⟨⟨i + 1, p8, rv11, a13, c13, by omega, rfl, by rw [Int.natCast_add]; rfl, rfl, hst⟩, ?_⟩
                change ps.length - ((i : Int) + 1).toNat < ps.length - (i : Int).toNat; omega
    · obtain rfl : i = ps.length := by omega
      rw [List.take_of_length_le (Nat.le_refl _)] at hst hall ⊢
      generalize ps.flatten = all at *
      have hlt' : ¬ (ps.length : Int) < (ps.length : Int) := by omega
      have HST2 := Lib.hid hst
      have HBW := Lib.hid hst.below.size
      clear hst
      go_wp2_with fail
      refine (Sum_any p _ _ _ rv wr HST2.out.hash (by have := absorb_rest_le S8.begins all; omega) (by omega) (by omega) (HK.out.below HST2.out.below HK.out.two)).mono ?_
      rintro e w4 ⟨rfl, hb4⟩
      rw [show sumL (absorb S8.begins all).1 (absorb S8.begins all).2 (all.length : Nat) = shaP all from rfl]
      have HST4 := Lib.hid (HST2.out.keep hb4 HBW.out)
      have HB4 := Lib.hid (Nat.le_trans HBW.out hb4.size)
      clear hb4
      have heq := fun (W : World) => eqIn24 W (shaP all) (sumL_length _ _ _)
      go_wp2_with fail
      refine (OfR_any _ all w4 (own_src HST4.out.own) (by omega)).mono ?_
      rintro e w5 ⟨rfl, hb5⟩
      have HST5 := Lib.hid (HST4.out.keep hb5 HB4.out)
      have HB5 := Lib.hid (Nat.le_trans HB4.out hb5.size)
      clear hb5
      go_wp2_with fail
      refine (Sum_any p _ _ _ rv w5 HST5.out.hash (by have := absorb_rest_le S8.begins all; omega) (by omega) (by omega) (HK.out.below HST5.out.below HK.out.two)).mono ?_
      rintro e w6 ⟨rfl, hb6⟩
      rw [show sumL (absorb S8.begins all).1 (absorb S8.begins all).2 (all.length : Nat) = shaP all from rfl]
      have HST6 := Lib.hid (HST5.out.keep hb6 HB5.out)
      have HB6 := Lib.hid (Nat.le_trans HB5.out hb6.size)
      clear hb6
      go_wp2_with fail
      refine (Of_any _ all w6 (own_src HST6.out.own) (fun g hg => HST6.out.own.lt hg) (by omega) (HK.out.below HST6.out.below HK.out.two)).mono ?_
      rintro e w7 ⟨rfl, hb7⟩
      have HST7 := Lib.hid (HST6.out.keep hb7 HB6.out)
      clear hb7
      go_wp2_with fail
      go_ret
      exact ⟨rfl, HST7.out.below⟩
end Go.Proofs.YtmnlebkpneeblaaDoor
