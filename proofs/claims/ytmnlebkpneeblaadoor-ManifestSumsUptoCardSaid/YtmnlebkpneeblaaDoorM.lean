/- Walk of the reference's Of. Condition: bounds. -/
import Derived.Test.YtmnlebkpneeblaaDoorL
namespace Go.Proofs.YtmnlebkpneeblaaDoor
open Go Go.RowKit

theorem Own8.base {w : World} {base : Nat} {v : Value} {l : List UInt8} (h : Own8 w v l) (hb : ∀ b, v.ownBlock = some b → base ≤ b) : w.ownsRow base 5 1 v l.length (u8s l) := ⟨h.1, by
  rcases h.2 with h | ⟨g, cap, cur, h1, _, h3⟩
  · exact .inl h
  · exact .inr ⟨g, cap, cur, h1, hb g (by rw [h1]; rfl), h3⟩⟩

theorem size_setCells (b : Nat) : ∀ (vs : List Value) (o : Nat) (w : World), (w.setCells b o vs).heap.size = w.heap.size
  | [], _, _ => rfl
  | v :: r, o, w => (size_setCells b r (o + 1) _).trans (by simp [World.setCell])
theorem only_setCells (b : Nat) : ∀ (vs : List Value) (o : Nat) (a w : World), Only b a w → Only b a (w.setCells b o vs)
  | [], _, _, _, h => h
  | v :: r, o, a, w, h => only_setCells b r (o + 1) a _ (h.setCell o v)
theorem wpList_store_row {ops : Array Oper} {rest : List Oper} {op : Oper} {a : Act} {w : World} {Q : Exit → Act → World → Prop} (hgd : op.guard = none) (ty : TypeId) (x y : Operand) (ho : op.op = .store ty x y)
    (b : Nat) (cs old : List Value) (hx : a.eval x = .pointer (some ⟨b, 0, none⟩)) (hy : a.eval y = .agg cs.toArray)
    (hr : Row w b old) (hl : cs.length = old.length) (hi : (Tryd.prog.info? ty).map (·.size) = some cs.length) (h1 : ∀ v ∈ cs, v.oneCell' = true)
    (h : ∀ w', Row w' b cs → Only b w w' → w'.heap.size = w.heap.size → wpList Tryd.prog ops Q rest (a.put op.dst undef) w') : wpList Tryd.prog ops Q (op :: rest) a w :=
  wpList_store_mid hgd ty x y ho b 0 cs.toArray hx hy (hr.there _ (by rw [List.size_toArray, hl]; exact Nat.le_refl _)) (by rw [List.size_toArray]; exact hi) (all_oneCell_toArray h1)
    (h _ (by rw [List.toList_toArray]; exact hr.over hl) (only_setCells b _ 0 w w (Only.refl b w)) (size_setCells b _ 0 w))
theorem own_empty (w : World) : Own8 (w.alloc (.cells #[] 5)) (.slice (some ⟨w.heap.size, 0, none⟩) 0 0) [] :=
  ⟨rfl, .inr ⟨w.heap.size, 0, #[], rfl, Nat.zero_le _, heap_alloc_new _ _, Nat.le_refl _, by unfold maxLen; omega, rfl, rfl⟩⟩
theorem Src8.below {w w' : World} {v : Value} {l : List UInt8} (h : Src8 w v l) (hb : Below w.heap.size w w') : Src8 w' v l := h.chg (Chg.of_below hb (fun _ => False)) (fun _ _ h => h)
theorem Own8.keep {w w' : World} {v : Value} {l : List UInt8} (h : Own8 w v l) (hb : Below w.heap.size w w') : Own8 w' v l := h.of_block fun b hv => hb.block b (h.lt hv)

/-- An own slice that grows: what lay below B is as it was. -/
structure G8 (B : Nat) (w0 w : World) (v : Value) (l : List UInt8) : Prop where
  own : Own8 w v l
  below : Below B w0 w
  blk : ∀ g, v.ownBlock = some g → B ≤ g
  size : B ≤ w.heap.size
theorem G8.app {B : Nat} {w0 w w' : World} {v v' : Value} {l : List UInt8} {x : UInt8} (h : G8 B w0 w v l) (o : Obj) (ho : w'.ownsRow 0 5 1 v' (l.length + 1) (u8s (l ++ [x]))) (hg : (w.alloc o).grownBy w' v.ownBlock)
    (hn : ∀ g, v'.ownBlock = some g → v.ownBlock = some g ∨ w.heap.size + 1 ≤ g) : G8 B w0 w' v' (l ++ [x]) := by
  have hb := (h.below.alloc h.size o).grown hg (by have := h.size; simp; omega) h.blk
  refine ⟨by unfold Own8; rw [List.length_append]; exact ho, hb, fun g hg' => ?_, ?_⟩
  · rcases hn g hg' with k | k
    · exact h.blk g k
    · have := h.size; omega
  · have := hg.size; have := h.size; simp at *; omega
theorem G8.ownA {B : Nat} {w0 w : World} {v : Value} {l : List UInt8} (h : G8 B w0 w v l) (o : Obj) : Own8 (w.alloc o) v l := h.own.keep ((Below.refl _ _).alloc (Nat.le_refl _) o)

theorem be_get : ∀ (s : Nat) (n : Int) (k : Nat), k < s → (be s n)[k]? = some (byteI (n / 256 ^ (s - 1 - k)))
  | 0, _, _, h => absurd h (Nat.not_lt_zero _)
  | s + 1, n, 0, _ => by rw [be_succ]; rfl
  | s + 1, n, k + 1, h => by
    rw [be_succ, List.getElem?_cons_succ, be_get s n k (by omega)]
    have e : s + 1 - 1 - (k + 1) = s - 1 - k := by omega
    rw [e]
theorem byte_shift (n k : Nat) (hk : k ≤ 7) : (n : Int) * 8 / 2 ^ (8 * (7 - k)) % 256 = ((byteI (8 * (n : Int) / 256 ^ (7 - k))).toNat : Int) := by
  rw [byteI_toNat]
  have e2 : (2 : Int) ^ (8 * (7 - k)) = 256 ^ (7 - k) := by rw [Int.pow_mul]; rfl
  rw [e2, Int.mul_comm]
theorem out_shift (x : Int) (j : Nat) (hj : j ≤ 3) : x / 2 ^ (24 - 8 * j) % 256 = ((byteI (x / 256 ^ (3 - j))).toNat : Int) := by
  rw [byteI_toNat]
  have e : 24 - 8 * j = 8 * (3 - j) := by omega
  have e2 : (2 : Int) ^ (8 * (3 - j)) = 256 ^ (3 - j) := by rw [Int.pow_mul]; rfl
  rw [e, e2]
def padded (b : List UInt8) (j : Nat) : List UInt8 := b ++ 128 :: List.replicate j 0
theorem padded_length (b : List UInt8) (j : Nat) : (padded b j).length = b.length + 1 + j := by unfold padded; simp; omega
theorem padded_snoc (b : List UInt8) (j : Nat) : padded b j ++ [0] = padded b (j + 1) := by
  unfold padded
  rw [List.append_assoc, List.cons_append, List.replicate_succ']
theorem padded_test (b : List UInt8) (j : Nat) (h : j ≤ padK b.length) : (((padded b j).length : Int) % 64 != 56) = decide (j < padK b.length) := by
  rw [padded_length]
  unfold padK at *
  by_cases hj : j < ((119 - (b.length : Int) % 64) % 64).toNat
  · rw [decide_eq_true hj, bne_iff_ne]
    omega
  · rw [decide_eq_false hj, bne_eq_false_iff_eq]
    omega

theorem absorb_append (v : S8) (l x : List UInt8) : absorb v (l ++ x) = absorb (absorb v l).1 ((absorb v l).2 ++ x) := by
  induction hn : l.length using Nat.strongRecOn generalizing v l with
  | ind n ih =>
    by_cases h : 64 ≤ l.length
    · rw [absorb_ge h, absorb_ge (l := l ++ x) (by rw [List.length_append]; omega), List.take_append_of_le_length h, List.drop_append_of_le_length h]
      exact ih (l.drop 64).length (by rw [List.length_drop]; omega) _ _ rfl
    · rw [absorb_lt h]
theorem shaP_eq (b : List UInt8) : shaP b = outL (absorb S8.begins (padded b (padK b.length) ++ be 8 (8 * b.length))).1 := by
  unfold shaP sumL
  have e : padded b (padK b.length) ++ be 8 (8 * (b.length : Int)) = b ++ (padL b.length ++ be 8 (8 * b.length)) := by unfold padded padL; simp
  rw [e, absorb_append S8.begins b]
theorem whole_mod (n : Nat) : (n + 1 + padK n + 8) % 64 = 0 := by unfold padK; omega

/-- The sum's bytes on the way: of number i so many. -/
def outJ (v : S8) (i j : Nat) : List UInt8 := (outZ v i).take (4 * i) ++ (be 4 (v.list.getD i 0)).take j ++ (outZ v i).drop (4 * i + j)
theorem outJ_zero (v : S8) (i : Nat) : outJ v i 0 = outZ v i := by unfold outJ; simp
theorem outJ_four (v : S8) {i : Nat} (h : i < 8) : outJ v i 4 = outZ v (i + 1) := by
  unfold outJ
  have e : (be 4 (v.list.getD i 0)).take 4 = be 4 (v.list.getD i 0) := List.take_of_length_le (by rw [be4_length]; exact Nat.le_refl _)
  rw [e, outZ_step v h]
theorem outJ_length (v : S8) {i j : Nat} (h : i < 8) (hj : j ≤ 4) : (outJ v i j).length = 32 := by
  unfold outJ
  rw [List.length_append, List.length_append, List.length_take, List.length_take, List.length_drop, be4_length, outZ_length v (by omega)]
  omega
theorem outJ_set (v : S8) {i j : Nat} (h : i < 8) (hj : j < 4) : (outJ v i j).set (4 * i + j) (byteI (v.list.getD i 0 / 256 ^ (3 - j))) = outJ v i (j + 1) := by
  have h32 := outZ_length v (i := i) (by omega)
  have hl : ((outZ v i).take (4 * i) ++ (be 4 (v.list.getD i 0)).take j).length = 4 * i + j := by
    rw [List.length_append, List.length_take, List.length_take, be4_length, h32]; omega
  unfold outJ
  rw [List.set_append_right _ _ (by omega), hl, Nat.sub_self, List.drop_eq_getElem_cons (by omega), List.set_cons_zero, List.take_add_one, be_get 4 _ j hj]
  simp [Nat.add_assoc]

theorem wpStill_load_mid {ops : Array Oper} {rest : List Oper} {o : Oper} {a : Act} {w : World} {Q : Act → Prop} (hgd : o.guard = none) (ty : TypeId) (x : Operand) (ho : o.op = .load ty x)
    (b off : Nat) (hx : a.eval x = .pointer (some ⟨b, off, none⟩)) (cs : List Value) (d : TypeDesc) (hc : w.rangeAt b off cs)
    (hu : Tryd.prog.underlying ty = some d) (hd : d.isRow = true) (hi : (Tryd.prog.info? ty).map (·.size) = some cs.length)
    (h : wpStill Tryd.prog ops w Q rest (a.put o.dst (.agg cs.toArray))) : wpStill Tryd.prog ops w Q (o :: rest) a :=
  wpStill_step fun K hK => by
    rw [if_pos (by simp [Region.wanted, hgd])]
    unfold Oper.still execOp
    simp only [ho, hx, Instr.loadAt, Instr.sureAddr, Sem.run_bind, Sem.run_pure, Result.andThen_ok, run_loadVar_mid w b off ty cs d hc hu hd hi]
    exact ⟨rfl, hK _ h⟩

def OfP (l : List UInt8) (w : World) (e : Ending) (w' : World) : Prop := e = .returned (.agg (u8s l).toArray) ∧ Below w.heap.size w w'

/-- A new slice of one byte is a source. -/
theorem src_one (w : World) (x : UInt8) : Src8 (w.alloc (.cells #[.int .u8 x.toNat] 5)) (.slice (some ⟨w.heap.size, 0, none⟩) 1 1) [x] :=
  .inr ⟨w.heap.size, 0, 1, rfl, by simp, by simp, by omega, fun j b hj => by
    have hj0 : j = 0 := by
      have := (List.getElem?_eq_some_iff.1 hj).1
      simp at this
      exact this
    subst hj0
    simp at hj
    subst hj
    exact (Row.new w [Value.int .u8 x.toNat] 5).cell 0 rfl⟩

set_option maxRecDepth 100000 in
set_option maxHeartbeats 4000000 in
theorem OfR_any (bv : Value) (b : List UInt8) (w : World) (hs : Src8 w bv b) (hl : b.length ≤ 549755813888) : Calls Tryd.prog 10 #[bv] w (OfP (shaP b) w) := by
  have hb0 : Below w.heap.size w (w.alloc (.cells (u8s (List.replicate 32 0)).toArray 24)) := (Below.refl _ _).alloc (Nat.le_refl _) _
  have HB0 := Lib.hid hb0
  have HR0 := Lib.hid (zeros24 w)
  have hsz : (w.alloc (.cells (u8s (List.replicate 32 0)).toArray 24)).heap.size = w.heap.size + 1 := by simp
  have HSZ := Lib.hid hsz
  have HS := Lib.hid hs
  obtain ⟨ba, bc, rfl⟩ := hs.form
  clear hb0 hsz hs
  go_enter Tryd.func10, Tryd.ntmps10
  go_wp2_with fail
  change Calls _ _ _ (w.alloc (.cells (u8s (List.replicate 32 0)).toArray 24)) _
  generalize w.alloc (.cells (u8s (List.replicate 32 0)).toArray 24) = w0 at *
  refine (begins_any w0).mono ?_
  rintro e w1 ⟨rfl, hb1⟩
  have HB1 := Lib.hid hb1
  clear hb1
  go_wp2_with fail
  refine (keys_any w1).mono ?_
  rintro e w2 ⟨rfl, hb2⟩
  have HB2 := Lib.hid hb2
  clear hb2
  have HZ3 : Hid ((w2.alloc (.cells (u32s (List.replicate 8 0)).toArray 34)).heap.size = w2.heap.size + 1) := Lib.hid (by simp)
  have HR3 := Lib.hid ((Row.new w2 (u32s (List.replicate 8 0)) 34).alloc (.cells (u32s (List.replicate 64 0)).toArray 40))
  have HR4 : Hid (Row ((w2.alloc (.cells (u32s (List.replicate 8 0)).toArray 34)).alloc (.cells (u32s (List.replicate 64 0)).toArray 40)) (w2.heap.size + 1) (u32s (List.replicate 64 0))) := Lib.hid (Row.new_at _ _ HZ3.out)
  have HB4 : Hid (Below w2.heap.size w2 ((w2.alloc (.cells (u32s (List.replicate 8 0)).toArray 34)).alloc (.cells (u32s (List.replicate 64 0)).toArray 40))) := Lib.hid (((Below.refl _ _).alloc (Nat.le_refl _) _).alloc (by rw [HZ3.out]; omega) _)
  have HZ4 : Hid (((w2.alloc (.cells (u32s (List.replicate 8 0)).toArray 34)).alloc (.cells (u32s (List.replicate 64 0)).toArray 40)).heap.size = w2.heap.size + 2) := Lib.hid (by simp)
  go_wp2_with (refine wpList_store_row rfl 34 _ _ rfl w2.heap.size (u32s S8.begins.list) (u32s (List.replicate 8 0)) rfl rfl HR3.out rfl (by kernel_rfl) (u32s_one _) ?_)
  intro w5 h5 o5 z5
  have HR5 : Hid (Row w5 (w2.heap.size + 1) (u32s (List.replicate 64 0))) := Lib.hid (HR4.out.of_block (o5.block _ HR4.out.lt (by omega)))
  have H5 := Lib.hid h5
  have O5 := Lib.hid o5
  have Z5 := Lib.hid z5
  clear h5 o5 z5
  go_wp2_with (refine wpList_store_row rfl 40 _ _ rfl (w2.heap.size + 1) (u32s Ks) (u32s (List.replicate 64 0)) rfl rfl HR5.out rfl (by kernel_rfl) (u32s_one _) ?_)
  intro w6 h6 o6 z6
  obtain ⟨H, hH⟩ : ∃ H, H = w2.heap.size := ⟨_, rfl⟩
  have hrH : Row w6 w2.heap.size (u32s S8.begins.list) := H5.out.of_block (o6.block _ H5.out.lt (by omega))
  have hz6 : w6.heap.size = w2.heap.size + 2 := z6.trans Z5.out
  have hb26 : Below w2.heap.size w2 w6 := (HB4.out.trans (O5.out.below (Nat.le_refl _) (Nat.le_trans (Nat.le_add_right _ 2) (Nat.le_of_eq HZ4.out.symm)))).trans (o6.below (by omega) (by have := Z5.out; omega))
  have hs0 := HSZ.out
  have hs1 := HB1.out.size
  have hs2 := HB2.out.size
  have hb02 : Below w.heap.size w w2 := (HB0.out.trans (HB1.out.mono (by omega))).trans (HB2.out.mono (by omega))
  have hres : Row w6 w.heap.size (u8s (List.replicate 32 0)) := ((HR0.out.below HB1.out (by omega)).below HB2.out (by omega)).below hb26 (by omega)
  have hb06 : Below w.heap.size w w6 := hb02.trans (hb26.mono (by omega))
  have hHw : w.heap.size < w2.heap.size := by omega
  have HRH := Lib.hid hrH
  have HRK := Lib.hid h6
  have HZ6 := Lib.hid hz6
  have HB06 := Lib.hid hb06
  have HRES := Lib.hid hres
  have HHW := Lib.hid hHw
  have HS6 := Lib.hid (HS.out.below hb06)
  rw [← hH] at HRH HRK HZ6 HHW ⊢
  clear h6 o6 z6 hrH hz6 hb26 hs0 hs1 hs2 hb02 hres hb06 hHw HR5 H5 O5 Z5 HB4 HZ4 HR3 HR4 HZ3 HB2 HB1 HB0 HR0 HSZ HS
  have HE := Lib.hid (own_empty w6)
  have HBE := Lib.hid ((Below.refl w6.heap.size w6).alloc (Nat.le_refl _) (.cells #[] 5))
  have HSE := Lib.hid (HS6.out.below HBE.out)
  go_wp2_with (at_builtin; refine wpList_app8 rfl _ _ rfl rfl _ [] rfl HE.out _ b rfl HSE.out (by simpa using (by omega : b.length ≤ 1099511627776)) ?_)
  intro v7 w7 ho7 hgr7 hnew7 _
  have hown7 : Own8 w7 v7 b := ho7
  have hb67 : Below w6.heap.size w6 w7 := HBE.out.grown hgr7 (by simp) (fun k hk => by injection hk with hk; exact Nat.le_of_eq hk)
  have hnb7 : ∀ g, v7.ownBlock = some g → w6.heap.size ≤ g := fun g hg => by
    rcases hnew7 g hg with h | h
    · injection h with h; exact Nat.le_of_eq h
    · omega
  obtain ⟨a7, c7, rfl⟩ := own_form hown7
  have H7 := Lib.hid (hown7.keep ((Below.refl w7.heap.size w7).alloc (Nat.le_refl _) (.cells #[.int .u8 128] 5)))
  have HB7 := Lib.hid hb67
  have H70 := Lib.hid hown7
  have HBN7 := Lib.hid ((Below.refl w7.heap.size w7).alloc (Nat.le_refl _) (.cells #[.int .u8 128] 5))
  have HN7 := Lib.hid hnb7
  have HS7 := Lib.hid (src_one w7 128)
  clear ho7 hgr7 hnew7 hown7 hb67 hnb7 HE HBE HSE
  go_wp2_with (at_builtin; refine wpList_app8 rfl _ _ rfl rfl _ b rfl H7.out _ [128] rfl HS7.out (by simp; omega) ?_)
  intro v8 w8 ho8 hgr8 hnew8 _
  have hg8 : G8 w6.heap.size w6 w8 v8 (padded b 0) :=
    G8.app (w := w7) ⟨H70.out, HB7.out, HN7.out, HB7.out.size⟩ _ ho8 hgr8 hnew8
  obtain ⟨a8, c8, e8⟩ := own_form hg8.own
  have HG8 := Lib.hid hg8
  have E8 := Lib.hid e8
  clear ho8 hgr8 hnew8 hg8 e8 H7 HB7 HN7 HS7 HBN7
  go_wp2
  go_loopw [5] (fun mv wr => ∃ j a c, j ≤ padK b.length ∧ mv = .slice a (padded b j).length c ∧ G8 w6.heap.size w6 wr (.slice a (padded b j).length c) (padded b j)) (fun mv _ => b.length + 1 + padK b.length - lenOfV mv)
  case atStart => exact ⟨0, a8, c8, Nat.zero_le _, E8.out, E8.out ▸ HG8.out⟩
  case round =>
    obtain ⟨j, ja, jc, hj, rfl, hg⟩ := hrel
    have ht := padded_test b j hj
    have h0 : (0 : Int) ≤ ((padded b j).length : Int) := by omega
    have HLN := Lib.hid (padded_length b j)
    have HSN := Lib.hid (padded_snoc b j)
    by_cases hlt : j < padK b.length
    · rw [decide_eq_true hlt] at ht
      generalize padded b j = l at *
      have HG := Lib.hid hg
      have HS := Lib.hid (src_one wr 0)
      have HO := Lib.hid (hg.ownA (.cells #[.int .u8 0] 5))
      have HPK := padK_lt b.length
      clear hg
      go_wp2_with (at_builtin; refine wpList_app8 rfl _ _ rfl rfl _ l rfl HO.out _ [0] rfl HS.out (by have := HLN.out; simp; omega) ?_)
      intro v9 w9 ho9 hgr9 hnew9 _
      have hg9 := HG.out.app _ ho9 hgr9 hnew9
      rw [HSN.out] at hg9
      obtain ⟨a9, c9, e9⟩ := own_form hg9.own
      have HG9 := Lib.hid hg9
      have E9 := Lib.hid e9
      clear ho9 hgr9 hnew9 hg9 e9
      go_wp2_with fail
      case roundEnd =>
        refine ⟨⟨j + 1, a9, c9, by omega, E9.out, E9.out ▸ HG9.out⟩, ?_⟩
        rw [E9.out]
        simp only [lenOfV]
        rw [padded_length, HLN.out]
        omega
    · rw [decide_eq_false hlt] at ht
      obtain rfl : j = padK b.length := by omega
      generalize hP : padded b (padK b.length) = P at *
      have HG := Lib.hid hg
      have HPD := Lib.hid hP
      clear hg hP hlt hj HSN
      go_wp2_with fail
      clear ht
      obtain ⟨wo, rfl⟩ : ∃ wo : World, wo = wr := ⟨_, rfl⟩
      have hT0 : P ++ (be 8 (8 * b.length)).take 0 = P := by simp
      go_loopw [5, 6] (fun mv iv wr => ∃ (k : Nat) (a : Option Addr) (c : Nat), k ≤ 8 ∧ iv = .int .i64 (7 - (k : Int)) ∧ mv = .slice a (P ++ (be 8 (8 * b.length)).take k).length c ∧ G8 w6.heap.size w6 wr (.slice a (P ++ (be 8 (8 * b.length)).take k).length c) (P ++ (be 8 (8 * b.length)).take k)) (fun _ iv _ => (RowKit.intOf iv + 1).toNat)
      case atStart =>
        refine ⟨0, ja, jc, by omega, rfl, ?_, ?_⟩
        · rw [hT0]
        · rw [hT0]; exact HG.out
      case round =>
        obtain ⟨k, ka, kc, hk, rfl, rfl, hg⟩ := hrel
        by_cases hlt : k < 8
        · have hlt' : (0 : Int) ≤ 7 - (k : Int) := by omega
          have hlt'' : (k : Int) ≤ 7 := by omega
          have HLN2 : Hid ((P ++ (be 8 (8 * b.length)).take k).length ≤ P.length + 8) := Lib.hid (by rw [List.length_append, List.length_take, be_length]; omega)
          have hsn : (P ++ (be 8 (8 * b.length)).take k) ++ [byteI (8 * (b.length : Int) / 256 ^ (7 - k))] = P ++ (be 8 (8 * b.length)).take (k + 1) := by
            rw [List.append_assoc, List.take_add_one, be_get 8 _ k hlt]
            rfl
          have eX := byte_shift b.length k (by omega)
          generalize P ++ (be 8 (8 * b.length)).take k = l at *
          generalize byteI (8 * (b.length : Int) / 256 ^ (7 - k)) = x at *
          have HSN := Lib.hid hsn
          clear hsn
          have e0 : IntKind.u64.wrap ((b.length : Nat) : Int) = b.length := by rw [IntKind.wrap_u64]; omega
          have e1 : IntKind.u64.wrap ((b.length : Int) * 8) = b.length * 8 := by rw [IntKind.wrap_u64]; omega
          have e2 : IntKind.i64.wrap (8 * (7 - (k : Int))) = 8 * (7 - k) := IntWalk.i64_in _ (by omega)
          have e3 : (0 : Int) ≤ 8 * (7 - (k : Int)) := by omega
          have e4 : 8 * (7 - (k : Int)) ≤ 64 := by omega
          have HG2 := Lib.hid hg
          have HS2 := Lib.hid (src_one wr x)
          have HO2 := Lib.hid (hg.ownA (.cells #[.int .u8 x.toNat] 5))
          have HPK := padK_lt b.length
          have HPL : Hid (P.length = b.length + 1 + padK b.length) := Lib.hid HLN.out
          clear hg
          go_wp2_with (at_builtin; refine wpList_app8 rfl _ _ rfl rfl _ l rfl HO2.out _ [x] rfl HS2.out (by have := HLN2.out; have := HPL.out; simp; omega) ?_)
          intro v9 w9 ho9 hgr9 hnew9 _
          have hg9 := HG2.out.app _ ho9 hgr9 hnew9
          rw [HSN.out] at hg9
          obtain ⟨a9, c9, e9⟩ := own_form hg9.own
          have HG9 := Lib.hid hg9
          have E9 := Lib.hid e9
          clear ho9 hgr9 hnew9 hg9 e9
          have e5 : IntKind.i64.wrap (7 - (k : Int) - 1) = 7 - ((k + 1 : Nat) : Int) := by rw [IntWalk.i64_in _ (by omega)]; omega
          go_wp2_with fail
          case roundEnd =>
            have ek : ((k + 1 : Nat) : Int) = k + 1 := by omega
            refine ⟨⟨k + 1, a9, c9, by omega, by rw [ek], E9.out, E9.out ▸ HG9.out⟩, ?_⟩
            change (7 - ((k : Int) + 1) + 1).toNat < (7 - (k : Int) + 1).toNat
            omega
        · obtain rfl : k = 8 := by omega
          have hlt' : ¬ (0 : Int) ≤ 7 - ((8 : Nat) : Int) := by omega
          have hT8 : P ++ (be 8 (8 * b.length)).take 8 = P ++ be 8 (8 * b.length) := by rw [List.take_of_length_le (by rw [be_length]; omega)]
          rw [hT8] at hg ⊢
          have hM64 : (P ++ be 8 (8 * (b.length : Int))).length % 64 = 0 := by rw [List.length_append, be_length, HLN.out]; exact whole_mod b.length
          have HX : Hid (shaP b = outL (absorb S8.begins (P ++ be 8 (8 * b.length))).1) := Lib.hid (by rw [shaP_eq, HPD.out])
          generalize P ++ be 8 (8 * (b.length : Int)) = M at *
          have HG2 := Lib.hid hg
          have HM := Lib.hid hM64
          clear hg hM64 hT8 hlt
          subst hH
          go_wp2_with fail
          clear hlt' hk
          have hb06 : Below w.heap.size w wr := HB06.out.trans (HG2.out.below.mono (by have := HZ6.out; have := HHW.out; omega))
          have hrH : Row wr w2.heap.size (u32s S8.begins.list) := HRH.out.below HG2.out.below (by have := HZ6.out; omega)
          have hrK : Row wr (w2.heap.size + 1) (u32s Ks) := HRK.out.below HG2.out.below (by have := HZ6.out; omega)
          have hrR : Row wr w.heap.size (u8s (List.replicate 32 0)) := HRES.out.below HG2.out.below HRES.out.lt
          have HB3 := Lib.hid hb06
          have HRH3 := Lib.hid hrH
          have HRK3 := Lib.hid hrK
          have HRR3 := Lib.hid hrR
          have HSR3 := Lib.hid (own_src HG2.out.own)
          have HBK3 := Lib.hid HG2.out.blk
          clear hb06 hrH hrK hrR
          obtain ⟨wo2, rfl⟩ : ∃ wo2 : World, wo2 = wr := ⟨_, rfl⟩
          go_loopw [5] (fun mv wr => ∃ m vk a c, mv = .slice a (List.length m) c ∧ Src8 wr (.slice a m.length c) m ∧ (∀ g, (Value.slice a m.length c).ownBlock = some g → w6.heap.size ≤ g) ∧ absorb vk m = absorb S8.begins M ∧ m.length % 64 = 0 ∧
            Row wr w2.heap.size (u32s vk.list) ∧ Row wr (w2.heap.size + 1) (u32s Ks) ∧ Row wr w.heap.size (u8s (List.replicate 32 0)) ∧ Below w.heap.size w wr) (fun mv _ => lenOfV mv)
          case atStart => exact ⟨M, S8.begins, ka, kc, rfl, HSR3.out, HBK3.out, rfl, HM.out, HRH3.out, HRK3.out, HRR3.out, HB3.out⟩
          case round =>
            obtain ⟨m, vk, sa, sc, rfl, hsm, hgm, habs, hm64, hrH, hrK, hrR, hbz⟩ := hrel
            by_cases hge : 64 ≤ m.length
            · obtain ⟨g, o, rfl, hg, hmc, hcm, hrd⟩ : ∃ g o, sa = some ⟨g, o, none⟩ ∧ g < wr.heap.size ∧ m.length ≤ sc ∧ sc ≤ 9223372036854775807 ∧ Rd8 wr g o m := by
                rcases hsm with ⟨_, _, rfl⟩ | ⟨g, o, c, e, h⟩
                · simp at hge
                · injection e with e1 _ e3
                  subst e1 e3
                  exact ⟨g, o, rfl, h⟩
              have hg6 : w6.heap.size ≤ g := hgm g rfl
              have hge' : (64 : Int) ≤ (m.length : Int) := by omega
              have hge0 : (0 : Int) < (m.length : Int) := by omega
              have hcge : (64 : Int) ≤ (sc : Int) := by omega
              have hrd64 : Rd8 wr g o (m.take 64) := fun j x hj => hrd j x (by
                rw [List.getElem?_take] at hj
                split at hj
                · exact hj
                · cases hj)
              have HT := Lib.hid (block_any vk Ks rfl g o sc (m.take 64) wr.drew (by rw [List.length_take]; omega) hg hrd64)
              have HAB := Lib.hid ((absorb_ge hge).symm.trans habs)
              have HRD := Lib.hid hrd
              have HG6 := Lib.hid hg6
              have HGE := Lib.hid hge
              have HM64 := Lib.hid hm64
              have x0 := hrH.cell 0 rfl
              have x1 := hrH.cell 1 rfl
              have x2 := hrH.cell 2 rfl
              have x3 := hrH.cell 3 rfl
              have x4 := hrH.cell 4 rfl
              have x5 := hrH.cell 5 rfl
              have x6 := hrH.cell 6 rfl
              have x7 := hrH.cell 7 rfl
              have HRH4 := Lib.hid hrH
              have HRK4 := Lib.hid hrK
              have HRR4 := Lib.hid hrR
              have HBZ4 := Lib.hid hbz
              clear hsm hgm habs hrH hrK hrR hbz hrd hrd64 hg6 hm64
              go_wp2_with fail
              go_still_tail 4, (by kernel_rfl)
              refine wpStill_load_mid rfl 40 _ rfl (w2.heap.size + 1) 0 rfl (u32s Ks) _ HRK4.out.range Tryd.underlying40 rfl (by kernel_rfl) ?_
              repeat still_step
              refine wpStill_nil ?_
              change wpList _ _ _ _ _ wr.drew
              go_wp2_with fail
              refine HT.out.mono ?_
              rintro e w3 ⟨rfl, hb3⟩
              have hb3' : Below wr.heap.size wr w3 := below_of_drew hb3
              have HR3' := Lib.hid (HRH4.out.below hb3' HRH4.out.lt)
              have HB3' := Lib.hid hb3'
              clear hb3 hb3' HT x0 x1 x2 x3 x4 x5 x6 x7
              go_wp2_with (refine wpList_store_row rfl 34 _ _ rfl w2.heap.size (u32s (vk.takes (m.take 64)).list) (u32s vk.list) rfl rfl HR3'.out rfl (by kernel_rfl) (u32s_one _) ?_)
              intro w4 h4 o4 z4
              have hz := HZ6.out
              have hhw := HHW.out
              have hg6' := HG6.out
              have hrd4 : Rd8 w4 g o m := fun j x hj => (World.cell?_of_block (w := w3) (w' := w4) (a := ⟨g, o + j, none⟩) (o4.block g (Nat.lt_of_lt_of_le hg HB3'.out.size) (by omega))).trans ((HB3'.out.cell (p := ⟨g, o + j, none⟩) hg).trans (HRD.out j x hj))
              have hg4 : g < w4.heap.size := by rw [z4]; exact Nat.lt_of_lt_of_le hg HB3'.out.size
              have hrK4 : Row w4 (w2.heap.size + 1) (u32s Ks) := by
                have h2 := HRK4.out.below HB3'.out HRK4.out.lt
                exact h2.of_block (o4.block _ h2.lt (by omega))
              have hrR4 : Row w4 w.heap.size (u8s (List.replicate 32 0)) := by
                have h2 := HRR4.out.below HB3'.out HRR4.out.lt
                exact h2.of_block (o4.block _ h2.lt (by omega))
              have hb4 : Below w.heap.size w w4 := (HBZ4.out.trans (HB3'.out.mono HBZ4.out.size)).trans (o4.below (by omega) (Nat.le_trans HBZ4.out.size HB3'.out.size))
              have HRH5 := Lib.hid h4
              have HRK5 := Lib.hid hrK4
              have HRR5 := Lib.hid hrR4
              have HBZ5 := Lib.hid hb4
              have HRD5 := Lib.hid hrd4
              clear h4 o4 z4 hz hhw hg6' hrd4 hrK4 hrR4 hb4 HR3' HB3' HRH4 HRK4 HRR4 HBZ4
              by_cases hc64 : sc = 64
              · subst hc64
                have hd : m.drop 64 = [] := List.drop_eq_nil_of_le (by omega)
                have HD64 := Lib.hid hd
                have HML : Hid (m.length = 64) := Lib.hid (by omega)
                clear hd
                go_wp2_with fail
                case roundEnd =>
                  rw [HML.out]
                  refine ⟨⟨m.drop 64, vk.takes (m.take 64), some ⟨g, o, none⟩, 0, by rw [HD64.out]; rfl, ?_, fun g' hg' => by injection hg' with hg'; rw [← hg']; exact HG6.out, HAB.out, by rw [HD64.out]; rfl, HRH5.out, HRK5.out, HRR5.out, HBZ5.out⟩, by show 0 < 64; decide⟩
                  rw [HD64.out]
                  exact .inr ⟨g, o, 0, rfl, hg4, Nat.le_refl _, by omega, fun j x hj => by simp at hj⟩
              · have hc64' : (64 : Int) < (sc : Int) := by omega
                go_wp2_with fail
                case roundEnd =>
                  refine ⟨⟨m.drop 64, vk.takes (m.take 64), some ⟨g, o + 64, none⟩, sc - 64, by rw [List.length_drop], ?_, fun g' hg' => by injection hg' with hg'; rw [← hg']; exact HG6.out, HAB.out, by rw [List.length_drop]; have := HM64.out; omega, HRH5.out, HRK5.out, HRR5.out, HBZ5.out⟩, by simp only [lenOfV]; omega⟩
                  refine .inr ⟨g, o + 64, sc - 64, rfl, hg4, by rw [List.length_drop]; omega, by omega, fun j x hj => ?_⟩
                  rw [List.getElem?_drop] at hj
                  have := HRD5.out _ x hj
                  rwa [← Nat.add_assoc] at this
            · have hm0 : m.length = 0 := by omega
              have hmn : m = [] := List.eq_nil_of_length_eq_zero hm0
              subst hmn
              have hx : absorb S8.begins M = (vk, []) := by rw [← habs, absorb_lt (by simp)]
              have HX2 : Hid (shaP b = outL vk) := Lib.hid (by rw [HX.out, hx])
              have x0 := hrH.cell 0 rfl
              have HRH6 := Lib.hid hrH
              have HRR6 := Lib.hid hrR
              have HBZ6 := Lib.hid hbz
              clear hsm hgm habs hrH hrK hrR hbz hm0 hx hge x0
              go_wp2_with fail
              obtain ⟨wa, rfl⟩ : ∃ wa : World, wa = wr := ⟨_, rfl⟩
              have HRS := Lib.hid (Row.new wa (u8s (outZ vk 0)) 24)
              have HBS := Lib.hid ((Below.refl wa.heap.size wa).alloc (Nat.le_refl _) (.cells (u8s (outZ vk 0)).toArray 24))
              go_loopw [8] (fun iv wr => ∃ i : Nat, i ≤ 8 ∧ iv = .int .i64 i ∧ Row wr wa.heap.size (u8s (outZ vk i)) ∧ Below wa.heap.size wa wr) (fun iv _ => 8 - (RowKit.intOf iv).toNat)
              case atStart => exact ⟨0, Nat.zero_le _, rfl, HRS.out, HBS.out⟩
              case round =>
                obtain ⟨i, hi, rfl, hrow, hbw⟩ := hrel
                by_cases hlt : i < 8
                · have hlt2 : (i : Int) < 8 := by omega
                  have h0 : (0 : Int) ≤ (i : Int) := by omega
                  have HROW := Lib.hid hrow
                  have HBW := Lib.hid hbw
                  clear hrow hbw
                  go_wp2_with fail
                  obtain ⟨wb, rfl⟩ : ∃ wb : World, wb = wr := ⟨_, rfl⟩
                  go_loopw [9] (fun jv wr => ∃ j : Nat, j ≤ 4 ∧ jv = .int .i64 j ∧ Row wr wa.heap.size (u8s (outJ vk i j)) ∧ Below wa.heap.size wa wr) (fun jv _ => 4 - (RowKit.intOf jv).toNat)
                  case atStart => exact ⟨0, Nat.zero_le _, rfl, by rw [outJ_zero]; exact HROW.out, HBW.out⟩
                  case round =>
                    obtain ⟨j, hj, rfl, hrj, hbj⟩ := hrel
                    by_cases hlj : j < 4
                    · have hlj2 : (j : Int) < 4 := by omega
                      have hj0 : (0 : Int) ≤ (j : Int) := by omega
                      have HSET := Lib.hid (outJ_set vk hlt hlj)
                      have x0 := (HRH6.out.below hbj HRH6.out.lt).cell i (u32s_at (l := vk.list) hlt)
                      have eX := out_shift (vk.list.getD i 0) j (by omega)
                      obtain ⟨u, hu⟩ : ∃ u, (u8s (outJ vk i j))[4 * i + j]? = some u := ⟨_, List.getElem?_eq_getElem (by rw [u8s_length, outJ_length vk hlt hj]; omega)⟩
                      have c0 := hrj.cell _ hu
                      have f0 := hrj.frozen (4 * i + j)
                      generalize vk.list.getD i 0 = x at *
                      have q0 : (0 : Int) ≤ 4 * (i : Int) + j := by omega
                      have q1 : 4 * (i : Int) + j < 32 := by omega
                      have e0 : IntKind.i64.wrap (4 * (i : Int)) = 4 * i := IntWalk.i64_in _ (by omega)
                      have e1 : IntKind.i64.wrap (4 * (i : Int) + j) = 4 * i + j := IntWalk.i64_in _ (by omega)
                      have e2 : IntKind.i64.wrap (8 * (j : Int)) = 8 * j := IntWalk.i64_in _ (by omega)
                      have e3 : IntKind.i64.wrap (24 - 8 * (j : Int)) = 24 - 8 * j := IntWalk.i64_in _ (by omega)
                      have q2 : (0 : Int) ≤ 24 - 8 * (j : Int) := by omega
                      have q3 : 24 - 8 * (j : Int) ≤ 32 := by omega
                      have n0 : (4 * (i : Int) + j).toNat = 4 * i + j := by omega
                      have n1 : (24 - 8 * (j : Int)).toNat = 24 - 8 * j := by omega
                      have HRJ := Lib.hid hrj
                      have HBJ := Lib.hid hbj
                      clear hrj hbj hu
                      go_wp2_with fail
                      case roundEnd =>
                        refine ⟨⟨j + 1, by omega, rfl, ?_, HBJ.out.setCell (Nat.le_refl _) _⟩, ?_⟩
                        · have h2 := HRJ.out.set (4 * i + j) (.int .u8 (byteI (x / 256 ^ (3 - j))).toNat)
                          have h3 : (u8s (outJ vk i j)).set (4 * i + j) (.int .u8 (byteI (x / 256 ^ (3 - j))).toNat) = u8s (outJ vk i (j + 1)) := by
                            rw [← HSET.out]
                            unfold u8s
                            rw [List.map_set]
                          rw [h3] at h2
                          exact h2
                        · change 4 - ((j : Int) + 1).toNat < 4 - (j : Int).toNat; omega
                    · obtain rfl : j = 4 := by omega
                      have hlj2 : ¬ ((4 : Nat) : Int) < 4 := by omega
                      rw [outJ_four vk hlt] at hrj
                      have HRJ := Lib.hid hrj
                      have HBJ := Lib.hid hbj
                      clear hrj hbj
                      go_wp2_with fail
                      case roundEnd =>
                        refine ⟨⟨i + 1, by omega, rfl, HRJ.out, HBJ.out⟩, ?_⟩
                        change 8 - ((i : Int) + 1).toNat < 8 - (i : Int).toNat; omega
                · obtain rfl : i = 8 := by omega
                  have hlt2 : ¬ ((8 : Nat) : Int) < 8 := by omega
                  rw [outZ_full] at hrow
                  have HLEN : Hid ((u8s (outL vk)).length = 32) := Lib.hid (by rw [u8s_length, outL_length])
                  have hres : Row wr w.heap.size (u8s (List.replicate 32 0)) := HRR6.out.below hbw HRR6.out.lt
                  have HRES9 := Lib.hid hres
                  have HRNG := Lib.hid hrow.range
                  have HB9 := Lib.hid (HBZ6.out.trans (hbw.mono HBZ6.out.size))
                  clear hrow hbw hres hlt hi
                  go_wp2_with (first
                    | (refine wpList_load_mid rfl 24 _ rfl wa.heap.size 0 rfl (u8s (outL vk)) _ HRNG.out Tryd.underlying24 rfl (by rw [HLEN.out]; kernel_rfl) ?_)
                    | (refine wpList_store_row rfl 24 _ _ rfl w.heap.size (u8s (outL vk)) (u8s (List.replicate 32 0)) rfl rfl HRES9.out (by rw [HLEN.out]; rfl) (by rw [HLEN.out]; kernel_rfl) (u8s_one _) ?_))
                  intro w10 h10 o10 z10
                  have HB10 := Lib.hid (HB9.out.trans (o10.below (Nat.le_refl _) HB9.out.size))
                  obtain ⟨T, hT⟩ := h10
                  clear o10 z10
                  go_wp2
                  exact bodyPost_ret (v := .agg (u8s (outL vk)).toArray) (results_cell_row (p := 2) (ty := 24) rfl _ _ w.heap.size T _ _ _ rfl hT Tryd.underlying24 rfl (by rw [List.size_toArray, HLEN.out]; kernel_rfl)) rfl ⟨by rw [HX2.out], HB10.out⟩
end Go.Proofs.YtmnlebkpneeblaaDoor
