/- ManifestSums returns true at any pieces and sum of bulk at most 1048576, and changes nothing that was; the two tables read as they are laid. -/
import Derived.Test.YtmnlebkpneeblaaDoorQ
import Derived.Test.YtmnlebkpneeblaaDoorCards
import Derived.Test.YtmnlebkpneeblaaDoorTie
import Derived.WalkKit
import Derived.ProofKit
import Derived.OpenShut
import Derived.Deep.DeepHandedRow
import Derived.Deep.Matrix
import Derived.Lib.LaidTab
import Derived.Stop.LaidErr
import Derived.Carry
namespace Go.Proofs.YtmnlebkpneeblaaDoor.manifestSums
open Go.ChangeShapes Go.WideShapes Go.ChangeAt Go.RowKit Go.Deep

theorem own : ownKnob Tryd.prog.godebug = none := by kernel_rfl
theorem laidOut : laidOutB Tryd.prog = true := by kernel_rfl
theorem gSq : Tryd.prog.globalNamed "satchel/manifest.squares" = some 0 := by kernel_rfl
theorem gSqT : (Tryd.prog.globals[0]?).map (·.type) = some 34 := by kernel_rfl
theorem gCu : Tryd.prog.globalNamed "satchel/manifest.cubes" = some 1 := by kernel_rfl
theorem gCuT : (Tryd.prog.globals[1]?).map (·.type) = some 40 := by kernel_rfl
theorem cells33 : Tryd.prog.cellsOf 33 = 1 := by kernel_rfl
theorem cells34 : Tryd.prog.cellsOf 34 = 8 := by kernel_rfl
theorem cells40 : Tryd.prog.cellsOf 40 = 64 := by kernel_rfl
theorem cells28 : Tryd.prog.cellsOf 28 = 1 := by kernel_rfl
theorem cells5 : Tryd.prog.cellsOf 5 = 1 := by kernel_rfl
theorem cells24 : Tryd.prog.cellsOf 24 = 32 := by kernel_rfl

/-! ### What the row's list gives -/
theorem range_of_tab {W : World} {name : String} {zs : List Int} {g : Nat} (h : Lib.TabIs Tryd.prog W name .u32 zs) (hg : Tryd.prog.globalNamed name = some g) : W.rangeAt g 0 (u32s zs) := fun j v hj => by
  unfold u32s at hj
  rw [List.getElem?_map] at hj
  obtain ⟨z, hz, rfl⟩ := Option.map_eq_some_iff.1 hj
  have hl := (List.getElem?_eq_some_iff.1 hz).1
  have := h.cell hg j hl
  rw [Nat.zero_add, this, List.getD_eq_getElem?_getD, hz]
  rfl
theorem laid_of {W : World} (h : laidMetH Tryd.prog Rows.manifestSumsUptoRow.laid W) : Laid W := by
  have h2 : laidMet Tryd.prog [("satchel/manifest.squares", Lib.tabData .u32 S8.begins.list), ("satchel/manifest.cubes", Lib.tabData .u32 Ks)] W := h
  have t1 := range_of_tab (Lib.tabIs_of_head gSq gSqT Tryd.underlying34 Tryd.underlying33 cells33 cells34 h2) gSq
  have t2 := range_of_tab (Lib.tabIs_of_head gCu gCuT Tryd.underlying40 Tryd.underlying33 cells33 cells40 h2.tail) gCu
  exact ⟨t1, t2, World.block_lt_of_cell? _ _ (t2 0 _ rfl)⟩

/-! ### Bytes out of numbers -/
def byteOf (n : Int) : UInt8 := UInt8.ofNat n.toNat
theorem byteOf_nat {n : Int} (h0 : 0 ≤ n) (h1 : n ≤ 255) : ((byteOf n).toNat : Int) = n := by
  unfold byteOf
  rw [UInt8.toNat_ofNat']
  omega
theorem spot_none {W : World} {a : Addr} {v : Value} (h : W.cell? a = some v) : a = ⟨a.block, a.off, none⟩ := by
  obtain ⟨b, o, s⟩ := a
  cases s with
  | none => rfl
  | some s =>
    unfold World.cell? at h
    split at h
    · simp at h
    · cases h

section
variable {H : Type} {enc : TypeId × Value → H} {W : World}
/-- The array of 32 bytes, opened. -/
theorem open_sum {base : Nat} {r : Reach} {v : Value} {d : DataW H} {p : List MemPlace} (hv : Value.okWide Tryd.prog W r base 24 v) (h : DataW.Trod enc Tryd.prog W 0 (fun _ => true) true 24 v d p) : ∃ s : List UInt8, s.length = 32 ∧ v = .agg (u8s s).toArray := by
  simp only [Value.okWide, Tryd.underlying24] at hv
  obtain ⟨cs, rfl, hs, _⟩ := hv
  rw [cells24] at hs
  obtain ⟨fuel, hf⟩ := h
  obtain ⟨xs, m, rfl, _, hlen, hxl, hx⟩ := DataW.trod_array Tryd.underlying24 hf
  have hcs : (Value.agg cs).cells.toList = cs.toList := rfl
  rw [hcs] at hlen hx
  have each : ∀ i, i < 32 → ∃ n : Int, cs.toList[i]? = some (.int .u8 n) ∧ 0 ≤ n ∧ n ≤ 255 := by
    intro i hi
    have h1 := hx i hi
    rw [List.getElem?_eq_getElem (by omega : i < xs.length), cells5] at h1
    obtain ⟨n, hn, _, hw⟩ := DataW.trod_int Tryd.underlying5 h1
    obtain ⟨b0, b1⟩ := bounds_u8 hw
    refine ⟨n, ?_, b0, b1⟩
    have := congrArg (·[0]?) hn
    simpa [List.getElem?_take, List.getElem?_drop] using this
  refine ⟨cs.toList.map fun v => byteOf (intOf v), by rw [List.length_map, Array.length_toList]; exact hs, ?_⟩
  congr 1
  apply Array.ext'
  show cs.toList = _
  apply List.ext_getElem?
  intro i
  unfold u8s
  rw [List.toList_toArray, List.getElem?_map, List.getElem?_map]
  by_cases hi : i < 32
  · obtain ⟨n, hn, b0, b1⟩ := each i hi
    rw [hn]
    simp only [Option.map_some]
    rw [show intOf (.int .u8 n) = n from rfl, byteOf_nat b0 b1]
  · rw [List.getElem?_eq_none (by rw [Array.length_toList]; omega)]
    rfl

/-- How much a list of pieces weighs. -/
theorem bulk_lits (zs : List Int) : Rows.uptoBulkAll (lits (H := H) .u8 zs) = zs.length := by
  unfold lits
  induction zs with
  | nil => rfl
  | cons a r ih =>
    rw [List.map_cons, Rows.uptoBulkAll, ih, Rows.uptoBulk, List.length_cons]
    · omega
    · intro bytes e; cases e
theorem bulk_row (A : Option Addr) (L : Nat) (zs : List Int) (h : A = none → L = 0) (hl : L ≤ zs.length) : L + 1 ≤ Rows.uptoBulk (intRow (H := H) .u8 A L zs) := by
  cases A with
  | none =>
    rw [h rfl]
    show 1 ≤ Rows.uptoBulk (DataW.nil (H := H))
    rw [Rows.uptoBulk]
    exact Nat.le_refl 1
  | some a =>
    show L + 1 ≤ Rows.uptoBulk (DataW.slice (lits (H := H) .u8 (zs.take L)) (lits .u8 (zs.drop L)))
    rw [Rows.uptoBulk, bulk_lits, bulk_lits, List.length_take]
    omega
theorem bulk_map (f : Nat → DataW H) (l : Nat → Nat) : ∀ n, (∀ r, r < n → l r + 1 ≤ Rows.uptoBulk (f r)) → ((List.range n).map l).sum + n ≤ Rows.uptoBulkAll ((List.range n).map f)
  | 0, _ => by simp
  | n + 1, h => by
    have ih := bulk_map f l n (fun r hr => h r (by omega))
    have hn := h n (by omega)
    have happ : ∀ (a b : List (DataW H)), Rows.uptoBulkAll (a ++ b) = Rows.uptoBulkAll a + Rows.uptoBulkAll b := by
      intro a b
      induction a with
      | nil => simp [Rows.uptoBulkAll]
      | cons x r ih => rw [List.cons_append, Rows.uptoBulkAll, ih, Rows.uptoBulkAll]; omega
    rw [List.range_succ, List.map_append, List.map_append, happ, List.sum_append]
    simp only [List.map_cons, List.map_nil, List.sum_cons, List.sum_nil, Rows.uptoBulkAll]
    omega

/-- The pieces, opened, with what the bound says. -/
theorem open_pieces {base : Nat} {r : Reach} {v : Value} {d : DataW H} {p : List MemPlace} {ds : List (DataW H)} (hv : Value.okWide Tryd.prog W r base 22 v) (h : DataW.Trod enc Tryd.prog W 0 (fun _ => true) true 22 v d p) (hk : Rows.uptoSmall H (d :: ds) = true) :
    ∃ (pa : Option Addr) (pc : Nat) (ps : List (List UInt8)), v = .slice pa ps.length pc ∧ Pieces W pa ps ∧ (ps.map List.length).sum ≤ 1048576 ∧ ps.length ≤ 1048576 := by
  obtain ⟨a0, n0, c0, rfl⟩ := okWide_slice Tryd.underlying22 hv
  obtain ⟨fuel, hf⟩ := h
  rcases open_int_rows Tryd.underlying22 Tryd.underlying28 Tryd.underlying5 cells28 cells5 hf with ⟨hcs, _⟩ | ⟨a, len, cap, A, L, C, Z, hcs, _, hl, hm, hx, hrows⟩
  · have hcs : [Value.slice a0 n0 c0] = [.slice none 0 0] := hcs
    simp only [List.cons.injEq, Value.slice.injEq, and_true] at hcs
    obtain ⟨rfl, rfl, rfl⟩ := hcs
    exact ⟨none, 0, [], rfl, ⟨fun i p hp => by cases hp⟩, by decide, by decide⟩
  have hcs : [Value.slice a0 n0 c0] = [.slice (some a) len cap] := hcs
  simp only [List.cons.injEq, Value.slice.injEq, and_true] at hcs
  obtain ⟨rfl, rfl, rfl⟩ := hcs
  simp only [Prod.mk.injEq] at hx
  obtain ⟨rfl, rfl⟩ := hx
  have hb : Rows.uptoBulkAll _ ≤ 1048576 := of_decide_eq_true hk
  rw [Rows.uptoBulkAll, Rows.uptoBulk] at hb
  have hsum := bulk_map (fun r => intRow (H := H) .u8 (A r) (L r) (Z r)) L n0 (fun r hr => bulk_row _ _ _ (fun e => by
    obtain ⟨_, h1, _, _, _, h5, _⟩ := hrows r (by omega)
    have := h5 e
    omega) (by
    obtain ⟨_, h1, _, h3, _⟩ := hrows r (by omega)
    omega))
  refine ⟨some a, c0, (List.range n0).map fun r => ((Z r).take (L r)).map byteOf, by rw [List.length_map, List.length_range], ⟨fun i p hp => ?_⟩, ?_, by rw [List.length_map, List.length_range]; omega⟩
  · rw [List.getElem?_map, Option.map_eq_some_iff] at hp
    obtain ⟨i', hi', rfl⟩ := hp
    obtain ⟨hi0, rfl⟩ : i < n0 ∧ i = i' := by
      rw [List.getElem?_eq_some_iff] at hi'
      obtain ⟨h1, h2⟩ := hi'
      rw [List.length_range] at h1
      rw [List.getElem_range] at h2
      exact ⟨h1, h2⟩
    obtain ⟨hc, h1, h2, h3, h4, h5, h6⟩ := hrows i (by omega)
    obtain ⟨b, o, sp⟩ := a
    have hs := spot_none (hrows 0 (by omega)).1
    have hsp : sp = none := congrArg Addr.spot hs
    subst hsp
    rw [Addr.add_mid] at hc
    refine ⟨_, b, o, rfl, World.block_lt_of_cell? _ _ hc, hc, ?_⟩
    have hlen : (((Z i).take (L i)).map byteOf).length = L i := by rw [List.length_map, List.length_take]; omega
    by_cases hC : C i = 0
    · have hL : L i = 0 := by omega
      refine .inl ⟨A i, by rw [hL, hC], ?_⟩
      exact List.eq_nil_of_length_eq_zero (by rw [hlen]; exact hL)
    · cases hA : A i with
      | none => exact absurd (h5 hA) hC
      | some a' =>
        obtain ⟨_, h7⟩ := h6 a' hA
        have hc0 := h7 0 (by omega)
        obtain ⟨g, o', sp'⟩ := a'
        have hs' := spot_none hc0
        have hsp' : sp' = none := congrArg Addr.spot hs'
        subst hsp'
        refine .inr ⟨g, o', C i, by rw [hlen], World.block_lt_of_cell? _ _ hc0, by rw [hlen]; exact h1, h2, fun j c hj => ?_⟩
        rw [List.getElem?_map, Option.map_eq_some_iff] at hj
        obtain ⟨n, hn, rfl⟩ := hj
        rw [List.getElem?_take] at hn
        split at hn
        · rename_i hjl
          have := h7 j (by omega)
          rw [Addr.add_mid, List.getD_eq_getElem?_getD, hn] at this
          obtain ⟨b0, b1⟩ := bounds_u8 (h4 n (List.mem_of_getElem? hn))
          rw [byteOf_nat b0 b1]
          exact this
        · cases hn
  · rw [List.map_map]
    have e : ((List.range n0).map (List.length ∘ fun r => ((Z r).take (L r)).map byteOf)) = (List.range n0).map L := List.map_congr_left fun r hr => by
      have hr := List.mem_range.1 hr
      obtain ⟨_, h1, _, h3, _⟩ := hrows r (by omega)
      show (((Z r).take (L r)).map byteOf).length = _
      rw [List.length_map, List.length_take]
      omega
    rw [e]
    omega

variable {P : Program}
/-- The row's last step out of 'Below' alone. -/
theorem post_of_below {f : Func} {s : ChangeSpec} {apart fresh handsOn again : Bool} {W W' : World} {args : Array Value} {v : Value} {ds gs : List (DataW H)} {before pa pv : List MemPlace}
    (hW : DataW.Whole enc P f.params.toList s.vars apart W args.toList ds gs before)
    (hres : ∀ (b : Nat) (sp : Nat → Bool) (hd : Bool), DataW.TrodAll enc P W' b sp hd f.resultTypes.toList (v.resultList f.resultTypes.size) (s.fn H (ds ++ gs)).results [])
    (hargs : ∀ sp : Nat → Bool, (∀ p ∈ before, sp p.block = true) → DataW.TrodAll enc P W' 0 sp true f.params.toList args.toList (s.fn H (ds ++ gs)).args pa)
    (hvars : ∀ sp : Nat → Bool, (∀ p ∈ before, sp p.block = true) → DataW.TrodVars enc P W' sp s.vars (s.fn H (ds ++ gs)).vars pv)
    (hps : before = pa ++ pv) (hb : Below W.heap.size W W')
    (hok : ∀ (j : Nat) (t : TypeId) (r : Value), f.resultTypes[j]? = some t → (v.resultList f.resultTypes.size)[j]? = some r → Value.okWide P W' .any 0 t r) :
    s.post enc P f apart fresh handsOn again W args v W' := by
  have hlt : ∀ p ∈ before, p.block < W.heap.size := fun p hp => hW.lt p hp
  refine ⟨ds, gs, before, [], pa, pv, hW, hres _ _ _, hargs (fun b => decide (b < W.heap.size)) (fun p hp => by simpa using hlt p hp), hvars _ (fun p hp => by simpa using hlt p hp), World.keptBut_mono (fun p hp => ⟨hp, ?_⟩) (hb.frame (· ∈ before)), fun _ => ?_⟩
  · rw [hps, List.mem_append] at hp
    exact Or.inr hp
  · obtain ⟨_, _, _, _, _, hz, hn⟩ := hW
    refine ⟨hok, _, _, ([] ++ pa) ++ pv, ⟨[] ++ pa, pv, trodAll_append (hargs _ (fun _ _ => rfl)) (hres _ _ _), hvars _ (fun _ _ => rfl), rfl, fun b off hp => ?_, fun ha => ?_⟩, fun p hp _ => ?_⟩
    · have hin : MemPlace.cell b off ∈ before := by rw [hps]; simpa using hp
      exact (hb.frozen (hlt _ hin)).trans (hz b off hin)
    · have := hn ha
      rw [hps] at this
      simpa using this
    · rw [hps]
      simpa using hp
end

/-- What the walk gives. -/
theorem contract (H : Type) (enc : TypeId × Value → H) (W : World) (base : Nat) (args : Array Value) (ds gs : List (DataW H)) (before : List MemPlace)
    (hval : ∀ (j : Nat) t v, Tryd.f3.params[j]? = some t → args[j]? = some v → Value.okWide Tryd.prog W .any base t v)
    (hW : DataW.Whole enc Tryd.prog Tryd.f3.params.toList Rows.manifestSumsSpec.vars false W args.toList ds gs before) (hk : Rows.uptoSmall H (ds ++ gs) = true) (hL : laidMetH Tryd.prog Rows.manifestSumsUptoRow.laid W) :
    Calls Tryd.prog 3 args W fun e W' => ∃ v, e = .returned v ∧ Rows.manifestSumsSpec.post enc Tryd.prog Tryd.f3 false true false false W args v W' := by
  have hW' := hW
  obtain ⟨p, q, hA0, hV, rfl, hfz, hnd⟩ := hW
  have hA : DataW.TrodAll enc Tryd.prog W 0 (fun _ => true) true Tryd.f3.params.toList args.toList ds p := hA0
  rw [Tryd.params3] at hA hval
  obtain ⟨v0, vs0, d0, ds0, p0, q0, hargs, rfl, rfl, h0, r0⟩ := trodAll_cons hA
  obtain ⟨v1, vs1, d1, ds1, p1, q1, rfl, rfl, rfl, h1, r1⟩ := trodAll_cons r0
  obtain ⟨rfl, rfl, rfl⟩ := trodAll_nil r1
  obtain rfl : args = #[v0, v1] := by cases args; simp_all
  obtain ⟨rfl, rfl⟩ := trodVars_none hV
  clear hA0
  simp only [List.append_nil] at hW' hk
  obtain ⟨pa, pc, ps, e0, hp, hb, hn⟩ := open_pieces (hval 0 22 v0 rfl rfl) h0 hk
  obtain ⟨s, hs, e1⟩ := open_sum (hval 1 24 v1 rfl rfl) h1
  have hlt : ∀ x ∈ p0 ++ p1, x.block < W.heap.size := fun x hx => hW'.lt x hx
  have walk : Calls Tryd.prog 3 #[v0, v1] W (BoolBelow true W) := by
    rw [e0, e1]
    exact law_any pa pc ps s W hp (fun _ => Classical.em _) hs (laid_of hL) hb hn
  refine walk.mono fun e W' ⟨he, hg⟩ => ?_
  subst he
  refine ⟨_, rfl, post_of_below (pa := p0 ++ p1) (pv := []) hW' (fun _ _ _ => trodAll_cons_mk (shut_bool Tryd.underlying4 _) trodAll_mk0) (fun sp hsp => ?_) (fun _ _ => rfl) (List.append_nil _).symm
    hg (ok_one (by kernel_rfl) rfl (okWide_bool_mk Tryd.underlying4 _))⟩
  have k0 : DataW.Trod enc Tryd.prog W' 0 sp true 22 v0 d0 p0 := WideElems.Trod_stays laidOut (by kernel_rfl) (of_decide_eq_true (by kernel_rfl)) h0 (fun x hx => hg.same (hlt x (List.mem_append.2 (.inl hx)))) (fun x hx => hsp x (List.mem_append.2 (.inl hx)))
  have k1 : DataW.Trod enc Tryd.prog W' 0 sp true 24 v1 d1 p1 := WideElems.Trod_stays laidOut (by kernel_rfl) (of_decide_eq_true (by kernel_rfl)) h1 (fun x hx => hg.same (hlt x (List.mem_append.2 (.inr hx)))) (fun x hx => hsp x (List.mem_append.2 (.inr hx)))
  have k := trodAll_cons_mk k0 (trodAll_cons_mk k1 trodAll_mk0)
  rw [List.append_nil] at k
  exact k

/-! ### The witness: no pieces, a sum of noughts; the settled world, the two tables holding what they are laid as. -/
def zeroSum : Value := .agg (u8s (List.replicate 32 0)).toArray
def lay (vs : List Value) : Obj → Obj
  | .cells _ t frozen => .cells vs.toArray t frozen
  | o => o
noncomputable def laidWorld (os : Os) : World :=
  { World.holding Tryd.prog os ⟨#[], #[], []⟩ with heap := ((World.holding Tryd.prog os ⟨#[], #[], []⟩).heap.modify 0 (lay (u32s S8.begins.list))).modify 1 (lay (u32s Ks)) }
set_option maxRecDepth 100000 in
theorem laid_met (os : Os) : laidMet Tryd.prog Rows.manifestSumsUptoRow.laid ((laidWorld os).forCall (fun _ _ => 0) ⟨#[], #[.slice none 0 0, zeroSum], []⟩).memory :=
  laidMet_of_run' 72 (by kernel_rfl) (by kernel_rfl)
set_option maxRecDepth 100000 in
theorem reads (os : Os) {H : Type} (enc : TypeId × Value → H) : ∃ places, DataW.whole enc Tryd.prog ((laidWorld os).forCall (fun _ _ => 0) ⟨#[], #[.slice none 0 0, zeroSum], []⟩).memory Tryd.f3.params.toList Rows.manifestSumsSpec.vars false #[Value.slice none 0 0, zeroSum].toList 40 = some ([.nil, .agg (List.replicate 32 (.lit (.int .u8 0)))], [], places) :=
  ⟨[], by kernel_rfl⟩

set_option maxRecDepth 100000 in
theorem liftedUpto (os : Os) (started : os.Started) (H : Type) (enc : TypeId × Value → H) (F : Stop.Interp) :
    ReturnsInHanded {} Tryd.checked os 3 .any ((Rows.OpenSpec.upto Rows.manifestSumsSpec).preRow enc Tryd.prog Tryd.f3 Rows.manifestSumsUptoRow.domain false Rows.manifestSumsUptoRow.laid) (((Rows.OpenSpec.upto Rows.manifestSumsSpec).at F).post enc Tryd.prog Tryd.f3 false true false false) := by
  obtain ⟨places, hx⟩ := reads os enc
  refine returnsInHanded_of_row (C := Tryd.checked) (s := Rows.OpenSpec.upto Rows.manifestSumsSpec) own started (by kernel_rfl) Tryd.func3
    (witness_row_at (enc := enc) (C := Tryd.checked) false (laidWorld os) #[.slice none 0 0, zeroSum] rfl (by kernel_rfl) (by kernel_rfl) (by kernel_rfl)
      (OpenSpec.preRow_of_cond 40 hx (by kernel_rfl) (fun k hk => by cases hk; kernel_rfl) (by kernel_rfl) (laid_met os))) ?_
  intro W base args ds gs before hval hW _ hcond _ hL _ _
  exact contract H enc W base args ds gs before hval hW (hcond _ rfl) hL

theorem saidUpto : Rows.ManifestSumsUptoSaid :=
  OpenClaim.holds_of_cond 3 Tryd.f3 rfl rfl rfl rfl rfl rfl rfl ⟨rfl, rfl, rfl, rfl, rfl⟩ rfl rfl rfl rfl rfl (by kernel_rfl) Tryd.func3 (by kernel_rfl)
    (of_decide_eq_true (by kernel_rfl)) (by unfold Func.isWrapper; first | (rw [if_pos (by decide +kernel)]; kernel_rfl) | (rw [if_neg (by decide +kernel)]; exact ⟨rfl, rfl⟩))
    (fun os started H enc _ F => by rw [OpenClaim.pre_eq_preRow]; exact liftedUpto os started H enc F)

/-- No parameter wants a stand-in; the program's own looks are off: what the card asks. -/
theorem plain (f : FuncId) (fn : Func) (hf : Tryd.pinned.checked.prog.funcNamed "satchel/satchellaw28.ManifestSums" = some f) (hfn : Tryd.pinned.checked.prog.funcs[f]? = some fn) :
    false = Tryd.pinned.checked.prog.looks [] ∧ ∀ (j : Nat) t, fn.params[j]? = some t → Tryd.pinned.checked.prog.wantsStandIn t = false := by
  obtain rfl : f = 3 := Option.some.inj ((show Tryd.prog.funcNamed "satchel/satchellaw28.ManifestSums" = some 3 by kernel_rfl).symm.trans hf) |>.symm
  obtain rfl : fn = Tryd.f3 := (Option.some.inj (Tryd.func3.symm.trans hfn)).symm
  refine ⟨by kernel_rfl, fun j t ht => ?_⟩
  rw [Tryd.params3] at ht
  have hm := Array.mem_of_getElem? ht
  have : t = 22 ∨ t = 24 := by simpa using hm
  rcases this with rfl | rfl
  · exact (show Tryd.prog.wantsStandIn 22 = false by kernel_rfl)
  · exact (show Tryd.prog.wantsStandIn 24 = false by kernel_rfl)

/-- ████ THE STATEMENT ████ -/
theorem proved : Rows.ManifestSumsUptoCardSaid :=
  Claim7.holds_tied_plain_at .later [] _ _ _ _ saidUpto (fun _ h => by cases h) (by kernel_rfl) (fun _ h => by cases h) manifestSumsUpto_row_tie rfl ⟨rfl, rfl⟩ (by kernel_rfl) rfl plain (by kernel_rfl)
#print axioms proved
end Go.Proofs.YtmnlebkpneeblaaDoor.manifestSums
