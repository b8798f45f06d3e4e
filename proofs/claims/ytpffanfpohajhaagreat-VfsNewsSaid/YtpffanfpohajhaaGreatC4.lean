/- Walks of a directory's list, of List and Stat of vfs. Condition: a directory's entries are sorted, and not too many. -/
import Derived.Test.YtpffanfpohajhaaGreatC3
import Derived.Test.YtpffanfpohajhaaGreatD
namespace Go.Proofs.YtpffanfpohajhaaGreat
open Go Go.MapKept
open Go.RowKit hiding intOf

theorem FsAt.run_ent1 {w : World} {F : Fs} {f : Fp} (h : FsAt w F f) {n : Int} {i : Ino} (hi : F.get n = some i) (hk : i.kind = 1) {s : ByteArray} {m : Int} (hm : get s i.ents = some m) :
    (Instr.lookup 138 (.map (some (f.eb n))) (.string s) false).run Tryz.prog w = .ok (.int .i64 m) w := by
  have h1 := h.holds (.ent n) i hi
  rw [if_pos hk] at h1
  refine (MapHas.run_lookup h1 Tryz.underlying138 Tryz.underlying9 zero3 s).trans ?_
  rw [hm]; rfl

structure EntsOk (l : List (ByteArray × Int)) : Prop where
  sorted : l.Pairwise fun a b => a.1.data.toList < b.1.data.toList
  short : ∀ p ∈ l, p.1.size ≤ 255
  few : l.length * 24 ≤ 140737488355328

/-- Entries as they lie in a slice of Named. -/
def named (l : List (ByteArray × Int)) : List Value := l.flatMap fun p => [.string p.1, .int .i64 p.2]
theorem named_length (l : List (ByteArray × Int)) : (named l).length = l.length * 2 := by
  unfold named
  induction l with
  | nil => rfl
  | cons p l ih => simp only [List.flatMap_cons, List.length_append, ih, List.length_cons, List.length_nil]; omega
theorem named_snoc (l : List (ByteArray × Int)) (p : ByteArray × Int) : named (l ++ [p]) = named l ++ [.string p.1, .int .i64 p.2] := by
  simp [named]

theorem get_mem {l : List (ByteArray × Int)} (hs : l.Pairwise fun a b => a.1.data.toList < b.1.data.toList) {p : ByteArray × Int} (hp : p ∈ l) : get p.1 l = some p.2 := by
  induction l with
  | nil => cases hp
  | cons q l ih =>
    obtain ⟨h1, h2⟩ := List.pairwise_cons.1 hs
    unfold get
    split
    · rename_i e
      rcases List.mem_cons.1 hp with rfl | hp'
      · rfl
      · have := h1 p hp'
        rw [e] at this
        exact absurd this (List.lt_irrefl _)
    · rename_i e
      rcases List.mem_cons.1 hp with rfl | hp'
      · exact absurd rfl e
      · exact ih h2 hp'
theorem mem_of_get {K V : Type} [DecidableEq K] {k : K} {v : V} {l : List (K × V)} (h : get k l = some v) : (k, v) ∈ l := by
  induction l with
  | nil => cases h
  | cons q l ih =>
    unfold get at h
    split at h
    · rename_i e; cases h; subst e; exact .head _
    · exact .tail _ (ih h)

theorem info101 : (Tryz.prog.info? 101).map (fun i => (i.zero, i.size, i.bytes)) = some (some (.agg #[.string ByteArray.empty, .int .i64 0]), 2, 24) := by kernel_rfl

theorem cells_two (w : World) (a b : Value) (T : TypeId) : ∀ (j : Nat) u, [a, b][j]? = some u → (w.alloc (.cells #[a, b] T)).cell? ((⟨w.heap.size, 0, none⟩ : Addr).add j) = some u :=
  fun j u h => cell_new w [a, b] T j u h

theorem info_parts {P : Program} {t : TypeId} {z : Value} {n m : Nat} (h : (P.info? t).map (fun i => (i.zero, i.size, i.bytes)) = some (some z, n, m)) : ∃ i, P.info? t = some i ∧ i.zero = some z ∧ i.size = n ∧ i.bytes = m := by
  obtain ⟨i, h1, h2⟩ := Option.map_eq_some_iff.1 h
  simp only [Prod.mk.injEq] at h2
  exact ⟨i, h1, h2⟩

theorem own_form {w : World} {base : Nat} {e : TypeId} {size n : Nat} {v : Value} {xs : List Value} (h : w.ownsRow base e size v n xs) : ∃ a cap, v = .slice a n cap ∧ ∀ j u, xs[j]? = some u → ∃ ad, a = some ad ∧ base ≤ ad.block ∧ ad.block < w.heap.size ∧ w.cell? (ad.add j) = some u := by
  have h0 := h
  obtain ⟨h1, ⟨rfl, rfl⟩ | ⟨g, cap, cur, rfl, h3, h4, h5⟩⟩ := h
  · refine ⟨none, 0, rfl, fun j u hj => ?_⟩
    have : xs = [] := List.eq_nil_of_length_eq_zero (by omega)
    subst this
    simp at hj
  · exact ⟨_, cap, rfl, fun j u hj => ⟨_, rfl, h3, (Array.getElem?_eq_some_iff.1 h4).1, h0.cells rfl j u hj⟩⟩
theorem below_cell {w w' : World} (h : Below w.heap.size w w') {a : Addr} (j : Nat) (ha : a.block < w.heap.size) : w'.cell? (a.add j) = w.cell? (a.add j) :=
  h.cell (p := a.add j) (by unfold Addr.add; split <;> exact ha)

set_option maxRecDepth 100000 in
set_option maxHeartbeats 1000000 in
theorem list_dir (F : Fs) (f : Fp) (w : World) (h : FsAt w F f) (n : Int) {i : Ino} (hg : F.get n = some i) (hk : i.kind = 1) (ho : EntsOk i.ents) :
    Calls Tryz.prog 99 #[.pointer (some ⟨f.ib n, 0, none⟩)] w fun e w' => ∃ v, e = .returned v ∧ w'.ownsRow w.heap.size 101 2 v i.ents.length (named i.ents) ∧ Below w.heap.size w w' := by
  obtain ⟨i0, hi, hz0, hz1, hz2⟩ := info_parts info101
  have hM := h.holds (.ent n) i hg
  rw [if_pos hk] at hM
  have hec := h.ent_cell hg
  have hE : f.entv n i = .map (some (f.eb n)) := by unfold Fp.entv; rw [if_pos hk]
  rw [hE] at hec
  clear hE
  have hsorted := sorted_strs hM (fun k v hv => by
      simp only [Option.map_eq_some_iff] at hv
      obtain ⟨m, hm, _⟩ := hv
      have := ho.short _ (mem_of_get hm)
      simp only at this
      unfold maxLen; omega) (by have := ho.few; omega) (ks := i.ents.map (·.1)) (List.pairwise_map.2 ho.sorted) (fun k => by
      rw [List.mem_map]
      constructor
      · rintro ⟨p, hp, rfl⟩; exact ⟨_, by rw [get_mem ho.sorted hp]; rfl⟩
      · rintro ⟨v, hv⟩
        simp only [Option.map_eq_some_iff] at hv
        obtain ⟨m, hm, _⟩ := hv
        exact ⟨_, mem_of_get hm, rfl⟩)
  have HS := Lib.hid hsorted
  have HO := Lib.hid ho
  have HG := Lib.hid hg
  have HK := Lib.hid hk
  have HM := Lib.hid hM
  have Hfew := ho.few
  clear hsorted ho hg hk hM
  go_enter Tryz.func99, Tryz.ntmps99
  go_wp2_with fail
  refine (Tryz.keysOfS _ _).mono ?_
  rintro e w1 ⟨rfl, rfl⟩
  go_wp2_with fail
  refine HS.out.mono ?_
  rintro e w2 ⟨v, rfl, hrow, hnil, hb⟩
  have HB0 := Lib.hid (((Below.refl w.heap.size w).alloc (Nat.le_refl _) (.cells #[.map (some (f.eb n))] 138)).trans (hb.mono (by omega)))
  clear hb HS
  have h2 := h.below HB0.out
  have hsz2 : w.heap.size ≤ w2.heap.size := HB0.out.size
  clear h
  -- the sorted keys, nil or not
  obtain ⟨a, cap, rfl, hcells⟩ : ∃ a cap, v = .slice a i.ents.length cap ∧ ∀ j, j < i.ents.length → ∃ ad, a = some ad ∧ ad.block < w2.heap.size ∧ w2.cell? (ad.add j) = some (.string (i.ents.getD j (ByteArray.empty, 0)).1) := by
    rw [List.length_map] at hrow
    obtain ⟨a, cap, e1, e2⟩ := own_form hrow
    refine ⟨a, cap, e1, fun j hj => ?_⟩
    obtain ⟨ad, r1, _, r3, r4⟩ := e2 j (.string (i.ents[j]).1) (by simp [List.getElem?_eq_getElem hj])
    exact ⟨ad, r1, r3, by rw [r4, List.getD_eq_getElem?_getD, List.getElem?_eq_getElem hj]; rfl⟩
  have HC := Lib.hid hcells
  clear hcells hrow hnil
  have hlen : i.ents.length ≤ 9223372036854775807 := by omega
  go_wp2_with fail
  go_loopw [3, 13] (fun lv iv wr => ∃ k : Nat, k ≤ i.ents.length ∧ iv = .int .i64 k ∧ wr.ownsRow w2.heap.size 101 2 lv k (named (i.ents.take k)) ∧ Below w2.heap.size w2 wr) (fun _ iv _ => i.ents.length - (RowKit.intOf iv).toNat)
  case atStart => exact ⟨0, Nat.zero_le _, rfl, World.ownsRow_nil _ _ _ _, Below.refl _ _⟩
  case round =>
    obtain ⟨k, hk, rfl, hown, hbel⟩ := hrel
    have HOWN := Lib.hid hown
    have HBEL := Lib.hid hbel
    clear hown hbel
    have h3 := h2.below HBEL.out
    have hec3 := h3.ent_cell HG.out
    have hE : f.entv n i = .map (some (f.eb n)) := by unfold Fp.entv; rw [if_pos HK.out]
    rw [hE] at hec3
    clear hE
    by_cases hlt : k < i.ents.length
    · obtain ⟨ad, rfl, had, hck⟩ := HC.out k hlt
      have hck3 := (below_cell HBEL.out k had).trans hck
      clear hck had
      have hge : i.ents.getD k (ByteArray.empty, 0) = i.ents[k] := by rw [List.getD_eq_getElem?_getD, List.getElem?_eq_getElem hlt]; rfl
      rw [hge] at hck3
      have hlk := h3.run_ent1 HG.out HK.out (get_mem HO.out.sorted (List.getElem_mem hlt))
      have htk := List.take_succ_eq_append_getElem hlt
      obtain ⟨nm, hnm⟩ : ∃ nm, nm = (i.ents[k]).1 := ⟨_, rfl⟩
      obtain ⟨m, hm⟩ : ∃ m, m = (i.ents[k]).2 := ⟨_, rfl⟩
      have hpair : i.ents[k] = (nm, m) := by rw [hnm, hm]
      rw [← hnm, ← hm] at hlk
      rw [← hnm] at hck3
      rw [hpair] at htk
      have HTK := Lib.hid htk
      clear htk hge hnm hm hpair
      go_wp2_with (at_builtin; refine wpList_append_own_at _ rfl _ _ 74 rfl w2.heap.size 101 i0 (.agg #[.string ByteArray.empty, .int .i64 0]) 2 24 Tryz.underlying74 hi hz0 hz1 hz2 rfl (by decide) _ _ _ rfl (HOWN.out.alloc _) ⟨wr.heap.size, 0, none⟩ 1 1 [.string nm, .int .i64 m] rfl rfl ?c1 ?c2 ?c3 ?c4 ?c5 ?_)
      case c1 => exact cells_two _ _ _ _
      case c2 => simp [Value.oneCell']
      case c3 => unfold maxLen; omega
      case c4 => omega
      case c5 => simp; have := HBEL.out.size; omega
      intro v' w4 hown4 hgrow4 _ _
      have HB4 := Lib.hid (HBEL.out.grown ((World.grownBy_alloc wr _ _).trans hgrow4) HBEL.out.size (fun j hj => (HOWN.out.lt j hj).1))
      have e4 := named_snoc (i.ents.take k) (nm, m)
      rw [← HTK.out] at e4
      simp only at e4
      rw [← e4] at hown4
      clear e4
      have HO4 := Lib.hid hown4
      clear hown4 hgrow4
      go_wp2
      go_roundw
      case rel => exact ⟨k + 1, by omega, by go_num, HO4.out, HB4.out⟩
      case measure => simp [RowKit.intOf]; omega
    · have hke : k = i.ents.length := by omega
      subst hke
      have hO := HOWN.out
      rw [List.take_length] at hO
      have HO2 := Lib.hid (ownsRow_base_a hO hsz2)
      clear hO
      go_wp2
      go_ret
      exact ⟨_, rfl, HO2.out, HB0.out.trans (HBEL.out.mono hsz2)⟩
end Go.Proofs.YtpffanfpohajhaaGreat
