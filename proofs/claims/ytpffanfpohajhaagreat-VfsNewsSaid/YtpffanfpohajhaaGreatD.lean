/- The keys of a map, sorted: the library's contracts at this program, in the words of the file system's memory. Condition: the keys can be read as keys, and are not too many. -/
import Derived.Test.YtpffanfpohajhaaGreatShelf
import Derived.Test.YtpffanfpohajhaaGreatB
namespace Go.Proofs
open Go.RowKit Go.Maps Go.Sort Go.Shelf

theorem Tryz.sortsS (m : Nat) : AnyZ.SortsIn Tryz.prog Tryz.sortedS_ren Fence.wide m :=
  ⟨fun blk off cap ss W hH hblk hsz => callsIn_wide.2 (AnyM.slices_Sort_string Tryz.sortS blk off cap ss W hH hblk hsz),
   fun p cap W => callsIn_wide.2 (AnyM.slices_Sort_string_none Tryz.sortS p cap W)⟩
theorem Tryz.sortsI (m : Nat) : AnyZI.SortsIn Tryz.prog Tryz.sortedI_ren Fence.wide m :=
  ⟨fun blk off cap ss W hH hblk hsz => callsIn_wide.2 (AnyM.slices_Sort_int Tryz.sortI blk off cap ss W hH hblk hsz),
   fun p cap W => callsIn_wide.2 (AnyM.slices_Sort_int_none Tryz.sortI p cap W)⟩
theorem Tryz.keysOfS (mb : Option Nat) (W : World) : Calls Tryz.prog 136 #[.map mb] W fun e w' => e = .returned (.func (.func 176) #[] #[.pointer (some ⟨W.heap.size, 0, none⟩)]) ∧ w' = W.alloc (.cells #[.map mb] 138) :=
  callsIn_wide.1 (AnyZ.keys_in Tryz.keysS Fence.wide 5 trivial rfl mb W)
theorem Tryz.keysOfI (mb : Option Nat) (W : World) : Calls Tryz.prog 97 #[.map mb] W fun e w' => e = .returned (.func (.func 134) #[] #[.pointer (some ⟨W.heap.size, 0, none⟩)]) ∧ w' = W.alloc (.cells #[.map mb] 135) :=
  callsIn_wide.1 (AnyZI.keys_in Tryz.keysI Fence.wide 5 trivial rfl mb W)
set_option maxHeartbeats 1000000 in
theorem Tryz.sortedOfS {H : Type} (b nn : Nat) (D0 : DataW H) (R : Value → Option (DataW H × List MemPlace)) (w : World) (hown : w.ownsMap Tryz.prog 9 R b nn D0) (hmax : Maps.size D0 ≤ maxLen) (hbytes : Maps.size D0 * 16 ≤ 140737488355328) :
    Calls Tryz.prog 135 #[.func (.func 176) #[] #[.pointer (some ⟨w.heap.size, 0, none⟩)]] (w.alloc (.cells #[.map (some b)] 138)) fun e w' => ∃ (v : Value) (ss : List (List UInt8)), e = .returned v ∧ ss.Perm (strKeys D0) ∧
      w'.ownsRow (w.alloc (.cells #[.map (some b)] 138)).heap.size 9 1 v ss.length ((ss.mergeSort (fun x y => decide (x ≤ y))).map encStr) ∧ (v = .slice none 0 0 ↔ ss = []) ∧ Below (w.alloc (.cells #[.map (some b)] 138)).heap.size (w.alloc (.cells #[.map (some b)] 138)) w' := by
  have hbl := hown.lt
  have hseq : SeqGives Fence.wide 2 Tryz.prog 176 #[.pointer (some ⟨w.heap.size, 0, none⟩)] encStr (fun ss => ss.Perm (strKeys D0)) (Maps.size D0) (w.alloc (.cells #[.map (some b)] 138)) :=
    AnyZ.keys_gives (ρ := Tryz.keysS_ren) { Tryz.keysS with } Fence.wide _ trivial rfl (by omega) w.heap.size b nn D0 _ (by simp) (by simp) (by
      obtain ⟨es, clock, hb, Ft, hs, hD⟩ := hown
      exact ⟨es, clock, (Below.heap_alloc _ _ b hbl).trans hb, Ft, hs, hD⟩)
  exact callsIn_wide.1 (AnyZ.sorted_in Tryz.sortedS Fence.wide 5 trivial trivial trivial trivial rfl (by omega) (Tryz.sortsS _) (enters_of Tryz.func175 (by kernel_rfl) rfl) 176 #[.pointer (some ⟨w.heap.size, 0, none⟩)] trivial (enters_of Tryz.func176 (by kernel_rfl) rfl) _ _ hmax hbytes _ hseq)
set_option maxHeartbeats 1000000 in
theorem Tryz.sortedOfS_nil (w : World) :
    Calls Tryz.prog 135 #[.func (.func 176) #[] #[.pointer (some ⟨w.heap.size, 0, none⟩)]] (w.alloc (.cells #[.map none] 138)) fun e w' => e = .returned (.slice none 0 0) ∧ Below (w.alloc (.cells #[.map none] 138)).heap.size (w.alloc (.cells #[.map none] 138)) w' := by
  have hseq : SeqGives Fence.wide 2 Tryz.prog 176 #[.pointer (some ⟨w.heap.size, 0, none⟩)] encStr (fun ss : List (List UInt8) => ss = []) 0 (w.alloc (.cells #[.map none] 138)) :=
    AnyZ.keys_gives_nil (ρ := Tryz.keysS_ren) { Tryz.keysS with } Fence.wide _ trivial rfl w.heap.size _ (by simp) (by simp)
  refine (callsIn_wide.1 (AnyZ.sorted_in Tryz.sortedS Fence.wide 5 trivial trivial trivial trivial rfl (by omega) (Tryz.sortsS _) (enters_of Tryz.func175 (by kernel_rfl) rfl) 176 #[.pointer (some ⟨w.heap.size, 0, none⟩)] trivial (enters_of Tryz.func176 (by kernel_rfl) rfl) _ 0 (Nat.zero_le _) (by omega) _ hseq)).mono ?_
  rintro e w' ⟨v, ss, rfl, rfl, _, hnil, hb⟩
  exact ⟨by rw [hnil.2 rfl], hb⟩
set_option maxHeartbeats 1000000 in
theorem Tryz.sortedOfI {H : Type} (b nn : Nat) (D0 : DataW H) (R : Value → Option (DataW H × List MemPlace)) (w : World) (hown : w.ownsMap Tryz.prog 3 R b nn D0) (hmax : Maps.size D0 ≤ maxLen) (hbytes : Maps.size D0 * 8 ≤ 140737488355328) :
    Calls Tryz.prog 96 #[.func (.func 134) #[] #[.pointer (some ⟨w.heap.size, 0, none⟩)]] (w.alloc (.cells #[.map (some b)] 135)) fun e w' => ∃ (v : Value) (ss : List Int), e = .returned v ∧ ss.Perm (intKeys D0) ∧
      w'.ownsRow (w.alloc (.cells #[.map (some b)] 135)).heap.size 3 1 v ss.length ((ss.mergeSort (fun x y => decide (x ≤ y))).map encZ) ∧ (v = .slice none 0 0 ↔ ss = []) ∧ Below (w.alloc (.cells #[.map (some b)] 135)).heap.size (w.alloc (.cells #[.map (some b)] 135)) w' := by
  have hbl := hown.lt
  have hseq : SeqGives Fence.wide 2 Tryz.prog 134 #[.pointer (some ⟨w.heap.size, 0, none⟩)] encZ (fun ss => ss.Perm (intKeys D0)) (Maps.size D0) (w.alloc (.cells #[.map (some b)] 135)) :=
    AnyZI.keys_gives (ρ := Tryz.keysI_ren) { Tryz.keysI with } Fence.wide _ trivial rfl (by omega) w.heap.size b nn D0 _ (by simp) (by simp) (by
      obtain ⟨es, clock, hb, Ft, hs, hD⟩ := hown
      exact ⟨es, clock, (Below.heap_alloc _ _ b hbl).trans hb, Ft, hs, hD⟩)
  exact callsIn_wide.1 (AnyZI.sorted_in Tryz.sortedI Fence.wide 5 trivial trivial trivial trivial rfl (by omega) (Tryz.sortsI _) (enters_of Tryz.func74 (by kernel_rfl) rfl) 134 #[.pointer (some ⟨w.heap.size, 0, none⟩)] trivial (enters_of Tryz.func134 (by kernel_rfl) rfl) _ _ hmax hbytes _ hseq)

namespace YtpffanfpohajhaaGreat
open Go Go.MapKept

/-- How an element is looked at where nothing is asked of it. -/
def anyR : Value → Option (DataW Unit × List MemPlace) := fun _ => some (.nil, [])

/-- A map of int keys, as the library's contracts take it. -/
theorem MapHas.ownsI {w : World} {b n : Nat} {g : Int → Option Value} (h : MapHas ints w b g n) (hwf : ∀ k v, g k = some v → (Lit.int .i64 k).wf = true) (hn : n ≤ maxLen) {ks : List Int} (hnd : ks.Nodup) (hm : ∀ k, k ∈ ks ↔ ∃ v, g k = some v) :
    ∃ D0 : DataW Unit, w.ownsMap Tryz.prog 3 anyR b n D0 ∧ Maps.size D0 = n ∧ (intKeys D0).Perm ks := by
  obtain ⟨es, c, h1, h2, h3, h4, h5⟩ := h
  have hrd : ∀ x ∈ es.toList, ∃ k, x.key = .int .i64 k ∧ WideElems.rd Tryz.prog 3 anyR x = some (.int .i64 k, .nil) := by
    intro x hx
    obtain ⟨k, hk⟩ := h3 x hx
    have hk' : x.key = .int .i64 k := hk
    have hw := hwf k x.val ((h4 k x.val).2 ⟨x, hx, hk, rfl⟩)
    refine ⟨k, hk', ?_⟩
    have := WideElems.rd_mk (P := Tryz.prog) (k := 3) (R := anyR) (key := x.key) (val := x.val) (born := x.born) (by rw [hk']; exact keyOf_int_mk Tryz.underlying3 hw) (show anyR x.val = some (.nil, []) from rfl)
    simpa using this
  have hF : WideElems.Fit Tryz.prog 3 anyR es c := ⟨by omega, h2, fun x hx => by obtain ⟨k, _, e⟩ := hrd x hx; exact ⟨_, e⟩⟩
  refine ⟨_, ⟨es, c, h1, hF, by omega, rfl⟩, ?_, ?_⟩
  · show (List.foldr DataW.insert [] _).length = n
    rw [length_sorted]
    simp [← h5]
  · refine (List.perm_ext_iff_of_nodup ?_ hnd).2 fun k => ?_
    · show (List.map (fun p : Lit × DataW Unit => Go.intOf p.1) _).Nodup
      have hp := WideShapes.sorted_perm (es.toList.map (WideElems.rg Tryz.prog 3 anyR))
      refine ((hp.map _).nodup_iff).2 ?_
      rw [List.map_map]
      have : es.toList.map ((fun p : Lit × DataW Unit => Go.intOf p.1) ∘ WideElems.rg Tryz.prog 3 anyR) = es.toList.map fun x => match x.key with | .int _ k => k | _ => 0 := by
        refine List.map_congr_left fun x hx => ?_
        obtain ⟨k, hk, e⟩ := hrd x hx
        simp [WideElems.rg_of e, hk, Go.intOf]
      rw [this]
      refine List.pairwise_map.2 ((List.pairwise_map.1 h2.2.2).imp_of_mem ?_)
      intro x y hx hy hne e
      obtain ⟨k, hk, _⟩ := hrd x hx
      obtain ⟨k', hk', _⟩ := hrd y hy
      simp only [hk, hk'] at e hne
      exact hne (by rw [e])
    · show k ∈ List.map (fun p : Lit × DataW Unit => Go.intOf p.1) _ ↔ _
      rw [hm]
      rw [List.mem_map]
      constructor
      · rintro ⟨p, hp, rfl⟩
        obtain ⟨x, hx, rfl⟩ := List.mem_map.1 (mem_sorted.1 hp)
        obtain ⟨k, hk, e⟩ := hrd x hx
        rw [WideElems.rg_of e]
        exact ⟨x.val, (h4 k x.val).2 ⟨x, hx, hk, rfl⟩⟩
      · rintro ⟨v, hv⟩
        obtain ⟨x, hx, hk, rfl⟩ := (h4 k v).1 hv
        obtain ⟨k', hk', e⟩ := hrd x hx
        have : k' = k := by
          have hk2 : x.key = .int .i64 k := hk
          rw [hk'] at hk2; injection hk2
        subst this
        exact ⟨_, mem_sorted.2 (List.mem_map.2 ⟨x, hx, rfl⟩), by rw [WideElems.rg_of e]; rfl⟩
/-- A map of string keys, as the library's contracts take it. -/
theorem MapHas.ownsS {w : World} {b n : Nat} {g : ByteArray → Option Value} (h : MapHas strs w b g n) (hwf : ∀ k v, g k = some v → k.size ≤ maxLen) (hn : n ≤ maxLen) {ks : List ByteArray} (hnd : ks.Nodup) (hm : ∀ k, k ∈ ks ↔ ∃ v, g k = some v) :
    ∃ D0 : DataW Unit, w.ownsMap Tryz.prog 9 anyR b n D0 ∧ Maps.size D0 = n ∧ (strKeys D0).Perm (ks.map fun k => k.data.toList) := by
  obtain ⟨es, c, h1, h2, h3, h4, h5⟩ := h
  have hrd : ∀ x ∈ es.toList, ∃ k, x.key = .string k ∧ WideElems.rd Tryz.prog 9 anyR x = some (.string k.data.toList, .nil) := by
    intro x hx
    obtain ⟨k, hk⟩ := h3 x hx
    have hk' : x.key = .string k := hk
    have hw := hwf k x.val ((h4 k x.val).2 ⟨x, hx, hk, rfl⟩)
    refine ⟨k, hk', ?_⟩
    have := WideElems.rd_mk (P := Tryz.prog) (k := 9) (R := anyR) (key := x.key) (val := x.val) (born := x.born) (by rw [hk']; exact WideMaps.keyOf_string_mk Tryz.underlying9 hw) (show anyR x.val = some (.nil, []) from rfl)
    simpa using this
  have hF : WideElems.Fit Tryz.prog 9 anyR es c := ⟨by omega, h2, fun x hx => by obtain ⟨k, _, e⟩ := hrd x hx; exact ⟨_, e⟩⟩
  refine ⟨_, ⟨es, c, h1, hF, by omega, rfl⟩, ?_, ?_⟩
  · show (List.foldr DataW.insert [] _).length = n
    rw [length_sorted]
    simp [← h5]
  · let kb : MapEntry → ByteArray := fun x => match x.key with | .string k => k | _ => ByteArray.empty
    have hkb : ∀ x ∈ es.toList, x.key = .string (kb x) := fun x hx => by
      obtain ⟨k, hk, _⟩ := hrd x hx
      simp only [kb, hk]
    have hp1 : (es.toList.map kb).Perm ks := by
      refine (List.perm_ext_iff_of_nodup ?_ hnd).2 fun k => ?_
      · refine List.pairwise_map.2 ((List.pairwise_map.1 h2.2.2).imp_of_mem ?_)
        intro x y hx hy hne e
        exact hne (by rw [hkb x hx, hkb y hy, e])
      · rw [hm, List.mem_map]
        constructor
        · rintro ⟨x, hx, rfl⟩
          exact ⟨x.val, (h4 _ x.val).2 ⟨x, hx, hkb x hx, rfl⟩⟩
        · rintro ⟨v, hv⟩
          obtain ⟨x, hx, hk, rfl⟩ := (h4 k v).1 hv
          refine ⟨x, hx, ?_⟩
          have h6 : x.key = .string k := hk
          rw [hkb x hx] at h6
          injection h6
    have hp := WideShapes.sorted_perm (es.toList.map (WideElems.rg Tryz.prog 9 anyR))
    refine ((hp.map fun p : Lit × DataW Unit => strOf p.1).trans ?_)
    rw [List.map_map]
    have : es.toList.map ((fun p : Lit × DataW Unit => strOf p.1) ∘ WideElems.rg Tryz.prog 9 anyR) = (es.toList.map kb).map fun k => k.data.toList := by
      rw [List.map_map]
      refine List.map_congr_left fun x hx => ?_
      obtain ⟨k, hk, e⟩ := hrd x hx
      simp [WideElems.rg_of e, kb, hk, strOf]
    rw [this]
    exact hp1.map _

/-- slices.Sorted(maps.Keys(m)), int keys, behind maps.Keys' call. -/
theorem sorted_ints {w : World} {b n : Nat} {g : Int → Option Value} (h : MapHas ints w b g n) (hwf : ∀ k v, g k = some v → (Lit.int .i64 k).wf = true) (hn : n * 8 ≤ 140737488355328) {ks : List Int} (hs : ks.Pairwise (· < ·)) (hm : ∀ k, k ∈ ks ↔ ∃ v, g k = some v) :
    Calls Tryz.prog 96 #[.func (.func 134) #[] #[.pointer (some ⟨w.heap.size, 0, none⟩)]] (w.alloc (.cells #[.map (some b)] 135)) fun e w' => ∃ v : Value, e = .returned v ∧
      w'.ownsRow (w.heap.size + 1) 3 1 v ks.length (ks.map encZ) ∧ (v = .slice none 0 0 ↔ ks = []) ∧ Below (w.heap.size + 1) (w.alloc (.cells #[.map (some b)] 135)) w' := by
  obtain ⟨D0, h1, h2, h3⟩ := h.ownsI hwf (by unfold maxLen; omega) (hs.imp fun {a b} h => by omega) hm
  refine (Tryz.sortedOfI b n D0 anyR w h1 (by rw [h2]; unfold maxLen; omega) (by rw [h2]; exact hn)).mono ?_
  rintro e w' ⟨v, ss, rfl, hp, hrow, hnil, hb⟩
  have e1 : ss.mergeSort leI = ks := by
    rw [mergeSort_of_perm_i (hp.trans h3)]
    exact List.mergeSort_of_pairwise (hs.imp fun {a b} h => by simp only [leI, decide_eq_true_eq]; omega)
  have e2 : ss.length = ks.length := (hp.trans h3).length_eq
  have hz : (w.alloc (.cells #[.map (some b)] 135)).heap.size = w.heap.size + 1 := by simp
  rw [hz] at hrow hb
  change w'.ownsRow _ _ _ _ _ ((ss.mergeSort leI).map encZ) at hrow
  rw [e1, e2] at hrow
  refine ⟨v, rfl, hrow, hnil.trans ⟨fun h => ?_, fun h => ?_⟩, hb⟩
  · subst h; exact List.eq_nil_of_length_eq_zero (by rw [← e2]; rfl)
  · subst h; exact List.eq_nil_of_length_eq_zero e2

/-- slices.Sorted(maps.Keys(m)), string keys, behind maps.Keys' call. -/
theorem sorted_strs {w : World} {b n : Nat} {g : ByteArray → Option Value} (h : MapHas strs w b g n) (hwf : ∀ k v, g k = some v → k.size ≤ maxLen) (hn : n * 16 ≤ 140737488355328) {ks : List ByteArray} (hs : ks.Pairwise (fun a b => a.data.toList < b.data.toList)) (hm : ∀ k, k ∈ ks ↔ ∃ v, g k = some v) :
    Calls Tryz.prog 135 #[.func (.func 176) #[] #[.pointer (some ⟨w.heap.size, 0, none⟩)]] (w.alloc (.cells #[.map (some b)] 138)) fun e w' => ∃ v : Value, e = .returned v ∧
      w'.ownsRow (w.heap.size + 1) 9 1 v ks.length (ks.map fun k => Value.string k) ∧ (v = .slice none 0 0 ↔ ks = []) ∧ Below (w.heap.size + 1) (w.alloc (.cells #[.map (some b)] 138)) w' := by
  obtain ⟨D0, h1, h2, h3⟩ := h.ownsS hwf (by unfold maxLen; omega) (hs.imp fun {a b} h e => by subst e; exact List.lt_irrefl _ h) hm
  refine (Tryz.sortedOfS b n D0 anyR w h1 (by rw [h2]; unfold maxLen; omega) (by rw [h2]; exact hn)).mono ?_
  rintro e w' ⟨v, ss, rfl, hp, hrow, hnil, hb⟩
  have e1 : ss.mergeSort leB = ks.map fun k => k.data.toList := by
    rw [mergeSort_of_perm (hp.trans h3)]
    exact List.mergeSort_of_pairwise (List.pairwise_map.2 (hs.imp fun {a b} h => by simp only [leB, decide_eq_true_eq]; exact List.le_of_lt h))
  have e2 : ss.length = ks.length := by have := (hp.trans h3).length_eq; simpa using this
  have hz : (w.alloc (.cells #[.map (some b)] 138)).heap.size = w.heap.size + 1 := by simp
  rw [hz] at hrow hb
  change w'.ownsRow _ _ _ _ _ ((ss.mergeSort leB).map encStr) at hrow
  rw [e1, e2, List.map_map] at hrow
  refine ⟨v, rfl, hrow, hnil.trans ⟨fun h => ?_, fun h => ?_⟩, hb⟩
  · subst h; exact List.eq_nil_of_length_eq_zero (by rw [← e2]; rfl)
  · subst h; exact List.eq_nil_of_length_eq_zero e2
end YtpffanfpohajhaaGreat
end Go.Proofs
