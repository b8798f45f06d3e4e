/- What a map's update and deletion do to a map that is known by its keys. Walk of New of vfs. No condition. -/
import Derived.Test.YtpffanfpohajhaaGreatG1
namespace Go.Proofs.YtpffanfpohajhaaGreat
open Go Go.MapKept
open Go.RowKit hiding intOf

/-- Only block b has turned. -/
structure Upd (b : Nat) (w w' : World) : Prop where
  os : w'.os = w.os
  tape : w'.tape = w.tape
  output : w'.output = w.output
  size : w'.heap.size = w.heap.size
  block : ∀ k, k ≠ b → w'.heap[k]? = w.heap[k]?
theorem Upd.set (w : World) (b : Nat) (o : Obj) : Upd b w { w with heap := w.heap.setIfInBounds b o } :=
  ⟨rfl, rfl, rfl, by simp, fun k hk => by simp [Ne.symm hk]⟩
theorem Upd.setCell (w : World) (a : Addr) (v : Value) : Upd a.block w (w.setCell a v) :=
  ⟨rfl, rfl, rfl, by simp [World.setCell], fun k hk => Below.heap_setCell _ _ _ _ hk⟩
theorem Upd.chg {b : Nat} {w w' : World} (h : Upd b w w') {S : Nat → Prop} (hb : S b) : Chg S w w' :=
  ⟨h.os, h.tape, h.output, by rw [h.size]; exact Nat.le_refl _, fun k _ hn => h.block k fun e => hn (e ▸ hb)⟩

section
variable {K : Type} [DecidableEq K] {T : KeyT K} {w : World} {b : Nat} {g : K → Option Value} {n : Nat} {P : Program} {t kt et : TypeId}

theorem MapHas.run_update (h : MapHas T w b g n) (ht : P.underlying t = some (.map kt et)) (hk : P.underlying kt = some T.d) (k : K) (v : Value) :
    ∃ w', (Instr.mapUpdate t (.map (some b)) (T.of k) v).run P w = .ok () w' ∧ MapHas T w' b (fun k' => if k' = k then some v else g k') (if (g k).isSome then n else n + 1) ∧ Upd b w w' := by
  obtain ⟨es, c, h1, h2, h3, h4, h5⟩ := h
  have hks : ∀ x ∈ es.toList, IsKey T.d x.key := fun x hx => by obtain ⟨k', e⟩ := h3 x hx; rw [e]; exact T.isKey k'
  have hgo := MapKept.run_getObj_map (P := P) h1
  rcases findNow_spec (T.isKey k) es.toList 0 hks with ⟨f1, f2⟩ | ⟨j, e, f1, f2, f3⟩
  · have hnone : g k = none := by
      cases hg : g k with
      | none => rfl
      | some u => obtain ⟨x, hx, hxk, _⟩ := (h4 k u).1 hg; exact absurd hxk (f2 x hx)
    refine ⟨{ w with heap := w.heap.setIfInBounds b (.map (es.push { key := T.of k, val := v, born := c }) (c + 1)) }, ?_, ?_, Upd.set _ _ _⟩
    · simp [Instr.mapUpdate, run_underlying ht, hgo, run_checkKey hk (T.isKey k), run_findKey hk f1, run_setObj_map _ h1, Result.andThen]
    · refine ⟨_, _, (heap_set h1).1, stamped_push h2 f2, ?_, ?_, ?_⟩
      · intro x hx
        simp only [Array.toList_push, List.mem_append, List.mem_singleton] at hx
        rcases hx with hx | rfl
        · exact h3 x hx
        · exact ⟨k, rfl⟩
      · intro k' u
        dsimp only
        simp only [Array.toList_push, List.mem_append, List.mem_singleton]
        by_cases e : k' = k
        · subst e
          rw [if_pos rfl]
          constructor
          · rintro h; cases h; exact ⟨_, .inr rfl, rfl, rfl⟩
          · rintro ⟨x, hx | rfl, hxk, rfl⟩
            · exact absurd hxk (f2 x hx)
            · rfl
        · rw [if_neg e, h4]
          constructor
          · rintro ⟨x, hx, r⟩; exact ⟨x, .inl hx, r⟩
          · rintro ⟨x, hx | rfl, hxk, r⟩
            · exact ⟨x, hx, hxk, r⟩
            · exact absurd (T.inj _ _ hxk).symm e
      · rw [hnone]; simp [h5]
  · have hj : es[j]? = some e := by simpa using f2
    have hsome : g k = some e.val := (h4 k e.val).2 ⟨e, List.mem_of_getElem? f2, f3, rfl⟩
    have hjl : j < es.size := (Array.getElem?_eq_some_iff.1 hj).1
    refine ⟨{ w with heap := w.heap.setIfInBounds b (.map (es.modify j fun e => { e with key := T.of k, val := v }) c) }, ?_, ?_, Upd.set _ _ _⟩
    · simp [Instr.mapUpdate, run_underlying ht, hgo, run_checkKey hk (T.isKey k), run_findKey hk f1, hj, f3, run_keyThatStays (T.isKey k), run_setObj_map _ h1, Result.andThen]
    · have hkey : ∀ e', es[j]? = some e' → ({ e' with key := T.of k, val := v } : MapEntry).key = e'.key := fun e' he' => by rw [hj] at he'; cases he'; exact f3.symm
      have hmem : ∀ x, x ∈ (es.modify j fun e => { e with key := T.of k, val := v }).toList ↔ (x = { e with key := T.of k, val := v }) ∨ ∃ i, i ≠ j ∧ es[i]? = some x := by
        intro x
        rw [Array.mem_toList_iff, Array.mem_iff_getElem?]
        constructor
        · rintro ⟨i, hi⟩
          rw [Array.getElem?_modify] at hi
          split at hi
          · rename_i hij; subst hij; rw [hj] at hi; simp at hi; exact .inl hi.symm
          · rename_i hij; exact .inr ⟨i, fun h => hij h.symm, hi⟩
        · rintro (rfl | ⟨i, hij, hi⟩)
          · exact ⟨j, by rw [Array.getElem?_modify, if_pos rfl, hj]; rfl⟩
          · exact ⟨i, by rw [Array.getElem?_modify, if_neg (fun h => hij h.symm)]; exact hi⟩
      have huniq : ∀ i x, es[i]? = some x → x.key = T.of k → i = j := by
        intro i x hi hx
        have hil : i < es.size := (Array.getElem?_eq_some_iff.1 hi).1
        have hnd := h2.2.2
        have hi' : (es.toList.map (·.key))[i]? = some (T.of k) := by simp [hi, hx]
        have hj' : (es.toList.map (·.key))[j]? = some (T.of k) := by simp [hj, f3]
        exact (List.getElem?_inj (by simpa using hil) hnd).1 (hi'.trans hj'.symm)
      refine ⟨_, _, (heap_set h1).1, stamped_modify h2 _ _ (fun _ _ => rfl) (fun e' _ he' => hkey e' he'), ?_, ?_, ?_⟩
      · intro x hx
        rcases (hmem x).1 hx with rfl | ⟨i, _, hi⟩
        · exact ⟨k, rfl⟩
        · exact h3 x (Array.mem_toList_iff.2 (Array.mem_of_getElem? hi))
      · intro k' u
        dsimp only
        by_cases ek : k' = k
        · subst ek
          rw [if_pos rfl]
          constructor
          · rintro h; cases h; exact ⟨_, (hmem _).2 (.inl rfl), rfl, rfl⟩
          · rintro ⟨x, hx, hxk, rfl⟩
            rcases (hmem x).1 hx with rfl | ⟨i, hij, hi⟩
            · rfl
            · exact absurd (huniq i x hi hxk) hij
        · rw [if_neg ek, h4]
          constructor
          · rintro ⟨x, hx, hxk, r⟩
            obtain ⟨i, hi⟩ := Array.mem_iff_getElem?.1 (Array.mem_toList_iff.1 hx)
            refine ⟨x, (hmem x).2 (.inr ⟨i, ?_, hi⟩), hxk, r⟩
            rintro rfl
            rw [hj] at hi
            cases hi
            exact ek (T.inj _ _ (hxk.symm.trans f3))
          · rintro ⟨x, hx, hxk, r⟩
            rcases (hmem x).1 hx with rfl | ⟨i, hij, hi⟩
            · exact absurd (T.inj _ _ hxk).symm ek
            · exact ⟨x, Array.mem_toList_iff.2 (Array.mem_of_getElem? hi), hxk, r⟩
      · rw [hsome]; simp [h5]

theorem MapHas.run_delete {ty : TypeId} (h : MapHas T w b g n) (ht : P.underlying t = some (.map kt et)) (hk : P.underlying kt = some T.d) (k : K) :
    ∃ w', (Builtin.delete_ #[t, kt] ty #[.map (some b), T.of k]).run P w = .ok (.tuple #[]) w' ∧ MapHas T w' b (fun k' => if k' = k then none else g k') (if (g k).isSome then n - 1 else n) ∧ Upd b w w' := by
  obtain ⟨es, c, h1, h2, h3, h4, h5⟩ := h
  have hks : ∀ x ∈ es.toList, IsKey T.d x.key := fun x hx => by obtain ⟨k', e⟩ := h3 x hx; rw [e]; exact T.isKey k'
  have hgo := MapKept.run_getObj_map (P := P) h1
  rcases findNow_spec (T.isKey k) es.toList 0 hks with ⟨f1, f2⟩ | ⟨j, e, f1, f2, f3⟩
  · have hnone : g k = none := by
      cases hg : g k with
      | none => rfl
      | some u => obtain ⟨x, hx, hxk, _⟩ := (h4 k u).1 hg; exact absurd hxk (f2 x hx)
    refine ⟨{ w with heap := w.heap.setIfInBounds b (.map es c) }, ?_, ?_, Upd.set _ _ _⟩
    · simp [Builtin.delete_, run_underlying ht, hgo, run_checkKey hk (T.isKey k), run_findKey hk f1, run_setObj_map _ h1, Result.andThen]
    · refine ⟨_, _, (heap_set h1).1, h2, h3, ?_, by rw [hnone]; exact h5⟩
      intro k' u
      dsimp only
      by_cases ek : k' = k
      · subst ek; rw [if_pos rfl, ← h4, hnone]
      · rw [if_neg ek, h4]
  · have hj : es[j]? = some e := by simpa using f2
    have hsome : g k = some e.val := (h4 k e.val).2 ⟨e, List.mem_of_getElem? f2, f3, rfl⟩
    have hjl : j < es.size := (Array.getElem?_eq_some_iff.1 hj).1
    have htl : (es.eraseIdxIfInBounds j).toList = es.toList.eraseIdx j := by
      unfold Array.eraseIdxIfInBounds
      rw [dif_pos hjl, Array.toList_eraseIdx]
    have hnd := h2.2.2
    have hmem : ∀ x, x ∈ es.toList.eraseIdx j ↔ x ∈ es.toList ∧ x.key ≠ T.of k := by
      intro x
      rw [List.mem_eraseIdx_iff_getElem?]
      constructor
      · rintro ⟨i, hij, hi⟩
        refine ⟨List.mem_of_getElem? hi, fun hx => hij ?_⟩
        have hi' : (es.toList.map (·.key))[i]? = some (T.of k) := by rw [List.getElem?_map, hi]; simp [hx]
        have hj' : (es.toList.map (·.key))[j]? = some (T.of k) := by rw [List.getElem?_map, f2]; simp [f3]
        have hil : i < es.toList.length := (List.getElem?_eq_some_iff.1 hi).1
        exact (List.getElem?_inj (by simpa using hil) hnd).1 (hi'.trans hj'.symm)
      · rintro ⟨hx, hne⟩
        obtain ⟨i, hi⟩ := List.mem_iff_getElem?.1 hx
        refine ⟨i, ?_, hi⟩
        rintro rfl
        rw [f2] at hi
        cases hi
        exact hne f3
    refine ⟨{ w with heap := w.heap.setIfInBounds b (.map (es.eraseIdxIfInBounds j) c) }, ?_, ?_, Upd.set _ _ _⟩
    · simp [Builtin.delete_, run_underlying ht, hgo, run_checkKey hk (T.isKey k), run_findKey hk f1, run_setObj_map _ h1, Result.andThen]
    · refine ⟨_, _, (heap_set h1).1, stamped_erase h2 _, ?_, ?_, ?_⟩
      · rw [htl]; intro x hx; exact h3 x ((hmem x).1 hx).1
      · intro k' u
        dsimp only
        rw [htl]
        by_cases ek : k' = k
        · subst ek
          rw [if_pos rfl]
          constructor
          · rintro ⟨⟩
          · rintro ⟨x, hx, hxk, _⟩; exact absurd hxk ((hmem x).1 hx).2
        · rw [if_neg ek, h4]
          constructor
          · rintro ⟨x, hx, hxk, r⟩; exact ⟨x, (hmem x).2 ⟨hx, fun h => ek (T.inj _ _ (hxk.symm.trans h))⟩, hxk, r⟩
          · rintro ⟨x, hx, hxk, r⟩; exact ⟨x, ((hmem x).1 hx).1, hxk, r⟩
      · rw [hsome]
        have e6 : (es.eraseIdxIfInBounds j).size = (es.toList.eraseIdx j).length := by rw [← htl, Array.length_toList]
        rw [List.length_eraseIdx_of_lt (by simpa using hjl), Array.length_toList, h5] at e6
        exact e6
end

/-- An empty file system. -/
def rootIno : Ino := ⟨1, Mt.zero, [], ByteArray.empty, [], 1, 1⟩
def Fs.new (nodes bytes : Int) : Fs := ⟨nodes, bytes, 2, 0, [(1, rootIno)], []⟩

def newOk (nodes bytes : Int) : Bool := !(decide (nodes < 1) || decide (4096 < nodes) || decide (bytes < 0) || decide (4194304 < bytes))

def Fp.new (w : World) : Fp := ⟨w.heap.size, w.heap.size + 1, fun _ => w.heap.size + 3, fun _ => w.heap.size + 2, fun _ => .slice none 0 0, .slice none 0 0⟩

theorem new_get (nodes bytes n : Int) : (Fs.new nodes bytes).get n = if n = 1 then some rootIno else none := by
  unfold Fs.new Fs.get YtpffanfpohajhaaGreat.get
  by_cases h : n = 1
  · subst h; simp
  · simp only [h, if_neg (fun e : (1 : Int) = n => h e.symm)]; rfl

/-- What New hands back. -/
def NewPost (w : World) (nodes bytes : Int) (e : Ending) (w' : World) : Prop :=
  Below w.heap.size w w' ∧ if newOk nodes bytes then e = .returned (.tuple #[ptr w.heap.size, .int .i64 0]) ∧ FsAt w' (Fs.new nodes bytes) (Fp.new w) ∧ w'.heap.size = w.heap.size + 4
    else e = .returned (.tuple #[.pointer none, .int .i64 1])

set_option maxRecDepth 100000 in
theorem new_no (w : World) (nodes bytes : Int) (h : newOk nodes bytes = false) : Calls Tryz.prog 58 #[.int .i64 nodes, .int .i64 bytes] w (NewPost w nodes bytes) := by
  have hpost : NewPost w nodes bytes (.returned (.tuple #[.pointer none, .int .i64 1])) w := ⟨Below.refl _ _, by rw [if_neg (by simp [h])]⟩
  have HP := Lib.hid hpost
  have hh := h
  unfold newOk at hh
  simp only [Bool.not_eq_false', Bool.or_eq_true, decide_eq_true_eq] at hh
  have HH := Lib.hid hh
  clear hpost hh h
  go_enter Tryz.func58, Tryz.ntmps58
  go_wp2_with fail
  all_goals first
    | (exfalso; have := HH.out; omega)
    | (go_ret2; exact HP.out)

theorem lit_row (w : World) (cs : Array Value) (T : TypeId) : (w.alloc (.cells cs T)).heap[w.heap.size]? = some (.cells cs T (0, 0)) := (heap_alloc w _).1

def newW (w : World) (nodes bytes : Int) : World :=
  (((w.alloc (.cells #[.int .i64 nodes, .int .i64 bytes, .int .i64 2, .int .i64 0, .map none, .slice none 0 0] 137)).alloc (.map #[] 0)).alloc (.map #[] 0)).alloc
    (.cells #[.int .i64 1, .int .u32 0, .int .u32 0, .int .u32 0, .int .i64 0, .int .i32 0, .slice none 0 0, .string ⟨#[]⟩, .map (some (w.heap.size + 1 + 1)), .int .i64 1, .int .i64 1] 140)

theorem four_allocs (w : World) (o1 o2 o3 o4 : Obj) : ((((w.alloc o1).alloc o2).alloc o3).alloc o4).heap.size = w.heap.size + 4 ∧ ((((w.alloc o1).alloc o2).alloc o3).alloc o4).heap[w.heap.size]? = some o1 ∧
    ((((w.alloc o1).alloc o2).alloc o3).alloc o4).heap[w.heap.size + 1]? = some o2 ∧ ((((w.alloc o1).alloc o2).alloc o3).alloc o4).heap[w.heap.size + 2]? = some o3 ∧ ((((w.alloc o1).alloc o2).alloc o3).alloc o4).heap[w.heap.size + 3]? = some o4 := by
  have s1 : (w.alloc o1).heap.size = w.heap.size + 1 := by simp
  have s2 : ((w.alloc o1).alloc o2).heap.size = w.heap.size + 2 := by simp
  have s3 : (((w.alloc o1).alloc o2).alloc o3).heap.size = w.heap.size + 3 := by simp
  refine ⟨by simp, ?_, ?_, ?_, ?_⟩
  · rw [(heap_alloc _ _).2 _ (by omega), (heap_alloc _ _).2 _ (by omega), (heap_alloc _ _).2 _ (by omega), (heap_alloc _ _).1]
  · rw [(heap_alloc _ _).2 _ (by omega), (heap_alloc _ _).2 _ (by omega), ← s1, (heap_alloc _ _).1]
  · rw [(heap_alloc _ _).2 _ (by omega), ← s2, (heap_alloc _ _).1]
  · rw [← s3, (heap_alloc _ _).1]

theorem newW_heap (w : World) (nodes bytes : Int) : (newW w nodes bytes).heap.size = w.heap.size + 4 ∧
    (newW w nodes bytes).heap[w.heap.size]? = some (.cells #[.int .i64 nodes, .int .i64 bytes, .int .i64 2, .int .i64 0, .map none, .slice none 0 0] 137 (0, 0)) ∧
    (newW w nodes bytes).heap[w.heap.size + 1]? = some (.map #[] 0) ∧ (newW w nodes bytes).heap[w.heap.size + 2]? = some (.map #[] 0) ∧
    (newW w nodes bytes).heap[w.heap.size + 3]? = some (.cells #[.int .i64 1, .int .u32 0, .int .u32 0, .int .u32 0, .int .i64 0, .int .i32 0, .slice none 0 0, .string ⟨#[]⟩, .map (some (w.heap.size + 2)), .int .i64 1, .int .i64 1] 140 (0, 0)) ∧
    Below w.heap.size w (newW w nodes bytes) := by
  obtain ⟨h0, h1, h2, h3, h4⟩ := four_allocs w (.cells #[.int .i64 nodes, .int .i64 bytes, .int .i64 2, .int .i64 0, .map none, .slice none 0 0] 137) (.map #[] 0) (.map #[] 0)
    (.cells #[.int .i64 1, .int .u32 0, .int .u32 0, .int .u32 0, .int .i64 0, .int .i32 0, .slice none 0 0, .string ⟨#[]⟩, .map (some (w.heap.size + 1 + 1)), .int .i64 1, .int .i64 1] 140)
  exact ⟨h0, h1, h2, h3, h4, ((((Below.refl _ _).alloc (Nat.le_refl _) _).alloc (by simp) _).alloc (by simp; omega) _).alloc (by simp; omega) _⟩

theorem new_fs (w w5 : World) (nodes bytes : Int) (hM : MapHas ints w5 (w.heap.size + 1) (fun k' => if k' = 1 then some (ptr (w.heap.size + 3)) else none) 1) (hu : Upd (w.heap.size + 1) (newW w nodes bytes) w5) :
    Below w.heap.size w (w5.setCell ⟨w.heap.size, 4, none⟩ (.map (some (w.heap.size + 1)))) ∧ FsAt (w5.setCell ⟨w.heap.size, 4, none⟩ (.map (some (w.heap.size + 1)))) (Fs.new nodes bytes) (Fp.new w) ∧ (w5.setCell ⟨w.heap.size, 4, none⟩ (.map (some (w.heap.size + 1)))).heap.size = w.heap.size + 4 := by
  obtain ⟨hs, hr0, hr1, hr2, hr3, hb⟩ := newW_heap w nodes bytes
  have hs5 : w5.heap.size = w.heap.size + 4 := hu.size.trans hs
  have hu6 := Upd.setCell w5 ⟨w.heap.size, 4, none⟩ (.map (some (w.heap.size + 1)))
  have hb5 : Below w.heap.size w w5 := hb.trans ⟨hu.os, hu.tape, hu.output, by rw [hu.size]; exact Nat.le_refl _, fun k hk => hu.block k (by omega)⟩
  have h0 : w5.heap[w.heap.size]? = some (.cells #[.int .i64 nodes, .int .i64 bytes, .int .i64 2, .int .i64 0, .map none, .slice none 0 0] 137 (0, 0)) := (hu.block _ (by omega)).trans hr0
  refine ⟨hb5.setCell (Nat.le_refl _) _, ?_, by rw [hu6.size, hs5]⟩
  have hg := new_get nodes bytes
  refine ⟨fun l => ?_, ?_⟩
  · cases l with
    | fs =>
      refine ⟨137, ?_⟩
      show (w5.setCell ⟨w.heap.size, 4, none⟩ (.map (some (w.heap.size + 1)))).heap[w.heap.size]? = _
      simp only [World.setCell, Array.getElem?_modify, if_true, h0]
      rfl
    | map =>
      refine MapHas.of_block (w := w5) ?_ (hu6.block _ (by show w.heap.size + 1 ≠ w.heap.size; omega))
      refine hM.congr fun k => ?_
      rw [hg]
      split <;> rfl
    | ino n =>
      intro i hi
      rw [hg] at hi
      split at hi
      · cases hi
        subst n
        refine ⟨140, ?_⟩
        show (w5.setCell ⟨w.heap.size, 4, none⟩ (.map (some (w.heap.size + 1)))).heap[w.heap.size + 3]? = _
        rw [hu6.block _ (by show w.heap.size + 3 ≠ w.heap.size; omega), hu.block _ (by omega), hr3]
        rfl
      · cases hi
    | ent n =>
      intro i hi
      rw [hg] at hi
      split at hi
      · cases hi
        rw [if_pos (show rootIno.kind = 1 from rfl)]
        refine MapHas.of_block (w := newW w nodes bytes) ⟨#[], 0, hr2, stamped_empty 0, by simp, by simp [rootIno, YtpffanfpohajhaaGreat.get], rfl⟩ ?_
        show (w5.setCell ⟨w.heap.size, 4, none⟩ (.map (some (w.heap.size + 1)))).heap[w.heap.size + 2]? = _
        rw [hu6.block _ (by show w.heap.size + 2 ≠ w.heap.size; omega), hu.block _ (by omega)]
        rfl
      · cases hi
    | dat n =>
      intro i hi
      rw [hg] at hi
      split at hi
      · cases hi; exact World.ownsRow_nil _ _ _ _
      · cases hi
    | tr => exact World.ownsRow_nil _ _ _ _
  · have key : ∀ l b, (Fp.new w).blk (Fs.new nodes bytes) l = some b → (l = .fs ∧ b = w.heap.size) ∨ (l = .map ∧ b = w.heap.size + 1) ∨ (l = .ino 1 ∧ b = w.heap.size + 3) ∨ (l = .ent 1 ∧ b = w.heap.size + 2) := by
      intro l b hl
      cases l with
      | fs => cases hl; exact .inl ⟨rfl, rfl⟩
      | map => cases hl; exact .inr (.inl ⟨rfl, rfl⟩)
      | ino n =>
        simp only [Fp.blk, hg] at hl
        split at hl
        · rename_i e; subst e; cases hl; exact .inr (.inr (.inl ⟨rfl, rfl⟩))
        · cases hl
      | ent n =>
        simp only [Fp.blk, hg] at hl
        split at hl
        · rename_i e; subst e; cases hl; exact .inr (.inr (.inr ⟨rfl, rfl⟩))
        · cases hl
      | dat n =>
        simp only [Fp.blk, hg] at hl
        split at hl <;> cases hl
      | tr => cases hl
    intro l l' b h1 h2
    rcases key l b h1 with ⟨rfl, e⟩ | ⟨rfl, e⟩ | ⟨rfl, e⟩ | ⟨rfl, e⟩ <;> rcases key l' b h2 with ⟨rfl, e'⟩ | ⟨rfl, e'⟩ | ⟨rfl, e'⟩ | ⟨rfl, e'⟩ <;> first | rfl | (exfalso; omega)

set_option maxRecDepth 100000 in
theorem new_yes (w : World) (nodes bytes : Int) (h : newOk nodes bytes = true) : Calls Tryz.prog 58 #[.int .i64 nodes, .int .i64 bytes] w (NewPost w nodes bytes) := by
  have hh := h
  unfold newOk at hh
  simp only [Bool.not_eq_true', Bool.or_eq_false_iff, decide_eq_false_iff_not] at hh
  obtain ⟨⟨⟨b1, b2⟩, b3⟩, b4⟩ := hh
  have b1' : 1 ≤ nodes := by omega
  have b2' : nodes ≤ 4096 := by omega
  have b3' : 0 ≤ bytes := by omega
  have b4' : bytes ≤ 4194304 := by omega
  have H := Lib.hid h
  clear b1 b2 b3 b4 h
  have hmm := @run_makeMap Tryz.prog
  obtain ⟨w5, hrun, hm5, hu5⟩ := MapHas.run_update (T := ints) (P := Tryz.prog) (w := newW w nodes bytes) (b := w.heap.size + 1) (g := fun _ => none) (n := 0)
    ⟨#[], 0, (newW_heap w nodes bytes).2.2.1, stamped_empty 0, by simp, by simp, rfl⟩ Tryz.underlying135 Tryz.underlying3 1 (ptr (w.heap.size + 3))
  have HF := Lib.hid (new_fs w w5 nodes bytes (by simpa using hm5) hu5)
  have h0 : w5.heap[w.heap.size]? = some (.cells #[.int .i64 nodes, .int .i64 bytes, .int .i64 2, .int .i64 0, .map none, .slice none 0 0] 137 (0, 0)) := (hu5.block _ (by omega)).trans (newW_heap w nodes bytes).2.1
  have c4 : w5.cell? ⟨w.heap.size, 4, none⟩ = some (.map none) := by simp [World.cell?, h0]
  have f4 : w5.frozen? ⟨w.heap.size, 4, none⟩ = false := by simp [World.frozen?, h0]
  have hrun' : (Instr.mapUpdate 135 (.map (some (w.heap.size + 1))) (.int .i64 1) (.pointer (some ⟨w.heap.size + 1 + 1 + 1, 0, none⟩))).run Tryz.prog
    ((((w.alloc (.cells #[.int .i64 nodes, .int .i64 bytes, .int .i64 2, .int .i64 0, .map none, .slice none 0 0] 137)).alloc (.map #[] 0)).alloc (.map #[] 0)).alloc
    (.cells #[.int .i64 1, .int .u32 0, .int .u32 0, .int .u32 0, .int .i64 0, .int .i32 0, .slice none 0 0, .string ⟨#[]⟩, .map (some (w.heap.size + 1 + 1)), .int .i64 1, .int .i64 1] 140)) = .ok () w5 := hrun
  clear hrun hm5 hu5 h0
  go_enter Tryz.func58, Tryz.ntmps58
  go_wp2
  go_ret2
  exact ⟨HF.out.1, by rw [if_pos H.out]; exact ⟨rfl, HF.out.2.1, HF.out.2.2⟩⟩

theorem New_any (w : World) (nodes bytes : Int) : Calls Tryz.prog 58 #[.int .i64 nodes, .int .i64 bytes] w (NewPost w nodes bytes) := by
  cases h : newOk nodes bytes with
  | true => exact new_yes w nodes bytes h
  | false => exact new_no w nodes bytes h
end Go.Proofs.YtpffanfpohajhaaGreat
