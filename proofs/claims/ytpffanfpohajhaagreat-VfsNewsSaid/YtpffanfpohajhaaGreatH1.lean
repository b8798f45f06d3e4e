/- Walk of Image of vfs. Condition: the file system's numbers and entries are sorted, and bounds. -/
import Derived.Test.YtpffanfpohajhaaGreatG2
import Derived.Deep.RegionHeld3
import Derived.Deep.AppendLies
import Derived.Test.YtpffanfpohajhaaGreatK0
namespace Go.Proofs.YtpffanfpohajhaaGreat
open Go Go.MapKept
open Go.RowKit hiding intOf

structure NodeL where
  number : Int
  kind : Int
  mt : Mt
  data : List UInt8
  target : ByteArray
  ents : List (ByteArray × Int)
  deriving DecidableEq, Inhabited

def nodeCells (n : NodeL) (v : Value × Value) : List Value :=
  [.int .i64 n.number, .int .i64 n.kind, .int .u32 n.mt.mode, .int .u32 n.mt.uid, .int .u32 n.mt.gid, .int .i64 n.mt.time, .int .i32 n.mt.nano, v.1, .string n.target, v.2]

def nodesCells (l : List (NodeL × Value × Value)) : List Value := l.flatMap fun p => nodeCells p.1 p.2

/-- A list of nodes in memory of its own, from a block on. -/
structure NodesOwn (w : World) (base : Nat) (v : Value) (l : List (NodeL × Value × Value)) : Prop where
  row : w.ownsRow base 76 10 v l.length (nodesCells l)
  parts : ∀ p ∈ l, w.ownsRow base 5 1 p.2.1 p.1.data.length (u8s p.1.data) ∧ w.ownsRow base 101 2 p.2.2 p.1.ents.length (named p.1.ents)

theorem nodesCells_length (l : List (NodeL × Value × Value)) : (nodesCells l).length = l.length * 10 := by
  unfold nodesCells
  induction l with
  | nil => rfl
  | cons p l ih => rw [List.flatMap_cons, List.length_append, ih, List.length_cons]; simp only [nodeCells, List.length_cons, List.length_nil]; omega
theorem nodesCells_snoc (l : List (NodeL × Value × Value)) (p : NodeL × Value × Value) : nodesCells (l ++ [p]) = nodesCells l ++ nodeCells p.1 p.2 := by
  simp [nodesCells]

def nodeOf (n : Int) (i : Ino) : NodeL := ⟨n, i.kind, i.mt, i.data, i.target, i.ents⟩
def Fs.nodesL (F : Fs) : List NodeL := F.inos.map fun p => nodeOf p.1 p.2

theorem info76 : (Tryz.prog.info? 76).map (fun i => (i.zero, i.size, i.bytes)) = some (some (.agg #[.int .i64 0, .int .i64 0, .int .u32 0, .int .u32 0, .int .u32 0, .int .i64 0, .int .i32 0, .slice none 0 0, .string ByteArray.empty, .slice none 0 0]), 10, 112) := by kernel_rfl

def ListAny (w : World) (l : List (ByteArray × Int)) (e : Ending) (w' : World) : Prop := ∃ v, e = .returned v ∧ w'.ownsRow w.heap.size 101 2 v l.length (named l) ∧ Below w.heap.size w w'
theorem list_any (F : Fs) (f : Fp) (w : World) (h : FsAt w F f) (n : Int) {i : Ino} (hg : F.get n = some i) (ho : EntsOk i.ents) :
    Calls Tryz.prog 99 #[.pointer (some ⟨f.ib n, 0, none⟩)] w (ListAny w i.ents) := by
  by_cases hk : i.kind = 1
  · exact list_dir F f w h n hg hk ho
  · have := h.holds (.ent n) i hg
    rw [if_neg hk] at this
    rw [this]
    refine (list_none F f w h n hg hk).mono ?_
    rintro e w' ⟨rfl, hb⟩
    exact ⟨_, rfl, World.ownsRow_nil _ _ _ _, hb⟩

structure InosOk (l : List (Int × Ino)) : Prop where
  sorted : (l.map (·.1)).Pairwise (· < ·)
  range : ∀ p ∈ l, 1 ≤ p.1 ∧ p.1 ≤ 1099511627776
  few : l.length ≤ 4096
  ents : ∀ p ∈ l, EntsOk p.2.ents
  data : ∀ p ∈ l, p.2.data.length ≤ 4194304

theorem geti_mem {l : List (Int × Ino)} (hs : (l.map (·.1)).Pairwise (· < ·)) {p : Int × Ino} (hp : p ∈ l) : YtpffanfpohajhaaGreat.get p.1 l = some p.2 := by
  induction l with
  | nil => cases hp
  | cons q l ih =>
    obtain ⟨h1, h2⟩ := List.pairwise_cons.1 hs
    unfold YtpffanfpohajhaaGreat.get
    split
    · rename_i e
      rcases List.mem_cons.1 hp with rfl | hp'
      · rfl
      · have := h1 p.1 (List.mem_map.2 ⟨p, hp', rfl⟩)
        simp only at this
        omega
    · rename_i e
      rcases List.mem_cons.1 hp with rfl | hp'
      · exact absurd rfl e
      · exact ih h2 hp'

/-- The four cells of an image. -/
def imgCells (nodes bytes next : Int) (v : Value) : Array Value := #[.int .i64 nodes, .int .i64 bytes, .int .i64 next, v]

/-- What Image hands back. -/
def ImgPost (F : Fs) (w : World) (e : Ending) (w' : World) : Prop :=
  ∃ (v : Value) (l : List (NodeL × Value × Value)), e = .returned (.agg (imgCells F.nodes F.bytes F.next v)) ∧ l.map (·.1) = F.nodesL ∧ NodesOwn w' w.heap.size v l ∧ Below w.heap.size w w'

theorem own_below {w w' : World} {base : Nat} {e : TypeId} {size n : Nat} {v : Value} {xs : List Value} (h : w.ownsRow base e size v n xs) (hb : Below w.heap.size w w') : w'.ownsRow base e size v n xs := by
  obtain ⟨h1, h2 | ⟨g, cap, cur, rfl, h3, h4, h5⟩⟩ := h
  · exact ⟨h1, .inl h2⟩
  · exact ⟨h1, .inr ⟨g, cap, cur, rfl, h3, (hb.block g (Array.getElem?_eq_some_iff.1 h4).1).trans h4, h5⟩⟩
theorem node_news (w : World) (n : NodeL) (v : Value × Value) : ∀ (j : Nat) u, (nodeCells n v)[j]? = some u → (w.alloc (.cells (nodeCells n v).toArray 76)).cell? ((⟨w.heap.size, 0, none⟩ : Addr).add j) = some u :=
  fun j u h => cell_new w _ 76 j u h
theorem node_one (n : NodeL) (v : Value × Value) (h1 : v.1.oneCell' = true) (h2 : v.2.oneCell' = true) : ∀ u ∈ nodeCells n v, u.oneCell' = true := by
  intro u hu
  simp only [nodeCells, List.mem_cons, List.not_mem_nil, or_false] at hu
  rcases hu with rfl | rfl | rfl | rfl | rfl | rfl | rfl | rfl | rfl | rfl <;> first | rfl | assumption

theorem held_keep {X b : Nat} {v0 v1 v2 v3 v4 v5 v6 v7 v8 : Value} {w W' : World} {B : Nat} (hb : Below B w W') (h1 : b < B) (h2 : X < B)
    (c0 : w.cell? ⟨X, 3, none⟩ = some v0) (c1 : w.cell? ⟨b, 0, none⟩ = some v1) (c2 : w.cell? ⟨b, 1, none⟩ = some v2) (c3 : w.cell? ⟨b, 2, none⟩ = some v3) (c4 : w.cell? ⟨b, 3, none⟩ = some v4) (c5 : w.cell? ⟨b, 4, none⟩ = some v5) (c6 : w.cell? ⟨b, 5, none⟩ = some v6) (c7 : w.cell? ⟨b, 6, none⟩ = some v7) (c8 : w.cell? ⟨b, 7, none⟩ = some v8) :
    W'.cell? ⟨X, 3, none⟩ = some v0 ∧ W'.cell? ⟨b, 0, none⟩ = some v1 ∧ W'.cell? ⟨b, 1, none⟩ = some v2 ∧ W'.cell? ⟨b, 2, none⟩ = some v3 ∧ W'.cell? ⟨b, 3, none⟩ = some v4 ∧ W'.cell? ⟨b, 4, none⟩ = some v5 ∧ W'.cell? ⟨b, 5, none⟩ = some v6 ∧ W'.cell? ⟨b, 6, none⟩ = some v7 ∧ W'.cell? ⟨b, 7, none⟩ = some v8 := by
  have key : ∀ (k : Nat), W'.cell? ⟨b, k, none⟩ = w.cell? ⟨b, k, none⟩ := fun k => hb.cell (p := ⟨b, k, none⟩) h1
  have kx : W'.cell? ⟨X, 3, none⟩ = w.cell? ⟨X, 3, none⟩ := hb.cell (p := ⟨X, 3, none⟩) h2
  simp only [key, kx]
  exact ⟨c0, c1, c2, c3, c4, c5, c6, c7, c8⟩

theorem held_same {X b : Nat} {v0 v1 v2 v3 v4 v5 v6 v7 v8 : Value} {w W' : World} {B : Nat} (hb : Below B w W') (h1 : b < B) (h2 : X < B)
    (h : w.cell? ⟨X, 3, none⟩ = some v0 ∧ w.cell? ⟨b, 0, none⟩ = some v1 ∧ w.cell? ⟨b, 1, none⟩ = some v2 ∧ w.cell? ⟨b, 2, none⟩ = some v3 ∧ w.cell? ⟨b, 3, none⟩ = some v4 ∧ w.cell? ⟨b, 4, none⟩ = some v5 ∧ w.cell? ⟨b, 5, none⟩ = some v6 ∧ w.cell? ⟨b, 6, none⟩ = some v7 ∧ w.cell? ⟨b, 7, none⟩ = some v8) :
    W'.cell? ⟨X, 3, none⟩ = some v0 ∧ W'.cell? ⟨b, 0, none⟩ = some v1 ∧ W'.cell? ⟨b, 1, none⟩ = some v2 ∧ W'.cell? ⟨b, 2, none⟩ = some v3 ∧ W'.cell? ⟨b, 3, none⟩ = some v4 ∧ W'.cell? ⟨b, 4, none⟩ = some v5 ∧ W'.cell? ⟨b, 5, none⟩ = some v6 ∧ W'.cell? ⟨b, 6, none⟩ = some v7 ∧ W'.cell? ⟨b, 7, none⟩ = some v8 :=
  held_keep hb h1 h2 h.1 h.2.1 h.2.2.1 h.2.2.2.1 h.2.2.2.2.1 h.2.2.2.2.2.1 h.2.2.2.2.2.2.1 h.2.2.2.2.2.2.2.1 h.2.2.2.2.2.2.2.2

theorem own_kept_type {w w' : World} {b b' : Nat} {e e' : TypeId} {s s' n n' : Nat} {v v' : Value} {xs xs' : List Value} (h : w.ownsRow b e s v n xs) (h' : w.ownsRow b' e' s' v' n' xs') (hne : e ≠ e') (hg : w.grownBy w' v'.ownBlock) : w'.ownsRow b e s v n xs := by
  refine h.kept hg ?_
  rcases h.2 with ⟨rfl, _⟩ | ⟨g, cap, cur, rfl, _, hh, _⟩
  · exact .inl rfl
  · refine .inr fun hk => ?_
    rcases h'.2 with ⟨rfl, _⟩ | ⟨g', cap', cur', rfl, _, hh', _⟩
    · simp [Value.ownBlock] at hk
    · have : g = g' := by simpa [Value.ownBlock] using hk
      subst this
      rw [hh] at hh'
      injection hh' with hh'
      injection hh' with _ ht
      exact hne ht

theorem nodesL_take {F : Fs} {k : Nat} (hlt : k < F.inos.length) {n : Int} {i : Ino} (hp : F.inos[k] = (n, i)) : F.nodesL.take (k + 1) = F.nodesL.take k ++ [nodeOf n i] := by
  unfold Fs.nodesL
  rw [← List.map_take, ← List.map_take, List.take_succ_eq_append_getElem hlt, List.map_append, hp]
  rfl

theorem image_round {F : Fs} {w w2 wr w6 w7 : World} {k : Nat} {n : Int} {i : Ino} {lv : Value} {l : List (NodeL × Value × Value)} {da ea : Option Addr} {dc ec gg gcap : Nat} {ad : Addr}
    (hlt : k < F.inos.length) (hp : F.inos[k] = (n, i))
    (hX : wr.heap[w.heap.size + 1]? = some (.cells (imgCells F.nodes F.bytes F.next lv) 37 (0, 0))) (hR : wr.heap[w.heap.size]? = some (.cells #[.int .i64 0, .int .i64 0, .int .i64 0, .slice none 0 0] 37 (0, 0)))
    (hB : Below w.heap.size w wr) (hszr : w2.heap.size ≤ wr.heap.size) (hK : ∀ ad', some ad = some ad' → ∀ j, wr.cell? (ad'.add j) = w2.cell? (ad'.add j)) (hAD : w.heap.size + 3 ≤ ad.block ∧ ad.block < w2.heap.size)
    (hll : l.length = k) (hlm : l.map (·.1) = F.nodesL.take k) (hB6 : Below wr.heap.size wr w6)
    (hrow : w6.ownsRow w2.heap.size 76 10 lv l.length (nodesCells l)) (hparts : ∀ p ∈ l, w6.ownsRow w2.heap.size 5 1 p.2.1 p.1.data.length (u8s p.1.data) ∧ w6.ownsRow w2.heap.size 101 2 p.2.2 p.1.ents.length (named p.1.ents))
    (hd : w6.ownsRow w2.heap.size 5 1 (.slice da i.data.length dc) i.data.length (u8s i.data)) (he : w6.ownsRow w2.heap.size 101 2 (.slice ea i.ents.length ec) i.ents.length (named i.ents))
    (hO7 : w7.ownsRow w2.heap.size 76 10 (.slice (some ⟨gg, 0, none⟩) (l.length + 1) gcap) (l.length + 1) (nodesCells l ++ nodeCells (nodeOf n i) (.slice da i.data.length dc, .slice ea i.ents.length ec)))
    (hG : w6.grownBy w7 lv.ownBlock) (hsz2 : w.heap.size + 2 ≤ w2.heap.size) (W8 : World) (hW8 : W8 = w7.setCell ⟨w.heap.size + 1, 3, none⟩ (.slice (some ⟨gg, 0, none⟩) (l.length + 1) gcap)) :
    ∃ (k1 : Nat) (lv1 : Value) (l1 : List (NodeL × Value × Value)), k1 ≤ F.inos.length ∧ Value.int .i64 ((k : Int) + 1) = .int .i64 k1 ∧ W8.heap[w.heap.size + 1]? = some (.cells (imgCells F.nodes F.bytes F.next lv1) 37 (0, 0)) ∧
      W8.heap[w.heap.size]? = some (.cells #[.int .i64 0, .int .i64 0, .int .i64 0, .slice none 0 0] 37 (0, 0)) ∧ Below w.heap.size w W8 ∧ w2.heap.size ≤ W8.heap.size ∧ (∀ ad', some ad = some ad' → ∀ j, W8.cell? (ad'.add j) = w2.cell? (ad'.add j)) ∧
      l1.length = k1 ∧ l1.map (·.1) = F.nodesL.take k1 ∧ NodesOwn W8 w2.heap.size lv1 l1 := by
  have hu := Upd.setCell w7 ⟨w.heap.size + 1, 3, none⟩ (.slice (some ⟨gg, 0, none⟩) (l.length + 1) gcap)
  rw [← hW8] at hu
  have hb7 : ∀ x, x < w2.heap.size → w7.heap[x]? = wr.heap[x]? := fun x hx => by
    rw [hG.block x (by have := hB6.size; omega) (fun e => by have := (hrow.lt x e.symm).1; omega), hB6.block x (by omega)]
  have hs7 : wr.heap.size ≤ w7.heap.size := Nat.le_trans hB6.size hG.size
  have h8 : ∀ x, x ≠ w.heap.size + 1 → W8.heap[x]? = w7.heap[x]? := fun x hx => hu.block x hx
  have hk8 : ∀ {e : TypeId} {s m : Nat} {v : Value} {xs : List Value}, w7.ownsRow w2.heap.size e s v m xs → W8.ownsRow w2.heap.size e s v m xs := fun h => by
    rw [hW8]; exact RowKit.ownsRow_setCell_below h (by show w.heap.size + 1 < _; omega) _
  refine ⟨k + 1, .slice (some ⟨gg, 0, none⟩) (l.length + 1) gcap, l ++ [(nodeOf n i, .slice da i.data.length dc, .slice ea i.ents.length ec)], by omega, by go_num, ?_, ?_, ?_, ?_, ?_, ?_, ?_, ?_⟩
  · have : w7.heap[w.heap.size + 1]? = some (.cells (imgCells F.nodes F.bytes F.next lv) 37 (0, 0)) := (hb7 _ (by omega)).trans hX
    rw [hW8]
    simp only [World.setCell, Array.getElem?_modify, if_true, this]
    rfl
  · rw [h8 _ (by omega), hb7 _ (by omega), hR]
  · refine hB.trans ⟨?_, ?_, ?_, ?_, fun x hx => ?_⟩
    · rw [hu.os, hG.os, hB6.os]
    · rw [hu.tape, hG.tape, hB6.tape]
    · rw [hu.output, hG.output, hB6.output]
    · rw [hu.size]; exact hs7
    · rw [h8 _ (by omega), hb7 _ (by omega)]
  · rw [hu.size]; omega
  · rintro ad' h' j
    cases h'
    rw [← hK ad rfl j]
    have hab : (ad.add j).block = ad.block := by unfold Addr.add; split <;> rfl
    exact World.cell?_of_block (by rw [hab, h8 _ (by omega), hb7 _ hAD.2])
  · simp [hll]
  · rw [List.map_append, hlm, nodesL_take hlt hp]; rfl
  · refine ⟨?_, ?_⟩
    · rw [nodesCells_snoc]
      have : (l ++ [(nodeOf n i, Value.slice da i.data.length dc, Value.slice ea i.ents.length ec)]).length = l.length + 1 := by simp
      rw [this]
      exact hk8 hO7
    · intro p hp'
      rcases List.mem_append.1 hp' with hp' | hp'
      · exact ⟨hk8 (own_kept_type (hparts p hp').1 hrow (by decide) hG), hk8 (own_kept_type (hparts p hp').2 hrow (by decide) hG)⟩
      · obtain rfl : p = _ := by simpa using hp'
        exact ⟨hk8 (own_kept_type hd hrow (by decide) hG), hk8 (own_kept_type he hrow (by decide) hG)⟩

theorem ret_row1 {P : Program} {fn : Func} {R : Ending → World → Prop} {a : Act} {w : World} {p : Tmp} {ty : TypeId} {g : Nat} {T : TypeId} {cs : Array Value} {fr : Nat × Nat} {d : TypeDesc}
    (h : fn.results = #[.cell p ty]) (hp : a.tmps.getD p undef = .pointer (some ⟨g, 0, none⟩)) (hg : w.heap[g]? = some (.cells cs T fr))
    (hu : P.underlying ty = some d) (hd : (match d with | .struct _ | .array _ _ => true | _ => false) = true) (hi : (P.info? ty).map (·.size) = some cs.size) (hdf : a.defers = [])
    (hR : R (.returned (.agg cs)) w) : bodyPost P fn R .ret a w := by
  refine bodyPost_ret (v := .agg cs) ?_ hdf hR
  have := run_loadVar_row (P := P) w g T ty cs fr d hg hu (by cases d <;> first | rfl | exact absurd hd (by simp)) hi
  have hp' : a.tmps[p]?.getD undef = .pointer (some ⟨g, 0, none⟩) := by rw [← hp]; simp
  simp [results, h, hp', asAddr, Result.andThen, this]
theorem own_setRow {w : World} {base : Nat} {e : TypeId} {size n : Nat} {v : Value} {xs : List Value} (h : w.ownsRow base e size v n xs) {g : Nat} (hg : g < base) (cs : Array Value) : (w.setRow g cs).ownsRow base e size v n xs := by
  obtain ⟨h1, h2 | ⟨g', cap, cur, rfl, h3, h4, h5⟩⟩ := h
  · exact ⟨h1, .inl h2⟩
  · exact ⟨h1, .inr ⟨g', cap, cur, rfl, h3, (setRow_other w g g' cs (by omega)).trans h4, h5⟩⟩

set_option maxRecDepth 100000 in
set_option maxHeartbeats 1000000 in
theorem Image_any (F : Fs) (f : Fp) (w : World) (h : FsAt w F f) (ho : InosOk F.inos) : Calls Tryz.prog 35 #[ptr f.p] w (ImgPost F w) := by
  obtain ⟨i0, hi0, hz0, hz1, hz2⟩ := info_parts info76
  have c0 : w.cell? ⟨f.p, 0, none⟩ = some (.int .i64 F.nodes) := Row.cell (h.holds .fs) 0 rfl
  have c1 : w.cell? ⟨f.p, 1, none⟩ = some (.int .i64 F.bytes) := Row.cell (h.holds .fs) 1 rfl
  have c2 : w.cell? ⟨f.p, 2, none⟩ = some (.int .i64 F.next) := Row.cell (h.holds .fs) 2 rfl
  have hp : f.p < w.heap.size := Row.lt (h.holds .fs)
  have hlen : F.inos.length ≤ 4096 := ho.few
  have HO := Lib.hid ho
  clear ho
  unfold ptr
  go_enter Tryz.func35, Tryz.ntmps35
  go_wp2_with fail
  go_region_held3 (fun w' => w'.cell? ⟨f.p, 0, none⟩ = some (.int .i64 F.nodes) ∧ w'.cell? ⟨f.p, 1, none⟩ = some (.int .i64 F.bytes) ∧ w'.cell? ⟨f.p, 2, none⟩ = some (.int .i64 F.next)) (go_keep) (fail)
  have hW : ∃ W, W = ((w.alloc (.cells #[.int .i64 0, .int .i64 0, .int .i64 0, .slice none 0 0] 37)).alloc (.cells #[.int .i64 F.nodes, .int .i64 F.bytes, .int .i64 F.next, .slice none 0 0] 37)).drew := ⟨_, rfl⟩
  obtain ⟨W, hW⟩ := hW
  have hX : W.heap[w.heap.size + 1]? = some (.cells (imgCells F.nodes F.bytes F.next (.slice none 0 0)) 37 (0, 0)) := by
    rw [hW]
    have s1 : (w.alloc (.cells #[.int .i64 0, .int .i64 0, .int .i64 0, .slice none 0 0] 37)).heap.size = w.heap.size + 1 := by simp
    show ((w.alloc (.cells #[.int .i64 0, .int .i64 0, .int .i64 0, .slice none 0 0] 37)).alloc _).heap[w.heap.size + 1]? = _
    rw [← s1, (heap_alloc _ _).1]
    rfl
  have hR : W.heap[w.heap.size]? = some (.cells #[.int .i64 0, .int .i64 0, .int .i64 0, .slice none 0 0] 37 (0, 0)) := by
    rw [hW]
    show ((w.alloc (.cells #[.int .i64 0, .int .i64 0, .int .i64 0, .slice none 0 0] 37)).alloc _).heap[w.heap.size]? = _
    rw [(heap_alloc _ _).2 _ (by simp), (heap_alloc _ _).1]
  have hBW : Below w.heap.size w W := by rw [hW]; exact (((Below.refl _ _).alloc (Nat.le_refl _) _).alloc (by simp) _).drew
  have hszW : W.heap.size = w.heap.size + 2 := by rw [hW]; show ((w.alloc _).alloc _).heap.size = _; simp
  rw [← hW]
  have HX := Lib.hid hX
  have HR := Lib.hid hR
  have HB := Lib.hid hBW
  have HSZ := Lib.hid hszW
  clear hX hR hBW hW hszW c0 c1 c2
  have h1 := h.below HB.out
  have cm := h1.m_cell
  go_wp2_with fail
  refine (Tryz.keysOfI _ _).mono ?_
  rintro e w1 ⟨rfl, rfl⟩
  clear cm
  have hs := sorted_ints (h1.holds .map) (fun k v hv => by
      simp only [Option.map_eq_some_iff] at hv
      obtain ⟨i, hi, _⟩ := hv
      have := HO.out.range _ (mem_of_get hi)
      simp only at this
      exact WalkArith.wf_i64 (by omega)) (by omega) (ks := F.inos.map (·.1)) HO.out.sorted (fun k => by
      rw [List.mem_map]
      constructor
      · rintro ⟨p, hp, rfl⟩; exact ⟨_, by rw [Fs.get, geti_mem HO.out.sorted hp]; rfl⟩
      · rintro ⟨v, hv⟩
        simp only [Option.map_eq_some_iff] at hv
        obtain ⟨i, hi, _⟩ := hv
        exact ⟨_, mem_of_get hi, rfl⟩)
  go_wp2_with fail
  refine hs.mono ?_
  rintro e w2 ⟨v, rfl, hrow, hnil, hb⟩
  clear hs hnil
  have hbW2 : Below W.heap.size W w2 := ((Below.refl W.heap.size W).alloc (Nat.le_refl _) _).trans (hb.mono (by omega))
  obtain ⟨a, cap, rfl, hcells⟩ : ∃ a cap, v = .slice a F.inos.length cap ∧ ∀ j, j < F.inos.length → ∃ ad, a = some ad ∧ w.heap.size + 3 ≤ ad.block ∧ ad.block < w2.heap.size ∧ w2.cell? (ad.add j) = some (.int .i64 (F.inos.getD j (0, default)).1) := by
    rw [List.length_map] at hrow
    obtain ⟨a, cap, e1, e2⟩ := own_form hrow
    refine ⟨a, cap, e1, fun j hj => ?_⟩
    obtain ⟨ad, r1, r2, r3, r4⟩ := e2 j (.int .i64 (F.inos[j]).1) (by simp [List.getElem?_eq_getElem hj])
    exact ⟨ad, r1, by rw [HSZ.out] at r2; omega, r3, by rw [r4, List.getD_eq_getElem?_getD, List.getElem?_eq_getElem hj]; rfl⟩
  have HC := Lib.hid hcells
  have HX2 := Lib.hid ((hbW2.block _ (by rw [HSZ.out]; omega)).trans HX.out)
  have HR2 := Lib.hid ((hbW2.block _ (by rw [HSZ.out]; omega)).trans HR.out)
  have HB2 := Lib.hid (HB.out.trans (hbW2.mono HB.out.size))
  have hsz2 : w.heap.size + 2 ≤ w2.heap.size := by have := hbW2.size; rw [HSZ.out] at this; exact this
  clear hcells hrow hb hbW2 HX HR h1
  go_wp2_with fail
  go_loopw [27] (fun iv wr => ∃ (k : Nat) (lv : Value) (l : List (NodeL × Value × Value)), k ≤ F.inos.length ∧ iv = .int .i64 k ∧ wr.heap[w.heap.size + 1]? = some (.cells (imgCells F.nodes F.bytes F.next lv) 37 (0, 0)) ∧
      wr.heap[w.heap.size]? = some (.cells #[.int .i64 0, .int .i64 0, .int .i64 0, .slice none 0 0] 37 (0, 0)) ∧ Below w.heap.size w wr ∧ w2.heap.size ≤ wr.heap.size ∧ (∀ ad, a = some ad → ∀ j, wr.cell? (ad.add j) = w2.cell? (ad.add j)) ∧
      l.length = k ∧ l.map (·.1) = F.nodesL.take k ∧ NodesOwn wr w2.heap.size lv l) (fun iv _ => F.inos.length - (RowKit.intOf iv).toNat)
  case atStart => exact ⟨0, _, [], Nat.zero_le _, rfl, HX2.out, HR2.out, HB2.out, Nat.le_refl _, fun _ _ _ => rfl, rfl, rfl, ⟨World.ownsRow_nil _ _ _ _, by simp⟩⟩
  case round =>
    obtain ⟨k, lv, l, hk, rfl, hx, hr, hbel, hszr, hkeep, hll, hlm, hown⟩ := hrel
    have HXr := Lib.hid hx
    have HRr := Lib.hid hr
    have HBr := Lib.hid hbel
    have HK := Lib.hid hkeep
    have HLL := Lib.hid hll
    have HLM := Lib.hid hlm
    have HOWN := Lib.hid hown
    clear hx hr hbel hkeep hll hlm hown
    have h3 := h.below HBr.out
    by_cases hlt : k < F.inos.length
    · obtain ⟨ad, rfl, had0, had, hck⟩ := HC.out k hlt
      have hck3 := (HK.out ad rfl k).trans hck
      have hge : F.inos.getD k (0, default) = F.inos[k] := by rw [List.getD_eq_getElem?_getD, List.getElem?_eq_getElem hlt]; rfl
      rw [hge] at hck3
      obtain ⟨n, hn⟩ : ∃ n, n = (F.inos[k]).1 := ⟨_, rfl⟩
      obtain ⟨i, hi⟩ : ∃ i, i = (F.inos[k]).2 := ⟨_, rfl⟩
      have hpair : F.inos[k] = (n, i) := by rw [hn, hi]
      have hmem : (n, i) ∈ F.inos := by rw [← hpair]; exact List.getElem_mem hlt
      have hget : F.get n = some i := geti_mem HO.out.sorted hmem
      rw [← hn] at hck3
      have hm3 := h3.m_cell
      have hlk := h3.lk hget
      have k0 := h3.ino_row hget 0 rfl
      have k1 := h3.ino_row hget 1 rfl
      have k2 := h3.ino_row hget 2 rfl
      have k3 := h3.ino_row hget 3 rfl
      have k4 := h3.ino_row hget 4 rfl
      have k5 := h3.ino_row hget 5 rfl
      have k6 := h3.ino_row hget 6 rfl
      have k7 := h3.ino_row hget 7 rfl
      have HP := Lib.hid hpair
      have HM := Lib.hid hmem
      have HG := Lib.hid hget
      have D1 := Lib.hid (fun (W5 : World) (h5 : Below wr.heap.size wr W5) => clone_bytes W5 (f.dv n) i.data.length (u8s i.data) ((h3.below h5).holds (.dat n) i hget) (u8s_one _) (by have := HO.out.data _ hmem; simp only at this; omega))
      have D2 := Lib.hid (fun (W5 : World) (h5 : Below wr.heap.size wr W5) => list_any F f W5 (h3.below h5) n hget (HO.out.ents _ hmem))
      have cx : wr.cell? ⟨w.heap.size + 1, 3, none⟩ = some lv := by simp [World.cell?, HXr.out, imgCells]
      have hib : f.ib n < wr.heap.size := Row.lt (h3.holds (.ino n) i hget)
      have hxb : w.heap.size + 1 < wr.heap.size := by omega
      have hw2l : w.heap.size < w2.heap.size := by omega
      have hibw : f.ib n < w.heap.size := Row.lt (h.holds (.ino n) i hget)
      have hib2 : f.ib n < w2.heap.size := by have := Row.lt (h.holds (.ino n) i hget); omega
      have hxb2 : w.heap.size + 1 < w2.heap.size := by omega
      have hfx : wr.frozen? ⟨w.heap.size + 1, 3, none⟩ = false := by simp [World.frozen?, HXr.out]
      have hl96 : l.length < 4096 := by have := HLL.out; omega
      have HAD := Lib.hid (And.intro had0 had)
      clear hge hn hi hpair hmem hget hck had had0
      go_wp2_with fail
      clear hm3 hlk hck3
      refine wp_region_noPanic ?_
      refine wp_region_L 26 (fun w' => w'.cell? ⟨w.heap.size + 1, 3, none⟩ = some lv ∧ w'.cell? ⟨f.ib n, 0, none⟩ = some (.int .i64 i.kind) ∧ w'.cell? ⟨f.ib n, 1, none⟩ = some (.int .u32 i.mt.mode) ∧ w'.cell? ⟨f.ib n, 2, none⟩ = some (.int .u32 i.mt.uid) ∧ w'.cell? ⟨f.ib n, 3, none⟩ = some (.int .u32 i.mt.gid) ∧ w'.cell? ⟨f.ib n, 4, none⟩ = some (.int .i64 i.mt.time) ∧ w'.cell? ⟨f.ib n, 5, none⟩ = some (.int .i32 i.mt.nano) ∧ w'.cell? ⟨f.ib n, 6, none⟩ = some (f.dv n) ∧ w'.cell? ⟨f.ib n, 7, none⟩ = some (.string i.target)) (by kernel_rfl) ?_
      have hS := Lib.hid (held_keep (B := w2.heap.size) (Below.refl _ wr).drew hib2 hxb2 cx k0 k1 k2 k3 k4 k5 k6 k7)
      have hW0 := Lib.hid (held_keep (B := w2.heap.size) (Below.refl _ wr) hib2 hxb2 cx k0 k1 k2 k3 k4 k5 k6 k7)
      clear cx k0 k1 k2 k3 k4 k5 k6 k7
      refine wpAnyL_take (i := 0) (v := ?_) rfl (by kernel_rfl) (fun _ _ _ h => h) (by rfl) (fun W hSw => ?_) hS.out ?_
      rotate_left
      · (obtain ⟨s0, s1, s2, s3, s4, s5, s6, s7, s8⟩ := hSw; go_simp; try (with_reducible rfl))
      try simp only [Act.put, List.setIfInBounds_toArray, List.set_cons_zero, List.set_cons_succ]
      refine wpAnyL_take (i := 1) (v := ?_) rfl (by kernel_rfl) (fun _ _ _ h => h) (by rfl) (fun W hSw => ?_) hS.out ?_
      rotate_left
      · (obtain ⟨s0, s1, s2, s3, s4, s5, s6, s7, s8⟩ := hSw; go_simp; try (with_reducible rfl))
      try simp only [Act.put, List.setIfInBounds_toArray, List.set_cons_zero, List.set_cons_succ]
      refine wpAnyL_take (i := 2) (v := ?_) rfl (by kernel_rfl) (fun _ _ _ h => h) (by rfl) (fun W hSw => ?_) hS.out ?_
      rotate_left
      · (obtain ⟨s0, s1, s2, s3, s4, s5, s6, s7, s8⟩ := hSw; go_simp; try (with_reducible rfl))
      try simp only [Act.put, List.setIfInBounds_toArray, List.set_cons_zero, List.set_cons_succ]
      refine wpAnyL_take (i := 3) (v := ?_) rfl (by kernel_rfl) (fun _ _ _ h => h) (by rfl) (fun W hSw => ?_) hS.out ?_
      rotate_left
      · (obtain ⟨s0, s1, s2, s3, s4, s5, s6, s7, s8⟩ := hSw; go_simp; try (with_reducible rfl))
      try simp only [Act.put, List.setIfInBounds_toArray, List.set_cons_zero, List.set_cons_succ]
      refine wpAnyL_take (i := 4) (v := ?_) rfl (by kernel_rfl) (fun _ _ _ h => h) (by rfl) (fun W hSw => ?_) hS.out ?_
      rotate_left
      · (obtain ⟨s0, s1, s2, s3, s4, s5, s6, s7, s8⟩ := hSw; go_simp; try (with_reducible rfl))
      try simp only [Act.put, List.setIfInBounds_toArray, List.set_cons_zero, List.set_cons_succ]
      refine wpAnyL_take (i := 5) (v := ?_) rfl (by kernel_rfl) (fun _ _ _ h => h) (by rfl) (fun W hSw => ?_) hS.out ?_
      rotate_left
      · (obtain ⟨s0, s1, s2, s3, s4, s5, s6, s7, s8⟩ := hSw; go_simp; try (with_reducible rfl))
      try simp only [Act.put, List.setIfInBounds_toArray, List.set_cons_zero, List.set_cons_succ]
      refine wpAnyL_take (i := 6) (v := ?_) rfl (by kernel_rfl) (fun _ _ _ h => h) (by rfl) (fun W hSw => ?_) hS.out ?_
      rotate_left
      · (obtain ⟨s0, s1, s2, s3, s4, s5, s6, s7, s8⟩ := hSw; go_simp; try (with_reducible rfl))
      try simp only [Act.put, List.setIfInBounds_toArray, List.set_cons_zero, List.set_cons_succ]
      refine wpAnyL_take (i := 7) (v := ?_) rfl (by kernel_rfl) (fun _ _ _ h => h) (by rfl) (fun W hSw => ?_) hS.out ?_
      rotate_left
      · (obtain ⟨s0, s1, s2, s3, s4, s5, s6, s7, s8⟩ := hSw; go_simp; try (with_reducible rfl))
      try simp only [Act.put, List.setIfInBounds_toArray, List.set_cons_zero, List.set_cons_succ]
      refine wpAnyL_take (i := 8) (v := ?_) rfl (by kernel_rfl) (fun _ _ _ h => h) (by rfl) (fun W hSw => ?_) hS.out ?_
      rotate_left
      · (obtain ⟨s0, s1, s2, s3, s4, s5, s6, s7, s8⟩ := hSw; go_simp; try (with_reducible rfl))
      try simp only [Act.put, List.setIfInBounds_toArray, List.set_cons_zero, List.set_cons_succ]
      refine wpAnyL_take (i := 9) (v := ?_) rfl (by kernel_rfl) (fun _ _ _ h => h) (by rfl) (fun W hSw => ?_) hS.out ?_
      rotate_left
      · (obtain ⟨s0, s1, s2, s3, s4, s5, s6, s7, s8⟩ := hSw; go_simp; try (with_reducible rfl))
      try simp only [Act.put, List.setIfInBounds_toArray, List.set_cons_zero, List.set_cons_succ]
      refine wpAnyL_take (i := 10) (v := ?_) rfl (by kernel_rfl) (fun _ _ _ h => h) (by rfl) (fun W hSw => ?_) hS.out ?_
      rotate_left
      · (obtain ⟨s0, s1, s2, s3, s4, s5, s6, s7, s8⟩ := hSw; go_simp; try (with_reducible rfl))
      try simp only [Act.put, List.setIfInBounds_toArray, List.set_cons_zero, List.set_cons_succ]
      refine wpAnyL_take (i := 11) (v := ?_) rfl (by kernel_rfl) (fun _ _ _ h => h) (by rfl) (fun W hSw => ?_) hS.out ?_
      rotate_left
      · (obtain ⟨s0, s1, s2, s3, s4, s5, s6, s7, s8⟩ := hSw; go_simp; try (with_reducible rfl))
      try simp only [Act.put, List.setIfInBounds_toArray, List.set_cons_zero, List.set_cons_succ]
      refine wpAnyL_take (i := 12) (v := ?_) rfl (by kernel_rfl) (fun _ _ _ h => h) (by rfl) (fun W hSw => ?_) hS.out ?_
      rotate_left
      · (obtain ⟨s0, s1, s2, s3, s4, s5, s6, s7, s8⟩ := hSw; go_simp; try (with_reducible rfl))
      try simp only [Act.put, List.setIfInBounds_toArray, List.set_cons_zero, List.set_cons_succ]
      refine wpAnyL_take (i := 13) (v := ?_) rfl (by kernel_rfl) (fun _ _ _ h => h) (by rfl) (fun W hSw => ?_) hS.out ?_
      rotate_left
      · (obtain ⟨s0, s1, s2, s3, s4, s5, s6, s7, s8⟩ := hSw; go_simp; try (with_reducible rfl))
      try simp only [Act.put, List.setIfInBounds_toArray, List.set_cons_zero, List.set_cons_succ]
      refine wpAnyL_take (i := 14) (v := ?_) rfl (by kernel_rfl) (fun _ _ _ h => h) (by rfl) (fun W hSw => ?_) hS.out ?_
      rotate_left
      · (obtain ⟨s0, s1, s2, s3, s4, s5, s6, s7, s8⟩ := hSw; go_simp; try (with_reducible rfl))
      try simp only [Act.put, List.setIfInBounds_toArray, List.set_cons_zero, List.set_cons_succ]
      refine wpAnyL_take (i := 16) (v := ?_) rfl (by kernel_rfl) (fun _ _ _ h => h) (by rfl) (fun W hSw => ?_) hS.out ?_
      rotate_left
      · (obtain ⟨s0, s1, s2, s3, s4, s5, s6, s7, s8⟩ := hSw; go_simp; try (with_reducible rfl))
      try simp only [Act.put, List.setIfInBounds_toArray, List.set_cons_zero, List.set_cons_succ]
      refine wpAnyL_take (i := 17) (v := ?_) rfl (by kernel_rfl) (fun _ _ _ h => h) (by rfl) (fun W hSw => ?_) hS.out ?_
      rotate_left
      · (obtain ⟨s0, s1, s2, s3, s4, s5, s6, s7, s8⟩ := hSw; go_simp; try (with_reducible rfl))
      try simp only [Act.put, List.setIfInBounds_toArray, List.set_cons_zero, List.set_cons_succ]
      refine wpAnyL_take (i := 18) (v := ?_) rfl (by kernel_rfl) (fun _ _ _ h => h) (by rfl) (fun W hSw => ?_) hS.out ?_
      rotate_left
      · (obtain ⟨s0, s1, s2, s3, s4, s5, s6, s7, s8⟩ := hSw; go_simp; try (with_reducible rfl))
      try simp only [Act.put, List.setIfInBounds_toArray, List.set_cons_zero, List.set_cons_succ]
      refine wpAnyL_take (i := 19) (v := ?_) rfl (by kernel_rfl) (fun _ _ _ h => h) (by rfl) (fun W hSw => ?_) hS.out ?_
      rotate_left
      · (obtain ⟨s0, s1, s2, s3, s4, s5, s6, s7, s8⟩ := hSw; go_simp; try (with_reducible rfl))
      try simp only [Act.put, List.setIfInBounds_toArray, List.set_cons_zero, List.set_cons_succ]
      refine wpAnyL_take (i := 20) (v := ?_) rfl (by kernel_rfl) (fun _ _ _ h => h) (by rfl) (fun W hSw => ?_) hS.out ?_
      rotate_left
      · (obtain ⟨s0, s1, s2, s3, s4, s5, s6, s7, s8⟩ := hSw; go_simp; try (with_reducible rfl))
      try simp only [Act.put, List.setIfInBounds_toArray, List.set_cons_zero, List.set_cons_succ]
      refine wpAnyL_only (i := 15) rfl (by kernel_rfl) rfl (fun K hK => ?_)
      go_simp
      refine (D1.out _ (Below.refl _ _).drew).mono ?_
      rintro e w5 ⟨dv', rfl, hd1, hd2, hd3⟩
      obtain ⟨da, dc, rfl, _⟩ := own_form hd1
      have HD1 := Lib.hid hd1
      have HB5 := Lib.hid ((Below.refl _ wr).drew.trans hd3)
      have hS5 := Lib.hid (held_same (Below.mono HB5.out (B' := w2.heap.size) hszr) hib2 hxb2 hW0.out)
      have hsz5 := HB5.out.size
      refine hK _ _ (.inr hS5.out) ?_
      clear hK K hd1 hd2 hd3 hS
      try simp only [Act.put, List.setIfInBounds_toArray, List.set_cons_zero, List.set_cons_succ]
      refine wpAnyL_only (i := 21) rfl (by kernel_rfl) rfl (fun K hK => ?_)
      go_simp
      refine (D2.out _ HB5.out).mono ?_
      rintro e w6 ⟨ev', rfl, he1, he3⟩
      obtain ⟨ea, ec, rfl, _⟩ := own_form he1
      have HE1 := Lib.hid he1
      have HD6 := Lib.hid (own_below HD1.out he3)
      have HB6 := Lib.hid (HB5.out.trans (he3.mono HB5.out.size))
      have HOW6 := Lib.hid (own_below HOWN.out.row HB6.out)
      have HPA6 := Lib.hid (fun p hp => And.intro (own_below (HOWN.out.parts p hp).1 HB6.out) (own_below (HOWN.out.parts p hp).2 HB6.out))
      have hS6 := Lib.hid (held_same (Below.mono HB6.out (B' := w2.heap.size) hszr) hib2 hxb2 hW0.out)
      have HE6 := Lib.hid (ownsRow_base_a he1 (Nat.le_trans hszr hsz5))
      have HD6b := Lib.hid (ownsRow_base_a HD6.out (show w2.heap.size ≤ wr.drew.heap.size from hszr))
      have hsz6 := HB6.out.size
      refine hK _ _ (.inr hS6.out) ?_
      clear hK K he1 he3 hS5 HB5 HD1 hsz5
      try simp only [Act.put, List.setIfInBounds_toArray, List.set_cons_zero, List.set_cons_succ]
      refine wpAnyL_take (i := 22) (v := ?_) rfl (by kernel_rfl) (fun _ _ _ h => h) (by rfl) (fun W hSw => ?_) hS6.out ?_
      rotate_left
      · (obtain ⟨s0, s1, s2, s3, s4, s5, s6, s7, s8⟩ := hSw; go_simp; try (with_reducible rfl))
      try simp only [Act.put, List.setIfInBounds_toArray, List.set_cons_zero, List.set_cons_succ]
      refine wpAnyL_only (i := 23) rfl (by kernel_rfl) rfl (fun K hK => ?_)
      go_simp
      have hS6a := Lib.hid (held_same (w := w6) (Below.alloc (B := w2.heap.size) (Below.refl _ _) (Nat.le_trans hszr hsz6) (.cells (nodeCells (nodeOf n i) (.slice da i.data.length dc, .slice ea i.ents.length ec)).toArray 76)) hib2 hxb2 hS6.out)
      refine hK _ _ (.inr hS6a.out) ?_
      clear hK K
      try simp only [Act.put, List.setIfInBounds_toArray, List.set_cons_zero, List.set_cons_succ]
      refine wpAnyL_only (i := 24) rfl (by kernel_rfl) rfl (fun K hK => ?_)
      refine wp_append_lies _ _ _ _ rfl w2.heap.size 76 i0 _ 10 112 Tryz.underlying35 hi0 hz0 hz1 hz2 rfl (by omega) lv l.length (nodesCells l) rfl (HOW6.out.alloc _) ⟨w6.heap.size, 0, none⟩ 1 1 (nodeCells (nodeOf n i) (.slice da i.data.length dc, .slice ea i.ents.length ec)) rfl rfl (node_news w6 _ _) (node_one _ _ rfl rfl) (by omega) (by unfold maxLen; omega) (by omega) (by simp; omega) (w6.heap.size + 1) (by simp) ?_
      intro gg gcap w7 hown7 hgrow7 hat7 hlt7
      have HB7 := Lib.hid ((Below.refl w2.heap.size w6).grown ((World.grownBy_alloc w6 _ _).trans hgrow7) (Nat.le_trans hszr hsz6) (fun j hj => (HOW6.out.lt j hj).1))
      have HO7 := Lib.hid hown7
      have HAT := Lib.hid hat7
      have HGR := Lib.hid ((World.grownBy_alloc w6 _ _).trans hgrow7)
      have hS7 := Lib.hid (held_same (w := w6) HB7.out hib2 hxb2 hS6.out)
      refine hK _ _ (.inr hS7.out) ?_
      clear hK K hown7 hgrow7 hat7 hS6a
      try simp only [Act.put, List.setIfInBounds_toArray, List.set_cons_zero, List.set_cons_succ]
      refine wpAnyL_take (i := 25) (v := ?_) rfl (by kernel_rfl) (fun _ _ _ h => h) (by rfl) (fun W hSw => ?_) hS7.out ?_
      rotate_left
      · (obtain ⟨s0, s1, s2, s3, s4, s5, s6, s7, s8⟩ := hSw; go_simp; try (with_reducible rfl))
      try simp only [Act.put, List.setIfInBounds_toArray, List.set_cons_zero, List.set_cons_succ]
      refine wpAnyL_only (i := 26) rfl (by kernel_rfl) rfl (fun K hK => ?_)
      have c7 := hS7.out.1
      have hfz := ((HB7.out.frozen (p := ⟨w.heap.size + 1, 3, none⟩) hxb2).trans (HB6.out.frozen (p := ⟨w.heap.size + 1, 3, none⟩) hxb)).trans hfx
      go_simp
      refine hK _ _ (.inl rfl) ?_
      clear hK K c7 hfz
      try simp only [Act.put, List.setIfInBounds_toArray, List.set_cons_zero, List.set_cons_succ]
      refine wpAnyL_done (by kernel_rfl) (NoPanic.normal ?_) _
      go_wp2
      go_roundw
      case rel => exact image_round hlt HP.out HXr.out HRr.out HBr.out hszr HK.out HAD.out HLL.out HLM.out HB6.out HOW6.out HPA6.out HD6b.out HE6.out HO7.out HGR.out hsz2 _ rfl
      case measure => simp [RowKit.intOf]; omega
    · have hke : k = F.inos.length := by omega
      subst hke
      obtain ⟨la, lc, rfl, _⟩ := own_form HOWN.out.row
      go_wp2_with (first | (refine wpList_load_row rfl 37 _ rfl (w.heap.size + 1) rfl 37 _ (0, 0) _ HXr.out Tryz.underlying37 rfl (by kernel_rfl) ?_) | (refine wpList_store_row rfl 37 _ _ rfl w.heap.size _ rfl rfl 37 _ HRr.out (by kernel_rfl) rfl (by simp [imgCells, Value.oneCell']) ?_))
      refine ret_row1 (g := w.heap.size) rfl rfl (setRow_heap _ _ _ _ _ _ HRr.out) Tryz.underlying37 rfl (by kernel_rfl) rfl ⟨_, l, rfl, by rw [HLM.out, ← HLL.out, HLL.out]; exact List.take_of_length_le (by simp [Fs.nodesL]), ⟨?_, ?_⟩, below_setRow HBr.out (Nat.le_refl _) _⟩
      · exact ownsRow_base_a (own_setRow HOWN.out.row (by omega) _) (by omega)
      · exact fun p hp => ⟨ownsRow_base_a (own_setRow (HOWN.out.parts p hp).1 (by omega) _) (by omega), ownsRow_base_a (own_setRow (HOWN.out.parts p hp).2 (by omega) _) (by omega)⟩
end Go.Proofs.YtpffanfpohajhaaGreat
