/- Rows of cells; words of SHA-256 as plain data. No condition. -/
import Derived.Deep.RegionHeld3
import Derived.Deep.MidRow
import Derived.Test.YtmnlebkpneeblaaDoorA
namespace Go.Proofs.YtmnlebkpneeblaaDoor
open Go Go.RowKit

def u32s (l : List Int) : List Value := l.map fun n => .int .u32 n
def u8s (l : List UInt8) : List Value := l.map fun b => .int .u8 b.toNat
theorem u32s_length (l : List Int) : (u32s l).length = l.length := List.length_map _
theorem u8s_length (l : List UInt8) : (u8s l).length = l.length := List.length_map _
theorem u32s_at {l : List Int} {j : Nat} (h : j < l.length) : (u32s l)[j]? = some (.int .u32 (l.getD j 0)) := by
  unfold u32s
  rw [List.getElem?_map, List.getElem?_eq_getElem h, List.getD_eq_getElem?_getD, List.getElem?_eq_getElem h]
  rfl
theorem u8s_at {l : List UInt8} {j : Nat} (h : j < l.length) : (u8s l)[j]? = some (.int .u8 (l.getD j 0).toNat) := by
  unfold u8s
  rw [List.getElem?_map, List.getElem?_eq_getElem h, List.getD_eq_getElem?_getD, List.getElem?_eq_getElem h]
  rfl

/-! ### 1. Rows -/
def Row (w : World) (b : Nat) (cs : List Value) : Prop := ∃ T, w.heap[b]? = some (.cells cs.toArray T (0, 0))

section
variable {w w' : World} {b : Nat} {cs : List Value}
theorem Row.of_block (h : Row w b cs) (e : w'.heap[b]? = w.heap[b]?) : Row w' b cs := by
  obtain ⟨T, h⟩ := h
  exact ⟨T, e.trans h⟩
theorem Row.cell (h : Row w b cs) (j : Nat) {v : Value} (e : cs[j]? = some v) : w.cell? ⟨b, j, none⟩ = some v := by
  obtain ⟨T, h⟩ := h
  simp [World.cell?, h, e]
theorem Row.frozen (h : Row w b cs) (j : Nat) : w.frozen? ⟨b, j, none⟩ = false := by
  obtain ⟨T, h⟩ := h
  simp [World.frozen?, h]
theorem Row.lt (h : Row w b cs) : b < w.heap.size := by
  obtain ⟨T, h⟩ := h
  exact (Array.getElem?_eq_some_iff.1 h).1
theorem Row.new (w : World) (cs : List Value) (T : TypeId) : Row (w.alloc (.cells cs.toArray T)) w.heap.size cs := ⟨T, heap_alloc_new _ _⟩
theorem Row.new_at (cs : List Value) (T : TypeId) (hb : w.heap.size = b) : Row (w.alloc (.cells cs.toArray T)) b cs := by subst hb; exact ⟨T, heap_alloc_new _ _⟩
theorem Row.new' (w : World) (cs : Array Value) (T : TypeId) : Row (w.alloc (.cells cs T)) w.heap.size cs.toList := ⟨T, heap_alloc_new _ _⟩
theorem Row.below {B : Nat} (h : Row w b cs) (hb : Below B w w') (hlt : b < B) : Row w' b cs := h.of_block (hb.block b hlt)
theorem Row.alloc (h : Row w b cs) (o : Obj) : Row (w.alloc o) b cs := h.of_block (heap_alloc_old w o h.lt)
theorem Row.drewN (h : Row w b cs) (n : Nat) : Row (w.drewN n) b cs := h
theorem Row.drew (h : Row w b cs) : Row w.drew b cs := h
theorem Row.set (h : Row w b cs) (j : Nat) (v : Value) : Row (w.setCell ⟨b, j, none⟩ v) b (cs.set j v) := by
  obtain ⟨T, h⟩ := h
  refine ⟨T, ?_⟩
  simp [World.setCell, Array.getElem?_modify, h]
theorem Row.set_other (h : Row w b cs) {a : Addr} (ha : b ≠ a.block) (v : Value) : Row (w.setCell a v) b cs := h.of_block (heap_setCell_other w a b v ha)
end
theorem Row.setCells {b : Nat} : ∀ (vs : List Value) (o : Nat) (w : World) (cs : List Value), Row w b cs → o + vs.length ≤ cs.length → Row (w.setCells b o vs) b (cs.take o ++ vs ++ cs.drop (o + vs.length))
  | [], o, w, cs, h, _ => by
    have e : cs.take o ++ [] ++ cs.drop (o + ([] : List Value).length) = cs := by simp
    rw [e]
    exact h
  | v :: r, o, w, cs, h, hl => by
    have hl' : o + (r.length + 1) ≤ cs.length := hl
    have h1 := Row.setCells r (o + 1) _ (cs.set o v) (h.set o v) (by rw [List.length_set]; omega)
    have e := list_seg_step cs o v r hl'
    rw [e] at h1
    exact h1
theorem Row.over {w : World} {b : Nat} {cs vs : List Value} (h : Row w b cs) (hl : vs.length = cs.length) : Row (w.setCells b 0 vs) b vs := by
  have := Row.setCells vs 0 w cs h (by omega)
  rw [List.take_zero, List.nil_append, List.drop_eq_nil_of_le (by omega), List.append_nil] at this
  exact this
theorem below_setCells {B b : Nat} (hb : B ≤ b) : ∀ (vs : List Value) (o : Nat) (a w : World), Below B a w → Below B a (w.setCells b o vs)
  | [], _, _, _, h => h
  | v :: r, o, a, w, h => below_setCells hb r (o + 1) a _ (h.setCell (p := ⟨b, o, none⟩) hb v)
theorem Row.there {w : World} {b : Nat} {cs : List Value} (h : Row w b cs) (n : Nat) (hn : n ≤ cs.length) : w.there b 0 n := fun j hj => by
  refine ⟨?_, h.frozen _⟩
  rw [Nat.zero_add, h.cell j (List.getElem?_eq_getElem (by omega))]
  rfl
theorem Row.range {w : World} {b : Nat} {cs : List Value} (h : Row w b cs) : w.rangeAt b 0 cs := fun j v hj => by
  rw [Nat.zero_add]
  exact h.cell j hj
theorem below_drewN {B : Nat} {w W : World} (h : Below B w W) (n : Nat) : Below B w (W.drewN n) := ⟨h.os, h.tape, h.output, h.size, h.block⟩
theorem below_of_drewN {B : Nat} {w W : World} (n : Nat) (h : Below B (w.drewN n) W) : Below B w W := ⟨h.os, h.tape, h.output, h.size, h.block⟩
theorem below_of_drew {B : Nat} {w W : World} (h : Below B w.drew W) : Below B w W := ⟨h.os, h.tape, h.output, h.size, h.block⟩

/-! ### 2. The schedule -/
def bt (m : List UInt8) (j : Nat) : Int := (m.getD j 0).toNat
theorem bt_lt (m : List UInt8) (j : Nat) : 0 ≤ bt m j ∧ bt m j < 256 := by
  unfold bt
  have := (m.getD j 0).toNat_lt
  omega
/-- The bytes 4t to 4t+3 as one number. -/
def wordW (m : List UInt8) (t : Nat) : Int := bt m (4 * t) * 16777216 + bt m (4 * t + 1) * 65536 + bt m (4 * t + 2) * 256 + bt m (4 * t + 3)
def mixW (y a x c : Int) : Int :=
  IntKind.u32.wrap (IntKind.u32.wrap (IntKind.u32.wrap (bits .xor .u32 (bits .xor .u32 (rorW y 17) (rorW y 19)) (y / 1024) + a) + bits .xor .u32 (bits .xor .u32 (rorW x 7) (rorW x 18)) (x / 8)) + c)
def nextW (m : List UInt8) (t : Nat) (s : List Int) : Int := if t < 16 then wordW m t else mixW (s.getD (t - 2) 0) (s.getD (t - 7) 0) (s.getD (t - 15) 0) (s.getD (t - 16) 0)
def sched (m : List UInt8) : Nat → List Int
  | 0 => []
  | t + 1 => sched m t ++ [nextW m t (sched m t)]
theorem sched_length (m : List UInt8) : ∀ t, (sched m t).length = t
  | 0 => rfl
  | t + 1 => by simp [sched, sched_length m t]
/-- The schedule's row, as far as it is filled. -/
def schedZ (m : List UInt8) (t : Nat) : List Int := sched m t ++ List.replicate (64 - t) 0
theorem schedZ_length (m : List UInt8) {t : Nat} (h : t ≤ 64) : (schedZ m t).length = 64 := by
  unfold schedZ; rw [List.length_append, sched_length, List.length_replicate]; omega
theorem schedZ_zero (m : List UInt8) : schedZ m 0 = List.replicate 64 0 := rfl
theorem schedZ_full (m : List UInt8) : schedZ m 64 = sched m 64 := by unfold schedZ; simp
theorem schedZ_old (m : List UInt8) {t j : Nat} (h : j < t) (ht : t ≤ 64) : (u32s (schedZ m t))[j]? = some (.int .u32 ((sched m t).getD j 0)) := by
  rw [u32s_at (by rw [schedZ_length m ht]; omega)]
  have : (schedZ m t).getD j 0 = (sched m t).getD j 0 := by
    unfold schedZ
    rw [List.getD_eq_getElem?_getD, List.getElem?_append_left (by rw [sched_length]; exact h), List.getD_eq_getElem?_getD]
  rw [this]
theorem schedZ_new (m : List UInt8) {t j : Nat} (h : t ≤ j) (ht : j < 64) : (u32s (schedZ m t))[j]? = some (.int .u32 0) := by
  rw [u32s_at (by rw [schedZ_length m (by omega)]; exact ht)]
  have : (schedZ m t).getD j 0 = 0 := by
    unfold schedZ
    rw [List.getD_eq_getElem?_getD, List.getElem?_append_right (by rw [sched_length]; exact h), List.getElem?_replicate]
    split <;> rfl
  rw [this]
theorem schedZ_set (m : List UInt8) {t : Nat} (h : t < 64) {n : Int} (hn : n = nextW m t (sched m t)) : (u32s (schedZ m t)).set t (.int .u32 n) = u32s (schedZ m (t + 1)) := by
  subst hn
  unfold u32s
  rw [← List.map_set]
  congr 1
  unfold schedZ
  rw [List.set_append_right _ _ (by rw [sched_length]; omega), sched_length, Nat.sub_self]
  obtain ⟨k, hk⟩ : ∃ k, 64 - t = k + 1 := ⟨63 - t, by omega⟩
  have hk2 : 64 - (t + 1) = k := by omega
  rw [hk, hk2]
  simp [sched, List.replicate_succ]

/-! ### 3. The rounds -/
structure S8 where
  a : Int
  b : Int
  c : Int
  d : Int
  e : Int
  f : Int
  g : Int
  h : Int
def S8.list (v : S8) : List Int := [v.a, v.b, v.c, v.d, v.e, v.f, v.g, v.h]
def oneW (e f g h k w : Int) : Int :=
  IntKind.u32.wrap (IntKind.u32.wrap (IntKind.u32.wrap (IntKind.u32.wrap (h + bits .xor .u32 (bits .xor .u32 (rorW e 6) (rorW e 11)) (rorW e 25)) + bits .xor .u32 (bits .and .u32 e f) (bits .and .u32 (bits .xor .u32 4294967295 e) g)) + k) + w)
def twoW (a b c : Int) : Int :=
  IntKind.u32.wrap (bits .xor .u32 (bits .xor .u32 (rorW a 2) (rorW a 13)) (rorW a 22) + bits .xor .u32 (bits .xor .u32 (bits .and .u32 a b) (bits .and .u32 a c)) (bits .and .u32 b c))
def S8.round (v : S8) (k w : Int) : S8 :=
  ⟨IntKind.u32.wrap (oneW v.e v.f v.g v.h k w + twoW v.a v.b v.c), v.a, v.b, v.c, IntKind.u32.wrap (v.d + oneW v.e v.f v.g v.h k w), v.e, v.f, v.g⟩
def S8.rounds (v : S8) (ks ws : List Int) : Nat → S8
  | 0 => v
  | t + 1 => (S8.rounds v ks ws t).round (ks.getD t 0) (ws.getD t 0)
def addW (x y : Int) : Int := IntKind.u32.wrap (x + y)
def S8.plus (u v : S8) : S8 := ⟨addW u.a v.a, addW u.b v.b, addW u.c v.c, addW u.d v.d, addW u.e v.e, addW u.f v.f, addW u.g v.g, addW u.h v.h⟩
def Ks : List Int := [1116352408, 1899447441, 3049323471, 3921009573, 961987163, 1508970993, 2453635748, 2870763221, 3624381080, 310598401, 607225278, 1426881987, 1925078388, 2162078206, 2614888103, 3248222580, 3835390401, 4022224774, 264347078, 604807628, 770255983, 1249150122, 1555081692, 1996064986, 2554220882, 2821834349, 2952996808, 3210313671, 3336571891, 3584528711, 113926993, 338241895, 666307205, 773529912, 1294757372, 1396182291, 1695183700, 1986661051, 2177026350, 2456956037, 2730485921, 2820302411, 3259730800, 3345764771, 3516065817, 3600352804, 4094571909, 275423344, 430227734, 506948616, 659060556, 883997877, 958139571, 1322822218, 1537002063, 1747873779, 1955562222, 2024104815, 2227730452, 2361852424, 2428436474, 2756734187, 3204031479, 3329325298]
def S8.begins : S8 := ⟨1779033703, 3144134277, 1013904242, 2773480762, 1359893119, 2600822924, 528734635, 1541459225⟩
/-- The first i of eight sums. -/
def upto (u v : List Int) (i : Nat) : List Int := (List.zipWith addW u v).take i ++ u.drop i
theorem upto_at {u v : List Int} {i : Nat} (h : u.length = v.length) (hi : i < u.length) : (u32s (upto u v i))[i]? = some (.int .u32 (u.getD i 0)) := by
  have hl : ((List.zipWith addW u v).take i).length = i := by rw [List.length_take, List.length_zipWith]; omega
  have : (upto u v i)[i]? = u[i]? := by
    unfold upto
    rw [List.getElem?_append_right (by omega), hl, Nat.sub_self, List.getElem?_drop, Nat.add_zero]
  unfold u32s
  rw [List.getElem?_map, this, List.getD_eq_getElem?_getD, List.getElem?_eq_getElem hi]
  rfl
theorem upto_set {u v : List Int} {i : Nat} (h : u.length = v.length) (hi : i < u.length) : (u32s (upto u v i)).set i (.int .u32 (addW (u.getD i 0) (v.getD i 0))) = u32s (upto u v (i + 1)) := by
  have hl : ((List.zipWith addW u v).take i).length = i := by rw [List.length_take, List.length_zipWith]; omega
  unfold u32s
  rw [← List.map_set]
  congr 1
  unfold upto
  rw [List.set_append_right _ _ (by omega), hl, Nat.sub_self]
  rw [List.take_succ_eq_append_getElem (by rw [List.length_zipWith]; omega), List.append_assoc]
  congr 1
  rw [List.getElem_zipWith, List.drop_eq_getElem_cons hi, List.set_cons_zero, List.getD_eq_getElem?_getD, List.getD_eq_getElem?_getD, List.getElem?_eq_getElem hi, List.getElem?_eq_getElem (by omega)]
  rfl
/-- 64 bytes taken. -/
def S8.takes (v : S8) (m : List UInt8) : S8 := v.plus (v.rounds Ks (sched m 64) 64)
end Go.Proofs.YtmnlebkpneeblaaDoor
