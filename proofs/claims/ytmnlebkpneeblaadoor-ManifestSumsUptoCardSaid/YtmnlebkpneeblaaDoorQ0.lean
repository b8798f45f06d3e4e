/- Plain facts for the walk of ManifestSums: what stands at the middle of a round. -/
import Derived.Test.YtmnlebkpneeblaaDoorO
import Derived.Stop.BytesEq
import Derived.Lib.SlBytesConst
namespace Go.Proofs.YtmnlebkpneeblaaDoor
open Go Go.RowKit

/-- The state at the head of a round: the hash took all, the text of all is at hand; both lie in new blocks, apart. -/
structure LawSt (B : Nat) (w0 w : World) (p : Nat) (rv av : Value) (all : List UInt8) : Prop where
  hash : HashAt w p (absorb S8.begins all).1 (absorb S8.begins all).2 all.length rv
  own : Own8 w av all
  below : Below B w0 w
  hashB : ∀ x, HashS p rv x → B ≤ x
  ownB : ∀ x, av.ownBlock = some x → B ≤ x ∧ ¬ HashS p rv x

theorem LawSt.keep {B : Nat} {w0 w w' : World} {p : Nat} {rv av : Value} {all : List UInt8} (h : LawSt B w0 w p rv av all) (hb : Below w.heap.size w w') (hB : B ≤ w.heap.size) : LawSt B w0 w' p rv av all :=
  ⟨h.hash.below hb, h.own.keep hb, h.below.trans (hb.mono hB), h.hashB, h.ownB⟩
theorem src_string {w : World} {a : Option Addr} {c : Nat} {l : List UInt8} (h : Src8 w (.slice a l.length c) l) : (convert 28 9 (.slice a l.length c)).run Tryd.prog w = .ok (.string ⟨l.toArray⟩) w := by
  rcases h with ⟨a', e, h0⟩ | ⟨g, o, c', e, h1, h2, h3, h4⟩
  · injection e with e1 e2 e3
    subst e1
    subst h0
    cases a with
    | some a =>
      refine (run_convert_bytes_string (P := Tryd.prog) w 28 9 5 (some a) 0 c Tryd.underlying28 Tryd.underlying5 Tryd.underlying9).trans ?_
      exact run_bytesToString (P := Tryd.prog) w a 0 c [] (by kernel_rfl)
    | none =>
    exact run_convert_bytes_nil (P := Tryd.prog) w 28 5 Tryd.underlying28 Tryd.underlying5 _ c 9 Tryd.underlying9
  · injection e with e1 _ e3
    subst e1 e3
    rw [← strOf_u8s]
    refine run_convert_bytes_arg (P := Tryd.prog) w 28 5 Tryd.underlying28 Tryd.underlying5 g o l.length c (l.map fun b => (b.toNat : Int)) (List.length_map _) (fun i hi => ?_) 9 Tryd.underlying9
    rw [h4 i _ (List.getElem?_eq_getElem hi), List.getD_eq_getElem?_getD, List.getElem?_map, List.getElem?_eq_getElem hi]
    rfl

/-- The bytes that the other copy takes. -/
def way : List UInt8 := [97, 110, 111, 116, 104, 101, 114, 32, 119, 97, 121]
theorem src_way (w : World) : Src8 (w.alloc (.cells (u8s way).toArray 5 (11, 12))) (.slice (some ⟨w.heap.size, 0, none⟩) 11 11) way :=
  .inr ⟨w.heap.size, 0, 11, rfl, by simp, by show 11 ≤ 11; omega, by omega, fun j b hj => by
    rw [Nat.zero_add]
    unfold World.cell?
    rw [heap_alloc_new]
    show (u8s way).toArray[j]? = _
    rw [List.getElem?_toArray]
    unfold u8s
    rw [List.getElem?_map, hj]
    rfl⟩

theorem Own8.front {w : World} {g n c : Nat} {x y : List UInt8} (h : Own8 w (.slice (some ⟨g, 0, none⟩) n c) (x ++ y)) : Src8 w (.slice (some ⟨g, 0, none⟩) x.length c) x := by
  rcases own_src h with ⟨a, e, h0⟩ | ⟨g', o, c', e, h1, h2, h3, h4⟩
  · injection e with e1 e2 e3
    subst e3
    obtain rfl : x = [] := (List.append_eq_nil_iff.1 h0).1
    exact .inl ⟨_, rfl, rfl⟩
  · injection e with e1 e2 e3
    injection e1 with e1
    injection e1 with e1 e4 _
    subst e1 e4 e3
    rw [List.length_append] at h2
    exact .inr ⟨_, _, _, rfl, h1, by omega, h3, fun j b hj => h4 j b (by rw [List.getElem?_append_left (List.getElem?_eq_some_iff.1 hj).1]; exact hj)⟩
theorem bytes_cat (x y : List UInt8) : (⟨x.toArray⟩ : ByteArray) ++ ⟨y.toArray⟩ = ⟨(x ++ y).toArray⟩ := by
  apply ByteArray.ext
  simp
theorem neq_same (w : World) (a b : ByteArray) (h : a = b) : (binOp .neq 9 (.string a) (.string b)).run Tryd.prog w = .ok (.bool false) w := by
  rw [binOp_string_neq, h]
  simp

theorem size5' (w : World) : (sizeOf 5).run Tryd.prog w = .ok 1 w := by kernel_rfl
theorem eqIn24 (w : World) (x : List UInt8) (hx : x.length = 32) : (Op.equalIn 10000 24 (.agg (u8s x).toArray) (.agg (u8s x).toArray)).run Tryd.prog w = .ok true w := by
  have := run_equalIn_bytes (P := Tryd.prog) w 9998 24 5 32 Tryd.underlying24 Tryd.underlying5 size5' x x hx hx
  rw [BEq.rfl] at this
  exact this
theorem u8s_set (l : List UInt8) (k : Nat) (b : UInt8) : u8s (l.set k b) = (u8s l).set k (.int .u8 b.toNat) := List.map_set

structure Mid (B : Nat) (w0 w : World) (p : Nat) (rv av : Value) (gi n ci ob : Nat) (ht all inn one : List UInt8) : Prop where
  hash : HashAt w p (absorb S8.begins ht).1 (absorb S8.begins ht).2 ht.length rv
  own : Own8 w av all
  inn : Own8 w (.slice (some ⟨gi, 0, none⟩) n ci) inn
  one : Row w ob (u8s one)
  below : Below B w0 w
  hashB : ∀ y, HashS p rv y → B ≤ y ∧ y ≠ gi ∧ y ≠ ob
  ownB : ∀ y, av.ownBlock = some y → B ≤ y ∧ y ≠ gi ∧ y ≠ ob ∧ ¬ HashS p rv y
  giB : B ≤ gi ∧ gi ≠ ob
section
variable {B : Nat} {w0 w w' : World} {p p' : Nat} {rv rv' av : Value} {gi n ci ob : Nat} {ht all inn one : List UInt8}
theorem Mid.giLt (h : Mid B w0 w p rv av gi n ci ob ht all inn one) : gi < w.heap.size := h.inn.lt rfl
theorem Mid.keep (h : Mid B w0 w p rv av gi n ci ob ht all inn one) (hb : Below w.heap.size w w') : Mid B w0 w' p rv av gi n ci ob ht all inn one :=
  ⟨h.hash.below hb, h.own.keep hb, h.inn.keep hb, h.one.below hb h.one.lt, h.below.trans (hb.mono (by have := h.giLt; have := h.giB.1; omega)), h.hashB, h.ownB, h.giB⟩
theorem Mid.write (h : Mid B w0 w p rv av gi n ci ob ht all inn one) {x : List UInt8} (hh : HashAt w' p (absorb (absorb S8.begins ht).1 ((absorb S8.begins ht).2 ++ x)).1 (absorb (absorb S8.begins ht).1 ((absorb S8.begins ht).2 ++ x)).2 (ht.length + x.length) rv')
    (hc : Chg (HashS p rv) w w') (hn : ∀ b, rv'.ownBlock = some b → w.heap.size ≤ b) : Mid B w0 w' p rv' av gi n ci ob (ht ++ x) all inn one := by
  have hg := h.giLt
  have ho := h.one.lt
  refine ⟨?_, h.own.of_block fun b hv => hc.block b (h.own.lt hv) (h.ownB b hv).2.2.2, h.inn.of_block fun b hv => hc.block b (h.inn.lt hv) (fun hs => (h.hashB b hs).2.1 ?_), h.one.of_block (hc.block ob ho fun hs => (h.hashB ob hs).2.2 rfl), ?_, ?_, ?_, h.giB⟩
  · rw [absorb_append, List.length_append, Int.natCast_add]
    exact hh
  · injection hv with hv; exact hv.symm
  · exact h.below.trans (hc.below (by have := h.giB.1; omega) fun k hk => (h.hashB k hk).1)
  · rintro y (rfl | hy)
    · exact h.hashB y (.inl rfl)
    · have := hn y hy
      have := h.giB.1
      omega
  · intro y hy
    obtain ⟨h1, h2, h3, h4⟩ := h.ownB y hy
    refine ⟨h1, h2, h3, ?_⟩
    rintro (rfl | hs)
    · exact h4 (.inl rfl)
    · have := hn y hs
      have := h.own.lt hy
      omega
theorem Mid.clone (h : Mid B w0 w p rv av gi n ci ob ht all inn one) (hh : HashAt w' p' (absorb S8.begins ht).1 (absorb S8.begins ht).2 ht.length rv') (hb : Below w.heap.size w w') (hn : ∀ b, HashS p' rv' b → w.heap.size ≤ b) : Mid B w0 w' p' rv' av gi n ci ob ht all inn one := by
  have hg := h.giLt
  have ho := h.one.lt
  have k := h.keep hb
  have hgB := h.giB.1
  refine ⟨hh, k.own, k.inn, k.one, k.below, fun y hy => ?_, fun y hy => ?_, h.giB⟩
  · have := hn y hy
    omega
  · obtain ⟨h1, h2, h3, h4⟩ := h.ownB y hy
    refine ⟨h1, h2, h3, fun hs => ?_⟩
    have := hn y hs
    have := h.own.lt hy
    omega
theorem Mid.other {S : Nat → Prop} (h : Mid B w0 w p rv av gi n ci ob ht all inn one) (hc : Chg S w w') (hd : ∀ y, S y → B ≤ y ∧ ¬ HashS p rv y ∧ y ≠ gi ∧ y ≠ ob ∧ av.ownBlock ≠ some y) : Mid B w0 w' p rv av gi n ci ob ht all inn one :=
  ⟨h.hash.of_blocks fun b hs => hc.block b (h.hash.lt hs) fun hS => (hd b hS).2.1 hs,
   h.own.of_block fun b hv => hc.block b (h.own.lt hv) fun hS => (hd b hS).2.2.2.2 hv,
   h.inn.of_block fun b hv => hc.block b (h.inn.lt hv) fun hS => (hd b hS).2.2.1 (by injection hv with hv; exact hv.symm),
   h.one.of_block (hc.block ob h.one.lt fun hS => (hd ob hS).2.2.2.1 rfl),
   h.below.trans (hc.below (by have := h.giLt; have := h.giB.1; omega) fun k hk => (hd k hk).1), h.hashB, h.ownB, h.giB⟩
/-- Back to the head of a round: all has grown by the piece. -/
theorem Mid.appended (h : Mid B w0 w p rv av gi n ci ob ht all inn one) {w1 w2 : World} {v' : Value} (hc : Chg (fun b => b = gi) w w1) (ho : w2.ownsRow 0 5 1 v' ht.length (u8s ht)) (hg : w1.grownBy w2 av.ownBlock)
    (hn : ∀ b, v'.ownBlock = some b → av.ownBlock = some b ∨ w1.heap.size ≤ b) : LawSt B w0 w2 p rv v' ht := by
  have hb1 : Below B w w1 := hc.below (by have := h.giLt; have := h.giB.1; omega) fun k hk => by rw [hk]; exact h.giB.1
  have hB1 : B ≤ w1.heap.size := by have := hc.size; have := h.giLt; have := h.giB.1; omega
  have hc2 : Chg (fun b => av.ownBlock = some b) w1 w2 := Chg.of_grown hg fun b e => e
  refine ⟨?_, ho, h.below.trans (hb1.trans (hc2.below hB1 fun k hk => (h.ownB k hk).1)), fun y hy => (h.hashB y hy).1, fun y hy => ?_⟩
  · refine (h.hash.of_blocks fun b hs => hc.block b (h.hash.lt hs) (h.hashB b hs).2.1).of_blocks fun b hs => hc2.block b (Nat.lt_of_lt_of_le (h.hash.lt hs) hc.size) fun hv => (h.ownB b hv).2.2.2 hs
  · rcases hn y hy with k | k
    · exact ⟨(h.ownB y k).1, (h.ownB y k).2.2.2⟩
    · refine ⟨by omega, fun hs => ?_⟩
      have := h.hash.lt hs
      have := hc.size
      omega
end
end Go.Proofs.YtmnlebkpneeblaaDoor
