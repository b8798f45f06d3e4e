/- Walks of slices.Clone, copied, New. Condition: at most 2^40 bytes. -/
import Derived.Test.YtmnlebkpneeblaaDoorD
import Derived.Test.YtmnlebkpneeblaaDoorE
namespace Go.Proofs.YtmnlebkpneeblaaDoor
open Go Go.RowKit

def CloneP (w : World) (l : List UInt8) (e : Ending) (w' : World) : Prop := ∃ v, e = .returned v ∧ w'.ownsRow w.heap.size 5 1 v l.length (u8s l) ∧ Below w.heap.size w w'

set_option maxRecDepth 100000 in
theorem clone_any (x : Value) (l : List UInt8) (w : World) (h : Src8 w x l) (hl : l.length ≤ 1099511627776) : Calls Tryd.prog 19 #[x] w (CloneP w l) := by
  obtain ⟨rfl, rfl⟩ | ⟨a, c, rfl, hs⟩ : (x = .slice none 0 0 ∧ l = []) ∨ ∃ a c, x = .slice (some a) l.length c ∧ Src8 (w.alloc (.cells #[] 5)) (.slice (some a) l.length c) l := by
    have hb : Below w.heap.size w (w.alloc (.cells #[] 5)) := (Below.refl _ _).alloc (Nat.le_refl _) _
    rcases h with ⟨a, rfl, rfl⟩ | ⟨g, o, c, rfl, hg, hc, hc2, hrd⟩
    · cases a with
      | none => exact .inl ⟨rfl, rfl⟩
      | some a => exact .inr ⟨a, 0, rfl, .inl ⟨_, rfl, rfl⟩⟩
    · exact .inr ⟨_, c, rfl, .inr ⟨g, o, c, rfl, by simp; omega, hc, hc2, hrd.below hb hg⟩⟩
  · have HP : Hid (CloneP w [] (.returned (.slice none 0 0)) w) := Lib.hid ⟨_, rfl, World.ownsRow_nil _ _ _ _, Below.refl _ _⟩
    have he := fun W => eql_nil28 W none 0 0
    simp only [Option.isNone_none] at he
    go_enter Tryd.func19, Tryd.ntmps19
    go_wp2
    go_ret
    exact HP.out
  · have hb : Below w.heap.size w (w.alloc (.cells #[] 5)) := (Below.refl _ _).alloc (Nat.le_refl _) _
    have hown : (w.alloc (.cells #[] 5)).ownsRow w.heap.size 5 1 (.slice (some ⟨w.heap.size, 0, none⟩) 0 0) 0 (u8s []) := by
      refine ⟨rfl, .inr ⟨w.heap.size, 0, #[], rfl, Nat.le_refl _, heap_alloc_new _ _, Nat.le_refl _, by unfold maxLen; omega, rfl, rfl⟩⟩
    have hown0 : (w.alloc (.cells #[] 5)).ownsRow 0 5 1 (.slice (some ⟨w.heap.size, 0, none⟩) 0 0) 0 (u8s []) := ⟨hown.1, by
      rcases hown.2 with h | ⟨g, cap, cur, h1, _, h3⟩
      · exact .inl h
      · exact .inr ⟨g, cap, cur, h1, Nat.zero_le _, h3⟩⟩
    have HOWN := Lib.hid hown0
    have HSRC := Lib.hid hs
    have HB := Lib.hid hb
    clear hown hown0 hs hb
    have he := fun W => eql_nil28 W (some a) l.length c
    simp only [Option.isNone_some] at he
    go_enter Tryd.func19, Tryd.ntmps19
    go_wp2_with (at_builtin; refine wpList_app8 rfl _ _ rfl rfl _ [] rfl HOWN.out _ l rfl HSRC.out (by simpa using hl) ?_)
    intro v' w' ho hgr hnew _
    have HP : Hid (CloneP w l (.returned v') w') := Lib.hid ⟨v', rfl, by
      refine ⟨ho.1, ?_⟩
      rcases ho.2 with h | ⟨g1, cap, cur, h1, _, h3⟩
      · exact .inl h
      · refine .inr ⟨g1, cap, cur, h1, ?_, h3⟩
        rcases hnew g1 (by rw [h1]; rfl) with h | h
        · injection h with h; exact Nat.le_of_eq h
        · omega, HB.out.grown hgr (by simp) (fun k hk => by injection hk with hk; exact Nat.le_of_eq hk)⟩
    clear ho hgr hnew
    go_wp2
    go_ret
    exact HP.out

/-- Own bytes: nil or the head of a row. -/
def Own8 (w : World) (v : Value) (l : List UInt8) : Prop := w.ownsRow 0 5 1 v l.length (u8s l)
theorem Own8.of_block {w w' : World} {v : Value} {l : List UInt8} (h : Own8 w v l) (hb : ∀ b, v.ownBlock = some b → w'.heap[b]? = w.heap[b]?) : Own8 w' v l := by
  obtain ⟨h1, h2 | ⟨g, cap, cur, rfl, h3, h4, h5⟩⟩ := h
  · exact ⟨h1, .inl h2⟩
  · exact ⟨h1, .inr ⟨g, cap, cur, rfl, h3, (hb g rfl).trans h4, h5⟩⟩
theorem Own8.lt {w : World} {v : Value} {l : List UInt8} (h : Own8 w v l) {b : Nat} (hb : v.ownBlock = some b) : b < w.heap.size := (World.ownsRow.lt h b hb).2
theorem Own8.below {B : Nat} {w w' : World} {v : Value} {l : List UInt8} (h : Own8 w v l) (hb : Below B w w') (hB : ∀ b, v.ownBlock = some b → b < B) : Own8 w' v l := h.of_block fun b hv => hb.block b (hB b hv)
theorem Own8.of_base {w : World} {base : Nat} {v : Value} {l : List UInt8} (h : w.ownsRow base 5 1 v l.length (u8s l)) : Own8 w v l := ⟨h.1, by
  rcases h.2 with h | ⟨g, cap, cur, h1, _, h3⟩
  · exact .inl h
  · exact .inr ⟨g, cap, cur, h1, Nat.zero_le _, h3⟩⟩

/-- A hash at p: its words, the bytes that wait, how many bytes it took. -/
structure HashAt (w : World) (p : Nat) (v : S8) (rest : List UInt8) (n : Int) (rv : Value) : Prop where
  row : Row w p (hcells v.list rv n)
  own : Own8 w rv rest
  apart : ∀ b, rv.ownBlock = some b → b ≠ p
/-- The blocks of a hash. -/
def HashS (p : Nat) (rv : Value) (b : Nat) : Prop := b = p ∨ rv.ownBlock = some b
theorem HashAt.of_blocks {w w' : World} {p : Nat} {v : S8} {rest : List UInt8} {n : Int} {rv : Value} (h : HashAt w p v rest n rv) (hb : ∀ b, HashS p rv b → w'.heap[b]? = w.heap[b]?) : HashAt w' p v rest n rv :=
  ⟨h.row.of_block (hb p (.inl rfl)), h.own.of_block fun b hv => hb b (.inr hv), h.apart⟩
theorem HashAt.lt {w : World} {p : Nat} {v : S8} {rest : List UInt8} {n : Int} {rv : Value} (h : HashAt w p v rest n rv) {b : Nat} (hb : HashS p rv b) : b < w.heap.size := by
  rcases hb with rfl | hb
  · exact h.row.lt
  · exact h.own.lt hb
theorem HashAt.below {w w' : World} {p : Nat} {v : S8} {rest : List UInt8} {n : Int} {rv : Value} (h : HashAt w p v rest n rv) (hb : Below w.heap.size w w') : HashAt w' p v rest n rv :=
  h.of_blocks fun b hs => hb.block b (h.lt hs)

theorem own_form {w : World} {base e size n : Nat} {v : Value} {xs : List Value} (h : w.ownsRow base e size v n xs) : ∃ a c, v = .slice a n c := by
  rcases h.2 with ⟨rfl, rfl⟩ | ⟨g, cap, cur, rfl, _⟩
  · exact ⟨_, _, rfl⟩
  · exact ⟨_, _, rfl⟩
theorem own_src {w : World} {rv : Value} {l : List UInt8} (h : Own8 w rv l) : Src8 w rv l := by
  rcases h.2 with ⟨rfl, h0⟩ | ⟨g, cap, cur, rfl, h3, h4, h5, h6, h7, h8⟩
  · exact .inl ⟨_, rfl, List.eq_nil_of_length_eq_zero h0⟩
  · refine .inr ⟨g, 0, cap, rfl, (Array.getElem?_eq_some_iff.1 h4).1, h5, h6, fun j b hj => ?_⟩
    have := World.ownsRow.cells h (g := g) rfl j (.int .u8 b.toNat) (by unfold u8s; rw [List.getElem?_map, hj]; rfl)
    rwa [Addr.add_mid] at this

/-- A pointer to a hash of its own. -/
def NewHash (w : World) (v : S8) (rest : List UInt8) (n : Int) (e : Ending) (w' : World) : Prop :=
  ∃ p rv, e = .returned (.pointer (some ⟨p, 0, none⟩)) ∧ HashAt w' p v rest n rv ∧ Below w.heap.size w w' ∧ ∀ b, HashS p rv b → w.heap.size ≤ b

/-- The table of squares. -/
def Squares (w : World) : Prop := w.rangeAt 0 0 (u32s S8.begins.list)

set_option maxRecDepth 100000 in
theorem New_any (w : World) (hq : Squares w) : Calls Tryd.prog 4 #[] w (NewHash w S8.begins [] 0) := by
  have HB := Lib.hid ((Below.refl w.heap.size w).alloc (Nat.le_refl _) (.cells (hcells S8.begins.list (.slice none 0 0) 0).toArray 37))
  have HR := Lib.hid (Row.new w (hcells S8.begins.list (.slice none 0 0) 0) 37)
  have HQ := Lib.hid hq
  clear hq
  go_enter Tryd.func4, Tryd.ntmps4
  go_wp2_with (refine wpList_load_mid rfl 34 _ rfl 0 0 rfl (u32s S8.begins.list) _ HQ.out Tryd.underlying34 rfl (by kernel_rfl) ?_)
  go_wp2
  go_ret
  exact ⟨_, _, rfl, ⟨HR.out, World.ownsRow_nil _ _ _ _, fun b hb => by cases hb⟩, HB.out, fun b hb => by
    rcases hb with rfl | hb
    · exact Nat.le_refl _
    · cases hb⟩

set_option maxRecDepth 100000 in
set_option maxHeartbeats 1000000 in
theorem copied_any (p : Nat) (v : S8) (rest : List UInt8) (n : Int) (rv : Value) (w : World) (h : HashAt w p v rest n rv) (hl : rest.length ≤ 1099511627776) :
    Calls Tryd.prog 14 #[.pointer (some ⟨p, 0, none⟩)] w (NewHash w v rest n) := by
  have x0 := h.row.cell 0 rfl
  have x1 := h.row.cell 1 rfl
  have x2 := h.row.cell 2 rfl
  have x3 := h.row.cell 3 rfl
  have x4 := h.row.cell 4 rfl
  have x5 := h.row.cell 5 rfl
  have x6 := h.row.cell 6 rfl
  have x7 := h.row.cell 7 rfl
  have x8 := h.row.cell 8 rfl
  have x9 := h.row.cell 9 rfl
  have hpl := h.row.lt
  have HC := Lib.hid (fun W (hb : Below w.heap.size w W) => clone_any rv rest W (own_src (h.below hb).own) hl)
  have HH := Lib.hid h
  clear h
  go_enter Tryd.func14, Tryd.ntmps14
  go_wp2_with fail
  go_region_held3 (fun w' => w'.cell? ⟨p, 0, none⟩ = some (.int .u32 v.a) ∧ w'.cell? ⟨p, 1, none⟩ = some (.int .u32 v.b) ∧ w'.cell? ⟨p, 2, none⟩ = some (.int .u32 v.c) ∧ w'.cell? ⟨p, 3, none⟩ = some (.int .u32 v.d) ∧ w'.cell? ⟨p, 4, none⟩ = some (.int .u32 v.e) ∧ w'.cell? ⟨p, 5, none⟩ = some (.int .u32 v.f) ∧ w'.cell? ⟨p, 6, none⟩ = some (.int .u32 v.g) ∧ w'.cell? ⟨p, 7, none⟩ = some (.int .u32 v.h) ∧ w'.cell? ⟨p, 8, none⟩ = some rv ∧ w'.cell? ⟨p, 9, none⟩ = some (.int .u64 n)) (go_keep)
    (first
      | (go_at_call 19; refine (HC.out w.drew ((Below.refl _ _).drew)).mono ?_; rintro e w1 ⟨cv, rfl, ho1, hb1⟩; obtain ⟨ca, cc, rfl⟩ := own_form ho1; have z0 := (hb1.cell (p := ⟨p, 0, none⟩) hpl).trans x0; have z1 := (hb1.cell (p := ⟨p, 1, none⟩) hpl).trans x1; have z2 := (hb1.cell (p := ⟨p, 2, none⟩) hpl).trans x2; have z3 := (hb1.cell (p := ⟨p, 3, none⟩) hpl).trans x3; have z4 := (hb1.cell (p := ⟨p, 4, none⟩) hpl).trans x4; have z5 := (hb1.cell (p := ⟨p, 5, none⟩) hpl).trans x5; have z6 := (hb1.cell (p := ⟨p, 6, none⟩) hpl).trans x6; have z7 := (hb1.cell (p := ⟨p, 7, none⟩) hpl).trans x7; have z8 := (hb1.cell (p := ⟨p, 8, none⟩) hpl).trans x8; have z9 := (hb1.cell (p := ⟨p, 9, none⟩) hpl).trans x9))
  have HB := Lib.hid (((Below.refl w.heap.size w).drew.trans hb1).alloc hb1.size (.cells (hcells v.list (.slice ca rest.length cc) n).toArray 37))
  have HR := Lib.hid (Row.new w1 (hcells v.list (.slice ca rest.length cc) n) 37)
  have HO := Lib.hid ho1
  have HS := Lib.hid hb1.size
  go_wp2
  go_ret
  refine ⟨_, .slice ca rest.length cc, rfl, ⟨HR.out, Own8.of_base (HO.out.alloc _), fun b hb => ?_⟩, HB.out, fun b hb => ?_⟩
  · have := (HO.out.lt b hb).2
    omega
  · rcases hb with rfl | hb
    · exact HS.out
    · exact (HO.out.lt b hb).1
end Go.Proofs.YtmnlebkpneeblaaDoor
