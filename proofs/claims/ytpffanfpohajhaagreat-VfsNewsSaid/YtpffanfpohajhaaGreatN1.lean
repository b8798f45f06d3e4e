/- A pair of file systems; walk of made. No condition. -/
import Derived.Test.YtpffanfpohajhaaGreatR9
namespace Go.Proofs.YtpffanfpohajhaaGreat
open Go Go.MapKept
open Go.RowKit hiding intOf

/-- A file system by the program and one by the reference. -/
structure PairAt (w : World) (b : Nat) (F : Fs) (f : Fp) (R : Rf) (q : Nat) (l : List (NodeL × Value × Value)) (lv tv : Value) : Prop where
  row : Row w b [ptr f.p, ptr q]
  fs : FsAt w F f
  ref : RefAt w q R l lv tv

theorem PairAt.below {w w' : World} {b : Nat} {F : Fs} {f : Fp} {R : Rf} {q : Nat} {l : List (NodeL × Value × Value)} {lv tv : Value} (h : PairAt w b F f R q l lv tv) (hb : Below w.heap.size w w') : PairAt w' b F f R q l lv tv :=
  ⟨h.row.of_block (hb.block b h.row.lt), h.fs.below hb, h.ref.below hb⟩

/-- What made hands back. -/
def MadePost (w : World) (nodes bytes : Int) (e : Ending) (w' : World) : Prop :=
  ∃ b, e = .returned (.tuple #[ptr b, .bool true]) ∧ Below w.heap.size w w' ∧
    if newOk nodes bytes then ∃ f q lv tv, PairAt w' b (Fs.new nodes bytes) f (Rf.new nodes bytes) q [(rootNode, .slice none 0 0, .slice none 0 0)] lv tv
    else Row w' b [.pointer none, .pointer none]

set_option maxRecDepth 100000 in
theorem made_any (w : World) (nodes bytes : Int) : Calls Tryz.prog 17 #[.int .i64 nodes, .int .i64 bytes] w (MadePost w nodes bytes) := by
  have HN := Lib.hid (New_any w nodes bytes)
  have HR := Lib.hid (fun w' => NewR_any w' nodes bytes)
  go_enter Tryz.func17, Tryz.ntmps17
  go_wp2_with fail
  refine HN.out.mono ?_
  rintro e w1 ⟨hb1, h1⟩
  cases hok : newOk nodes bytes with
  | true =>
    rw [hok, if_pos rfl] at h1
    obtain ⟨rfl, hfs, hsz⟩ := h1
    clear hsz
    have HOK := Lib.hid hok
    have HB1 := Lib.hid hb1
    have HFS := Lib.hid hfs
    clear hok hb1 hfs
    unfold ptr
    go_wp2_with fail
    refine (HR.out w1).mono ?_
    rintro e w2 ⟨hb2, h2⟩
    rw [HOK.out, if_pos rfl] at h2
    obtain ⟨rfl, href⟩ := h2
    have HB2 := Lib.hid hb2
    have HREF := Lib.hid href
    clear hb2 href
    unfold ptr
    go_wp2_with fail
    go_ret2
    have hb3 : Below w2.heap.size w2 (w2.alloc (.cells [ptr (Fp.new w).p, ptr (w1.heap.size + 1)].toArray 28)) := (Below.refl _ _).alloc (Nat.le_refl _) _
    refine ⟨w2.heap.size, rfl, (HB1.out.trans (HB2.out.mono HB1.out.size)).trans (hb3.mono (HB1.out.trans (HB2.out.mono HB1.out.size)).size), ?_⟩
    rw [HOK.out, if_pos rfl]
    exact ⟨Fp.new w, w1.heap.size + 1, _, _, ⟨28, (heap_alloc _ _).1⟩, (HFS.out.below HB2.out).below hb3, HREF.out.below hb3⟩
  | false =>
    rw [hok, if_neg (by simp)] at h1
    subst h1
    have HOK := Lib.hid hok
    have HB1 := Lib.hid hb1
    clear hok hb1
    go_wp2_with fail
    refine (HR.out w1).mono ?_
    rintro e w2 ⟨hb2, h2⟩
    rw [HOK.out, if_neg (by simp)] at h2
    subst h2
    have HB2 := Lib.hid hb2
    clear hb2
    go_wp2_with fail
    go_ret2
    have hb3 : Below w2.heap.size w2 (w2.alloc (.cells [.pointer none, .pointer none].toArray 28)) := (Below.refl _ _).alloc (Nat.le_refl _) _
    refine ⟨w2.heap.size, rfl, (HB1.out.trans (HB2.out.mono HB1.out.size)).trans (hb3.mono (HB1.out.trans (HB2.out.mono HB1.out.size)).size), ?_⟩
    rw [HOK.out, if_neg (by simp)]
    exact ⟨28, (heap_alloc _ _).1⟩
end Go.Proofs.YtpffanfpohajhaaGreat
