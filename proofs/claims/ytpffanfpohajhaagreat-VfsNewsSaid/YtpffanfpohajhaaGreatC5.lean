/- Walks of List and Stat of vfs. Condition: a directory's entries are sorted, and not too many. -/
import Derived.Test.YtpffanfpohajhaaGreatC4
namespace Go.Proofs.YtpffanfpohajhaaGreat
open Go Go.MapKept
open Go.RowKit hiding intOf

set_option maxRecDepth 100000 in
theorem list_none (F : Fs) (f : Fp) (w : World) (h : FsAt w F f) (n : Int) {i : Ino} (hg : F.get n = some i) (hk : ¬ i.kind = 1) :
    Calls Tryz.prog 99 #[.pointer (some ⟨f.ib n, 0, none⟩)] w fun e w' => e = .returned (.slice none 0 0) ∧ Below w.heap.size w w' := by
  have hec := h.ent_cell hg
  have hE : f.entv n i = .map none := by unfold Fp.entv; rw [if_neg hk]
  rw [hE] at hec
  clear hE hk hg
  go_enter Tryz.func99, Tryz.ntmps99
  go_wp2_with fail
  refine (Tryz.keysOfS _ _).mono ?_
  rintro e w1 ⟨rfl, rfl⟩
  go_wp2_with fail
  refine (Tryz.sortedOfS_nil _).mono ?_
  rintro e w2 ⟨rfl, hb⟩
  have HB0 := Lib.hid (((Below.refl w.heap.size w).alloc (Nat.le_refl _) (.cells #[.map none] 138)).trans (hb.mono (by simp)))
  clear hb h
  go_wp2_with fail
  refine wp_loop_once ?_
  go_wp2
  go_ret
  exact ⟨rfl, HB0.out⟩

/-- What List hands back. -/
def ListPost (w : World) (r : Int) (l : List (ByteArray × Int)) (e : Ending) (w' : World) : Prop :=
  ∃ v, e = .returned (.tuple #[v, .int .i64 r]) ∧ w'.ownsRow w.heap.size 101 2 v l.length (named l) ∧ Below w.heap.size w w'

def listErr (F : Fs) (dir : Int) : Int := match F.get dir with | none => 100 | some i => if i.kind = 1 then 0 else 101
def listR (F : Fs) (dir : Int) : List (ByteArray × Int) := match F.get dir with | none => [] | some i => if i.kind = 1 then i.ents else []

set_option maxRecDepth 100000 in
theorem List_any (F : Fs) (f : Fp) (w : World) (h : FsAt w F f) (dir : Int) (ho : ∀ i, F.get dir = some i → EntsOk i.ents) :
    Calls Tryz.prog 48 #[ptr f.p, .int .i64 dir] w (ListPost w (listErr F dir) (listR F dir)) := by
  have hd := dirs_one F f w h dir
  have e1 : dirsR F [dir] = listErr F dir := dirsR_one F dir
  rw [e1] at hd
  have hB : Below w.heap.size w (w.alloc (.cells #[.int .i64 dir] 3)) := (Below.refl _ _).alloc (Nat.le_refl _) _
  have HB := Lib.hid hB
  have hsz : w.heap.size ≤ (w.alloc (.cells #[.int .i64 dir] 3)).heap.size := hB.size
  clear hB e1
  by_cases h0 : listErr F dir = 0
  · rw [h0] at hd ⊢
    cases hg : F.get dir with
    | none => simp [listErr, hg] at h0
    | some i =>
      have hk : i.kind = 1 := by
        simp only [listErr, hg] at h0
        by_cases hk : i.kind = 1
        · exact hk
        · rw [if_neg hk] at h0; omega
      have er : listR F dir = i.ents := by unfold listR; rw [hg]; simp [hk]
      rw [er]
      have HD := Lib.hid hd
      have h1 := h.below HB.out
      have hm := h1.m_cell
      have hlk := h1.lk hg
      have HL := Lib.hid (list_dir F f _ h1 dir hg hk (ho i hg))
      have HSZ := Lib.hid hsz
      clear hd h0 er hg hk ho hsz
      unfold ptr at *
      go_enter Tryz.func48, Tryz.ntmps48
      go_wp2_with (go_at_call 112; refine HD.out.mono ?_; rintro e w1 ⟨rfl, rfl⟩)
      refine HL.out.mono ?_
      rintro e w2 ⟨v, rfl, hrow, hb⟩
      have HR := Lib.hid (ownsRow_base_a hrow HSZ.out)
      have HB2 := Lib.hid (HB.out.trans (hb.mono HSZ.out))
      clear hrow hb HL HD
      go_wp2
      go_ret2
      exact ⟨_, rfl, HR.out, HB2.out⟩
  · have er : listR F dir = [] := by
      unfold listR
      unfold listErr at h0
      cases hg : F.get dir with
      | none => rfl
      | some i =>
        rw [hg] at h0
        simp only at h0 ⊢
        split
        · rename_i hk; exact absurd (by simp [hk]) h0
        · rfl
    rw [er]
    have hne : (listErr F dir != 0) = true := by rw [bne_iff_ne]; exact h0
    generalize listErr F dir = r at *
    have HD := Lib.hid hd
    clear h0 er hd hsz
    unfold ptr at *
    go_enter Tryz.func48, Tryz.ntmps48
    go_wp2_with (go_at_call 112; refine HD.out.mono ?_; rintro e w1 ⟨rfl, rfl⟩)
    go_ret2
    exact ⟨_, rfl, World.ownsRow_nil _ _ _ _, HB.out⟩
end Go.Proofs.YtpffanfpohajhaaGreat
