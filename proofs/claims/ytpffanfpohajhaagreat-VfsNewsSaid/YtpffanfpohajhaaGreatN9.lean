/- Walk of VfsNews. No condition. -/
import Derived.Test.YtpffanfpohajhaaGreatN8
namespace Go.Proofs.YtpffanfpohajhaaGreat
open Go Go.MapKept
open Go.RowKit hiding intOf

def TrueEnd (e : Ending) (_ : World) : Prop := e = .returned (.bool true)

set_option maxRecDepth 100000 in
set_option maxHeartbeats 1000000 in
theorem VfsNews_any (nodes bytes : Int) (w : World) : Calls Tryz.prog 3 #[.int .i64 nodes, .int .i64 bytes] w (BoolBelow true w) := by
  have HM := Lib.hid (made_any w nodes bytes)
  go_enter Tryz.func3, Tryz.ntmps3
  go_wp2_with fail
  refine HM.out.mono ?_
  rintro e w1 ⟨b, rfl, hb1, h1⟩
  cases hok : newOk nodes bytes with
  | false =>
    rw [hok, if_neg (by simp)] at h1
    have c0 : w1.cell? ⟨b, 0, none⟩ = some (.pointer none) := h1.cell 0 rfl
    have HB1 := Lib.hid hb1
    clear h1 hb1 hok
    unfold ptr
    go_wp2_with fail
    go_ret
    exact ⟨rfl, HB1.out⟩
  | true =>
    rw [hok, if_pos rfl] at h1
    obtain ⟨f, q, lv, tv, hp⟩ := h1
    have c0 : w1.cell? ⟨b, 0, none⟩ = some (.pointer (some ⟨f.p, 0, none⟩)) := hp.row.cell 0 rfl
    have HB1 := Lib.hid hb1
    have HP := Lib.hid hp
    have HOK := Lib.hid (newOk_parts hok)
    clear hb1 hok hp
    unfold ptr
    have hw1 := whole_any b _ f _ q _ lv tv w1 HP.out (new_inos nodes bytes) (new_img nodes bytes) rfl (new_small nodes bytes) (by simp [Rf.new])
    unfold ptr at hw1
    have HW1 := Lib.hid hw1
    clear hw1
    go_wp2_with fail
    refine HW1.out.mono ?_
    rintro e w2 ⟨rfl, hb2⟩
    have HB2 := Lib.hid hb2
    clear hb2
    go_wp2_with fail
    refine (asks_free (OpL.ask 20 0 0) (.slice none 0 0) (.int .i64 0) (.int .i64 0) (.int .i64 0) (.slice none 0 0) rfl b _ f _ q _ lv tv w2 (HP.out.below HB2.out) (new_inos nodes bytes) (new_img nodes bytes) rfl (new_free nodes bytes) (new_small nodes bytes) (by simp [Rf.new]) (by have := HOK.out; simp [Fs.new]; omega) (by have := HOK.out; simp [Fs.new]; omega) (by have := HOK.out; simp [Fs.new]; omega) (by simp [Rf.new, bytesR, rootNode])).mono ?_
    rintro e w3 ⟨rfl, hb3⟩
    have HB3 := Lib.hid (HB2.out.trans (hb3.mono HB2.out.size))
    clear hb3
    go_wp2_with fail
    refine (asks_up (OpL.ask 12 1 0) (.slice none 0 0) (.int .i64 0) (.int .i64 0) (.int .i64 0) (.slice none 0 0) rfl b _ f _ q _ lv tv w3 (HP.out.below HB3.out) (new_up nodes bytes) (new_small nodes bytes)).mono ?_
    rintro e w4 ⟨rfl, hb4⟩
    have HB4 := Lib.hid (HB3.out.trans (hb4.mono HB3.out.size))
    clear hb4
    go_wp2_with fail
    refine (asks_stat (OpL.ask 14 0 1) (.slice none 0 0) (.int .i64 0) (.int .i64 0) (.int .i64 0) (.slice none 0 0) rfl b _ f _ q _ lv tv w4 (HP.out.below HB4.out) (new_stat nodes bytes) (by intro i hi; change (Fs.new nodes bytes).get 1 = some i at hi; rw [new_get, if_pos rfl] at hi; injection hi with hi; subst hi; decide) (by intro x hx; simp [Rf.new] at hx; subst hx; decide) (by simp [Rf.new, entsR, rootNode]) (new_small nodes bytes)).mono ?_
    rintro e w5 ⟨rfl, hb5⟩
    have HB5 := Lib.hid (HB4.out.trans (hb5.mono HB4.out.size))
    clear hb5
    go_wp2_with fail
    refine (asks_list (OpL.ask 13 1 0) (.slice none 0 0) (.int .i64 0) (.int .i64 0) (.int .i64 0) (.slice none 0 0) rfl b _ f _ q _ lv tv w5 (HP.out.below HB5.out) (new_list nodes bytes).1 (new_list nodes bytes).2 (by intro i hi; change (Fs.new nodes bytes).get 1 = some i at hi; rw [new_get, if_pos rfl] at hi; injection hi with hi; subst hi; exact ⟨by simp [rootIno], by simp [rootIno], by simp [rootIno]⟩) (by change (listR (Fs.new nodes bytes) 1).length ≤ _; rw [(new_list nodes bytes).1]; simp [listRR, findR, Rf.new, rootNode]) (new_small nodes bytes)).mono ?_
    rintro e w6 ⟨rfl, hb6⟩
    have HB6 := Lib.hid (HB5.out.trans (hb6.mono HB5.out.size))
    clear hb6
    go_wp2_with fail
    go_ret
    exact ⟨rfl, HB1.out.trans (HB6.out.mono HB1.out.size)⟩
end Go.Proofs.YtpffanfpohajhaaGreat
