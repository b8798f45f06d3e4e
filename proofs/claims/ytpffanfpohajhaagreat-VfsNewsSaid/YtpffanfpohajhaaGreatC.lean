/- Walks of the small functions of vfs. No condition. -/
import Derived.Test.YtpffanfpohajhaaGreatB
import Derived.Lib.Hide
import Derived.WalkSpells
import Derived.WalkLawsBesides
namespace Go.Proofs.YtpffanfpohajhaaGreat
open Go Go.RowKit Go.MapKept

/-- A slice of ints that is read. -/
def ReadsI (w : World) (v : Value) (ns : List Int) : Prop := ∃ a cap, v = .slice (some a) ns.length cap ∧ ∀ j, j < ns.length → w.cell? (a.add j) = some (.int .i64 (ns.getD j 0))

def thereR (F : Fs) (ns : List Int) : Int := if ns.all (fun n => (F.get n).isSome) then 0 else 100

set_option maxRecDepth 100000 in
theorem there_all (F : Fs) (f : Fp) (w : World) (h : FsAt w F f) (a : Addr) (cap : Nat) (ns : List Int) (hl : ns.length ≤ 9223372036854775807)
    (hc : ∀ j, j < ns.length → w.cell? (a.add j) = some (.int .i64 (ns.getD j 0))) :
    Calls Tryz.prog 80 #[ptr f.p, .slice (some a) ns.length cap] w fun e w' => e = .returned (.int .i64 (thereR F ns)) ∧ w' = w := by
  have hm := (Row.cell (h.holds .fs) 4 rfl : w.cell? ⟨f.p, 4, none⟩ = some (.map (some f.m)))
  have hlk := h.run_ino
  have hthere : ∀ n, (F.get n).isSome = true → ptrOf f F n = .pointer (some ⟨f.ib n, 0, none⟩) := fun n hn => by
    unfold ptrOf; cases e : F.get n <;> simp_all
  have hnot : ∀ n, (F.get n).isSome = false → ptrOf f F n = .pointer none := fun n hn => by
    unfold ptrOf; cases e : F.get n <;> simp_all
  have Hlk := Lib.hid hlk; clear hlk
  have Ht := Lib.hid hthere; clear hthere
  have Hn := Lib.hid hnot; clear hnot
  unfold ptr
  go_enter Tryz.func80, Tryz.ntmps80
  go_wp2
  go_loop [9] (fun i => ∃ k : Nat, k ≤ ns.length ∧ i = .int .i64 k ∧ (ns.take k).all (fun n => (F.get n).isSome) = true) (fun i => ns.length - (intOf i).toNat)
  case atStart => exact ⟨0, Nat.zero_le _, rfl, rfl⟩
  case round =>
    obtain ⟨k, hk, rfl, hall⟩ := hrel
    have Hall := Lib.hid hall; clear hall
    by_cases hlt : k < ns.length
    · have hck := hc k hlt
      clear hc
      generalize hn : ns.getD k 0 = n at hck
      have HN := Lib.hid hn; clear hn
      cases hg : (F.get n).isSome with
      | true =>
        have e := Hlk.out n
        rw [Ht.out n hg] at e
        have HG := Lib.hid hg; clear hg
        go_wp2
        go_round
        case rel => exact ⟨k + 1, by omega, by go_num, by
          rw [List.take_succ_eq_append_getElem hlt, List.all_append, Hall.out]
          have := HN.out
          rw [List.getD_eq_getElem?_getD, List.getElem?_eq_getElem hlt, Option.getD_some] at this
          simp [this, HG.out]⟩
        case measure => simp [intOf]; omega
      | false =>
        have e := Hlk.out n
        rw [Hn.out n hg] at e
        have HG := Lib.hid hg; clear hg
        go_wp2
        go_ret
        refine ⟨?_, rfl⟩
        have : thereR F ns = 100 := by
          unfold thereR
          rw [if_neg]
          intro ha
          rw [List.all_eq_true] at ha
          have := HN.out
          rw [List.getD_eq_getElem?_getD, List.getElem?_eq_getElem hlt, Option.getD_some] at this
          have := ha _ (List.getElem_mem hlt)
          simp_all [HG.out]
        rw [this]; rfl
    · go_wp2
      go_ret
      refine ⟨?_, rfl⟩
      have : thereR F ns = 0 := by
        unfold thereR
        rw [if_pos]
        have := Hall.out
        rwa [List.take_of_length_le (by omega)] at this
      rw [this]; rfl
end Go.Proofs.YtpffanfpohajhaaGreat
