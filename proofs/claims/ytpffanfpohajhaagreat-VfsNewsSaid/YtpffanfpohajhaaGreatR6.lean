/- Walk of Up of the reference. Condition: bounds on lengths. -/
import Derived.Test.YtpffanfpohajhaaGreatR5
namespace Go.Proofs.YtpffanfpohajhaaGreat
open Go Go.MapKept
open Go.RowKit hiding intOf

def findR (R : Rf) (n : Int) : Option NodeL := R.img.list.find? fun x => decide (x.number = n)

theorem findR_place (R : Rf) (n : Int) : findR R n = (placeN R.img.list n).bind fun k => R.img.list[k]? := by
  unfold findR placeN
  rw [List.find?_eq_bind_findIdx?_getElem?]

theorem at_case {w : World} {q : Nat} {R : Rf} {l : List (NodeL × Value × Value)} {lv tv : Value} (h : RefAt w q R l lv tv) (n : Int) :
    (findR R n = none ∧ atV R lv n = .pointer none) ∨ ∃ k nd dv ev g c, findR R n = some nd ∧ l[k]? = some (nd, dv, ev) ∧ lv = .slice (some ⟨g, 0, none⟩) l.length c ∧ atV R lv n = .pointer (some ⟨g, k * 10, none⟩) := by
  rw [findR_place]
  cases hp : placeN R.img.list n with
  | none => exact .inl ⟨rfl, by unfold atV; rw [hp]⟩
  | some k =>
    obtain ⟨x, hx, _⟩ := placeN_get hp
    have hx' := hx
    rw [← h.list, List.getElem?_map] at hx'
    obtain ⟨⟨nd, dv, ev⟩, hk, rfl⟩ := Option.map_eq_some_iff.1 hx'
    obtain ⟨a, c, rfl⟩ := h.rd.row.form
    obtain ⟨g, cur, rfl, _⟩ := own_at h.own (by have := (List.getElem?_eq_some_iff.1 hk).1; omega)
    exact .inr ⟨k, nd, dv, ev, g, c, hx, hk, rfl, by unfold atV; rw [hp]⟩

def names (n : Int) (x : NodeL) : Bool := x.ents.any fun p => p.2 == n
def upL (l : List NodeL) (n : Int) : Int := ((l.find? (names n)).map (·.number)).getD 1
def upRR (R : Rf) (n : Int) : Int × Int := match findR R n with | none => (0, 100) | some d => if d.kind = 1 then (upL R.img.list n, 0) else (0, 101)

theorem upL_some {l : List NodeL} {k : Nat} {x : NodeL} {n : Int} (hk : l[k]? = some x) (hx : names n x = true) (h : ∀ y ∈ l.take k, names n y = false) : upL l n = x.number := by
  unfold upL
  have : l.find? (names n) = some x := by
    rw [← List.take_append_drop k l, List.find?_append]
    have h0 : (l.take k).find? (names n) = none := by
      rw [List.find?_eq_none]
      intro y hy
      simp [h y hy]
    obtain ⟨hlt, he⟩ := List.getElem?_eq_some_iff.1 hk
    rw [h0, List.drop_eq_getElem_cons hlt, he, List.find?_cons_of_pos hx]
    rfl
  rw [this]
  rfl
theorem upL_none {l : List NodeL} {n : Int} (h : ∀ y ∈ l, names n y = false) : upL l n = 1 := by
  unfold upL
  rw [List.find?_eq_none.2 fun y hy => by simp [h y hy]]
  rfl

def TwoSame (x : Int × Int) (w : World) (e : Ending) (w' : World) : Prop := Two x e ∧ w' = w

set_option maxRecDepth 100000 in
set_option maxHeartbeats 1000000 in
theorem UpR_any (q : Nat) (R : Rf) (l : List (NodeL × Value × Value)) (lv tv : Value) (w : World) (h : RefAt w q R l lv tv) (n : Int) (hl : l.length ≤ 1073741824) (hs : ∀ p ∈ l, p.1.ents.length ≤ 1073741824) :
    Calls Tryz.prog 63 #[ptr q, .int .i64 n] w (TwoSame (upRR R n) w) := by
  have HC := Lib.hid (atN_any q R l lv tv w h n hl)
  have HH := Lib.hid h
  have HS := Lib.hid hs
  have HL := Lib.hid h.list
  clear hs
  rcases at_case h n with ⟨hf, hv⟩ | ⟨k0, nd0, dv0, ev0, g, c, hf, hk, rfl, hv⟩
  · have he : upRR R n = (0, 100) := by unfold upRR; rw [hf]
    have HE := Lib.hid he
    rw [hv] at HC
    clear h hf hv he
    unfold ptr at *
    go_enter Tryz.func63, Tryz.ntmps63
    go_wp2_with fail
    refine HC.out.mono ?_
    rintro e w1 ⟨rfl, rfl⟩
    go_wp2_with fail
    go_ret2
    exact ⟨Two.mk HE.out, rfl⟩
  · have c3 : w.cell? ⟨q, 3, none⟩ = some (.slice (some ⟨g, 0, none⟩) l.length c) := h.row.cell 3 rfl
    obtain ⟨b, o, eb, hc⟩ := h.rd.cells hk
    injection eb with eb
    injection eb with e1 e2 _
    subst e1 e2
    have x1 := hc 1 _ (by omega) rfl
    rw [Nat.zero_add] at x1
    rw [hv] at HC
    clear h hc hk
    by_cases hkd : nd0.kind = 1
    · have he : upRR R n = (upL R.img.list n, 0) := by unfold upRR; rw [hf]; simp only; rw [if_pos hkd]
      have HE := Lib.hid he
      have t : (nd0.kind != 1) = false := by simpa using hkd
      clear hf hv he hkd
      unfold ptr at *
      go_enter Tryz.func63, Tryz.ntmps63
      go_wp2_with fail
      refine HC.out.mono ?_
      rintro e w1 ⟨rfl, rfl⟩
      go_wp2_with fail
      go_loopw [7] (fun iv wr => ∃ k : Nat, k ≤ l.length ∧ iv = .int .i64 k ∧ wr = w1 ∧ ∀ y ∈ (l.map (·.1)).take k, names n y = false) (fun iv _ => l.length - (RowKit.intOf iv).toNat)
      case atStart => exact ⟨0, Nat.zero_le _, rfl, rfl, fun y hy => by simp at hy⟩
      case round =>
        obtain ⟨k, hk, rfl, rfl, hpre⟩ := hrel
        have HPRE := Lib.hid hpre
        clear hpre
        by_cases hlt : k < l.length
        · obtain ⟨⟨nd, dv, ev⟩, gp⟩ : ∃ p, l[k]? = some p := ⟨_, List.getElem?_eq_getElem hlt⟩
          obtain ⟨b', o', eb, hc⟩ := HH.out.rd.cells gp
          injection eb with eb
          injection eb with e1 e2 _
          subst e1 e2
          obtain ⟨_, pe⟩ := HH.out.parts _ (List.mem_of_getElem? gp)
          simp only at pe
          obtain ⟨ea, ec, rfl⟩ := pe.form
          have x9 := hc 9 _ (by omega) rfl
          have x0 := hc 0 _ (by omega) rfl
          rw [Nat.zero_add] at x9 x0
          rw [Nat.add_zero] at x0
          have hlt' : (k : Int) < (l.length : Int) := by omega
          have hk0 : (0 : Int) ≤ (k : Int) := by omega
          have hm : (l.map (·.1))[k]? = some nd := by rw [List.getElem?_map, gp]; rfl
          have hel : nd.ents.length ≤ 1073741824 := HS.out _ (List.mem_of_getElem? gp)
          have HM := Lib.hid hm
          have GP := Lib.hid gp
          clear hc gp hm pe
          go_wp2_with fail
          go_loopw [8] (fun jv wx => ∃ m : Nat, m ≤ nd.ents.length ∧ jv = .int .i64 m ∧ wx = wr ∧ ∀ p ∈ nd.ents.take m, (p.2 == n) = false) (fun jv _ => nd.ents.length - (RowKit.intOf jv).toNat)
          case atStart => exact ⟨0, Nat.zero_le _, rfl, rfl, fun y hy => by simp at hy⟩
          case round =>
            obtain ⟨m, hm, rfl, rfl, hpre2⟩ := hrel
            have HPRE2 := Lib.hid hpre2
            clear hpre2
            by_cases hlt2 : m < nd.ents.length
            · obtain ⟨p, hp⟩ : ∃ p, nd.ents[m]? = some p := ⟨_, List.getElem?_eq_getElem hlt2⟩
              obtain ⟨b2, o2, rfl, y1, y2⟩ := HH.out.rd.ent GP.out hp
              have hlt2' : (m : Int) < (nd.ents.length : Int) := by omega
              have hm0 : (0 : Int) ≤ (m : Int) := by omega
              have HP := Lib.hid hp
              clear hp
              cases t2 : p.2 == n with
              | true =>
                have hu : upL R.img.list n = nd.number := by
                  rw [← HL.out]
                  exact upL_some HM.out (List.any_eq_true.2 ⟨p, List.mem_of_getElem? HP.out, t2⟩) HPRE.out
                have HU := Lib.hid hu
                clear hu
                go_wp2_with fail
                go_ret2
                exact ⟨Two.mk (by rw [HE.out, HU.out]), rfl⟩
              | false =>
                have T2 := Lib.hid t2
                go_wp2_with fail
                case roundEnd =>
                  refine ⟨⟨m + 1, by omega, rfl, by trivial, fun y hy => ?_⟩, ?_⟩
                  · rw [List.take_add_one, HP.out] at hy
                    rcases List.mem_append.1 hy with hy | hy
                    · exact HPRE2.out y hy
                    · simp at hy; subst hy; exact T2.out
                  · change nd.ents.length - ((m : Int) + 1).toNat < nd.ents.length - (m : Int).toNat; omega
            · have hlt2' : ¬ (m : Int) < (nd.ents.length : Int) := by omega
              go_wp2_with fail
              case roundEnd =>
                refine ⟨⟨k + 1, by omega, rfl, by trivial, fun y hy => ?_⟩, ?_⟩
                · rw [List.take_add_one, HM.out] at hy
                  rcases List.mem_append.1 hy with hy | hy
                  · exact HPRE.out y hy
                  · simp at hy; subst hy
                    have := HPRE2.out
                    rw [List.take_of_length_le (by omega)] at this
                    unfold names
                    rw [List.any_eq_false]
                    intro p hp
                    simp [this p hp]
                · change l.length - ((k : Int) + 1).toNat < l.length - (k : Int).toNat; omega
        · have hlt' : ¬ (k : Int) < (l.length : Int) := by omega
          have hu : upL R.img.list n = 1 := by
            rw [← HL.out]
            refine upL_none fun y hy => HPRE.out y ?_
            rwa [List.take_of_length_le (by simp; omega)]
          have HU := Lib.hid hu
          clear hu
          go_wp2_with fail
          go_ret2
          exact ⟨Two.mk (by rw [HE.out, HU.out]), rfl⟩
    · have he : upRR R n = (0, 101) := by unfold upRR; rw [hf]; simp only; rw [if_neg hkd]
      have HE := Lib.hid he
      have t : (nd0.kind != 1) = true := by simpa using hkd
      clear hf hv he hkd
      unfold ptr at *
      go_enter Tryz.func63, Tryz.ntmps63
      go_wp2_with fail
      refine HC.out.mono ?_
      rintro e w1 ⟨rfl, rfl⟩
      go_wp2_with fail
      go_ret2
      exact ⟨Two.mk HE.out, rfl⟩
end Go.Proofs.YtpffanfpohajhaaGreat
