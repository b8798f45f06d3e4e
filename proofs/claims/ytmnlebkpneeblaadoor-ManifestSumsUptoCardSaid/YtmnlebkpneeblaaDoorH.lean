/- Walk of takes: bytes taken by a hash. Condition: bounds; the bytes lie apart from the hash; the table of cubes is as laid. -/
import Derived.Test.YtmnlebkpneeblaaDoorG
namespace Go.Proofs.YtmnlebkpneeblaaDoor
open Go Go.RowKit

def TakesP (p : Nat) (rv : Value) (x : S8 × List UInt8) (n : Int) (w : World) (e : Ending) (w' : World) : Prop :=
  e = .returned (.tuple #[]) ∧ ∃ rv', HashAt w' p x.1 x.2 n rv' ∧ Chg (HashS p rv) w w' ∧ ∀ b, rv'.ownBlock = some b → w.heap.size ≤ b

def lenOfV : Value → Nat
  | .slice _ n _ => n
  | _ => 0

theorem Chg.cell {S : Nat → Prop} {w w' : World} (h : Chg S w w') {a : Addr} (ha : a.block < w.heap.size) (hn : ¬ S a.block) : w'.cell? a = w.cell? a := World.cell?_of_block (h.block _ ha hn)
theorem Src8.chg {S : Nat → Prop} {w w' : World} {v : Value} {l : List UInt8} (h : Src8 w v l) (hc : Chg S w w') (hn : ∀ g, v.ownBlock = some g → ¬ S g) : Src8 w' v l := by
  rcases h with h0 | ⟨g, o, c, rfl, hg, h1, h2, h3⟩
  · exact .inl h0
  · exact .inr ⟨g, o, c, rfl, Nat.lt_of_lt_of_le hg hc.size, h1, h2, fun j b hj => (hc.cell (a := ⟨g, o + j, none⟩) hg (hn g rfl)).trans (h3 j b hj)⟩
theorem range_chg {S : Nat → Prop} {w w' : World} {b o : Nat} {cs : List Value} (h : w.rangeAt b o cs) (hc : Chg S w w') (hb : b < w.heap.size) (hn : ¬ S b) : w'.rangeAt b o cs :=
  fun j v hj => (hc.cell (a := ⟨b, o + j, none⟩) hb hn).trans (h j v hj)

set_option maxRecDepth 100000 in
set_option maxHeartbeats 4000000 in
theorem takes_any (p : Nat) (v : S8) (rest : List UInt8) (n : Int) (rv : Value) (bv : Value) (b : List UInt8) (w : World) (h : HashAt w p v rest n rv) (hs : Src8 w bv b) (hdis : ∀ g, bv.ownBlock = some g → ¬ HashS p rv g)
    (hl : rest.length + b.length ≤ 1099511627776) (hn : 0 ≤ n) (hn2 : n ≤ 1099511627776) (hk : w.rangeAt 1 0 (u32s Ks)) (hsep : ∀ x, HashS p rv x → 2 ≤ x) :
    Calls Tryd.prog 12 #[.pointer (some ⟨p, 0, none⟩), bv] w (TakesP p rv (absorb v (rest ++ b)) (n + b.length) w) := by
  have x9 := h.row.cell 9 rfl
  have f9 := h.row.frozen 9
  have x8 := h.row.cell 8 rfl
  obtain ⟨ra, rc, rfl⟩ := own_form h.own
  obtain ⟨ba, bc, rfl⟩ := hs.form
  have hsep2 : 2 ≤ p := hsep p (.inl rfl)
  have e1 : IntKind.u64.wrap ((b.length : Nat) : Int) = b.length := by rw [IntKind.wrap_u64]; omega
  have e2 : IntKind.u64.wrap (n + (b.length : Int)) = n + b.length := by rw [IntKind.wrap_u64]; omega
  have HH := Lib.hid h
  have HS := Lib.hid hs
  have HD := Lib.hid hdis
  have HL := Lib.hid hl
  have HK := Lib.hid hk
  have HSEP := Lib.hid hsep
  -- the world with the count set
  have hrow1 : Row (w.setCell ⟨p, 9, none⟩ (.int .u64 (n + b.length))) p (hcells v.list (.slice ra rest.length rc) (n + b.length)) := h.row.set 9 _
  have hon1 : Only p w (w.setCell ⟨p, 9, none⟩ (.int .u64 (n + b.length))) := (Only.refl p w).setCell 9 _
  have hown1 : Own8 (w.setCell ⟨p, 9, none⟩ (.int .u64 (n + b.length))) (.slice ra rest.length rc) rest := h.own.of_block fun x hx => hon1.block x (h.own.lt hx) (h.apart x hx)
  have hsrc1 : Src8 (w.setCell ⟨p, 9, none⟩ (.int .u64 (n + b.length))) (.slice ba b.length bc) b := by
    rcases hs with h0 | ⟨g, o, c, e, hg, h1, h2, h3⟩
    · exact .inl h0
    · injection e with e1 _ e3
      subst e1 e3
      refine .inr ⟨g, o, bc, rfl, Nat.lt_of_lt_of_le hg hon1.size, h1, h2, fun j y hj => ?_⟩
      have hne : g ≠ p := fun e => hdis g rfl (.inl e)
      have hc := World.cell?_of_block (w := w) (w' := w.setCell ⟨p, 9, none⟩ (.int .u64 (n + b.length))) (a := ⟨g, o + j, none⟩) (hon1.block g hg hne)
      rw [hc]; exact h3 j y hj
  have HR1 := Lib.hid hrow1
  have HO1 := Lib.hid hon1
  have HW1 := Lib.hid hown1
  have HS1 := Lib.hid hsrc1
  clear h hs hdis hk hsep hrow1 hon1 hown1 hsrc1
  go_enter Tryd.func12, Tryd.ntmps12
  go_wp2_with (at_builtin; refine wpList_app8 rfl _ _ rfl rfl _ rest rfl HW1.out _ b rfl HS1.out HL.out ?_)
  intro av w2 ho2 hgr2 hnew2 _
  have hpl : p < w.heap.size := HH.out.row.lt
  have hrow2 : Row w2 p (hcells v.list (.slice ra rest.length rc) (n + b.length)) := HR1.out.of_block (hgr2.block p HR1.out.lt (fun e => HH.out.apart p e.symm rfl))
  have hchg2 : Chg (HashS p (.slice ra rest.length rc)) w w2 := (Chg.of_only HO1.out (.inl rfl)).trans (Chg.of_grown hgr2 (fun x hx => .inr hx))
  have hown2 : Own8 w2 av (rest ++ b) := by unfold Own8; rw [List.length_append]; exact ho2
  have hav : ∀ g, av.ownBlock = some g → g ≠ p := fun g hg e => by
    rcases hnew2 g hg with h | h
    · exact HH.out.apart g h e
    · omega
  have HR2 := Lib.hid hrow2
  have HC2 := Lib.hid hchg2
  have HS2 := Lib.hid (own_src hown2)
  have HAV := Lib.hid hav
  have HPL := Lib.hid hpl
  have H1 : Hid (1 < w.heap.size ∧ ¬ HashS p (.slice ra rest.length rc) 1) := Lib.hid ⟨by omega, fun h => by have := HSEP.out 1 h; omega⟩
  clear ho2 hgr2 hnew2 hrow2 hchg2 hown2 hav x9 f9 x8 hpl
  go_wp2
  go_loopw [4] (fun sv wr => ∃ m vk sa sc, sv = .slice sa m.length sc ∧ Src8 wr (.slice sa m.length sc) m ∧ (∀ g, (Value.slice sa m.length sc).ownBlock = some g → g ≠ p) ∧ absorb vk m = absorb v (rest ++ b) ∧ Row wr p (hcells vk.list (.slice ra rest.length rc) (n + b.length)) ∧ Chg (HashS p (.slice ra rest.length rc)) w wr) (fun sv _ => lenOfV sv)
  case atStart =>
    obtain ⟨sa, sc, e⟩ := HS2.out.form
    exact ⟨rest ++ b, v, sa, sc, e, e ▸ HS2.out, e ▸ HAV.out, rfl, HR2.out, HC2.out⟩
  case round =>
    obtain ⟨m, vk, sa, sc, rfl, hsm, hgm, habs, hrk, hck⟩ := hrel
    have h1r : 1 < wr.heap.size := Nat.lt_of_lt_of_le H1.out.1 hck.size
    by_cases hge : 64 ≤ m.length
    · obtain ⟨g, o, rfl, hg, hmc, hcm, hrd⟩ : ∃ g o, sa = some ⟨g, o, none⟩ ∧ g < wr.heap.size ∧ m.length ≤ sc ∧ sc ≤ 9223372036854775807 ∧ Rd8 wr g o m := by
        rcases hsm with ⟨_, _, rfl⟩ | ⟨g, o, c, e, h⟩
        · simp at hge
        · injection e with e1 _ e3
          subst e1 e3
          exact ⟨g, o, rfl, h⟩
      have hgp : g ≠ p := hgm g rfl
      have hge' : (64 : Int) ≤ (m.length : Int) := by omega
      have hcge : (64 : Int) ≤ (sc : Int) := by omega
      have hrd64 : Rd8 wr g o (m.take 64) := fun j x hj => hrd j x (by
        rw [List.getElem?_take] at hj
        split at hj
        · exact hj
        · cases hj)
      have HT := Lib.hid (turn_any p vk (.slice ra rest.length rc) (n + b.length) g o sc (m.take 64) wr (by rw [List.length_take]; omega) hg hrd64 (by omega) hcm hrk (range_chg HK.out hck H1.out.1 H1.out.2) h1r)
      have HAB := Lib.hid ((absorb_ge hge).symm.trans habs)
      have HRD := Lib.hid hrd
      have HCK := Lib.hid hck
      have HGP := Lib.hid hgp
      have HGE := Lib.hid hge
      clear hsm hgm habs hrk hck hrd hrd64 hgp h1r
      go_wp2_with fail
      refine HT.out.mono ?_
      rintro e w3 ⟨rfl, hr3, ho3⟩
      have hck3 : Chg (HashS p (.slice ra rest.length rc)) w w3 := HCK.out.trans (Chg.of_only ho3 (.inl rfl))
      have hrd3 : Rd8 w3 g o m := fun j x hj => (World.cell?_of_block (w := wr) (w' := w3) (a := ⟨g, o + j, none⟩) (ho3.block g hg HGP.out)).trans (HRD.out j x hj)
      have hg3 : g < w3.heap.size := Nat.lt_of_lt_of_le hg ho3.size
      have HR3 := Lib.hid hr3
      have HCK3 := Lib.hid hck3
      have HRD3 := Lib.hid hrd3
      clear hr3 ho3 hck3 hrd3 HT HCK HRD
      by_cases hc64 : sc = 64
      · subst hc64
        have hm64 : m.length = 64 := by omega
        have hd : m.drop 64 = [] := List.drop_eq_nil_of_le (by omega)
        have HD64 := Lib.hid hd
        have HM64 := Lib.hid hm64
        clear hd hm64
        go_wp2_with fail
        case roundEnd =>
          rw [HM64.out]
          refine ⟨⟨m.drop 64, vk.takes (m.take 64), some ⟨g, o, none⟩, 0, by rw [HD64.out]; rfl, ?_, fun g' hg' => by injection hg' with hg'; rw [← hg']; exact HGP.out, HAB.out, HR3.out, HCK3.out⟩, by show 0 < 64; decide⟩
          rw [HD64.out]
          exact .inr ⟨g, o, 0, rfl, hg3, Nat.le_refl _, by omega, fun j x hj => by simp at hj⟩
      · have hc64' : (64 : Int) < (sc : Int) := by omega
        go_wp2_with fail
        case roundEnd =>
          refine ⟨⟨m.drop 64, vk.takes (m.take 64), some ⟨g, o + 64, none⟩, sc - 64, by rw [List.length_drop], ?_, fun g' hg' => by injection hg' with hg'; rw [← hg']; exact HGP.out, HAB.out, HR3.out, HCK3.out⟩, by simp only [lenOfV]; omega⟩
          refine .inr ⟨g, o + 64, sc - 64, rfl, hg3, by rw [List.length_drop]; omega, by omega, fun j x hj => ?_⟩
          rw [List.getElem?_drop] at hj
          have := HRD3.out _ x hj
          rwa [← Nat.add_assoc] at this
    · have hge' : ¬ (64 : Int) ≤ (m.length : Int) := by omega
      have hx : absorb v (rest ++ b) = (vk, m) := by rw [← habs, absorb_lt hge]
      have HX := Lib.hid hx
      have hf8 := hrk.frozen 8
      have hx8 := hrk.cell 8 rfl
      have HCL := Lib.hid (clone_any _ m wr hsm (by omega))
      have HRK := Lib.hid hrk
      have HCK := Lib.hid hck
      clear hsm hgm habs hrk hck hx h1r
      go_wp2_with fail
      refine HCL.out.mono ?_
      rintro e w3 ⟨cv, rfl, ho3, hb3⟩
      obtain ⟨ca, cc, rfl⟩ := own_form ho3
      have hr3 := HRK.out.below hb3 HRK.out.lt
      have y8 := hr3.cell 8 rfl
      have g8 := hr3.frozen 8
      have HR3 := Lib.hid hr3
      have HO3 := Lib.hid ho3
      have HB3 := Lib.hid hb3
      clear hr3 ho3 hb3 hf8 hx8
      go_wp2_with fail
      go_end0
      have hsz : w.heap.size ≤ wr.heap.size := HCK.out.size
      have hon : Only p w3 (w3.setCell ⟨p, 8, none⟩ (.slice ca m.length cc)) := (Only.refl p w3).setCell 8 _
      have hap : ∀ x, (Value.slice ca m.length cc).ownBlock = some x → x ≠ p := fun x hx e => by
        have := (HO3.out.lt x hx).1
        have := HPL.out
        omega
      rw [HX.out]
      refine ⟨rfl, .slice ca m.length cc, ⟨HR3.out.set 8 _, ?_, hap⟩, ?_, fun x hx => Nat.le_trans hsz (HO3.out.lt x hx).1⟩
      · exact (Own8.of_base HO3.out).of_block fun x hx => hon.block x (HO3.out.lt x hx).2 (hap x hx)
      · exact (HCK.out.trans (Chg.of_below HB3.out _)).trans (Chg.of_only hon (.inl rfl))
end Go.Proofs.YtmnlebkpneeblaaDoor
