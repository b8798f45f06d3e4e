/- Walks of Of, Sum, Write, Clone of the program's hashes. Condition: bounds; the tables are as laid. -/
import Derived.Test.YtmnlebkpneeblaaDoorJ
namespace Go.Proofs.YtmnlebkpneeblaaDoor
open Go Go.RowKit

/-- The sum of a text. -/
def shaP (l : List UInt8) : List UInt8 := sumL (absorb S8.begins l).1 (absorb S8.begins l).2 l.length

theorem absorb_rest_le (v : S8) (l : List UInt8) : (absorb v l).2.length ≤ l.length := by
  induction hn : l.length using Nat.strongRecOn generalizing v l with
  | ind n ih =>
    by_cases h : 64 ≤ l.length
    · rw [absorb_ge h]
      have := ih (l.drop 64).length (by rw [List.length_drop]; omega) (v.takes (l.take 64)) (l.drop 64) rfl
      rw [List.length_drop] at this
      omega
    · rw [absorb_lt h]
      exact Nat.le_of_eq hn
theorem outL_length (v : S8) : (outL v).length = 32 := by rw [← outZ_full, outZ_length v (Nat.le_refl _)]
theorem sumL_length (v : S8) (r : List UInt8) (n : Int) : (sumL v r n).length = 32 := outL_length _

/-- What the laid tables say. -/
structure Laid (w : World) : Prop where
  squares : Squares w
  cubes : w.rangeAt 1 0 (u32s Ks)
  two : 2 ≤ w.heap.size
theorem Laid.below {B : Nat} {w w' : World} (h : Laid w) (hb : Below B w w') (hB : 2 ≤ B) : Laid w' :=
  ⟨fun j v hj => (hb.cell (p := ⟨0, 0 + j, none⟩) (by show 0 < B; omega)).trans (h.squares j v hj), fun j v hj => (hb.cell (p := ⟨1, 0 + j, none⟩) (by show 1 < B; omega)).trans (h.cubes j v hj), Nat.le_trans h.two hb.size⟩
theorem zeros24 (w : World) : Row (w.alloc (.cells (u8s (List.replicate 32 0)).toArray 24)) w.heap.size (u8s (List.replicate 32 0)) := Row.new _ _ _

set_option maxRecDepth 100000 in
theorem Sum_any (p : Nat) (v : S8) (rest : List UInt8) (n : Int) (rv : Value) (w : World) (h : HashAt w p v rest n rv) (hl : rest.length ≤ 549755813888) (hn : 0 ≤ n) (hn2 : n ≤ 549755813888) (hk : Laid w) :
    Calls Tryd.prog 11 #[.pointer (some ⟨p, 0, none⟩)] w (SumP (sumL v rest n) w) := by
  have hb0 : Below w.heap.size w (w.alloc (.cells (u8s (List.replicate 32 0)).toArray 24)) := (Below.refl _ _).alloc (Nat.le_refl _) _
  have HC := Lib.hid (sum_any p v rest n rv _ (h.below hb0) hl hn hn2 (hk.below hb0 hk.two).cubes (by simp; have := hk.two; omega))
  have HB0 := Lib.hid hb0
  have HR0 := Lib.hid (zeros24 w)
  clear h hb0 hk
  have hlen : (u8s (sumL v rest n)).length = 32 := by rw [u8s_length, sumL_length]
  have HLEN := Lib.hid hlen
  generalize sumL v rest n = l at *
  clear hlen
  go_enter Tryd.func11, Tryd.ntmps11
  go_wp2_with fail
  change Calls _ _ _ (w.alloc (.cells (u8s (List.replicate 32 0)).toArray 24)) _
  generalize w.alloc (.cells (u8s (List.replicate 32 0)).toArray 24) = w0 at *
  refine HC.out.mono ?_
  rintro e w1 ⟨rfl, hb1⟩
  have hres : Row w1 w.heap.size (u8s (List.replicate 32 0)) := HR0.out.below hb1 HR0.out.lt
  have HTH : Hid (w1.there w.heap.size 0 (u8s l).toArray.size) := Lib.hid (hres.there _ (by rw [List.size_toArray, HLEN.out]; decide))
  have HFIN := Lib.hid (hres.over (vs := u8s l) (by rw [HLEN.out]; rfl))
  have HBF := Lib.hid (below_setCells (Nat.le_refl _) (u8s l) 0 w w1 (HB0.out.trans (hb1.mono HB0.out.size)))
  clear hres hb1
  go_wp2_with (refine wpList_store_mid rfl 24 _ _ rfl w.heap.size 0 (u8s l).toArray rfl rfl HTH.out (by rw [List.size_toArray, HLEN.out]; kernel_rfl) (all_oneCell_toArray (u8s_one _)) ?_)
  obtain ⟨T, hT⟩ := HFIN.out
  exact bodyPost_ret (v := .agg (u8s l).toArray) (results_cell_row (p := 2) (ty := 24) rfl _ _ w.heap.size T _ _ _ rfl hT Tryd.underlying24 rfl (by rw [List.size_toArray, HLEN.out]; kernel_rfl)) rfl ⟨rfl, HBF.out⟩

set_option maxRecDepth 100000 in
theorem Clone_any (p : Nat) (v : S8) (rest : List UInt8) (n : Int) (rv : Value) (w : World) (h : HashAt w p v rest n rv) (hl : rest.length ≤ 1099511627776) :
    Calls Tryd.prog 8 #[.pointer (some ⟨p, 0, none⟩)] w (NewHash w v rest n) := by
  have HC := Lib.hid (copied_any p v rest n rv w h hl)
  clear h
  go_enter Tryd.func8, Tryd.ntmps8
  go_wp2_with fail
  refine HC.out.mono ?_
  rintro e w1 ⟨q, rq, rfl, h1⟩
  have H1 := Lib.hid h1
  clear h1
  go_wp2
  go_ret
  exact ⟨q, rq, rfl, H1.out⟩

set_option maxRecDepth 100000 in
theorem Write_any (p : Nat) (v : S8) (rest : List UInt8) (n : Int) (rv : Value) (bv : Value) (b : List UInt8) (w : World) (h : HashAt w p v rest n rv) (hs : Src8 w bv b) (hdis : ∀ g, bv.ownBlock = some g → ¬ HashS p rv g)
    (hl : rest.length + b.length ≤ 1099511627776) (hn : 0 ≤ n) (hn2 : n ≤ 1099511627776) (hk : w.rangeAt 1 0 (u32s Ks)) (hsep : ∀ x, HashS p rv x → 2 ≤ x) :
    Calls Tryd.prog 9 #[.pointer (some ⟨p, 0, none⟩), bv] w (TakesP p rv (absorb v (rest ++ b)) (n + b.length) w) := by
  have HC := Lib.hid (takes_any p v rest n rv bv b w h hs hdis hl hn hn2 hk hsep)
  clear h hs hdis hk hsep
  go_enter Tryd.func9, Tryd.ntmps9
  go_wp2_with fail
  refine HC.out.mono ?_
  rintro e w1 ⟨rfl, h1⟩
  have H1 := Lib.hid h1
  clear h1
  go_wp2
  go_end0
  exact ⟨rfl, H1.out⟩

set_option maxRecDepth 100000 in
theorem Of_any (bv : Value) (b : List UInt8) (w : World) (hs : Src8 w bv b) (hg : ∀ g, bv.ownBlock = some g → g < w.heap.size) (hl : b.length ≤ 549755813888) (hk : Laid w) : Calls Tryd.prog 7 #[bv] w (SumP (shaP b) w) := by
  have hb0 : Below w.heap.size w (w.alloc (.cells (u8s (List.replicate 32 0)).toArray 24)) := (Below.refl _ _).alloc (Nat.le_refl _) _
  have HN := Lib.hid (New_any _ (hk.below hb0 hk.two).squares)
  have HB0 := Lib.hid hb0
  have HR0 := Lib.hid (zeros24 w)
  have HK := Lib.hid hk
  have HS := Lib.hid hs
  have HGG := Lib.hid hg
  clear hs hg hb0 hk
  have hlen : (u8s (shaP b)).length = 32 := by rw [u8s_length]; exact sumL_length _ _ _
  have HLEN := Lib.hid hlen
  clear hlen
  go_enter Tryd.func7, Tryd.ntmps7
  go_wp2_with fail
  change Calls _ _ _ (w.alloc (.cells (u8s (List.replicate 32 0)).toArray 24)) _
  have hsz : (w.alloc (.cells (u8s (List.replicate 32 0)).toArray 24)).heap.size = w.heap.size + 1 := by simp
  have HSZ := Lib.hid hsz
  clear hsz
  generalize w.alloc (.cells (u8s (List.replicate 32 0)).toArray 24) = w0 at *
  refine HN.out.mono ?_
  rintro e w1 ⟨q, rq, rfl, hq, hb1, hnew⟩
  have hb01 : Below w.heap.size w w1 := HB0.out.trans (hb1.mono HB0.out.size)
  have hs1 : Src8 w1 bv b := HS.out.chg (Chg.of_below hb01 (fun _ => False)) (fun _ _ h => h)
  have hdis : ∀ g, bv.ownBlock = some g → ¬ HashS q rq g := fun g hg hh => by
    have h2 := hnew g hh
    have hz := HSZ.out
    have := HGG.out g hg
    omega
  have h2 := HK.out.two
  have HT := Lib.hid (takes_any q S8.begins [] 0 rq bv b w1 hq hs1 hdis (by simpa using (by omega : b.length ≤ 1099511627776)) (by decide) (by decide) (HK.out.below hb01 h2).cubes (fun x hx => by have := hnew x hx; have := HSZ.out; omega))
  rw [List.nil_append, Int.zero_add] at HT
  have HB01 := Lib.hid hb01
  have HB1 := Lib.hid hb1
  have HNEW := Lib.hid hnew
  clear hq hb1 hnew hb01 hs1 hdis h2
  go_wp2_with fail
  refine HT.out.mono ?_
  rintro e w2 ⟨rfl, rq', hq2, hc2, _⟩
  have hb12 : Below w0.heap.size w1 w2 := hc2.below HB1.out.size (fun x hx => HNEW.out x hx)
  have hb02 : Below w.heap.size w w2 := HB01.out.trans (hb12.mono (by have := HSZ.out; omega))
  have HC := Lib.hid (sum_any q _ _ _ rq' w2 hq2 (Nat.le_trans (absorb_rest_le _ _) hl) (by omega) (by omega) (HK.out.below hb02 HK.out.two).cubes (HK.out.below hb02 HK.out.two).two)
  have hres2 : Row w2 w.heap.size (u8s (List.replicate 32 0)) := (HR0.out.below HB1.out (by have := HSZ.out; omega)).below hb12 (by have := HSZ.out; omega)
  have HRES2 := Lib.hid hres2
  have HB02 := Lib.hid hb02
  clear hq2 hc2 hb12 hb02 hres2 HT HN
  go_wp2_with fail
  refine HC.out.mono ?_
  rintro e w3 ⟨rfl, hb3⟩
  have HLEN3 : Hid ((u8s (sumL (absorb S8.begins b).1 (absorb S8.begins b).2 b.length)).length = 32) := Lib.hid HLEN.out
  have HX : Hid (sumL (absorb S8.begins b).1 (absorb S8.begins b).2 b.length = shaP b) := Lib.hid rfl
  generalize sumL (absorb S8.begins b).1 (absorb S8.begins b).2 b.length = l at *
  have hres : Row w3 w.heap.size (u8s (List.replicate 32 0)) := HRES2.out.below hb3 HRES2.out.lt
  have HTH : Hid (w3.there w.heap.size 0 (u8s l).toArray.size) := Lib.hid (hres.there _ (by rw [List.size_toArray, HLEN3.out]; decide))
  have HFIN := Lib.hid (hres.over (vs := u8s l) (by rw [HLEN3.out]; rfl))
  have HBF := Lib.hid (below_setCells (Nat.le_refl _) (u8s l) 0 w w3 (HB02.out.trans (hb3.mono HB02.out.size)))
  clear hres hb3
  go_wp2_with (refine wpList_store_mid rfl 24 _ _ rfl w.heap.size 0 (u8s l).toArray rfl rfl HTH.out (by rw [List.size_toArray, HLEN3.out]; kernel_rfl) (all_oneCell_toArray (u8s_one _)) ?_)
  obtain ⟨T, hT⟩ := HFIN.out
  exact bodyPost_ret (v := .agg (u8s l).toArray) (results_cell_row (p := 2) (ty := 24) rfl _ _ w.heap.size T _ _ _ rfl hT Tryd.underlying24 rfl (by rw [List.size_toArray, HLEN3.out]; kernel_rfl)) rfl ⟨by rw [HX.out], HBF.out⟩
end Go.Proofs.YtmnlebkpneeblaaDoor
