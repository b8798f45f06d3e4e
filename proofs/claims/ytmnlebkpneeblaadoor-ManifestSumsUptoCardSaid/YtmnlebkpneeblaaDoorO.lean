/- Walks of the two Hexes: a sum's digits. No condition but the sum's length. -/
import Derived.Test.YtmnlebkpneeblaaDoorN
namespace Go.Proofs.YtmnlebkpneeblaaDoor
open Go Go.RowKit

theorem G8.drew {B : Nat} {w0 w : World} {v : Value} {l : List UInt8} (h : G8 B w0 w v l) : G8 B w0 w.drew v l := ⟨h.own, h.below.drew, h.blk, h.size⟩
theorem strOf_u8s (l : List UInt8) : strOfNums (l.map fun b => (b.toNat : Int)) = ⟨l.toArray⟩ := by
  have h := strOfNums_data (l.map fun b => (b.toNat : Int))
  rw [List.map_map] at h
  have e : l.map ((fun n : Int => UInt8.ofNat n.toNat) ∘ fun b : UInt8 => (b.toNat : Int)) = l := by
    conv => rhs; rw [← List.map_id l]
    refine List.map_congr_left fun b _ => ?_
    simp
  rw [e] at h
  apply ByteArray.ext
  apply Array.ext'
  exact h
theorem own_string {w : World} {a : Option Addr} {c : Nat} {l : List UInt8} (h : Own8 w (.slice a l.length c) l) : (convert 28 9 (.slice a l.length c)).run Tryd.prog w = .ok (.string ⟨l.toArray⟩) w := by
  rcases h.2 with ⟨e, h0⟩ | ⟨g, cap, cur, e, h3, h4, h5, h6, h7, h8⟩
  · injection e with e1 e2 e3
    subst e1
    have hl : l = [] := List.eq_nil_of_length_eq_zero h0
    subst hl
    exact run_convert_bytes_nil (P := Tryd.prog) w 28 5 Tryd.underlying28 Tryd.underlying5 _ c 9 Tryd.underlying9
  · injection e with e1 _ e3
    subst e1 e3
    rw [← strOf_u8s]
    refine run_convert_bytes_arg (P := Tryd.prog) w 28 5 Tryd.underlying28 Tryd.underlying5 g 0 l.length c (l.map fun b => (b.toNat : Int)) (List.length_map _) (fun i hi => ?_) 9 Tryd.underlying9
    have := World.ownsRow.cells h (g := g) rfl i _ (u8s_at hi)
    rw [Addr.add_mid] at this
    rw [this, List.getD_eq_getElem?_getD, List.getD_eq_getElem?_getD, List.getElem?_map, List.getElem?_eq_getElem hi]
    rfl
def HexP (l : List UInt8) (w : World) (e : Ending) (w' : World) : Prop := e = .returned (.string ⟨(hexL l).toArray⟩) ∧ Below w.heap.size w w'

set_option maxRecDepth 100000 in
set_option maxHeartbeats 2000000 in
theorem Hex_any (l : List UInt8) (w : World) (hl : l.length = 32) : Calls Tryd.prog 5 #[.agg (u8s l).toArray] w (HexP l w) := by
  have hr0 := Row.new w (u8s l) 24
  have hb0 := (Below.refl w.heap.size w).alloc (Nat.le_refl _) (.cells (u8s l).toArray 24)
  have HR0 := Lib.hid hr0
  have HB0 := Lib.hid hb0
  have HLN : Hid ((u8s l).length = 32) := Lib.hid (by rw [u8s_length, hl])
  have HL := Lib.hid hl
  clear hr0 hb0 hl
  go_enter Tryd.func5, Tryd.ntmps5
  go_wp2_with (refine wpList_load_mid rfl 24 _ rfl w.heap.size 0 rfl (u8s l) _ HR0.out.range Tryd.underlying24 rfl (by rw [HLN.out]; kernel_rfl) ?_)
  obtain ⟨w1, hw1⟩ : ∃ w1, w1 = w.alloc (.cells (u8s l).toArray 24) := ⟨_, rfl⟩
  rw [← hw1] at HR0 HB0 ⊢
  have hsz : w1.heap.size = w.heap.size + 1 := by rw [hw1]; simp
  have HSZ := Lib.hid hsz
  clear hw1 hsz
  go_loopw [3, 7] (fun bv iv wr => ∃ (i : Nat) (a : Option Addr) (c : Nat), i ≤ 32 ∧ iv = .int .i64 i ∧ bv = .slice a (hexL (l.take i)).length c ∧ G8 w1.heap.size w1 wr (.slice a (hexL (l.take i)).length c) (hexL (l.take i))) (fun _ iv _ => 32 - (RowKit.intOf iv).toNat)
  case atStart => exact ⟨0, none, 0, Nat.zero_le _, rfl, rfl, ⟨World.ownsRow_nil _ _ _ _, Below.refl _ _, (fun g hg => by cases hg), Nat.le_refl _⟩⟩
  case round =>
    obtain ⟨i, ba, bc, hi, rfl, rfl, hg⟩ := hrel
    by_cases hlt : i < 32
    · have hlt2 : (i : Int) < 32 := by omega
      have h0 : (0 : Int) ≤ (i : Int) := by omega
      have hix := fun W => run_index24 W l i HL.out hlt
      have hsn : hexL (l.take (i + 1)) = hexL (l.take i) ++ [dig ((l.getD i 0).toNat / 16), dig ((l.getD i 0).toNat % 16)] := by
        rw [List.take_succ_eq_append_getElem (by rw [HL.out]; exact hlt), hexL_snoc, List.getD_eq_getElem?_getD, List.getElem?_eq_getElem (by rw [HL.out]; exact hlt)]
        rfl
      have hlen : (hexL (l.take i)).length ≤ 64 := by rw [hexL_length, List.length_take]; omega
      generalize l.getD i 0 = x at *
      have hx := x.toNat_lt
      generalize hexL (l.take i) = s at *
      have HSN := Lib.hid hsn
      have HG := Lib.hid hg
      have HLE := Lib.hid hlen
      have hd1 : ∀ W, (Instr.index 9 (.string ⟨#[48, 49, 50, 51, 52, 53, 54, 55, 56, 57, 97, 98, 99, 100, 101, 102]⟩) (.int .u8 ((x.toNat : Int) / 16))).run Tryd.prog W = .ok (.int .u8 (dig (x.toNat / 16)).toNat) W := fun W => run_dig W .u8 (x.toNat / 16) (by omega)
      have hd2 : ∀ W, (Instr.index 9 (.string ⟨#[48, 49, 50, 51, 52, 53, 54, 55, 56, 57, 97, 98, 99, 100, 101, 102]⟩) (.int .u8 ((x.toNat : Int) % 16))).run Tryd.prog W = .ok (.int .u8 (dig (x.toNat % 16)).toNat) W := fun W => run_dig W .u8 (x.toNat % 16) (by omega)
      have ha : bits .and .u8 (x.toNat : Int) 15 = (x.toNat : Int) % 16 := by
        have h3 : (x.toNat : Int) < 256 := by omega
        have h4 : (0 : Int) ≤ (x.toNat : Int) := by omega
        generalize (x.toNat : Int) = y at *
        go_bits2
      have HOW := Lib.hid (hg.drew.ownA (.cells #[.int .u8 (dig (x.toNat / 16)).toNat, .int .u8 (dig (x.toNat % 16)).toNat] 5))
      have HSR := Lib.hid (src_two wr.drew (dig (x.toNat / 16)) (dig (x.toNat % 16)))
      clear hsn hg hlen
      go_wp2_with fail
      refine wp_region_noPanic ?_
      refine wp_region_L 9 (fun _ => True) (by kernel_rfl) ?_
      refine wpAnyL_take (i := 0) (v := ?_) rfl (by kernel_rfl) (fun _ _ _ h => h) (by rfl) (fun W hSw => ?_) trivial ?_
      rotate_left
      · (go_simp; try (with_reducible rfl))
      try simp only [Act.put, List.setIfInBounds_toArray, List.set_cons_zero, List.set_cons_succ]
      refine wpAnyL_take (i := 1) (v := ?_) rfl (by kernel_rfl) (fun _ _ _ h => h) (by rfl) (fun W hSw => ?_) trivial ?_
      rotate_left
      · (go_simp; try (with_reducible rfl))
      try simp only [Act.put, List.setIfInBounds_toArray, List.set_cons_zero, List.set_cons_succ]
      refine wpAnyL_take (i := 2) (v := ?_) rfl (by kernel_rfl) (fun _ _ _ h => h) (by rfl) (fun W hSw => ?_) trivial ?_
      rotate_left
      · (go_simp; try (with_reducible rfl))
      try simp only [Act.put, List.setIfInBounds_toArray, List.set_cons_zero, List.set_cons_succ]
      refine wpAnyL_take (i := 3) (v := ?_) rfl (by kernel_rfl) (fun _ _ _ h => h) (by rfl) (fun W hSw => ?_) trivial ?_
      rotate_left
      · (go_simp; try (with_reducible rfl))
      try simp only [Act.put, List.setIfInBounds_toArray, List.set_cons_zero, List.set_cons_succ]
      refine wpAnyL_take (i := 4) (v := ?_) rfl (by kernel_rfl) (fun _ _ _ h => h) (by rfl) (fun W hSw => ?_) trivial ?_
      rotate_left
      · (go_simp; try (with_reducible rfl))
      try simp only [Act.put, List.setIfInBounds_toArray, List.set_cons_zero, List.set_cons_succ]
      refine wpAnyL_take (i := 5) (v := ?_) rfl (by kernel_rfl) (fun _ _ _ h => h) (by rfl) (fun W hSw => ?_) trivial ?_
      rotate_left
      · (go_simp; try (with_reducible rfl))
      try simp only [Act.put, List.setIfInBounds_toArray, List.set_cons_zero, List.set_cons_succ]
      refine wpAnyL_take (i := 6) (v := ?_) rfl (by kernel_rfl) (fun _ _ _ h => h) (by rfl) (fun W hSw => ?_) trivial ?_
      rotate_left
      · (go_simp; try (with_reducible rfl))
      try simp only [Act.put, List.setIfInBounds_toArray, List.set_cons_zero, List.set_cons_succ]
      refine wpAnyL_only (i := 7) rfl (by kernel_rfl) rfl (fun K hK => ?_)
      go_simp
      refine hK _ _ (.inr trivial) ?_
      clear hK K
      try simp only [Act.put, List.setIfInBounds_toArray, List.set_cons_zero, List.set_cons_succ]
      refine wpAnyL_only (i := 8) rfl (by kernel_rfl) rfl (fun K hK => ?_)
      refine wp_app8 _ _ rfl rfl _ s rfl HOW.out _ [dig (x.toNat / 16), dig (x.toNat % 16)] rfl HSR.out (by have := HLE.out; simp; omega) ?_
      intro v9 w9 ho9 hgr9 hnew9 _
      have hg9 := HG.out.drew.app2 _ (by rw [List.length_append] at ho9; exact ho9) hgr9 (fun g hg => (hnew9 g hg).imp id (fun h => Nat.le_trans (Nat.le_of_eq (by simp)) h))
      rw [← HSN.out] at hg9
      obtain ⟨a9, c9, e9⟩ := own_form hg9.own
      have HG9 := Lib.hid hg9
      have E9 := Lib.hid e9
      refine hK _ _ (.inr trivial) ?_
      clear hK K ho9 hgr9 hnew9 hg9 e9
      try simp only [Act.put, List.setIfInBounds_toArray, List.set_cons_zero, List.set_cons_succ]
      refine wpAnyL_only (i := 9) rfl (by kernel_rfl) rfl (fun K hK => ?_)
      go_simp
      refine hK _ _ (.inl rfl) ?_
      clear hK K
      try simp only [Act.put, List.setIfInBounds_toArray, List.set_cons_zero, List.set_cons_succ]
      refine wpAnyL_done (by kernel_rfl) (NoPanic.normal ?_) _
      go_wp2_with fail
      case roundEnd =>
        refine ⟨⟨i + 1, a9, c9, by omega, rfl, E9.out, E9.out ▸ HG9.out⟩, ?_⟩
        change 32 - ((i : Int) + 1).toNat < 32 - (i : Int).toNat
        omega
    · obtain rfl : i = 32 := by omega
      have hlt2 : ¬ ((32 : Nat) : Int) < 32 := by omega
      have hfull : hexL (l.take 32) = hexL l := by rw [List.take_of_length_le (by rw [HL.out]; exact Nat.le_refl _)]
      rw [hfull] at hg ⊢
      have hcv := own_string hg.own
      have HFIN : Hid (HexP l w (.returned (.string ⟨(hexL l).toArray⟩)) wr) := Lib.hid ⟨rfl, HB0.out.trans (hg.below.mono (by have := HSZ.out; omega))⟩
      clear hg hlt hi hfull
      go_wp2_with fail
      go_ret
      exact HFIN.out
set_option maxRecDepth 100000 in
set_option maxHeartbeats 2000000 in
theorem HexR_any (l : List UInt8) (w : World) (hl : l.length = 32) : Calls Tryd.prog 6 #[.agg (u8s l).toArray] w (HexP l w) := by
  have hr0 := Row.new w (u8s l) 24
  have hb0 := (Below.refl w.heap.size w).alloc (Nat.le_refl _) (.cells (u8s l).toArray 24)
  have HR0 := Lib.hid hr0
  have HB0 := Lib.hid hb0
  have HLN : Hid ((u8s l).length = 32) := Lib.hid (by rw [u8s_length, hl])
  have HL := Lib.hid hl
  clear hr0 hb0 hl
  go_enter Tryd.func6, Tryd.ntmps6
  go_wp2_with fail
  obtain ⟨w1, hw1⟩ : ∃ w1, w1 = w.alloc (.cells (u8s l).toArray 24) := ⟨_, rfl⟩
  rw [← hw1] at HR0 HB0 ⊢
  have hsz : w1.heap.size = w.heap.size + 1 := by rw [hw1]; simp
  have HSZ := Lib.hid hsz
  clear hw1 hsz
  go_loopw [3, 4] (fun bv iv wr => ∃ (i : Nat) (a : Option Addr) (c : Nat), i ≤ 32 ∧ iv = .int .i64 i ∧ bv = .slice a (hexL (l.take i)).length c ∧ G8 w1.heap.size w1 wr (.slice a (hexL (l.take i)).length c) (hexL (l.take i))) (fun _ iv _ => 32 - (RowKit.intOf iv).toNat)
  case atStart => exact ⟨0, none, 0, Nat.zero_le _, rfl, rfl, ⟨World.ownsRow_nil _ _ _ _, Below.refl _ _, (fun g hg => by cases hg), Nat.le_refl _⟩⟩
  case round =>
    obtain ⟨i, ba, bc, hi, rfl, rfl, hg⟩ := hrel
    by_cases hlt : i < 32
    · have hlt2 : (i : Int) < 32 := by omega
      have h0 : (0 : Int) ≤ (i : Int) := by omega
      have hix := (HR0.out.below hg.below HR0.out.lt).cell i (u8s_at (l := l) (by rw [HL.out]; exact hlt))
      have hsn : hexL (l.take (i + 1)) = hexL (l.take i) ++ [dig ((l.getD i 0).toNat / 16), dig ((l.getD i 0).toNat % 16)] := by
        rw [List.take_succ_eq_append_getElem (by rw [HL.out]; exact hlt), hexL_snoc, List.getD_eq_getElem?_getD, List.getElem?_eq_getElem (by rw [HL.out]; exact hlt)]
        rfl
      have hlen : (hexL (l.take i)).length ≤ 64 := by rw [hexL_length, List.length_take]; omega
      generalize l.getD i 0 = x at *
      have hx := x.toNat_lt
      have e16 : IntKind.u8.wrap ((x.toNat : Int) / 16) = (x.toNat : Int) / 16 := by rw [IntKind.wrap_u8']; omega
      have e18 : ((x.toNat : Int)).tmod 16 = (x.toNat : Int) % 16 := Int.tmod_eq_emod_of_nonneg (by omega)
      have e17 : IntKind.u8.wrap ((x.toNat : Int) % 16) = (x.toNat : Int) % 16 := by rw [IntKind.wrap_u8']; omega
      generalize hexL (l.take i) = s at *
      have HSN := Lib.hid hsn
      have HG := Lib.hid hg
      have HLE := Lib.hid hlen
      have hd1 : ∀ W, (Instr.index 9 (.string ⟨#[48, 49, 50, 51, 52, 53, 54, 55, 56, 57, 97, 98, 99, 100, 101, 102]⟩) (.int .u8 ((x.toNat : Int) / 16))).run Tryd.prog W = .ok (.int .u8 (dig (x.toNat / 16)).toNat) W := fun W => run_dig W .u8 (x.toNat / 16) (by omega)
      have hd2 : ∀ W, (Instr.index 9 (.string ⟨#[48, 49, 50, 51, 52, 53, 54, 55, 56, 57, 97, 98, 99, 100, 101, 102]⟩) (.int .u8 ((x.toNat : Int) % 16))).run Tryd.prog W = .ok (.int .u8 (dig (x.toNat % 16)).toNat) W := fun W => run_dig W .u8 (x.toNat % 16) (by omega)
      have ha : bits .and .u8 (x.toNat : Int) 15 = (x.toNat : Int) % 16 := by
        have h3 : (x.toNat : Int) < 256 := by omega
        have h4 : (0 : Int) ≤ (x.toNat : Int) := by omega
        generalize (x.toNat : Int) = y at *
        go_bits2
      have HOW := Lib.hid (hg.drew.ownA (.cells #[.int .u8 (dig (x.toNat / 16)).toNat, .int .u8 (dig (x.toNat % 16)).toNat] 5))
      have HSR := Lib.hid (src_two wr.drew (dig (x.toNat / 16)) (dig (x.toNat % 16)))
      clear hsn hg hlen
      go_wp2_with fail
      refine wp_region_noPanic ?_
      refine wp_region_L 13 (fun w' => w'.cell? ⟨w.heap.size, i, none⟩ = some (.int .u8 x.toNat)) (by kernel_rfl) ?_
      have hS : Hid (wr.drew.cell? ⟨w.heap.size, i, none⟩ = some (.int .u8 x.toNat)) := Lib.hid hix
      clear hix
      refine wpAnyL_take (i := 0) (v := ?_) rfl (by kernel_rfl) (fun _ _ _ h => h) (by rfl) (fun W hSw => ?_) hS.out ?_
      rotate_left
      · (go_simp; try (with_reducible rfl))
      try simp only [Act.put, List.setIfInBounds_toArray, List.set_cons_zero, List.set_cons_succ]
      refine wpAnyL_take (i := 1) (v := ?_) rfl (by kernel_rfl) (fun _ _ _ h => h) (by rfl) (fun W hSw => ?_) hS.out ?_
      rotate_left
      · (go_simp; try (with_reducible rfl))
      try simp only [Act.put, List.setIfInBounds_toArray, List.set_cons_zero, List.set_cons_succ]
      refine wpAnyL_take (i := 2) (v := ?_) rfl (by kernel_rfl) (fun _ _ _ h => h) (by rfl) (fun W hSw => ?_) hS.out ?_
      rotate_left
      · (go_simp; try (with_reducible rfl))
      try simp only [Act.put, List.setIfInBounds_toArray, List.set_cons_zero, List.set_cons_succ]
      refine wpAnyL_take (i := 3) (v := ?_) rfl (by kernel_rfl) (fun _ _ _ h => h) (by rfl) (fun W hSw => ?_) hS.out ?_
      rotate_left
      · (go_simp; try (with_reducible rfl))
      try simp only [Act.put, List.setIfInBounds_toArray, List.set_cons_zero, List.set_cons_succ]
      refine wpAnyL_take (i := 4) (v := ?_) rfl (by kernel_rfl) (fun _ _ _ h => h) (by rfl) (fun W hSw => ?_) hS.out ?_
      rotate_left
      · (go_simp; try (with_reducible rfl))
      try simp only [Act.put, List.setIfInBounds_toArray, List.set_cons_zero, List.set_cons_succ]
      refine wpAnyL_take (i := 5) (v := ?_) rfl (by kernel_rfl) (fun _ _ _ h => h) (by rfl) (fun W hSw => ?_) hS.out ?_
      rotate_left
      · (go_simp; try (with_reducible rfl))
      try simp only [Act.put, List.setIfInBounds_toArray, List.set_cons_zero, List.set_cons_succ]
      refine wpAnyL_take (i := 6) (v := ?_) rfl (by kernel_rfl) (fun _ _ _ h => h) (by rfl) (fun W hSw => ?_) hS.out ?_
      rotate_left
      · (go_simp; try (with_reducible rfl))
      try simp only [Act.put, List.setIfInBounds_toArray, List.set_cons_zero, List.set_cons_succ]
      refine wpAnyL_take (i := 7) (v := ?_) rfl (by kernel_rfl) (fun _ _ _ h => h) (by rfl) (fun W hSw => ?_) hS.out ?_
      rotate_left
      · (go_simp; try (with_reducible rfl))
      try simp only [Act.put, List.setIfInBounds_toArray, List.set_cons_zero, List.set_cons_succ]
      refine wpAnyL_take (i := 8) (v := ?_) rfl (by kernel_rfl) (fun _ _ _ h => h) (by rfl) (fun W hSw => ?_) hS.out ?_
      rotate_left
      · (go_simp; try (with_reducible rfl))
      try simp only [Act.put, List.setIfInBounds_toArray, List.set_cons_zero, List.set_cons_succ]
      refine wpAnyL_take (i := 9) (v := ?_) rfl (by kernel_rfl) (fun _ _ _ h => h) (by rfl) (fun W hSw => ?_) hS.out ?_
      rotate_left
      · (go_simp; try (with_reducible rfl))
      try simp only [Act.put, List.setIfInBounds_toArray, List.set_cons_zero, List.set_cons_succ]
      refine wpAnyL_take (i := 10) (v := ?_) rfl (by kernel_rfl) (fun _ _ _ h => h) (by rfl) (fun W hSw => ?_) hS.out ?_
      rotate_left
      · (go_simp; try (with_reducible rfl))
      try simp only [Act.put, List.setIfInBounds_toArray, List.set_cons_zero, List.set_cons_succ]
      refine wpAnyL_only (i := 11) rfl (by kernel_rfl) rfl (fun K hK => ?_)
      go_simp
      have hSx : Hid ((wr.alloc (.cells #[.int .u8 (dig (x.toNat / 16)).toNat, .int .u8 (dig (x.toNat % 16)).toNat] 5)).drew.cell? ⟨w.heap.size, i, none⟩ = some (.int .u8 x.toNat)) := Lib.hid ((((Below.refl wr.heap.size wr).alloc (Nat.le_refl _) _).drew.cell (p := ⟨w.heap.size, i, none⟩) (Nat.lt_of_lt_of_le (show w.heap.size < w1.heap.size by have := HSZ.out; omega) HG.out.size)).trans hS.out)
      refine hK _ _ (.inr hSx.out) ?_
      clear hK K
      try simp only [Act.put, List.setIfInBounds_toArray, List.set_cons_zero, List.set_cons_succ]
      refine wpAnyL_only (i := 12) rfl (by kernel_rfl) rfl (fun K hK => ?_)
      refine wp_app8 _ _ rfl rfl _ s rfl HOW.out _ [dig (x.toNat / 16), dig (x.toNat % 16)] rfl HSR.out (by have := HLE.out; simp; omega) ?_
      intro v9 w9 ho9 hgr9 hnew9 _
      have hg9 := HG.out.drew.app2 _ (by rw [List.length_append] at ho9; exact ho9) hgr9 (fun g hg => (hnew9 g hg).imp id (fun h => Nat.le_trans (Nat.le_of_eq (by simp)) h))
      rw [← HSN.out] at hg9
      obtain ⟨a9, c9, e9⟩ := own_form hg9.own
      have HG9 := Lib.hid hg9
      have E9 := Lib.hid e9
      have hSx : Hid (w9.cell? ⟨w.heap.size, i, none⟩ = some (.int .u8 x.toNat)) := Lib.hid ((HG9.out.below.cell (p := ⟨w.heap.size, i, none⟩) (by have := HSZ.out; show w.heap.size < _; omega)).trans ((HG.out.below.cell (p := ⟨w.heap.size, i, none⟩) (by have := HSZ.out; show w.heap.size < _; omega)).symm.trans hS.out))
      refine hK _ _ (.inr hSx.out) ?_
      clear hK K ho9 hgr9 hnew9 hg9 e9
      try simp only [Act.put, List.setIfInBounds_toArray, List.set_cons_zero, List.set_cons_succ]
      refine wpAnyL_only (i := 13) rfl (by kernel_rfl) rfl (fun K hK => ?_)
      go_simp
      refine hK _ _ (.inl rfl) ?_
      clear hK K
      try simp only [Act.put, List.setIfInBounds_toArray, List.set_cons_zero, List.set_cons_succ]
      refine wpAnyL_done (by kernel_rfl) (NoPanic.normal ?_) _
      go_wp2_with fail
      case roundEnd =>
        refine ⟨⟨i + 1, a9, c9, by omega, rfl, E9.out, E9.out ▸ HG9.out⟩, ?_⟩
        change 32 - ((i : Int) + 1).toNat < 32 - (i : Int).toNat
        omega
    · obtain rfl : i = 32 := by omega
      have hlt2 : ¬ ((32 : Nat) : Int) < 32 := by omega
      have hfull : hexL (l.take 32) = hexL l := by rw [List.take_of_length_le (by rw [HL.out]; exact Nat.le_refl _)]
      rw [hfull] at hg ⊢
      have hcv := own_string hg.own
      have HFIN : Hid (HexP l w (.returned (.string ⟨(hexL l).toArray⟩)) wr) := Lib.hid ⟨rfl, HB0.out.trans (hg.below.mono (by have := HSZ.out; omega))⟩
      clear hg hlt hi hfull
      go_wp2_with fail
      go_ret
      exact HFIN.out
end Go.Proofs.YtmnlebkpneeblaaDoor
