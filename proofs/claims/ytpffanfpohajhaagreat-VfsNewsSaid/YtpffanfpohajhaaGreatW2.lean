/- Walk of wipe, which writes an image over. Condition: bounds on lengths. -/
import Derived.Test.YtpffanfpohajhaaGreatW1
namespace Go.Proofs.YtpffanfpohajhaaGreat
open Go Go.MapKept
open Go.RowKit hiding intOf

/-- What writing an image over keeps: the image's own four cells, and of a node all but its number. -/
def WK (e : TypeId) (j : Nat) : Prop := e = 37 ∨ (e = 76 ∧ j % 10 ≠ 0)

theorem wk_number (i : Nat) : ¬ WK 76 (i * 10) := by
  rintro (h | ⟨_, h⟩)
  · exact absurd h (by decide)
  · omega

theorem nodesCells_at (l : List (NodeL × Value × Value)) : ∀ (i : Nat) (p : NodeL × Value × Value), l[i]? = some p → ∀ j, j < 10 → (nodesCells l)[i * 10 + j]? = (nodeCells p.1 p.2)[j]? := by
  induction l with
  | nil => intro i p h; simp at h
  | cons q l ih =>
    intro i p h j hj
    have e : nodesCells (q :: l) = nodeCells q.1 q.2 ++ nodesCells l := by simp [nodesCells]
    have h10 : (nodeCells q.1 q.2).length = 10 := rfl
    rw [e]
    cases i with
    | zero =>
      simp only [List.getElem?_cons_zero, Option.some.injEq] at h
      subst h
      rw [Nat.zero_mul, Nat.zero_add, List.getElem?_append_left (by omega)]
    | succ i =>
      rw [List.getElem?_append_right (by omega), h10, show (i + 1) * 10 + j - 10 = i * 10 + j from by omega]
      exact ih i p (by simpa using h) j hj

theorem wk_not {e j : Nat} (h1 : e ≠ 37) (h2 : e ≠ 76) : ¬ WK e j := by
  rintro (h | ⟨h, _⟩)
  · exact h1 h
  · exact h2 h

theorem wiping_facts {w wr : World} {base : Nat} {a b c : Int} {v : Value} {l : List (NodeL × Value × Value)} (hN : NodesOwn w base v l) (hS : Step WK base (w.alloc (.cells (imgCells a b c v) 37)) wr) {i : Nat} {nd : NodeL} {dv ev : Value} (hi : l[i]? = some (nd, dv, ev)) :
    ∃ g cap cur, v = .slice (some ⟨g, 0, none⟩) l.length cap ∧ base ≤ g ∧ wr.heap[g]? = some (.cells cur 76 (0, 0)) ∧ l.length * 10 ≤ cur.size ∧ wr.cell? ⟨g, i * 10 + 7, none⟩ = some dv ∧ wr.cell? ⟨g, i * 10 + 9, none⟩ = some ev ∧
      Sh wr base 5 1 dv nd.data.length ∧ Sh wr base 101 2 ev nd.ents.length := by
  have hlt : i < l.length := (List.getElem?_eq_some_iff.1 hi).1
  have hmem : (nd, dv, ev) ∈ l := List.mem_of_getElem? hi
  obtain ⟨hd, he⟩ := hN.parts _ hmem
  have hrow := hN.row
  rcases hrow.2 with ⟨_, h0⟩ | ⟨g, cap, cur, rfl, hb, hg, hnc, hcm, hcs, htake⟩
  · omega
  · have hgw : (w.alloc (.cells (imgCells a b c (.slice (some ⟨g, 0, none⟩) l.length cap)) 37)).heap[g]? = some (.cells cur 76 (0, 0)) := (heap_alloc_old w _ (Array.getElem?_eq_some_iff.1 hg).1).trans hg
    obtain ⟨cur', h1, h2, h3⟩ := hS.shape g cur 76 hgw
    have hcell : ∀ j, 0 < j → j < 10 → wr.cell? ⟨g, i * 10 + j, none⟩ = (nodeCells nd (dv, ev))[j]? := by
      intro j h0 hj
      have hj' : i * 10 + j < l.length * 10 := by omega
      have e1 : cur'[i * 10 + j]? = cur[i * 10 + j]? := h3 _ (.inr ⟨rfl, by omega⟩)
      have e2 : cur.toList[i * 10 + j]? = (nodesCells l)[i * 10 + j]? := by
        rw [← htake, List.getElem?_take, if_pos hj']
      rw [← nodesCells_at l i _ hi j hj, ← e2, Array.getElem?_toList, ← e1]
      simp [World.cell?, h1]
    refine ⟨g, cap, cur', rfl, hb, h1, ?_, hcell 7 (by omega) (by omega), hcell 9 (by omega) (by omega), ?_, ?_⟩
    · rw [h2, hcs]; exact Nat.mul_le_mul_right _ hnc
    · exact (Sh.of_own (hd.alloc _)).step hS
    · exact (Sh.of_own (he.alloc _)).step hS

theorem wiping_img {w wr : World} {base : Nat} {a b c : Int} {v : Value} (hS : Step WK base (w.alloc (.cells (imgCells a b c v) 37)) wr) : wr.cell? ⟨w.heap.size, 3, none⟩ = some v := by
  obtain ⟨cur', h1, h2, h3⟩ := hS.shape w.heap.size _ 37 (heap_alloc_new w _)
  have := h3 3 (.inl rfl)
  simp [World.cell?, h1, this, imgCells]


/-- What a call that writes own rows alone hands back: nothing. -/
def GoneBelow (base : Nat) (w : World) (e : Ending) (w' : World) : Prop := e = .returned (.tuple #[]) ∧ Below base w w'

set_option maxRecDepth 100000 in
set_option maxHeartbeats 4000000 in
theorem wipe_any (w : World) (base : Nat) (a b c : Int) (v : Value) (l : List (NodeL × Value × Value)) (hN : NodesOwn w base v l) (hb : base ≤ w.heap.size) (hl : l.length ≤ 1073741824)
    (hp : ∀ p ∈ l, p.1.data.length ≤ 1073741824 ∧ p.1.ents.length ≤ 1073741824) :
    Calls Tryz.prog 60 #[.agg (imgCells a b c v)] w (GoneBelow base w) := by
  have HL := Lib.hid hl
  obtain ⟨va, vc, rfl⟩ := (Sh.of_own hN.row).form
  have HN := Lib.hid hN
  have HP := Lib.hid hp
  have HB := Lib.hid hb
  clear hN hp hb hl
  unfold imgCells
  go_enter Tryz.func60, Tryz.ntmps60
  go_wp2_with fail
  go_loopw [2] (fun iv wr => ∃ i : Nat, i ≤ l.length ∧ iv = .int .i64 i ∧ Step WK base (w.alloc (.cells (imgCells a b c (.slice va l.length vc)) 37)) wr) (fun iv _ => l.length - (RowKit.intOf iv).toNat)
  case atStart => exact ⟨0, Nat.zero_le _, rfl, Step.refl _ _ _⟩
  case round =>
    obtain ⟨i, hi, rfl, hS⟩ := hrel
    have HS := Lib.hid hS
    have cimg := wiping_img hS
    clear hS
    by_cases hlt : i < l.length
    · obtain ⟨⟨nd, dv, ev⟩, hg⟩ : ∃ p, l[i]? = some p := ⟨_, List.getElem?_eq_getElem hlt⟩
      obtain ⟨g, cap, cur, e, hbg, hgg, hsz, c7, c9, hd, he⟩ := wiping_facts HN.out HS.out hg
      injection e with e1 _ e2
      subst e1 e2
      obtain ⟨hpd, hpe⟩ := HP.out _ (List.mem_of_getElem? hg)
      obtain ⟨da, dc, rfl⟩ := hd.form
      obtain ⟨ea, ec, rfl⟩ := he.form
      have hlt' : (i : Int) < (l.length : Int) := by omega
      have hi0 : (0 : Int) ≤ (i : Int) := by omega
      have HG := Lib.hid hg
      simp only at hpd hpe
      clear hg hd he hgg hsz
      go_wp2_with fail
      clear cimg c7 c9
      go_loopw [3] (fun iv wr => ∃ k : Nat, k ≤ nd.data.length ∧ iv = .int .i64 k ∧ Step WK base (w.alloc (.cells (imgCells a b c (.slice (some ⟨g, 0, none⟩) l.length vc)) 37)) wr) (fun iv _ => nd.data.length - (RowKit.intOf iv).toNat)
      case atStart => exact ⟨0, Nat.zero_le _, rfl, HS.out⟩
      case round =>
        obtain ⟨k, hk, rfl, hS2⟩ := hrel
        have cimg := wiping_img hS2
        obtain ⟨g', cap', cur', e, hbg', hgg, hsz, c7, c9, hd, he⟩ := wiping_facts HN.out hS2 HG.out
        injection e with e1 _ e2
        injection e1 with e1
        injection e1 with e1 _ _
        subst e1 e2
        have HS2 := Lib.hid hS2
        clear hS2 hgg hsz he
        by_cases hlt2 : k < nd.data.length
        · obtain ⟨g2, cur2, rfl, hb2, hg2, hsz2⟩ := hd.at (by omega)
          have hlt2' : (k : Int) < (nd.data.length : Int) := by omega
          have hk0 : (0 : Int) ≤ (k : Int) := by omega
          have ht := there_of hg2 (o := k) (n := 1) (by omega)
          obtain ⟨old, ht1⟩ := Option.isSome_iff_exists.1 (ht 0 (by omega)).1
          have ht2 := (ht 0 (by omega)).2
          rw [Nat.add_zero] at ht1 ht2
          have HG2 := Lib.hid hg2
          clear ht hg2 hd
          go_wp2_with fail
          case roundEnd =>
            refine ⟨⟨k + 1, by omega, rfl, HS2.out.trans (Step.setCell _ g2 k _ HG2.out hb2 (wk_not (by decide) (by decide)))⟩, ?_⟩
            change nd.data.length - ((k : Int) + 1).toNat < nd.data.length - (k : Int).toNat
            omega
        · have hlt2' : ¬ (k : Int) < (nd.data.length : Int) := by omega
          clear hd
          go_wp2_with fail
          clear cimg c7 c9
          go_loopw [4] (fun iv wr => ∃ k : Nat, k ≤ nd.ents.length ∧ iv = .int .i64 k ∧ Step WK base (w.alloc (.cells (imgCells a b c (.slice (some ⟨g, 0, none⟩) l.length vc)) 37)) wr) (fun iv _ => nd.ents.length - (RowKit.intOf iv).toNat)
          case atStart => exact ⟨0, Nat.zero_le _, rfl, HS2.out⟩
          case round =>
            obtain ⟨m, hm, rfl, hS3⟩ := hrel
            have cimg := wiping_img hS3
            obtain ⟨g', cap', cur', e, hbg3, hgg, hsz, c7, c9, hd, he⟩ := wiping_facts HN.out hS3 HG.out
            injection e with e1 _ e2
            injection e1 with e1
            injection e1 with e1 _ _
            subst e1 e2
            have HS3 := Lib.hid hS3
            clear hS3
            by_cases hlt3 : m < nd.ents.length
            · clear hd hgg hsz
              obtain ⟨g3, cur3, rfl, hb3, hg3, hsz3⟩ := he.at (by omega)
              have hlt3' : (m : Int) < (nd.ents.length : Int) := by omega
              have hm0 : (0 : Int) ≤ (m : Int) := by omega
              have HT := Lib.hid (there_of hg3 (o := m * 2) (n := 2) (by omega))
              have HG3 := Lib.hid hg3
              clear hg3 he
              go_wp2_with (refine wpList_store_mid rfl 101 _ _ rfl g3 (m * 2) _ rfl rfl HT.out (by kernel_rfl) (by simp [Value.oneCell']) ?_)
              case roundEnd =>
                refine ⟨⟨m + 1, by omega, rfl, HS3.out.trans (Step.setCells hb3 (fun _ => wk_not (by decide) (by decide)) _ _ _ HG3.out)⟩, ?_⟩
                change nd.ents.length - ((m : Int) + 1).toNat < nd.ents.length - (m : Int).toNat
                omega
            · have hlt3' : ¬ (m : Int) < (nd.ents.length : Int) := by omega
              have HD := Lib.hid hd
              have HE := Lib.hid he
              have HGG := Lib.hid hgg
              clear hd he hgg hsz
              obtain ⟨i5, hi5, z51, z52, z53⟩ := info_parts info5
              obtain ⟨i6, hi6, z61, z62, z63⟩ := info_parts info101
              obtain ⟨i7, hi7, z71, z72, z73⟩ := info_parts info76
              have hwr : base ≤ wr.heap.size := by have := HS3.out.below.size; have := HB.out; simp at *; omega
              have HWR := Lib.hid hwr
              clear hwr
              go_wp2_with (at_builtin; refine wpList_append_step rfl _ _ 34 rfl WK base 5 i5 (.int .u8 0) 1 1 Tryz.underlying34 hi5 z51 z52 z53 _ nd.data.length rfl (HD.out.step (Step.alloc (Step.refl WK _ _) HWR.out _)) ⟨wr.heap.size, 0, none⟩ 1 1 [.int .u8 221] rfl rfl ?c1 ?c2 ?c3 ?c4 ?c5 (fun _ => wk_not (by decide) (by decide)) (by decide) ?_)
              case c2 => simp [Value.oneCell']
              case c3 => unfold maxLen; omega
              case c4 => omega
              case c5 => have := HWR.out; simp; omega
              intro v5 w5 hs5
              have HS5 := Lib.hid ((Step.alloc HS3.out HWR.out _).trans hs5)
              clear hs5 cimg c7 c9
              have cimg := wiping_img HS5.out
              obtain ⟨g', cap', cur', e, hbg5, hgg, hsz, c7, c9, hd, he⟩ := wiping_facts HN.out HS5.out HG.out
              injection e with e1 _ e2
              injection e1 with e1
              injection e1 with e1 _ _
              subst e1 e2
              have HD5 := Lib.hid hd
              have HE5 := Lib.hid he
              have HGG5 := Lib.hid hgg
              clear hd he hgg hsz
              have hw5 : base ≤ w5.heap.size := by have := HS5.out.below.size; have := HB.out; simp at *; omega
              have HW5 := Lib.hid hw5
              clear hw5
              go_wp2_with (at_builtin; refine wpList_append_step rfl _ _ 74 rfl WK base 101 i6 (.agg #[.string ByteArray.empty, .int .i64 0]) 2 24 Tryz.underlying74 hi6 z61 z62 z63 _ nd.ents.length rfl (HE5.out.step (Step.alloc (Step.refl WK _ _) HW5.out _)) ⟨w5.heap.size, 0, none⟩ 1 1 [.string ⟨#[103, 114, 111, 119, 110]⟩, .int .i64 0] rfl rfl ?d1 ?d2 ?d3 ?d4 ?d5 (fun _ => wk_not (by decide) (by decide)) (by decide) ?_)
              case d2 => simp [Value.oneCell']
              case d3 => unfold maxLen; omega
              case d4 => omega
              case d5 => have := HW5.out; simp; omega
              intro v6 w6 hs6
              have HS6 := Lib.hid ((Step.alloc HS5.out HW5.out _).trans hs6)
              clear hs6 cimg c7 c9
              have cimg := wiping_img HS6.out
              obtain ⟨g', cap', cur', e, hbg6, hgg, hsz, c7, c9, hd, he⟩ := wiping_facts HN.out HS6.out HG.out
              injection e with e1 _ e2
              injection e1 with e1
              injection e1 with e1 _ _
              subst e1 e2
              have ht := there_of hgg (o := i * 10) (n := 1) (by omega)
              obtain ⟨old, ht1⟩ := Option.isSome_iff_exists.1 (ht 0 (by omega)).1
              have ht2 := (ht 0 (by omega)).2
              rw [Nat.add_zero] at ht1 ht2
              have HGG6 := Lib.hid hgg
              clear hd he hgg hsz c7 c9 ht
              have hll := HL.out
              go_wp2_with fail
              case roundEnd =>
                refine ⟨⟨i + 1, by omega, rfl, HS6.out.trans (Step.setCell _ g _ _ HGG6.out hbg6 (wk_number i))⟩, ?_⟩
                change l.length - ((i : Int) + 1).toNat < l.length - (i : Int).toNat
                omega
    · have hlt' : ¬ (i : Int) < (l.length : Int) := by omega
      obtain ⟨i7, hi7, z71, z72, z73⟩ := info_parts info76
      have hwr : base ≤ wr.heap.size := by have := HS.out.below.size; have := HB.out; simp at *; omega
      have HWR := Lib.hid hwr
      have hsv : Sh wr base 76 10 (.slice va l.length vc) l.length := (Sh.of_own (HN.out.row.alloc _)).step HS.out
      have HSV := Lib.hid hsv
      have HLL := Lib.hid HL.out
      clear hwr hsv
      have hll := HL.out
      go_wp2_with (at_builtin; refine wpList_append_step rfl _ _ 35 rfl (fun _ _ => False) base 76 i7 (.agg #[.int .i64 0, .int .i64 0, .int .u32 0, .int .u32 0, .int .u32 0, .int .i64 0, .int .i32 0, .slice none 0 0, .string ByteArray.empty, .slice none 0 0]) 10 112 Tryz.underlying35 hi7 z71 z72 z73 _ l.length rfl (HSV.out.step (Step.alloc (Step.refl WK _ _) HWR.out _)) ⟨wr.heap.size, 0, none⟩ 1 1 [.int .i64 4712, .int .i64 0, .int .u32 0, .int .u32 0, .int .u32 0, .int .i64 0, .int .i32 0, .slice none 0 0, .string ByteArray.empty, .slice none 0 0] rfl rfl ?f1 ?f2 ?f3 ?f4 ?f5 (fun _ h => h) (by decide) ?_)
      case f1 => exact fun j u h => h
      case f2 => simp [Value.oneCell']
      case f3 => unfold maxLen; omega
      case f4 => omega
      case f5 => have := HWR.out; simp; omega
      intro v5 w5 hs5
      have HS5 := Lib.hid ((Below.refl base w).alloc HB.out _ |>.trans (HS.out.below) |>.alloc HWR.out _ |>.trans hs5.below)
      clear hs5
      go_wp2_with fail
      go_end0
      exact ⟨rfl, HS5.out⟩
end Go.Proofs.YtpffanfpohajhaaGreat
