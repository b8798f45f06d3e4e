/- Walk of Same of the reference. Condition: bounds on lengths. -/
import Derived.Test.YtpffanfpohajhaaGreatW5
import Derived.StillTailTactics
namespace Go.Proofs.YtpffanfpohajhaaGreat
open Go Go.MapKept
open Go.RowKit hiding intOf

structure ImgL where
  nodes : Int
  bytes : Int
  next : Int
  list : List NodeL
  deriving DecidableEq, Inhabited

/-- A list of nodes that can be read. -/
structure NodesRd (w : World) (v : Value) (l : List (NodeL × Value × Value)) : Prop where
  row : Rd w v l.length 10 (nodesCells l)
  parts : ∀ p ∈ l, Rd w p.2.1 p.1.data.length 1 (u8s p.1.data) ∧ Rd w p.2.2 p.1.ents.length 2 (named p.1.ents)

theorem NodesRd.of_own {w : World} {base : Nat} {v : Value} {l : List (NodeL × Value × Value)} (h : NodesOwn w base v l) : NodesRd w v l :=
  ⟨Rd.of_own h.row, fun p hp => ⟨Rd.of_own (h.parts p hp).1, Rd.of_own (h.parts p hp).2⟩⟩
theorem NodesRd.below {w w' : World} {v : Value} {l : List (NodeL × Value × Value)} (h : NodesRd w v l) (hb : Below w.heap.size w w') : NodesRd w' v l :=
  ⟨h.row.below hb, fun p hp => ⟨(h.parts p hp).1.below hb, (h.parts p hp).2.below hb⟩⟩

/-- The ten cells of a node, where it stands. -/
theorem NodesRd.cells {w : World} {a : Option Addr} {cap : Nat} {l : List (NodeL × Value × Value)} (h : NodesRd w (.slice a l.length cap) l) {k : Nat} {nd : NodeL} {dv ev : Value} (hk : l[k]? = some (nd, dv, ev)) :
    ∃ b o, a = some ⟨b, o, none⟩ ∧ ∀ j u, j < 10 → (nodeCells nd (dv, ev))[j]? = some u → w.cell? ⟨b, o + k * 10 + j, none⟩ = some u := by
  have hlt : k < l.length := (List.getElem?_eq_some_iff.1 hk).1
  obtain ⟨b, o, rfl, hc⟩ := h.row.get (by omega)
  refine ⟨b, o, rfl, fun j u hj hu => ?_⟩
  rw [Nat.add_assoc]
  exact hc _ _ (by rw [nodesCells_at l k _ hk j hj]; exact hu)

set_option maxRecDepth 100000 in
set_option maxHeartbeats 2000000 in
theorem Same_any (A B : ImgL) (av bv : Value) (la lb : List (NodeL × Value × Value)) (w : World) (ha : NodesRd w av la) (hb : NodesRd w bv lb) (ea : la.map (·.1) = A.list) (eb : lb.map (·.1) = B.list)
    (hl : la.length ≤ 1073741824) (hl2 : lb.length ≤ 1073741824) (hp : ∀ p ∈ la, p.1.ents.length ≤ 1073741824) :
    Calls Tryz.prog 42 #[.agg (imgCells A.nodes A.bytes A.next av), .agg (imgCells B.nodes B.bytes B.next bv)] w (BoolBelow (decide (A = B)) w) := by
  obtain ⟨aa, ac, rfl⟩ := ha.row.form
  obtain ⟨ba, bc, rfl⟩ := hb.row.form
  have HA := Lib.hid ha
  have HB := Lib.hid hb
  have HP := Lib.hid hp
  have hba : Below w.heap.size w ((w.alloc (.cells (imgCells A.nodes A.bytes A.next (.slice aa la.length ac)) 37)).alloc (.cells (imgCells B.nodes B.bytes B.next (.slice ba lb.length bc)) 37)) := ((Below.refl _ _).alloc (Nat.le_refl _) _).alloc (by simp) _
  have HBA := Lib.hid hba
  have EA := Lib.hid ea
  have EB := Lib.hid eb
  clear ha hb hp hba ea eb
  unfold imgCells at HBA ⊢
  cases t1 : A.nodes != B.nodes with
  | true =>
    have hne : decide (A = B) = false := decide_eq_false (by rintro rfl; simp at t1)
    rw [hne]
    clear hne
    go_enter Tryz.func42, Tryz.ntmps42
    go_wp2_with fail
    go_ret
    exact ⟨rfl, HBA.out⟩
  | false =>
    have q1 : A.nodes = B.nodes := by simpa using t1
    have Q1 := Lib.hid q1
    clear q1
    cases t2 : A.bytes != B.bytes with
    | true =>
      have hne : decide (A = B) = false := decide_eq_false (by rintro rfl; simp at t2)
      rw [hne]
      clear hne
      go_enter Tryz.func42, Tryz.ntmps42
      go_wp2_with fail
      go_ret
      exact ⟨rfl, HBA.out⟩
    | false =>
      have q2 : A.bytes = B.bytes := by simpa using t2
      have Q2 := Lib.hid q2
      clear q2
      cases t3 : A.next != B.next with
      | true =>
        have hne : decide (A = B) = false := decide_eq_false (by rintro rfl; simp at t3)
        rw [hne]
        clear hne
        go_enter Tryz.func42, Tryz.ntmps42
        go_wp2_with fail
        go_ret
        exact ⟨rfl, HBA.out⟩
      | false =>
        have q3 : A.next = B.next := by simpa using t3
        have Q3 := Lib.hid q3
        clear q3
        cases t4 : (la.length : Int) != lb.length with
        | true =>
          have hne : decide (A = B) = false := decide_eq_false (by
            rintro rfl
            have h1 := congrArg List.length EA.out
            have h2 := congrArg List.length EB.out
            simp only [List.length_map] at h1 h2
            simp [h1, h2] at t4)
          rw [hne]
          clear hne
          go_enter Tryz.func42, Tryz.ntmps42
          go_wp2_with fail
          go_ret
          exact ⟨rfl, HBA.out⟩
        | false =>
          have q4 : la.length = lb.length := by simp at t4; omega
          have Q4 := Lib.hid q4
          clear q4
          go_enter Tryz.func42, Tryz.ntmps42
          go_wp2_with fail
          go_loopw [5] (fun iv wr => ∃ k : Nat, k ≤ la.length ∧ iv = .int .i64 k ∧ Below (w.heap.size + 2) ((w.alloc (.cells #[.int .i64 A.nodes, .int .i64 A.bytes, .int .i64 A.next, .slice aa la.length ac] 37)).alloc (.cells #[.int .i64 B.nodes, .int .i64 B.bytes, .int .i64 B.next, .slice ba lb.length bc] 37)) wr ∧ (la.take k).map (·.1) = (lb.take k).map (·.1)) (fun iv _ => la.length - (RowKit.intOf iv).toNat)
          case atStart => exact ⟨0, Nat.zero_le _, rfl, Below.refl _ _, rfl⟩
          case round =>
            obtain ⟨k, hk, rfl, hS, hpre⟩ := hrel
            have hw : Below w.heap.size w wr := HBA.out.trans (hS.mono (by omega))
            have c1 : wr.cell? ⟨w.heap.size, 3, none⟩ = some (.slice aa la.length ac) := (hS.cell (p := ⟨w.heap.size, 3, none⟩) (by show w.heap.size < w.heap.size + 2; omega)).trans (by go_simp)
            have c2 : wr.cell? ⟨w.heap.size + 1, 3, none⟩ = some (.slice ba lb.length bc) := (hS.cell (p := ⟨w.heap.size + 1, 3, none⟩) (by show w.heap.size + 1 < w.heap.size + 2; omega)).trans (by go_simp)
            have HS := Lib.hid hS
            have HW := Lib.hid hw
            have HPRE := Lib.hid hpre
            clear hS hpre hw
            by_cases hlt : k < la.length
            · have hltb : k < lb.length := by have := Q4.out; omega
              obtain ⟨⟨na, da, fa⟩, gp⟩ : ∃ p, la[k]? = some p := ⟨_, List.getElem?_eq_getElem hlt⟩
              obtain ⟨⟨nb, db, fb⟩, gq⟩ : ∃ p, lb[k]? = some p := ⟨_, List.getElem?_eq_getElem hltb⟩
              obtain ⟨b1, o1, rfl, hca⟩ := (HA.out.below HW.out).cells gp
              obtain ⟨b2, o2, rfl, hcb⟩ := (HB.out.below HW.out).cells gq
              obtain ⟨pa1, pa2⟩ := (HA.out.below HW.out).parts _ (List.mem_of_getElem? gp)
              obtain ⟨pb1, pb2⟩ := (HB.out.below HW.out).parts _ (List.mem_of_getElem? gq)
              have hpl := HP.out _ (List.mem_of_getElem? gp)
              have hcall := sameNode_any na nb (da, fa) (db, fb) wr.drew (pa1.below (Below.refl _ _).drew) (pb1.below (Below.refl _ _).drew) (pa2.below (Below.refl _ _).drew) (pb2.below (Below.refl _ _).drew) (by simp only at hpl; omega)
              have HCALL := Lib.hid hcall
              have GP := Lib.hid gp
              have GQ := Lib.hid gq
              have hlta' : (k : Int) < (la.length : Int) := by omega
              have hltb' : (k : Int) < (lb.length : Int) := by omega
              have hk0 : (0 : Int) ≤ (k : Int) := by omega
              have x0 := hca 0 _ (by omega) rfl
              have x1 := hca 1 _ (by omega) rfl
              have x2 := hca 2 _ (by omega) rfl
              have x3 := hca 3 _ (by omega) rfl
              have x4 := hca 4 _ (by omega) rfl
              have x5 := hca 5 _ (by omega) rfl
              have x6 := hca 6 _ (by omega) rfl
              have x7 := hca 7 _ (by omega) rfl
              have x8 := hca 8 _ (by omega) rfl
              have x9 := hca 9 _ (by omega) rfl
              have y0 := hcb 0 _ (by omega) rfl
              have y1 := hcb 1 _ (by omega) rfl
              have y2 := hcb 2 _ (by omega) rfl
              have y3 := hcb 3 _ (by omega) rfl
              have y4 := hcb 4 _ (by omega) rfl
              have y5 := hcb 5 _ (by omega) rfl
              have y6 := hcb 6 _ (by omega) rfl
              have y7 := hcb 7 _ (by omega) rfl
              have y8 := hcb 8 _ (by omega) rfl
              have y9 := hcb 9 _ (by omega) rfl
              rw [Nat.add_zero] at x0 y0
              clear hca hcb pa1 pa2 pb1 pb2 hpl gp gq hcall
              go_wp2
              go_still_tail 10, (by kernel_rfl)
              change wpList _ _ _ _ _ wr.drew
              go_wp2_with fail
              refine HCALL.out.mono ?_
              rintro e w1 ⟨rfl, hb1⟩
              have HB1 := Lib.hid hb1
              have hw1 : Below (w.heap.size + 2) ((w.alloc (.cells #[.int .i64 A.nodes, .int .i64 A.bytes, .int .i64 A.next, .slice (some ⟨b1, o1, none⟩) la.length ac] 37)).alloc (.cells #[.int .i64 B.nodes, .int .i64 B.bytes, .int .i64 B.next, .slice (some ⟨b2, o2, none⟩) lb.length bc] 37)) w1 := HS.out.drew.trans (hb1.mono (by have := HS.out.size; simp at this ⊢; omega))
              have HW1 := Lib.hid hw1
              clear hb1 hw1
              cases t7 : decide (na = nb) with
              | false =>
                have hne : decide (A = B) = false := decide_eq_false (by
                  rintro rfl
                  have h1 := congrArg (fun l => l[k]?) (EA.out.trans EB.out.symm)
                  simp only [List.getElem?_map, GP.out, GQ.out, Option.map_some, Option.some.injEq] at h1
                  simp [h1] at t7)
                have HNE := Lib.hid hne
                clear hne
                go_wp2_with fail
                go_ret
                exact ⟨congrArg (fun b => Ending.returned (.bool b)) HNE.out.symm, HBA.out.trans (HW1.out.mono (by omega))⟩
              | true =>
                have q7 : na = nb := by simpa using t7
                have Q7 := Lib.hid q7
                clear q7
                go_wp2_with fail
                case roundEnd =>
                  refine ⟨⟨k + 1, by omega, rfl, HW1.out, ?_⟩, ?_⟩
                  · rw [List.take_add_one, List.take_add_one, List.map_append, List.map_append, HPRE.out, GP.out, GQ.out, Q7.out]
                    rfl
                  · change la.length - ((k : Int) + 1).toNat < la.length - (k : Int).toNat; omega
            · have hlt' : ¬ (k : Int) < (la.length : Int) := by omega
              have heq : decide (A = B) = true := by
                refine decide_eq_true ?_
                have hp := HPRE.out
                rw [List.take_of_length_le (by omega), List.take_of_length_le (by have := Q4.out; omega), EA.out, EB.out] at hp
                have h1 := Q1.out
                have h2 := Q2.out
                have h3 := Q3.out
                obtain ⟨a1, a2, a3, a4⟩ := A
                obtain ⟨b1, b2, b3, b4⟩ := B
                simp only at hp h1 h2 h3
                subst hp h1 h2 h3
                rfl
              have HEQ := Lib.hid heq
              clear heq
              go_wp2_with fail
              go_ret
              exact ⟨congrArg (fun b => Ending.returned (.bool b)) HEQ.out.symm, HW.out⟩
end Go.Proofs.YtpffanfpohajhaaGreat
