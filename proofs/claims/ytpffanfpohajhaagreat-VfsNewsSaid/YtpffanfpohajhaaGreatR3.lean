/- The reference's file system in memory; walks of place, at, bytes. Condition: bounds on lengths. -/
import Derived.Test.YtpffanfpohajhaaGreatR2
namespace Go.Proofs.YtpffanfpohajhaaGreat
open Go Go.MapKept
open Go.RowKit hiding intOf

/-- The place of a number in a list of nodes. -/
def placeN (l : List NodeL) (n : Int) : Option Nat := l.findIdx? fun x => decide (x.number = n)
def placeR (l : List NodeL) (n : Int) : Int := match placeN l n with | some i => i | none => -1

theorem placeN_none {l : List NodeL} {n : Int} (h : ∀ x ∈ l, x.number ≠ n) : placeN l n = none := by
  unfold placeN
  rw [List.findIdx?_eq_none_iff]
  intro x hx
  simpa using h x hx
theorem placeN_some {l : List NodeL} {n : Int} {k : Nat} {x : NodeL} (hk : l[k]? = some x) (hx : x.number = n) (h : ∀ j y, j < k → l[j]? = some y → y.number ≠ n) : placeN l n = some k := by
  unfold placeN
  rw [List.findIdx?_eq_some_iff_getElem]
  obtain ⟨hlt, he⟩ := List.getElem?_eq_some_iff.1 hk
  refine ⟨hlt, by simp [he, hx], fun j hj => ?_⟩
  have := h j _ hj (List.getElem?_eq_getElem (by omega))
  simpa using this
theorem placeN_get {l : List NodeL} {n : Int} {k : Nat} (h : placeN l n = some k) : ∃ x, l[k]? = some x ∧ x.number = n := by
  unfold placeN at h
  rw [List.findIdx?_eq_some_iff_getElem] at h
  obtain ⟨hlt, h1, _⟩ := h
  exact ⟨_, List.getElem?_eq_getElem hlt, by simpa using h1⟩

def IntSame (n : Int) (w : World) (e : Ending) (w' : World) : Prop := e = .returned (.int .i64 n) ∧ w' = w

set_option maxRecDepth 100000 in
set_option maxHeartbeats 1000000 in
theorem place_any (v : Value) (l : List (NodeL × Value × Value)) (w : World) (h : NodesRd w v l) (n : Int) (hl : l.length ≤ 1073741824) :
    Calls Tryz.prog 126 #[v, .int .i64 n] w (IntSame (placeR (l.map (·.1)) n) w) := by
  obtain ⟨a, c, rfl⟩ := h.row.form
  have H := Lib.hid h
  clear h
  go_enter Tryz.func126, Tryz.ntmps126
  go_wp2_with fail
  go_loopw [5] (fun iv wr => ∃ k : Nat, k ≤ l.length ∧ iv = .int .i64 k ∧ wr = w ∧ ∀ j y, j < k → (l.map (·.1))[j]? = some y → y.number ≠ n) (fun iv _ => l.length - (RowKit.intOf iv).toNat)
  case atStart => exact ⟨0, Nat.zero_le _, rfl, rfl, fun j y hj => absurd hj (Nat.not_lt_zero _)⟩
  case round =>
    obtain ⟨k, hk, rfl, rfl, hpre⟩ := hrel
    have HPRE := Lib.hid hpre
    clear hpre
    by_cases hlt : k < l.length
    · obtain ⟨⟨nd, dv, ev⟩, gp⟩ : ∃ p, l[k]? = some p := ⟨_, List.getElem?_eq_getElem hlt⟩
      obtain ⟨b, o, rfl, hc⟩ := H.out.cells gp
      have x0 := hc 0 _ (by omega) rfl
      rw [Nat.add_zero] at x0
      have hlt' : (k : Int) < (l.length : Int) := by omega
      have hk0 : (0 : Int) ≤ (k : Int) := by omega
      have hm : (l.map (·.1))[k]? = some nd := by rw [List.getElem?_map, gp]; rfl
      have HM := Lib.hid hm
      clear hc gp hm
      cases t : nd.number == n with
      | true =>
        have q : placeR (l.map (·.1)) n = k := by unfold placeR; rw [placeN_some HM.out (by simpa using t) HPRE.out]
        have Q := Lib.hid q
        clear q
        go_wp2_with fail
        go_ret
        exact ⟨ret_int Q.out.symm, rfl⟩
      | false =>
        have q : nd.number ≠ n := by simpa using t
        have Q := Lib.hid q
        clear q
        go_wp2_with fail
        case roundEnd =>
          refine ⟨⟨k + 1, by omega, rfl, by trivial, fun j y hj hy => ?_⟩, ?_⟩
          · rcases Nat.lt_succ_iff_lt_or_eq.1 hj with hj | rfl
            · exact HPRE.out j y hj hy
            · have := HM.out.symm.trans hy
              injection this with this
              subst this
              exact Q.out
          · change l.length - ((k : Int) + 1).toNat < l.length - (k : Int).toNat; omega
    · have hlt' : ¬ (k : Int) < (l.length : Int) := by omega
      have q : placeR (l.map (·.1)) n = -1 := by
        unfold placeR
        rw [placeN_none fun x hx => ?_]
        obtain ⟨j, hj⟩ := List.getElem?_of_mem hx
        exact HPRE.out j x (by have := (List.getElem?_eq_some_iff.1 hj).1; simp at this; omega) hj
      have Q := Lib.hid q
      clear q
      go_wp2_with fail
      go_ret
      exact ⟨ret_int Q.out.symm, rfl⟩

structure Rf where
  img : ImgL
  trace : List Act8

/-- The reference's file system at q. -/
structure RefAt (w : World) (q : Nat) (R : Rf) (l : List (NodeL × Value × Value)) (lv tv : Value) : Prop where
  row : Row w q [.int .i64 R.img.nodes, .int .i64 R.img.bytes, .int .i64 R.img.next, lv, tv]
  own : w.ownsRow 0 76 10 lv l.length (nodesCells l)
  list : l.map (·.1) = R.img.list
  parts : ∀ p ∈ l, Rd w p.2.1 p.1.data.length 1 (u8s p.1.data) ∧ Rd w p.2.2 p.1.ents.length 2 (named p.1.ents)
  trace : Rd w tv R.trace.length 8 (acts R.trace)

theorem RefAt.rd {w : World} {q : Nat} {R : Rf} {l : List (NodeL × Value × Value)} {lv tv : Value} (h : RefAt w q R l lv tv) : NodesRd w lv l := ⟨Rd.of_own h.own, h.parts⟩
theorem RefAt.below {w w' : World} {q : Nat} {R : Rf} {l : List (NodeL × Value × Value)} {lv tv : Value} (h : RefAt w q R l lv tv) (hb : Below w.heap.size w w') : RefAt w' q R l lv tv :=
  ⟨h.row.of_block (hb.block q h.row.lt), own_below h.own hb, h.list, fun p hp => ⟨(h.parts p hp).1.below hb, (h.parts p hp).2.below hb⟩, h.trace.below hb⟩

/-- Where the inode of a number stands. -/
def atV (R : Rf) (lv : Value) (n : Int) : Value := match placeN R.img.list n with
  | none => .pointer none
  | some k => match lv with
    | .slice (some a) _ _ => .pointer (some ⟨a.block, k * 10, none⟩)
    | _ => .pointer none

def ValSame (v : Value) (w : World) (e : Ending) (w' : World) : Prop := e = .returned v ∧ w' = w

set_option maxRecDepth 100000 in
set_option maxHeartbeats 1000000 in
theorem atN_any (q : Nat) (R : Rf) (l : List (NodeL × Value × Value)) (lv tv : Value) (w : World) (h : RefAt w q R l lv tv) (n : Int) (hl : l.length ≤ 1073741824) :
    Calls Tryz.prog 76 #[ptr q, .int .i64 n] w (ValSame (atV R lv n) w) := by
  have HC := Lib.hid (place_any lv l w h.rd n hl)
  have c3 : w.cell? ⟨q, 3, none⟩ = some lv := h.row.cell 3 rfl
  have HL := Lib.hid h.list
  have HH := Lib.hid h
  clear h
  unfold ptr
  go_enter Tryz.func76, Tryz.ntmps76
  go_wp2_with fail
  refine HC.out.mono ?_
  rintro e w1 ⟨rfl, rfl⟩
  rw [HL.out]
  unfold placeR
  cases hp : placeN R.img.list n with
  | none =>
    have q : atV R lv n = .pointer none := by unfold atV; rw [hp]
    have Q := Lib.hid q
    clear q hp
    go_wp2_with fail
    go_ret
    exact ⟨congrArg Ending.returned Q.out.symm, rfl⟩
  | some k =>
    obtain ⟨x, hx, _⟩ := placeN_get hp
    have hlt : k < l.length := by
      have := (List.getElem?_eq_some_iff.1 hx).1
      rw [← HL.out] at this
      simpa using this
    obtain ⟨a, c, rfl⟩ := HH.out.rd.row.form
    obtain ⟨g, cur, rfl, _⟩ := own_at HH.out.own (by omega)
    have hk0 : (0 : Int) ≤ (k : Int) := by omega
    have hlt' : (k : Int) < (l.length : Int) := by omega
    have hn : ¬ (k : Int) < 0 := by omega
    have q : atV R (.slice (some ⟨g, 0, none⟩) l.length c) n = .pointer (some ⟨g, k * 10, none⟩) := by unfold atV; rw [hp]
    have Q := Lib.hid q
    clear hx hp q
    go_wp2_with fail
    go_ret
    exact ⟨congrArg Ending.returned Q.out.symm, rfl⟩
end Go.Proofs.YtpffanfpohajhaaGreat
