/- strings.ContainsAny at the two bytes that no name may hold; isName, isTarget, isMeta. No condition but a bound on a text's length. -/
import Derived.Test.YtpffanfpohajhaaGreatE1
namespace Go.Proofs.YtpffanfpohajhaaGreat
open Go Go.MapKept
open Go.RowKit hiding intOf

def stepIter (w : World) (r : Nat) (s : ByteArray) (pos : Nat) : World := { w with heap := w.heap.setIfInBounds r (.stringIter s pos) }

theorem run_next_at {P : Program} (w : World) (r : Nat) (s : ByteArray) (pos : Nat) (ty : TypeId) (hr : w.heap[r]? = some (.stringIter s pos)) (h : pos < s.size) :
    (Instr.next (.pointer (some ⟨r, 0, none⟩)) true ty).run P w = .ok (.tuple #[.bool true, .int .i64 pos, .int .i32 (Utf8.decode s pos).1]) (stepIter w r s (pos + (Utf8.decode s pos).2)) := by
  simp only [Instr.next, getObj, setObj, Sem.run_bind, Sem.run, hr, Result.andThen, h, if_true]
  simp [goInt, stepIter]
theorem run_next_out {P : Program} (w : World) (r : Nat) (s : ByteArray) (pos : Nat) (ty : TypeId) (hr : w.heap[r]? = some (.stringIter s pos)) (h : ¬ pos < s.size) :
    (Instr.next (.pointer (some ⟨r, 0, none⟩)) true ty).run P w = .ok (.tuple #[.bool false]) w := by
  simp only [Instr.next, getObj, Sem.run_bind, Sem.run, hr, Result.andThen, h, if_false]
  rfl
theorem stepIter_below {B : Nat} {a w : World} {r : Nat} {s : ByteArray} {pos : Nat} (h : Below B a w) (hr : B ≤ r) : Below B a (stepIter w r s pos) :=
  h.trans ⟨rfl, rfl, rfl, by simp [stepIter], fun k hk => by simp [stepIter, Array.getElem?_setIfInBounds]; omega⟩
theorem stepIter_at {w : World} {r : Nat} {s s' : ByteArray} {pos pos' : Nat} (hr : w.heap[r]? = some (.stringIter s pos)) : (stepIter w r s' pos').heap[r]? = some (.stringIter s' pos') := by
  have hlt : r < w.heap.size := (Array.getElem?_eq_some_iff.1 hr).1
  simp [stepIter, hlt]
theorem stepIter_size {w : World} {r : Nat} {s' : ByteArray} {pos' : Nat} : (stepIter w r s' pos').heap.size = w.heap.size := by simp [stepIter]

theorem noAny_more {l c : List UInt8} {i n : Nat} (h : Lib.NoAny l c i) (h2 : ∀ j b, i ≤ j → j < i + n → l[j]? = some b → c.contains b = false) : Lib.NoAny l c (i + n) := fun j b hj hb => by
  by_cases hji : j < i
  · exact h j b hji hb
  · exact h2 j b (by omega) hj hb

theorem two_high (b : UInt8) (h : 128 ≤ b.toNat) : [(47 : UInt8), 0].contains b = false := by
  rw [List.contains_eq_any_beq]
  simp only [List.any_cons, List.any_nil, Bool.or_false, Bool.or_eq_false_iff, beq_eq_false_iff_ne]
  constructor <;> (rintro rfl; revert h; decide)

set_option maxRecDepth 100000 in
set_option maxHeartbeats 400000 in
theorem indexAny_short2 (s : ByteArray) (w : World) (h8 : s.size ≤ 8) :
    Calls Tryz.prog 188 #[.string s, .string ⟨#[47, 0]⟩] w fun e w' => e = .returned (.int .i64 (Lib.indexAny s.data.toList [47, 0])) ∧ Below w.heap.size w w' := by
  have h8z : decide ((8 : Int) < (s.size : Int)) = false := decide_eq_false (by omega)
  go_enter Tryz.func188, Tryz.ntmps188
  go_wp2_with (go_at_call 202; refine (Tryz.strings_shouldUseASCIISet _ _).mono ?_; rintro e w' ⟨rfl, hw⟩; rw [hw, h8z])
  go_loopg [9, 10] s.size (fun g _ _ wx => ∃ i : Nat, i + g = s.size ∧ wx.heap[w.heap.size]? = some (.stringIter s i) ∧ Below w.heap.size w wx ∧ w.heap.size < wx.heap.size ∧ Lib.NoAny s.data.toList [47, 0] i)
  case atStart => exact ⟨0, by omega, World.iter_heap _ _ _, (Below.refl _ _).alloc (Nat.le_refl _) _, by simp [World.iter], Lib.NoAny.zero _ _⟩
  case round =>
    obtain ⟨i, hig, hit, hbel, hszl, hno⟩ := hrel
    have HN := Lib.hid hno
    have HB := Lib.hid hbel
    have HI := Lib.hid hit
    clear hno hbel hit
    cases gk with
    | zero =>
      obtain rfl : i = s.size := by omega
      have hnx := fun ty => run_next_out (P := Tryz.prog) wr w.heap.size s s.size ty HI.out (by omega)
      go_wp2
      go_ret
      exact ⟨by rw [Lib.indexAny_none (by rw [← Lib.size_eq]; exact HN.out)]; rfl, HB.out⟩
    | succ g =>
      have hi : i < s.size := by omega
      have hnx := fun ty => run_next_at (P := Tryz.prog) wr w.heap.size s i ty HI.out hi
      obtain ⟨x, hx⟩ : ∃ x : UInt8, s[i]'hi = x := ⟨_, rfl⟩
      have hxl : s.data.toList[i]? = some x := by rw [← hx]; exact Lib.data_getElem? s i hi
      have HS := Lib.hid (stepIter_at (s' := s) (pos' := i + (Utf8.decode s i).2) HI.out)
      have HSB := Lib.hid (stepIter_below (s := s) (pos := i + (Utf8.decode s i).2) HB.out (Nat.le_refl _))
      by_cases hx128 : x.toNat < 128
      · have hd : Utf8.decode s i = (x.toNat, 1) := by rw [← hx]; exact decode_ascii s i hi (by rw [hx]; exact hx128)
        rw [hd] at HS HSB
        rw [hd] at hnx
        have Hx := Lib.hid hxl
        clear hxl hx hd
        have hcon := Lib.contains_iff_indexByte [47, 0] x
        have hback : ((x.toNat : Int)).toNat.toUInt8 = x := by simp
        have Hcon := Lib.hid hcon; clear hcon
        have Hback := Lib.hid hback; clear hback
        generalize hw2 : stepIter wr w.heap.size s (i + 1) = w2 at hnx HS HSB
        have hsz2 : w.heap.size < w2.heap.size := by rw [← hw2, stepIter_size]; exact hszl
        clear hw2
        cases hin : ([47, 0] : List UInt8).contains x
        · have Hin := Lib.hid hin
          have hlt : ¬ ((0 : Int) ≤ Lib.indexByte [47, 0] x) := of_decide_eq_false (by rw [Hin.out] at Hcon; exact Hcon.out.symm)
          clear hin
          go_wp2_with (go_at_call 201; refine (Tryz.strings_IndexRune_ascii _ _ _ (by omega) (by omega)).mono ?_; rintro e w' ⟨rfl, hw⟩; rw [hw, Hback.out])
          go_roundg (s.size - (i + 1))
          case measure => omega
          case rel => exact ⟨i + 1, by omega, HS.out, HSB.out, hsz2, HN.out.succ Hx.out Hin.out⟩
        · have Hin := Lib.hid hin
          have hge : (0 : Int) ≤ Lib.indexByte [47, 0] x := of_decide_eq_true (by rw [Hin.out] at Hcon; exact Hcon.out.symm)
          clear hin
          go_wp2_with (go_at_call 201; refine (Tryz.strings_IndexRune_ascii _ _ _ (by omega) (by omega)).mono ?_; rintro e w' ⟨rfl, hw⟩; rw [hw, Hback.out])
          go_ret
          exact ⟨by rw [Lib.indexAny_hit HN.out Hx.out Hin.out]; rfl, HSB.out⟩
      · have hd := decode_high s i hi (by rw [hx]; omega)
        have hb := decode_bytes s i hi (by rw [hx]; omega)
        have hle := decode_le s i
        generalize hc : (Utf8.decode s i).1 = c at *
        generalize hwd : (Utf8.decode s i).2 = n at *
        have hd1 := hd.1
        have hd2 := hd.2
        have hin : i + n ≤ s.size := by
          obtain ⟨hj, _⟩ := hb (i + n - 1) (by omega) (by omega)
          omega
        have hno2 : Lib.NoAny s.data.toList [47, 0] (i + n) := noAny_more HN.out fun j b h1 h2 h3 => by
          obtain ⟨hj, hh⟩ := hb j h1 h2
          have := Lib.data_getElem? s j hj
          rw [this] at h3
          injection h3 with h3
          exact two_high b (by rw [← h3]; exact hh)
        have HN2 := Lib.hid hno2
        clear hno2 hb hd hxl hx hc hwd
        generalize hw2 : stepIter wr w.heap.size s (i + n) = w2 at hnx HS HSB
        have hsz2 : w.heap.size < w2.heap.size := by rw [← hw2, stepIter_size]; exact hszl
        clear hw2
        go_wp2_with (go_at_call 201; refine (indexRune_two _ _ (by omega)).mono ?_; rintro e w' ⟨rfl, hbw⟩; have HBW := Lib.hid hbw; clear hbw)
        go_roundg (s.size - (i + n))
        case measure => omega
        case rel => exact ⟨i + n, by omega, (HBW.out.block _ hsz2).trans HS.out, HSB.out.trans (HBW.out.mono (by omega)), by have := HBW.out.size; omega, HN2.out⟩

theorem zero238 (w : World) : (zeroValue 238).run Tryz.prog w = .ok (.agg (Array.replicate 256 (.bool false))) w := by kernel_rfl

theorem indexAny_two (s : ByteArray) (w : World) (hs : s.size < 4294967281) :
    Calls Tryz.prog 188 #[.string s, .string ⟨#[47, 0]⟩] w fun e w' => e = .returned (.int .i64 (Lib.indexAny s.data.toList [47, 0])) ∧ Below w.heap.size w w' := by
  by_cases h8 : s.size ≤ 8
  · exact indexAny_short2 s w h8
  · refine (Tryz.strings_IndexAny_long zero238 s ⟨#[47, 0]⟩ w (by decide) (by omega) hs (by decide) ?_).mono ?_
    · intro j b hj
      rcases j with _ | _ | j
      · simp at hj; subst hj; decide
      · simp at hj; subst hj; decide
      · simp at hj
    · rintro e w' ⟨rfl, rfl⟩
      exact ⟨rfl, ((Below.refl _ _).alloc (Nat.le_refl _) _).alloc (by simp) _⟩

/-- A slash or a zero stands in it. -/
def badB (s : ByteArray) : Bool := s.data.toList.any fun b => b == 47 || b == 0

theorem badB_eq (s : ByteArray) : Lib.containsAny s.data.toList [47, 0] = badB s := by
  unfold Lib.containsAny badB
  generalize s.data.toList = l
  induction l with
  | nil => rfl
  | cons b l ih =>
    have e : ([47, 0] : List UInt8).contains b = (b == 47 || b == 0) := by
      rw [Bool.eq_iff_iff]; simp
    rw [List.any_cons, ← ih, ← e]
    have hi : Lib.indexAny (b :: l) [47, 0] = if ([47, 0] : List UInt8).contains b then 0 else if Lib.indexAny l [47, 0] == -1 then -1 else Lib.indexAny l [47, 0] + 1 := rfl
    rw [Bool.eq_iff_iff, decide_eq_true_eq, Bool.or_eq_true, decide_eq_true_eq, hi]
    by_cases h : ([47, 0] : List UInt8).contains b = true
    · rw [if_pos h]; exact ⟨fun _ => .inl h, fun _ => Int.le_refl _⟩
    · rw [if_neg h]
      split
      · rename_i h1
        have h2 : Lib.indexAny l [47, 0] = -1 := by simpa using h1
        rw [h2]
        exact ⟨fun h => by omega, fun h' => h'.elim (fun x => absurd x h) (fun x => x)⟩
      · rename_i h1
        have h2 : Lib.indexAny l [47, 0] ≠ -1 := by simpa using h1
        exact ⟨fun h => .inr (by omega), fun h' => h'.elim (fun x => absurd x h) (fun x => by omega)⟩

theorem containsAny_two (s : ByteArray) (w : World) (hs : s.size < 4294967281) :
    Calls Tryz.prog 177 #[.string s, .string ⟨#[47, 0]⟩] w fun e w' => e = .returned (.bool (badB s)) ∧ Below w.heap.size w w' := by
  have hb := badB_eq s
  unfold Lib.containsAny at hb
  have HB := Lib.hid hb
  clear hb
  go_enter Tryz.func177, Tryz.ntmps177
  go_wp2_with (go_at_call 188; refine (indexAny_two _ _ hs).mono ?_; rintro e w' ⟨rfl, hbw⟩; have HBW := Lib.hid hbw; clear hbw)
  go_ret
  exact ⟨by rw [← HB.out]; rfl, HBW.out⟩

/-- A name in a directory can be so. -/
def okName (s : ByteArray) : Bool := decide (1 ≤ s.size) && decide (s.size ≤ 255) && !(s.toList == [46]) && !(s.toList == [46, 46]) && !badB s

theorem ret_bool {a b : Bool} (h : a = b) : Ending.returned (.bool a) = Ending.returned (.bool b) := by rw [h]

set_option maxRecDepth 100000 in
set_option maxHeartbeats 400000 in
theorem isName_any (s : ByteArray) (w : World) : Calls Tryz.prog 143 #[.string s] w fun e w' => e = .returned (.bool (okName s)) ∧ Below w.heap.size w w' := by
  by_cases h1 : 1 ≤ s.size
  · by_cases h2 : s.size ≤ 255
    · have hs : s.size < 4294967281 := by omega
      have h0 : Below w.heap.size w w := Below.refl _ _
      have H0 := Lib.hid h0
      clear h0
      go_enter Tryz.func143, Tryz.ntmps143
      go_wp2_with (go_at_call 177; refine (containsAny_two _ _ hs).mono ?_; rintro e w' ⟨rfl, hbw⟩; have HBW := Lib.hid hbw; clear hbw)
      · go_ret
        exact ⟨ret_bool (by unfold okName; simp [*]), H0.out⟩
      · go_ret
        exact ⟨ret_bool (by unfold okName; simp [*]), H0.out⟩
      · go_ret
        exact ⟨ret_bool (by unfold okName; simp [*]), HBW.out⟩
    · have h3 : decide ((s.size : Int) ≤ 255) = false := decide_eq_false (by omega)
      go_enter Tryz.func143, Tryz.ntmps143
      go_wp2_with fail
      go_ret
      exact ⟨ret_bool (by unfold okName; simp [h2]), Below.refl _ _⟩
  · have h3 : decide (1 ≤ (s.size : Int)) = false := by simp; omega
    go_enter Tryz.func143, Tryz.ntmps143
    go_wp2_with fail
    go_ret
    exact ⟨ret_bool (by unfold okName; simp [h1]), Below.refl _ _⟩

def okTarget (s : ByteArray) : Bool := decide (1 ≤ s.size) && decide (s.size ≤ 4096) && !(s.data.toList.any fun b => b == 0)

theorem indexByte_lt (l : List UInt8) (c : UInt8) : decide (Lib.indexByte l c < 0) = !(l.any fun b => b == c) := by
  have h := Lib.contains_iff_indexByte l c
  rw [List.contains_eq_any_beq] at h
  have e : (l.any fun b => b == c) = l.any (fun b => c == b) := by
    congr 1; funext b; rw [Bool.eq_iff_iff, beq_iff_eq, beq_iff_eq]; exact ⟨Eq.symm, Eq.symm⟩
  rw [e, h, ← decide_not, decide_eq_decide]
  omega

set_option maxRecDepth 100000 in
theorem isTarget_any (s : ByteArray) (w : World) : Calls Tryz.prog 144 #[.string s] w fun e w' => e = .returned (.bool (okTarget s)) ∧ w' = w := by
  have hz := indexByte_lt s.data.toList 0
  have hc : ((0 : Int)).toNat.toUInt8 = 0 := rfl
  have HZ := Lib.hid hz
  clear hz
  by_cases h1 : 1 ≤ s.size
  · by_cases h2 : s.size ≤ 4096
    · go_enter Tryz.func144, Tryz.ntmps144
      go_wp2_with (go_at_call 178; refine (Tryz.strings_IndexByte _ _ _).mono ?_; rintro e w' ⟨rfl, rfl⟩; rw [hc])
      go_ret
      exact ⟨ret_bool (by unfold okTarget; rw [← HZ.out, decide_eq_true h1, decide_eq_true h2]; simp), rfl⟩
    · have h3 : decide ((s.size : Int) ≤ 4096) = false := decide_eq_false (by omega)
      go_enter Tryz.func144, Tryz.ntmps144
      go_wp2_with fail
      go_ret
      exact ⟨ret_bool (by unfold okTarget; rw [decide_eq_false h2]; simp), rfl⟩
  · have h3 : decide (1 ≤ (s.size : Int)) = false := by simp; omega
    go_enter Tryz.func144, Tryz.ntmps144
    go_wp2_with fail
    go_ret
    exact ⟨ret_bool (by unfold okTarget; simp [h1]), rfl⟩

def okMeta (m : Mt) : Bool := decide (m.mode ≤ 4095) && (decide (0 ≤ m.nano) && decide (m.nano ≤ 999999999))

theorem isMeta_any (m : Mt) (w : World) : Calls Tryz.prog 147 #[.agg m.cells.toArray] w fun e w' => e = .returned (.bool (okMeta m)) ∧ w' = w.alloc (.cells m.cells.toArray 33) := by
  unfold Mt.cells
  go_enter Tryz.func147, Tryz.ntmps147
  go_wp2
  all_goals
    go_ret
    refine ⟨ret_bool (by unfold okMeta; simp [*] <;> omega), ?_⟩
    try rfl
end Go.Proofs.YtpffanfpohajhaaGreat
