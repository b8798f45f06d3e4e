/- strings.IndexRune and strings.ContainsAny at the two bytes that no name may hold, for whatever text. No condition. -/
import Derived.Test.YtpffanfpohajhaaGreatShelf
import Derived.Test.YtpffanfpohajhaaGreatB
import Derived.Lib.Hide
import Derived.Deep.QuietTactic
import Derived.BigQuiet
import Derived.WalkSpells
import Derived.WalkLawsBesides
namespace Go.Proofs.YtpffanfpohajhaaGreat
open Go Go.RowKit Go.MapKept

theorem quiet_more {P : Program} {f : FuncId} {args : Array Value} {w : World} {a n : Nat} {v : Value}
    (h : Calls P f args (w.drewN (a + n)) fun e w' => e = .returned v ∧ w' = w.drewN (a + n)) :
    Calls P f args (w.drewN (a + n)) fun e w'' => e = .returned v ∧ ∃ m, w'' = w.drewN (a + m) :=
  h.mono fun _ _ ⟨he, hm⟩ => ⟨he, n, hm⟩
theorem below_drewN {B : Nat} {w W : World} (h : Below B w W) (n : Nat) : Below B w (W.drewN n) := ⟨h.os, h.tape, h.output, h.size, h.block⟩

theorem enc_size (r : Int) (h : 128 ≤ r) (hv : Utf8.valid r = true) : ∃ n, (Utf8.encode r).size = n + 2 ∧ (n = 0 → ∃ a b : UInt8, Utf8.encode r = ⟨#[a, b]⟩ ∧ 128 ≤ b.toNat) := by
  unfold Utf8.encode
  simp only [hv, if_true]
  have : ¬ r.toNat < 128 := by omega
  rw [if_neg this]
  split
  · rename_i h2
    refine ⟨0, rfl, fun _ => ⟨_, _, rfl, ?_⟩⟩
    rw [UInt8.toNat_ofNat']
    omega
  · split
    · exact ⟨1, rfl, fun h => by omega⟩
    · exact ⟨2, rfl, fun h => by omega⟩

set_option maxRecDepth 100000 in
theorem indexRune_err (w : World) : Calls Tryz.prog 201 #[.string ⟨#[47, 0]⟩, .int .i32 65533] w fun e w' => e = .returned (.int .i64 (-1)) ∧ Below w.heap.size w w' := by
  have h1 := fun ty => run_next_ascii (P := Tryz.prog) w ⟨#[47, 0]⟩ 0 ty (by decide) (by decide)
  have h2 := fun ty => run_next_ascii (P := Tryz.prog) w ⟨#[47, 0]⟩ 1 ty (by decide) (by decide)
  have h3 := fun ty => run_next_end (P := Tryz.prog) w ⟨#[47, 0]⟩ 2 ty (by decide)
  go_enter Tryz.func201, Tryz.ntmps201
  go_wp2
  go_loopg [5, 6] 2 (fun g _ _ wx => ∃ i : Nat, i + g = 2 ∧ wx = w.iter ⟨#[47, 0]⟩ i)
  case atStart => exact ⟨0, by omega, rfl⟩
  case round =>
    obtain ⟨i, hig, rfl⟩ := hrel
    cases gk with
    | zero =>
      obtain rfl : i = 2 := by omega
      go_wp2
      go_ret
      exact ⟨rfl, (Below.refl _ _).alloc (Nat.le_refl _) _⟩
    | succ g =>
      cases g with
      | zero =>
        obtain rfl : i = 1 := by omega
        go_wp2
        go_roundg 0
        case measure => omega
        case rel => exact ⟨2, by omega, rfl⟩
      | succ g =>
        obtain rfl : g = 0 := by omega
        obtain rfl : i = 0 := by omega
        go_wp2
        go_roundg 1
        case measure => omega
        case rel => exact ⟨1, by omega, rfl⟩

set_option maxRecDepth 100000 in
theorem indexRune_invalid (w : World) (r : Int) (h : 128 ≤ r) (hr : r ≠ 65533) (hv : Lib.validRune r = false) : Calls Tryz.prog 201 #[.string ⟨#[47, 0]⟩, .int .i32 r] w fun e w' => e = .returned (.int .i64 (-1)) ∧ Below w.heap.size w w' := by
  have h1 : decide (r < 128) = false := by simp; omega
  have h0 : decide (0 ≤ r) = true := by simp; omega
  have h2 : (r == 65533) = false := by simp [hr]
  have Hv := Lib.hid hv; clear hv
  clear hr h
  go_enter Tryz.func201, Tryz.ntmps201
  go_wp2_with (go_at_call 210; refine (Tryz.utf8_ValidRune r w).mono ?_; rintro e w' ⟨rfl, rfl⟩; rw [Hv.out])
  go_ret
  exact ⟨rfl, Below.refl _ _⟩

theorem drop2 : (⟨#[47, 0]⟩ : ByteArray).extract 2 2 = ⟨#[]⟩ := by decide

set_option maxRecDepth 100000 in
theorem indexRune_long (w : World) (r : Int) (h : 128 ≤ r) (hr : r ≠ 65533) (hv : Lib.validRune r = true) (n : Nat) (hs : (Utf8.encode r).size = n + 3) : Calls Tryz.prog 201 #[.string ⟨#[47, 0]⟩, .int .i32 r] w fun e w' => e = .returned (.int .i64 (-1)) ∧ Below w.heap.size w w' := by
  have h1 : decide (r < 128) = false := by simp; omega
  have h0 : decide (0 ≤ r) = true := by simp; omega
  have h2 : (r == 65533) = false := by simp [hr]
  have Hv := Lib.hid hv; clear hv
  have Hs := Lib.hid hs; clear hs
  have hn : n ≤ 4 := by
    have := Hs.out
    unfold Utf8.encode at this
    dsimp only at this
    repeat' split at this
    all_goals simp [ByteArray.size] at this <;> omega
  clear hr h
  go_enter Tryz.func201, Tryz.ntmps201
  go_wp2_with (go_at_call 210; refine (Tryz.utf8_ValidRune r w).mono ?_; rintro e w' ⟨rfl, rfl⟩; rw [Hv.out])
  have hz : 3 ≤ (Utf8.encode r).size := by have := Hs.out; omega
  have hz2 : (Utf8.encode r).size ≤ 7 := by have := Hs.out; omega
  go_step3
  go_wp2
  apply wp_loop_once
  go_wp2
  rw [Exit.noGoto_ret]
  go_ret
  exact ⟨rfl, Below.refl _ _⟩

set_option maxRecDepth 100000 in
theorem indexRune_short (w : World) (r : Int) (h : 128 ≤ r) (hr : r ≠ 65533) (hv : Lib.validRune r = true) (a b : UInt8) (hs : Utf8.encode r = ⟨#[a, b]⟩) (hb : 128 ≤ b.toNat) : Calls Tryz.prog 201 #[.string ⟨#[47, 0]⟩, .int .i32 r] w fun e w' => e = .returned (.int .i64 (-1)) ∧ Below w.heap.size w w' := by
  have h1 : decide (r < 128) = false := by simp; omega
  have h0 : decide (0 ≤ r) = true := by simp; omega
  have h2 : (r == 65533) = false := by simp [hr]
  have Hv := Lib.hid hv; clear hv
  have hne : ((((⟨#[47, 0]⟩ : ByteArray)[1]'(by decide)).toNat : Int) != (((⟨#[a, b]⟩ : ByteArray)[1]'(by show 1 < 2; omega)).toNat : Int)) = true := by
    have e : (((⟨#[a, b]⟩ : ByteArray)[1]'(by show 1 < 2; omega)).toNat : Int) = (b.toNat : Int) := rfl
    rw [e, bne_iff_ne]
    show (0 : Int) ≠ _
    omega
  have hw2 : IntKind.i64.wrap 2 = 2 := by decide
  have hx : Lib.indexByte ((⟨#[47, 0]⟩ : ByteArray).extract 2 2).data.toList (b.toNat : Int).toNat.toUInt8 = -1 := rfl
  clear hr h
  go_enter Tryz.func201, Tryz.ntmps201
  go_wp2_with (go_at_call 210; refine (Tryz.utf8_ValidRune r w).mono ?_; rintro e w' ⟨rfl, rfl⟩; rw [Hv.out])
  go_step3
  go_wp2
  apply wp_loop_once
  go_wp2
  go_step3
  go_wp2
  go_quiet (fail)
  go_wp2
  go_quiet ((go_at_call 178; exact quiet_more (Tryz.strings_IndexByte _ _ _)))
  go_wp2
  rw [Exit.noGoto_ret]
  simp only [Exit.inBlock]
  change Exit.then _ (Exit.inBlock 1 (Exit.then _ (Exit.noGoto _))) _ _ _
  simp only [Exit.inBlock, Exit.then]
  rw [Exit.noGoto_ret]
  go_ret
  exact ⟨rfl, below_drewN (Below.refl _ _) _⟩

theorem valid_eq (r : Int) : Utf8.valid r = Lib.validRune r := by
  unfold Utf8.valid Lib.validRune
  rw [Bool.eq_iff_iff]
  simp
  omega

/-- A rune of no one byte stands in neither of the two. -/
theorem indexRune_two (w : World) (r : Int) (h : 128 ≤ r) : Calls Tryz.prog 201 #[.string ⟨#[47, 0]⟩, .int .i32 r] w fun e w' => e = .returned (.int .i64 (-1)) ∧ Below w.heap.size w w' := by
  by_cases hr : r = 65533
  · subst hr; exact indexRune_err w
  · cases hv : Lib.validRune r with
    | false => exact indexRune_invalid w r h hr hv
    | true =>
      obtain ⟨n, hn, h2⟩ := enc_size r h (by rw [valid_eq]; exact hv)
      cases n with
      | zero =>
        obtain ⟨a, b, hab, hb⟩ := h2 rfl
        exact indexRune_short w r h hr hv a b hab hb
      | succ n => exact indexRune_long w r h hr hv n (by omega)

/-- What lies between a rune's first byte and its end are no bytes of ASCII. -/
theorem decode_bytes (s : ByteArray) (i : Nat) (hi : i < s.size) (h : 128 ≤ (s[i]'hi).toNat) : ∀ j, i ≤ j → j < i + (Utf8.decode s i).2 → ∃ hj : j < s.size, 128 ≤ (s[j]'hj).toNat := by
  intro j h1 h2
  have hg : ∀ k, i + k < s.size → (s.get! (i + k)).toNat / 64 = 2 → ∃ hj : i + k < s.size, 128 ≤ (s[i + k]'hj).toNat := by
    intro k hk hd
    have : s.get! (i + k) = s[i + k]'hk := by
      have := get_at s (i + k) hk
      simpa using this
    rw [this] at hd
    exact ⟨hk, by omega⟩
  have h0 : ∃ hj : i < s.size, 128 ≤ (s[i]'hj).toNat := ⟨hi, h⟩
  have hcase : j = i + 0 ∨ j = i + 1 ∨ j = i + 2 ∨ j = i + 3 ∨ i + 4 ≤ j := by omega
  unfold Utf8.decode at h2
  simp only [Bool.and_eq_true, decide_eq_true_eq, beq_iff_eq] at h2
  repeat' split at h2
  all_goals simp only at h2
  all_goals rcases hcase with rfl | rfl | rfl | rfl | h4
  all_goals first
    | omega
    | exact h0
    | (rename_i hc _; exact hg 1 hc.2.1 hc.2.2)
    | (rename_i hc _; exact hg 1 hc.1.2.1 hc.1.2.2)
    | (rename_i hc _; exact hg 2 hc.2.1 hc.2.2)
    | (rename_i hc _; exact hg 1 hc.1.1.2.1 hc.1.1.2.2)
    | (rename_i hc _; exact hg 2 hc.1.2.1 hc.1.2.2)
    | (rename_i hc _; exact hg 3 hc.2.1 hc.2.2)
end Go.Proofs.YtpffanfpohajhaaGreat
