/- Walks of high at 8 and 4 bytes: a number's bytes, the highest first. Condition: the number is not negative. -/
import Derived.Test.YtmnlebkpneeblaaDoorB
namespace Go.Proofs.YtmnlebkpneeblaaDoor
open Go Go.RowKit

def byteI (n : Int) : UInt8 := UInt8.ofNat (n % 256).toNat
theorem byteI_toNat (n : Int) : ((byteI n).toNat : Int) = n % 256 := by
  unfold byteI
  have h : (n % 256).toNat < 256 := by omega
  rw [UInt8.toNat_ofNat']
  omega
/-- The lowest bytes of a number, the highest first. -/
def be : Nat → Int → List UInt8
  | 0, _ => []
  | s + 1, n => be s (n / 256) ++ [byteI n]
theorem be_length : ∀ s n, (be s n).length = s
  | 0, _ => rfl
  | s + 1, n => by simp [be, be_length s]
theorem be_succ : ∀ (s : Nat) (n : Int), be (s + 1) n = byteI (n / 256 ^ s) :: be s n
  | 0, n => by simp [be]
  | s + 1, n => by
    rw [be, be_succ s (n / 256), be]
    have e : n / 256 / 256 ^ s = n / 256 ^ (s + 1) := by
      rw [Int.ediv_ediv_of_nonneg (by decide), Int.pow_succ']
    rw [e]
    rfl
/-- A row that is filled from its end. -/
def beZ (k i : Nat) (n : Int) : List UInt8 := List.replicate (k - i) 0 ++ be i n
theorem beZ_length {k i : Nat} (h : i ≤ k) (n : Int) : (beZ k i n).length = k := by
  unfold beZ; rw [List.length_append, List.length_replicate, be_length]; omega
theorem beZ_set {k i : Nat} (h : i < k) (n : Int) : (u8s (beZ k i n)).set (k - 1 - i) (.int .u8 (n / 256 ^ i % 256)) = u8s (beZ k (i + 1) n) := by
  unfold u8s
  have e : Value.int .u8 (n / 256 ^ i % 256) = (fun b : UInt8 => Value.int .u8 b.toNat) (byteI (n / 256 ^ i)) := by show _ = Value.int .u8 ((byteI (n / 256 ^ i)).toNat : Int); rw [byteI_toNat]
  rw [e, ← List.map_set]
  congr 1
  unfold beZ
  obtain ⟨j, hj⟩ : ∃ j, k - i = j + 1 := ⟨k - i - 1, by omega⟩
  have hj2 : k - 1 - i = j := by omega
  have hj3 : k - (i + 1) = j := by omega
  rw [hj, hj2, hj3, List.set_append_left _ _ (by rw [List.length_replicate]; omega), be_succ, List.replicate_succ']
  rw [List.set_append_right _ _ (by rw [List.length_replicate]; omega), List.length_replicate, Nat.sub_self, List.append_assoc]
  rfl
theorem div_next (n : Int) (i : Nat) : n / 256 ^ i / 256 = n / 256 ^ (i + 1) := by
  rw [Int.ediv_ediv_of_nonneg (Int.pow_nonneg (by decide)), Int.pow_succ]

/-- A new row that holds bytes. -/
def RowNew (w : World) (l : List UInt8) (e : Ending) (w' : World) : Prop := e = .returned (.slice (some ⟨w.heap.size, 0, none⟩) l.length l.length) ∧ Row w' w.heap.size (u8s l) ∧ Below w.heap.size w w'

set_option maxRecDepth 100000 in
theorem high8_any (n : Int) (w : World) : Calls Tryd.prog 20 #[.int .u64 n, .int .i64 8] w (RowNew w (be 8 n)) := by
  have hmk : ∀ w, (Instr.makeSlice 28 (.int .i64 8) (.int .i64 8)).run Tryd.prog w = .ok (.slice (some ⟨w.heap.size, 0, none⟩) 8 8) (w.alloc (.cells #[.int .u8 0, .int .u8 0, .int .u8 0, .int .u8 0, .int .u8 0, .int .u8 0, .int .u8 0, .int .u8 0] 5)) := fun _ => by kernel_rfl
  have HR := Lib.hid (Row.new w (u8s (beZ 8 0 n)) 5)
  have HB := Lib.hid ((Below.refl w.heap.size w).alloc (Nat.le_refl _) (.cells (u8s (beZ 8 0 n)).toArray 5))
  go_enter Tryd.func20, Tryd.ntmps20
  go_wp2
  go_loopw [0, 11] (fun nv iv wr => ∃ i : Nat, i ≤ 8 ∧ iv = .int .i64 i ∧ nv = .int .u64 (n / 256 ^ i) ∧ Row wr w.heap.size (u8s (beZ 8 i n)) ∧ Below w.heap.size w wr) (fun _ iv _ => 8 - (RowKit.intOf iv).toNat)
  case atStart => exact ⟨0, Nat.zero_le _, rfl, by rw [Int.pow_zero, Int.ediv_one], HR.out, HB.out⟩
  case round =>
    obtain ⟨i, hi, rfl, rfl, hrow, hb⟩ := hrel
    by_cases hlt : i < 8
    · have hlt' : (i : Int) < 8 := by omega
      have h0 : (0 : Int) ≤ (i : Int) := by omega
      have q0 : (0 : Int) ≤ 7 - (i : Int) := by omega
      have q1 : 7 - (i : Int) < 8 := by omega
      have q2 : (i : Int) ≤ 7 := by omega
      have e0 : IntKind.i64.wrap (7 - (i : Int)) = 7 - i := IntWalk.i64_in _ (by omega)
      have e1 : (7 - (i : Int)).toNat = 7 - i := by omega
      obtain ⟨u, hu⟩ : ∃ u, (u8s (beZ 8 i n))[7 - i]? = some u := ⟨_, List.getElem?_eq_getElem (by rw [u8s_length, beZ_length hi]; omega)⟩
      have c0 := hrow.cell _ hu
      have f0 := hrow.frozen (7 - i)
      have HS := Lib.hid (beZ_set hlt n)
      have HD := Lib.hid (div_next n i)
      have HROW := Lib.hid hrow
      have HBW := Lib.hid hb
      clear hu hrow hb
      go_wp2_with fail
      case roundEnd =>
        refine ⟨⟨i + 1, by omega, rfl, by rw [HD.out], ?_, HBW.out.setCell (Nat.le_refl _) _⟩, ?_⟩
        · have hs := HS.out
          rw [show 8 - 1 - i = 7 - i from by omega] at hs
          rw [← hs]
          exact HROW.out.set (7 - i) _
        · change 8 - ((i : Int) + 1).toNat < 8 - (i : Int).toNat; omega
    · obtain rfl : i = 8 := by omega
      have hlt' : ¬ ((8 : Nat) : Int) < 8 := by omega
      have hz : beZ 8 8 n = be 8 n := by unfold beZ; simp
      rw [hz] at hrow
      have HROW := Lib.hid hrow
      have HBW := Lib.hid hb
      clear hrow hb
      go_wp2_with fail
      go_ret
      exact ⟨by simp [be_length], HROW.out, HBW.out⟩

set_option maxRecDepth 100000 in
theorem high4_any (n : Int) (w : World) : Calls Tryd.prog 20 #[.int .u64 n, .int .i64 4] w (RowNew w (be 4 n)) := by
  have hmk : ∀ w, (Instr.makeSlice 28 (.int .i64 4) (.int .i64 4)).run Tryd.prog w = .ok (.slice (some ⟨w.heap.size, 0, none⟩) 4 4) (w.alloc (.cells #[.int .u8 0, .int .u8 0, .int .u8 0, .int .u8 0] 5)) := fun _ => by kernel_rfl
  have HR := Lib.hid (Row.new w (u8s (beZ 4 0 n)) 5)
  have HB := Lib.hid ((Below.refl w.heap.size w).alloc (Nat.le_refl _) (.cells (u8s (beZ 4 0 n)).toArray 5))
  go_enter Tryd.func20, Tryd.ntmps20
  go_wp2
  go_loopw [0, 11] (fun nv iv wr => ∃ i : Nat, i ≤ 4 ∧ iv = .int .i64 i ∧ nv = .int .u64 (n / 256 ^ i) ∧ Row wr w.heap.size (u8s (beZ 4 i n)) ∧ Below w.heap.size w wr) (fun _ iv _ => 4 - (RowKit.intOf iv).toNat)
  case atStart => exact ⟨0, Nat.zero_le _, rfl, by rw [Int.pow_zero, Int.ediv_one], HR.out, HB.out⟩
  case round =>
    obtain ⟨i, hi, rfl, rfl, hrow, hb⟩ := hrel
    by_cases hlt : i < 4
    · have hlt' : (i : Int) < 4 := by omega
      have h0 : (0 : Int) ≤ (i : Int) := by omega
      have q0 : (0 : Int) ≤ 3 - (i : Int) := by omega
      have q1 : 3 - (i : Int) < 4 := by omega
      have q2 : (i : Int) ≤ 3 := by omega
      have e0 : IntKind.i64.wrap (3 - (i : Int)) = 3 - i := IntWalk.i64_in _ (by omega)
      have e1 : (3 - (i : Int)).toNat = 3 - i := by omega
      obtain ⟨u, hu⟩ : ∃ u, (u8s (beZ 4 i n))[3 - i]? = some u := ⟨_, List.getElem?_eq_getElem (by rw [u8s_length, beZ_length hi]; omega)⟩
      have c0 := hrow.cell _ hu
      have f0 := hrow.frozen (3 - i)
      have HS := Lib.hid (beZ_set hlt n)
      have HD := Lib.hid (div_next n i)
      have HROW := Lib.hid hrow
      have HBW := Lib.hid hb
      clear hu hrow hb
      go_wp2_with fail
      case roundEnd =>
        refine ⟨⟨i + 1, by omega, rfl, by rw [HD.out], ?_, HBW.out.setCell (Nat.le_refl _) _⟩, ?_⟩
        · have hs := HS.out
          rw [show 4 - 1 - i = 3 - i from by omega] at hs
          rw [← hs]
          exact HROW.out.set (3 - i) _
        · change 4 - ((i : Int) + 1).toNat < 4 - (i : Int).toNat; omega
    · obtain rfl : i = 4 := by omega
      have hlt' : ¬ ((4 : Nat) : Int) < 4 := by omega
      have hz : beZ 4 4 n = be 4 n := by unfold beZ; simp
      rw [hz] at hrow
      have HROW := Lib.hid hrow
      have HBW := Lib.hid hb
      clear hrow hb
      go_wp2_with fail
      go_ret
      exact ⟨by simp [be_length], HROW.out, HBW.out⟩
end Go.Proofs.YtmnlebkpneeblaaDoor
