/- Walks of the two rotations: right by n bits. Condition: n is from 1 to 31. -/
import Derived.WalkKit
import Derived.KernelRfl
import Derived.Lib.Hide
import Derived.Deep.QuietTactic
import Derived.BigQuiet
import Derived.StillTailTactics
import Derived.WalkSpells
import Derived.WalkLawsBesides
import Derived.Test.YtmnlebkpneeblaaDoorProg
namespace Go.Proofs.YtmnlebkpneeblaaDoor
open Go Go.RowKit

/-- Right by n bits. -/
def rorW (x n : Int) : Int := bits .or .u32 (x / 2 ^ n.toNat) (IntKind.u32.wrap (x * 2 ^ (32 - n).toNat))

theorem bits_or_comm (k : IntKind) (a b : Int) : bits .or k a b = bits .or k b a := by
  unfold bits
  simp only [BitVec.or_comm]

theorem neg_mask (n : Int) (h1 : 1 ≤ n) (h2 : n ≤ 31) : bits .and .u64 (IntKind.u64.wrap (IntKind.i64.wrap (-n))) 31 = 32 - n := by
  have e1 : IntKind.i64.wrap (-n) = -n := IntWalk.i64_in _ (by omega)
  rw [e1, IntKind.wrap_u64]
  generalize hm : (-n) % 18446744073709551616 = m
  have hm2 : m = 18446744073709551616 - n := by omega
  have : bits .and .u64 m 31 = m % 32 := by
    have h3 : 0 ≤ m := by omega
    have h4 : m < 18446744073709551616 := by omega
    go_bits2
  rw [this]
  omega

theorem ret_u32 {k : IntKind} {a b : Int} (h : a = b) : Ending.returned (.int k a) = .returned (.int k b) := by rw [h]

set_option maxRecDepth 100000 in
theorem rorR_any (x n : Int) (w : World) (h1 : 1 ≤ n) (h2 : n ≤ 31) : Calls Tryd.prog 21 #[.int .u32 x, .int .i64 n] w fun e w' => e = .returned (.int .u32 (rorW x n)) ∧ ∃ m, w' = w.drewN m := by
  have hw : IntKind.i64.wrap (32 - n) = 32 - n := IntWalk.i64_in _ (by omega)
  go_enter Tryd.func21, Tryd.ntmps21
  go_wp2
  go_quiet (fail)
  go_wp2
  go_ret
  exact ⟨rfl, _, rfl⟩

set_option maxRecDepth 100000 in
theorem ror_any (x n : Int) (w : World) (h1 : 1 ≤ n) (h2 : n ≤ 31) : Calls Tryd.prog 22 #[.int .u32 x, .int .i64 n] w fun e w' => e = .returned (.int .u32 (rorW x n)) ∧ w' = w := by
  have hn := neg_mask n h1 h2
  have e1 : IntKind.i64.wrap (-n) = -n := IntWalk.i64_in _ (by omega)
  rw [e1] at hn
  clear e1
  have hw : IntKind.u64.wrap (32 - (32 - n)) = n := by rw [IntKind.wrap_u64]; omega
  go_enter Tryd.func22, Tryd.ntmps22
  go_wp2
  go_ret
  exact ⟨ret_u32 (by unfold rorW; rw [bits_or_comm, IntKind.wrap_u32']), rfl⟩
end Go.Proofs.YtmnlebkpneeblaaDoor
