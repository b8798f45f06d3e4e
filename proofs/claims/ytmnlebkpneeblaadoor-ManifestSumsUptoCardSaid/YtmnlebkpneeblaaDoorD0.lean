/- Small facts: an array's element by its index; four bytes as one word. No condition. -/
import Derived.Test.YtmnlebkpneeblaaDoorB
namespace Go.Proofs.YtmnlebkpneeblaaDoor
open Go Go.RowKit

theorem info33 : (Tryd.prog.info? 33).map (·.size) = some 1 := by kernel_rfl
theorem agg33 (w : World) : (isAgg 33).run Tryd.prog w = .ok false w := by kernel_rfl

theorem size33 (w : World) : (sizeOf 33).run Tryd.prog w = .ok 1 w := by kernel_rfl
theorem run_index40 (w : World) (l : List Int) (i : Nat) (hl : l.length = 64) (hi : i < 64) :
    (Instr.index 40 (.agg (u32s l).toArray) (.int .i64 i)).run Tryd.prog w = .ok (.int .u32 (l.getD i 0)) w := by
  have hv := u32s_at (l := l) (j := i) (by omega)
  have h1 : (0 : Int) ≤ (i : Int) ∧ (i : Int) < ((64 : Nat) : Int) := by omega
  unfold Instr.index
  simp only [asIntOf, Sem.run_bind, Sem.run_pure, Result.andThen_ok, run_underlying Tryd.underlying40]
  rw [if_pos h1, Sem.run_bind, size33]
  simp only [Result.andThen_ok, Int.toNat_natCast, Nat.mul_one]
  unfold part
  rw [Sem.run_bind, agg33]
  simp only [Result.andThen_ok, List.getElem?_toArray, hv]
  rfl

theorem run_index34 (w : World) (l : List Int) (i : Nat) (hl : l.length = 8) (hi : i < 8) :
    (Instr.index 34 (.agg (u32s l).toArray) (.int .i64 i)).run Tryd.prog w = .ok (.int .u32 (l.getD i 0)) w := by
  have hv := u32s_at (l := l) (j := i) (by omega)
  have h1 : (0 : Int) ≤ (i : Int) ∧ (i : Int) < ((8 : Nat) : Int) := by omega
  unfold Instr.index
  simp only [asIntOf, Sem.run_bind, Sem.run_pure, Result.andThen_ok, run_underlying Tryd.underlying34]
  rw [if_pos h1, Sem.run_bind, size33]
  simp only [Result.andThen_ok, Int.toNat_natCast, Nat.mul_one]
  unfold part
  rw [Sem.run_bind, agg33]
  simp only [Result.andThen_ok, List.getElem?_toArray, hv]
  rfl

/-- The first k of four bytes as one word. -/
def partW (m : List UInt8) (t : Nat) : Nat → Int
  | 0 => 0
  | k + 1 => bits .or .u32 (partW m t k * 256 % 4294967296) (bt m (4 * t + k))
theorem or_byte (a b : Int) (h1 : 0 ≤ a) (h2 : a < 16777216) (h3 : 0 ≤ b) (h4 : b < 256) : bits .or .u32 (a * 256 % 4294967296) b = a * 256 + b := by
  have e : a * 256 % 4294967296 = a * 256 := by omega
  rw [e, u32_or _ _ (by omega) (by omega) h3 (by omega)]
  obtain ⟨A, rfl⟩ := Int.eq_ofNat_of_zero_le h1
  obtain ⟨B, rfl⟩ := Int.eq_ofNat_of_zero_le h3
  have e1 : ((A : Int) * 256).toNat = A <<< 8 := by rw [Nat.shiftLeft_eq]; omega
  rw [e1, Int.toNat_natCast, ← Nat.shiftLeft_add_eq_or_of_lt (by omega), Nat.shiftLeft_eq]
  omega
theorem partW_four (m : List UInt8) (t : Nat) : partW m t 4 = wordW m t := by
  have h0 := bt_lt m (4 * t + 0)
  have h1 := bt_lt m (4 * t + 1)
  have h2 := bt_lt m (4 * t + 2)
  have h3 := bt_lt m (4 * t + 3)
  unfold wordW
  have p1 : partW m t 1 = bits .or .u32 (0 * 256 % 4294967296) (bt m (4 * t + 0)) := rfl
  have p2 : partW m t 2 = bits .or .u32 (partW m t 1 * 256 % 4294967296) (bt m (4 * t + 1)) := rfl
  have p3 : partW m t 3 = bits .or .u32 (partW m t 2 * 256 % 4294967296) (bt m (4 * t + 2)) := rfl
  have p4 : partW m t 4 = bits .or .u32 (partW m t 3 * 256 % 4294967296) (bt m (4 * t + 3)) := rfl
  rw [or_byte 0 _ (by omega) (by omega) h0.1 h0.2] at p1
  rw [or_byte _ _ (by omega) (by omega) h1.1 h1.2] at p2
  rw [or_byte _ _ (by omega) (by omega) h2.1 h2.2] at p3
  rw [or_byte _ _ (by omega) (by omega) h3.1 h3.2] at p4
  rw [Nat.add_zero] at p1 h0
  omega
theorem copy7 {W : World} {b : Nat} {v : S8} (h : Row W b (u32s v.list)) :
    ∃ W', (Builtin.copy_ #[46, 46] 3 #[.slice (some ⟨b, 1, none⟩) 7 7, .slice (some ⟨b, 0, none⟩) 7 8]).run Tryd.prog W = .ok (.int .i64 7) W' ∧
      Row W' b (u32s [v.a, v.a, v.b, v.c, v.d, v.e, v.f, v.g]) ∧ ∀ B, B ≤ b → Below B W W' := by
  obtain ⟨T, hT⟩ := h
  have hr := run_copy_row (P := Tryd.prog) W 46 46 3 33 b 1 7 7 ⟨b, 0, none⟩ 7 8 (u32s v.list).toArray T (u32s [v.a, v.b, v.c, v.d, v.e, v.f, v.g]) Tryd.underlying46 (by kernel_rfl) hT rfl
    (fun j x hj => by
      have hj7 : j < 7 := (List.getElem?_eq_some_iff.1 hj).1
      have hadd : (⟨b, 0, none⟩ : Addr).add j = ⟨b, j, none⟩ := by unfold Addr.add; split <;> simp_all
      rw [hadd]
      refine Row.cell (cs := u32s v.list) ⟨T, hT⟩ j ?_
      rw [← hj]
      show (u32s v.list)[j]? = (u32s (v.list.take 7))[j]?
      unfold u32s
      rw [List.getElem?_map, List.getElem?_map, List.getElem?_take, if_pos hj7])
    (by show 1 + 7 ≤ 8; decide) (by intro x hx; obtain ⟨n, _, rfl⟩ := List.mem_map.1 hx; rfl)
  refine ⟨_, hr, ⟨T, setRow_heap W b _ _ T _ hT⟩, fun B hB => ⟨rfl, rfl, rfl, by simp, fun k hk => setRow_other W b k _ (by omega)⟩⟩
end Go.Proofs.YtmnlebkpneeblaaDoor
