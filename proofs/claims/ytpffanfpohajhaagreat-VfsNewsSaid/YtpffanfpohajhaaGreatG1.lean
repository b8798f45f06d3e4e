/- Walks of slices.Clone at bytes and at acts, of Trace and Forget of vfs. Condition: a bound on the length. -/
import Derived.Test.YtpffanfpohajhaaGreatC6
namespace Go.Proofs.YtpffanfpohajhaaGreat
open Go Go.MapKept
open Go.RowKit hiding intOf

theorem info5 : (Tryz.prog.info? 5).map (fun i => (i.zero, i.size, i.bytes)) = some (some (.int .u8 0), 1, 1) := by kernel_rfl
theorem info96 : (Tryz.prog.info? 96).map (fun i => (i.zero, i.size, i.bytes)) = some (some (.agg #[.int .i64 0, .int .i64 0, .string ByteArray.empty, .int .i64 0, .int .i64 0, .string ByteArray.empty, .int .i64 0, .int .i64 0]), 8, 80) := by kernel_rfl

theorem u8s_length (l : List UInt8) : (u8s l).length = l.length := by simp [u8s]
theorem u8s_one (l : List UInt8) : ∀ u ∈ u8s l, u.oneCell' = true := by
  intro u hu
  obtain ⟨b, _, rfl⟩ := List.mem_map.1 hu
  rfl
theorem acts_length (l : List Act8) : (acts l).length = l.length * 8 := by
  unfold acts
  induction l with
  | nil => rfl
  | cons p l ih => simp only [List.flatMap_cons, List.length_append, ih, List.length_cons, Act8.cells, List.length_nil]; omega
theorem acts_one (l : List Act8) : ∀ u ∈ acts l, u.oneCell' = true := by
  intro u hu
  obtain ⟨a, _, ha⟩ := List.mem_flatMap.1 hu
  simp only [Act8.cells, List.mem_cons, List.not_mem_nil, or_false] at ha
  rcases ha with rfl | rfl | rfl | rfl | rfl | rfl | rfl | rfl <;> rfl

/-- What Clone hands back: a row of its own with the same cells; nil for nil. -/
def ClonePost (w : World) (t size : Nat) (v : Value) (n : Nat) (xs : List Value) (e : Ending) (w' : World) : Prop :=
  ∃ v', e = .returned v' ∧ w'.ownsRow w.heap.size t size v' n xs ∧ (v' = .slice none 0 0 ↔ v = .slice none 0 0) ∧ Below w.heap.size w w'

theorem eq_nil34 (w : World) (a : Option Addr) (n c : Nat) : (binOp .eql 34 (.slice a n c) (.slice none 0 0)).run Tryz.prog w = .ok (.bool a.isNone) w := Lib.run_eql_slice_nil w 34 5 a n c 0 0 Tryz.underlying34
theorem eq_nil93 (w : World) (a : Option Addr) (n c : Nat) : (binOp .eql 93 (.slice a n c) (.slice none 0 0)).run Tryz.prog w = .ok (.bool a.isNone) w := Lib.run_eql_slice_nil w 93 96 a n c 0 0 Tryz.underlying93

theorem World.cell?_alloc_lt {w : World} {o : Obj} {g : Nat} (h : g < w.heap.size) (j : Nat) : (w.alloc o).cell? ((⟨g, 0, none⟩ : Addr).add j) = w.cell? ((⟨g, 0, none⟩ : Addr).add j) :=
  World.cell?_of_block (by
    have e : ((⟨g, 0, none⟩ : Addr).add j).block = g := by unfold Addr.add; split <;> rfl
    rw [e]; exact (heap_alloc w o).2 g h)

set_option maxRecDepth 100000 in
theorem clone_bytes (w : World) (v : Value) (n : Nat) (xs : List Value) (h : Sl w 5 1 v n xs) (h1 : ∀ u ∈ xs, u.oneCell' = true) (hn : n ≤ 140737488355328) :
    Calls Tryz.prog 98 #[v] w (ClonePost w 5 1 v n xs) := by
  obtain ⟨i0, hi, hz0, hz1, hz2⟩ := info_parts info5
  have hen := eq_nil34
  have hx := h
  obtain ⟨hlen, ⟨rfl, rfl⟩ | ⟨g, cap, cur, rfl, h3, h4, h5⟩⟩ := h
  · obtain rfl : xs = [] := List.eq_nil_of_length_eq_zero (by omega)
    clear hx hlen h1 hn
    go_enter Tryz.func98, Tryz.ntmps98
    go_wp2
    go_ret
    exact ⟨_, rfl, World.ownsRow_nil _ _ _ _, Iff.rfl, Below.refl _ _⟩
  · have hc := hx.cells (g := g) rfl
    have HC := Lib.hid hc
    have H1 := Lib.hid h1
    have HL := Lib.hid hlen
    have hgl : g < w.heap.size := (Array.getElem?_eq_some_iff.1 h4).1
    clear hx hlen h1 h4 h5 h3 hc
    go_enter Tryz.func98, Tryz.ntmps98
    go_wp2_with (at_builtin; refine wpList_append_own_at _ rfl _ _ 34 rfl w.heap.size 5 i0 (.int .u8 0) 1 1 Tryz.underlying34 hi hz0 hz1 hz2 rfl (by decide) _ _ _ rfl (World.ownsRow_made w #[] 0 (Nat.le_refl _) (Nat.zero_le _) rfl) ⟨g, 0, none⟩ n cap xs rfl HL.out ?c1 H1.out ?c3 ?c4 ?c5 ?_)
    case c1 => exact fun j u hj => (World.cell?_alloc_lt hgl j).trans (HC.out j u hj)
    case c3 => unfold maxLen; omega
    case c4 => omega
    case c5 => simp
    intro v' w4 hown4 hgrow4 hnn _
    have HO := Lib.hid hown4
    have HN := Lib.hid hnn
    have HB := Lib.hid ((Below.refl w.heap.size w).grown ((World.grownBy_alloc w _ _).trans hgrow4) (Nat.le_refl _) (fun j hj => by cases hj; exact Nat.le_refl _))
    clear hown4 hgrow4 hnn
    go_wp2
    go_ret
    exact ⟨_, rfl, HO.out, ⟨fun h => absurd h HN.out, fun h => by cases h⟩, HB.out⟩

set_option maxRecDepth 100000 in
theorem clone_acts (w : World) (v : Value) (n : Nat) (xs : List Value) (h : Sl w 96 8 v n xs) (h1 : ∀ u ∈ xs, u.oneCell' = true) (hn : n * 80 ≤ 140737488355328) :
    Calls Tryz.prog 111 #[v] w (ClonePost w 96 8 v n xs) := by
  obtain ⟨i0, hi, hz0, hz1, hz2⟩ := info_parts info96
  have hen := eq_nil93
  have hx := h
  obtain ⟨hlen, ⟨rfl, rfl⟩ | ⟨g, cap, cur, rfl, h3, h4, h5⟩⟩ := h
  · obtain rfl : xs = [] := List.eq_nil_of_length_eq_zero (by omega)
    clear hx hlen h1 hn
    go_enter Tryz.func111, Tryz.ntmps111
    go_wp2
    go_ret
    exact ⟨_, rfl, World.ownsRow_nil _ _ _ _, Iff.rfl, Below.refl _ _⟩
  · have hc := hx.cells (g := g) rfl
    have HC := Lib.hid hc
    have H1 := Lib.hid h1
    have HL := Lib.hid hlen
    have hgl : g < w.heap.size := (Array.getElem?_eq_some_iff.1 h4).1
    clear hx hlen h1 h4 h5 h3 hc
    go_enter Tryz.func111, Tryz.ntmps111
    go_wp2_with (at_builtin; refine wpList_append_own_at _ rfl _ _ 93 rfl w.heap.size 96 i0 (.agg #[.int .i64 0, .int .i64 0, .string ByteArray.empty, .int .i64 0, .int .i64 0, .string ByteArray.empty, .int .i64 0, .int .i64 0]) 8 80 Tryz.underlying93 hi hz0 hz1 hz2 rfl (by decide) _ _ _ rfl (World.ownsRow_made w #[] 0 (Nat.le_refl _) (Nat.zero_le _) rfl) ⟨g, 0, none⟩ n cap xs rfl HL.out ?c1 H1.out ?c3 ?c4 ?c5 ?_)
    case c1 => exact fun j u hj => (World.cell?_alloc_lt hgl j).trans (HC.out j u hj)
    case c3 => unfold maxLen; omega
    case c4 => omega
    case c5 => simp
    intro v' w4 hown4 hgrow4 hnn _
    have HO := Lib.hid hown4
    have HN := Lib.hid hnn
    have HB := Lib.hid ((Below.refl w.heap.size w).grown ((World.grownBy_alloc w _ _).trans hgrow4) (Nat.le_refl _) (fun j hj => by cases hj; exact Nat.le_refl _))
    clear hown4 hgrow4 hnn
    go_wp2
    go_ret
    exact ⟨_, rfl, HO.out, ⟨fun h => absurd h HN.out, fun h => by cases h⟩, HB.out⟩

set_option maxRecDepth 100000 in
theorem Trace_any (F : Fs) (f : Fp) (w : World) (h : FsAt w F f) (hn : F.trace.length * 80 ≤ 140737488355328) :
    Calls Tryz.prog 47 #[ptr f.p] w (ClonePost w 96 8 f.tv F.trace.length (acts F.trace)) := by
  have c5 : w.cell? ⟨f.p, 5, none⟩ = some f.tv := Row.cell (h.holds .fs) 5 rfl
  have HC := Lib.hid (clone_acts w f.tv F.trace.length (acts F.trace) (h.holds .tr) (acts_one _) hn)
  unfold ptr
  go_enter Tryz.func47, Tryz.ntmps47
  go_wp2_with fail
  refine HC.out.mono ?_
  rintro e w' ⟨v', rfl, h1, h2, h3⟩
  have H1 := Lib.hid h1
  have H2 := Lib.hid h2
  have H3 := Lib.hid h3
  clear h1 h2 h3 HC
  go_wp2
  go_ret
  exact ⟨_, rfl, H1.out, H2.out, H3.out⟩
end Go.Proofs.YtpffanfpohajhaaGreat
