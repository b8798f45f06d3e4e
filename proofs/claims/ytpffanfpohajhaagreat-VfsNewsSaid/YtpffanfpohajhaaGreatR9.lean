/- Walk of New of the reference. No condition. -/
import Derived.Test.YtpffanfpohajhaaGreatR8
namespace Go.Proofs.YtpffanfpohajhaaGreat
open Go Go.MapKept
open Go.RowKit hiding intOf

def rootNode : NodeL := ⟨1, 1, Mt.zero, [], ByteArray.empty, []⟩
def Rf.new (nodes bytes : Int) : Rf := ⟨⟨nodes, bytes, 2, [rootNode]⟩, []⟩

/-- What New of the reference hands back. -/
def NewRPost (w : World) (nodes bytes : Int) (e : Ending) (w' : World) : Prop :=
  Below w.heap.size w w' ∧ if newOk nodes bytes then e = .returned (.tuple #[ptr (w.heap.size + 1), .int .i64 0]) ∧ RefAt w' (w.heap.size + 1) (Rf.new nodes bytes) [(rootNode, .slice none 0 0, .slice none 0 0)] (.slice (some ⟨w.heap.size, 0, none⟩) 1 1) (.slice none 0 0)
  else e = .returned (.tuple #[.pointer none, .int .i64 1])

theorem newOk_parts {nodes bytes : Int} (h : newOk nodes bytes = true) : ¬ nodes < 1 ∧ ¬ 4096 < nodes ∧ ¬ bytes < 0 ∧ ¬ 4194304 < bytes := by
  simp [newOk] at h
  omega

set_option maxRecDepth 100000 in
theorem NewR_any (w : World) (nodes bytes : Int) : Calls Tryz.prog 59 #[.int .i64 nodes, .int .i64 bytes] w (NewRPost w nodes bytes) := by
  cases hok : newOk nodes bytes with
  | true =>
    obtain ⟨h1, h2, h3, h4⟩ := newOk_parts hok
    have HOK := Lib.hid hok
    clear hok
    have d1 : decide (nodes < 1) = false := decide_eq_false h1
    have d2 : decide (4096 < nodes) = false := decide_eq_false h2
    have d3 : decide (bytes < 0) = false := decide_eq_false h3
    have d4 : decide (4194304 < bytes) = false := decide_eq_false h4
    go_enter Tryz.func59, Tryz.ntmps59
    go_wp2_with fail
    go_ret2
    refine ⟨((Below.refl _ _).alloc (Nat.le_refl _) _).alloc (by simp) _, ?_⟩
    rw [HOK.out, if_pos rfl]
    refine ⟨rfl, ?_, ?_, rfl, ?_, ?_⟩
    · exact ⟨116, by
        have e : (w.alloc (Obj.cells #[Value.int IntKind.i64 1, Value.int IntKind.i64 1, Value.int IntKind.u32 0, Value.int IntKind.u32 0, Value.int IntKind.u32 0, Value.int IntKind.i64 0, Value.int IntKind.i32 0, Value.slice none 0 0, Value.string { data := #[] }, Value.slice none 0 0] 76)).heap.size = w.heap.size + 1 := by simp
        rw [← e, (heap_alloc _ _).1]
        rfl⟩
    · refine ⟨rfl, .inr ⟨w.heap.size, 1, _, rfl, Nat.zero_le _, (heap_alloc_old _ _ (by simp)).trans (heap_alloc _ _).1, Nat.le_refl _, by decide, rfl, rfl⟩⟩
    · intro p hp
      obtain rfl := List.mem_singleton.1 hp
      exact ⟨⟨rfl, .inl ⟨0, rfl, rfl⟩⟩, ⟨rfl, .inl ⟨0, rfl, rfl⟩⟩⟩
    · exact ⟨rfl, .inl ⟨0, rfl, rfl⟩⟩
  | false =>
    have hpost : NewRPost w nodes bytes (.returned (.tuple #[.pointer none, .int .i64 1])) w := ⟨Below.refl _ _, by rw [if_neg (by simp [hok])]⟩
    have HP := Lib.hid hpost
    have hh := hok
    unfold newOk at hh
    simp only [Bool.not_eq_false', Bool.or_eq_true, decide_eq_true_eq] at hh
    have HH := Lib.hid hh
    clear hpost hh hok
    go_enter Tryz.func59, Tryz.ntmps59
    go_wp2_with fail
    all_goals first
      | (exfalso; have := HH.out; omega)
      | (go_ret2; exact HP.out)
end Go.Proofs.YtpffanfpohajhaaGreat
