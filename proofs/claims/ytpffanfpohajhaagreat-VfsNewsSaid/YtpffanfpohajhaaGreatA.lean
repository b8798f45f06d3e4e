/- Heap words of the satchel file system: how a map, a row of cells and a whole file system lie in memory. No condition. -/
import Derived.WalkKit
import Derived.MapKept
import Derived.KernelRfl
import Derived.Test.YtpffanfpohajhaaGreatProg
namespace Go.Proofs.YtpffanfpohajhaaGreat
open Go Go.RowKit Go.MapKept

/-! ### 1. Maps by key -/
/-- A kind of key. -/
structure KeyT (K : Type) where
  d : TypeDesc
  of : K → Value
  inj : ∀ a b, of a = of b → a = b
  isKey : ∀ a, IsKey d (of a)

def ints : KeyT Int := { d := .int .i64, of := fun n => .int .i64 n, inj := fun a b h => by injection h, isKey := fun _ => rfl }
def strs : KeyT ByteArray := { d := .string, of := fun s => .string s, inj := fun a b h => by injection h, isKey := fun _ => trivial }

/-- Block b of w is a map of n entries that holds just what g tells. -/
def MapHas {K : Type} (T : KeyT K) (w : World) (b : Nat) (g : K → Option Value) (n : Nat) : Prop :=
  ∃ es clock, w.heap[b]? = some (.map es clock) ∧ Stamped es clock ∧ (∀ x ∈ es.toList, ∃ k, x.key = T.of k) ∧
    (∀ k v, g k = some v ↔ ∃ x ∈ es.toList, x.key = T.of k ∧ x.val = v) ∧ es.size = n

section
variable {K : Type} {T : KeyT K} {w : World} {b : Nat} {g : K → Option Value} {n : Nat}

theorem MapHas.of_block {w' : World} (h : MapHas T w b g n) (e : w'.heap[b]? = w.heap[b]?) : MapHas T w' b g n := by
  obtain ⟨es, c, h1, h2⟩ := h
  exact ⟨es, c, e.trans h1, h2⟩
theorem MapHas.lt (h : MapHas T w b g n) : b < w.heap.size := by
  obtain ⟨es, c, h1, _⟩ := h
  exact (Array.getElem?_eq_some_iff.1 h1).1
theorem MapHas.congr {g' : K → Option Value} (h : MapHas T w b g n) (e : ∀ k, g' k = g k) : MapHas T w b g' n := by
  obtain ⟨es, c, h1, h2, h3, h4, h5⟩ := h
  exact ⟨es, c, h1, h2, h3, fun k v => by rw [e]; exact h4 k v, h5⟩
theorem MapHas.new (w : World) : MapHas T (w.alloc (.map #[] 0)) w.heap.size (fun _ => none) 0 :=
  ⟨#[], 0, (heap_alloc w _).1, stamped_empty 0, by simp, by simp, rfl⟩

/-- What findNow finds. -/
theorem MapHas.find (h : MapHas T w b g n) (k : K) : ∃ es c, w.heap[b]? = some (.map es c) ∧ es.size = n ∧
    ((g k = none ∧ Instr.findNow T.d (T.of k) es.toList 0 = some none) ∨ ∃ j e, g k = some e.val ∧ Instr.findNow T.d (T.of k) es.toList 0 = some (some (j, e.val)) ∧ es[j]? = some e ∧ e.key = T.of k) := by
  obtain ⟨es, c, h1, h2, h3, h4, h5⟩ := h
  refine ⟨es, c, h1, h5, ?_⟩
  have hks : ∀ x ∈ es.toList, IsKey T.d x.key := fun x hx => by obtain ⟨k', e⟩ := h3 x hx; rw [e]; exact T.isKey k'
  rcases findNow_spec (T.isKey k) es.toList 0 hks with ⟨a, a'⟩ | ⟨j, e, a, a2, a3⟩
  · refine .inl ⟨?_, a⟩
    cases hg : g k with
    | none => rfl
    | some v => obtain ⟨x, hx, hk, _⟩ := (h4 k v).1 hg; exact absurd hk (a' x hx)
  · refine .inr ⟨j, e, ?_, by simpa using a, by simpa using a2, a3⟩
    exact (h4 k e.val).2 ⟨e, List.mem_of_getElem? a2, a3, rfl⟩
variable {P : Program} {t kt et : TypeId} {z : Value}
theorem MapHas.run_lookup (h : MapHas T w b g n) (ht : P.underlying t = some (.map kt et)) (hk : P.underlying kt = some T.d) (hz : ∀ w, (zeroValue et).run P w = .ok z w) (k : K) :
    (Instr.lookup t (.map (some b)) (T.of k) false).run P w = .ok ((g k).getD z) w := by
  obtain ⟨es, c, hb, _, ⟨a1, a2⟩ | ⟨j, e, a1, a2, _⟩⟩ := h.find k
  · simp [Instr.lookup, run_underlying ht, MapKept.run_getObj_map hb, run_checkKey hk (T.isKey k), run_findKey hk a2, Result.andThen, hz, a1]
  · simp [Instr.lookup, run_underlying ht, MapKept.run_getObj_map hb, run_checkKey hk (T.isKey k), run_findKey hk a2, Result.andThen, a1]
theorem MapHas.run_lookup_ok (h : MapHas T w b g n) (ht : P.underlying t = some (.map kt et)) (hk : P.underlying kt = some T.d) (hz : ∀ w, (zeroValue et).run P w = .ok z w) (k : K) :
    (Instr.lookup t (.map (some b)) (T.of k) true).run P w = .ok (.tuple #[(g k).getD z, .bool (g k).isSome]) w := by
  obtain ⟨es, c, hb, _, ⟨a1, a2⟩ | ⟨j, e, a1, a2, _⟩⟩ := h.find k
  · simp [Instr.lookup, run_underlying ht, MapKept.run_getObj_map hb, run_checkKey hk (T.isKey k), run_findKey hk a2, Result.andThen, hz, a1]
  · simp [Instr.lookup, run_underlying ht, MapKept.run_getObj_map hb, run_checkKey hk (T.isKey k), run_findKey hk a2, Result.andThen, a1]
end
end Go.Proofs.YtpffanfpohajhaaGreat
