/- Walk of takes: bytes taken by a hash. Condition: bounds; the bytes lie apart from the hash; the table of cubes is as laid. -/
import Derived.Test.YtmnlebkpneeblaaDoorF
namespace Go.Proofs.YtmnlebkpneeblaaDoor
open Go Go.RowKit

/-- The blocks of 64 taken off a text, one behind the other. -/
def absorb (v : S8) (l : List UInt8) : S8 × List UInt8 := if 64 ≤ l.length then absorb (v.takes (l.take 64)) (l.drop 64) else (v, l)
termination_by l.length
decreasing_by rw [List.length_drop]; omega
theorem absorb_ge {v : S8} {l : List UInt8} (h : 64 ≤ l.length) : absorb v l = absorb (v.takes (l.take 64)) (l.drop 64) := by
  rw [absorb, if_pos h]
theorem absorb_lt {v : S8} {l : List UInt8} (h : ¬ 64 ≤ l.length) : absorb v l = (v, l) := by
  rw [absorb, if_neg h]

/-- The world is the old one but for what lies in S and what is new. -/
structure Chg (S : Nat → Prop) (w w' : World) : Prop where
  os : w'.os = w.os
  tape : w'.tape = w.tape
  output : w'.output = w.output
  size : w.heap.size ≤ w'.heap.size
  block : ∀ k, k < w.heap.size → ¬ S k → w'.heap[k]? = w.heap[k]?
theorem Chg.refl (S : Nat → Prop) (w : World) : Chg S w w := ⟨rfl, rfl, rfl, Nat.le_refl _, fun _ _ _ => rfl⟩
theorem Chg.of_below {w w' : World} (h : Below w.heap.size w w') (S : Nat → Prop) : Chg S w w' := ⟨h.os, h.tape, h.output, h.size, fun k hk _ => h.block k hk⟩
theorem Chg.below {S : Nat → Prop} {B : Nat} {w w' : World} (h : Chg S w w') (hB : B ≤ w.heap.size) (hs : ∀ k, S k → B ≤ k) : Below B w w' := ⟨h.os, h.tape, h.output, h.size, fun k hk => h.block k (by omega) (fun x => by have := hs k x; omega)⟩
theorem Chg.trans {S : Nat → Prop} {a b c : World} (h : Chg S a b) (k : Chg S b c) : Chg S a c :=
  ⟨k.os.trans h.os, k.tape.trans h.tape, k.output.trans h.output, Nat.le_trans h.size k.size, fun i hi hn => (k.block i (Nat.lt_of_lt_of_le hi h.size) hn).trans (h.block i hi hn)⟩
theorem Chg.of_only {p : Nat} {S : Nat → Prop} {w w' : World} (h : Only p w w') (hs : S p) : Chg S w w' := ⟨h.os, h.tape, h.output, h.size, fun k hk hn => h.block k hk (fun e => hn (e ▸ hs))⟩
theorem Chg.of_grown {S : Nat → Prop} {row : Option Nat} {w w' : World} (h : w.grownBy w' row) (hs : ∀ b, row = some b → S b) : Chg S w w' := by
  obtain ⟨h1, h2, h3, h4, h5⟩ := h
  exact ⟨h1, h2, h3, h4, fun k hk hn => h5 k hk (fun e => hn (hs k e.symm))⟩

theorem Src8.form {w : World} {v : Value} {l : List UInt8} (h : Src8 w v l) : ∃ a c, v = .slice a l.length c := by
  rcases h with ⟨a, rfl, rfl⟩ | ⟨g, o, c, rfl, _⟩
  · exact ⟨_, _, rfl⟩
  · exact ⟨_, _, rfl⟩
end Go.Proofs.YtmnlebkpneeblaaDoor
