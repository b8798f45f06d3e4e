/- A world whose own rows have kept their shapes: what writing over and appends that are thrown away leave. No condition. -/
import Derived.Test.YtpffanfpohajhaaGreatR1
import Derived.Deep.MidRow
namespace Go.Proofs.YtpffanfpohajhaaGreat
open Go Go.MapKept
open Go.RowKit hiding intOf

/-- From w to w' only own rows (from block base on) were written, in cells that K does not keep; all rows are as long as they were. -/
structure Step (K : TypeId → Nat → Prop) (base : Nat) (w w' : World) : Prop where
  below : Below base w w'
  shape : ∀ (k : Nat) (cur : Array Value) (e : TypeId), w.heap[k]? = some (Obj.cells cur e (0, 0)) → ∃ cur' : Array Value, w'.heap[k]? = some (Obj.cells cur' e (0, 0)) ∧ cur'.size = cur.size ∧ ∀ j, K e j → cur'[j]? = cur[j]?

theorem Step.refl (K : TypeId → Nat → Prop) (base : Nat) (w : World) : Step K base w w := ⟨Below.refl _ _, fun _ cur _ h => ⟨cur, h, rfl, fun _ _ => rfl⟩⟩
theorem Step.trans {K : TypeId → Nat → Prop} {base : Nat} {a b c : World} (h : Step K base a b) (k : Step K base b c) : Step K base a c :=
  ⟨h.below.trans k.below, fun i cur e hi => by
    obtain ⟨c1, h1, h2, h3⟩ := h.shape i cur e hi
    obtain ⟨c2, k1, k2, k3⟩ := k.shape i c1 e h1
    exact ⟨c2, k1, k2.trans h2, fun j hj => (k3 j hj).trans (h3 j hj)⟩⟩
theorem Step.alloc {K : TypeId → Nat → Prop} {base : Nat} {a w : World} (h : Step K base a w) (hb : base ≤ w.heap.size) (o : Obj) : Step K base a (w.alloc o) :=
  h.trans ⟨(Below.refl _ _).alloc hb o, fun k cur e hk => ⟨cur, ((heap_alloc_old w o (Array.getElem?_eq_some_iff.1 hk).1)).trans hk, rfl, fun _ _ => rfl⟩⟩
theorem Step.drewN {K : TypeId → Nat → Prop} {base : Nat} {a w : World} (h : Step K base a w) (n : Nat) : Step K base a (w.drewN n) :=
  h.trans ⟨below_drewN (Below.refl _ _) n, fun _ cur _ hk => ⟨cur, hk, rfl, fun _ _ => rfl⟩⟩
theorem Step.drew {K : TypeId → Nat → Prop} {base : Nat} {a w : World} (h : Step K base a w) : Step K base a w.drew :=
  h.trans ⟨(Below.refl _ _).drew, fun _ cur _ hk => ⟨cur, hk, rfl, fun _ _ => rfl⟩⟩

theorem heap_setCell_same (w : World) (b o : Nat) (v : Value) {cur : Array Value} {e : TypeId} {fr : Nat × Nat} (h : w.heap[b]? = some (.cells cur e fr)) :
    (w.setCell ⟨b, o, none⟩ v).heap[b]? = some (.cells (cur.setIfInBounds o v) e fr) := by
  simp [World.setCell, Array.getElem?_modify, h]

theorem Step.setCell {K : TypeId → Nat → Prop} {base : Nat} (w : World) (b o : Nat) (v : Value) {cur : Array Value} {e : TypeId} (h : w.heap[b]? = some (.cells cur e (0, 0))) (hb : base ≤ b) (hk : ¬ K e o) :
    Step K base w (w.setCell ⟨b, o, none⟩ v) := by
  refine ⟨(Below.refl _ _).setCell (p := ⟨b, o, none⟩) hb v, fun k cur' e' hh => ?_⟩
  by_cases hkb : k = b
  · subst hkb
    rw [h] at hh
    injection hh with hh
    injection hh with h1 h2 h3
    subst h1 h2
    refine ⟨_, heap_setCell_same w k o v h, by simp, fun j hj => ?_⟩
    rw [Array.getElem?_setIfInBounds]
    split
    · rename_i hjo; subst hjo; exact absurd hj hk
    · rfl
  · exact ⟨cur', (Below.heap_setCell w _ v k hkb).trans hh, rfl, fun _ _ => rfl⟩

theorem Step.setCells {K : TypeId → Nat → Prop} {base b : Nat} {e : TypeId} (hb : base ≤ b) (hk : ∀ j, ¬ K e j) : ∀ (vs : List Value) (o : Nat) (w : World) {cur : Array Value}, w.heap[b]? = some (.cells cur e (0, 0)) → Step K base w (w.setCells b o vs)
  | [], _, w, _, _ => Step.refl _ _ _
  | v :: r, o, w, _, h => (Step.setCell w b o v h hb (hk _)).trans (Step.setCells hb hk r (o + 1) _ (heap_setCell_same w b o v h))

/-- An own row, whatever lies in it. -/
def Sh (w : World) (base : Nat) (e : TypeId) (size : Nat) (v : Value) (n : Nat) : Prop :=
  (v = .slice none 0 0 ∧ n = 0) ∨ ∃ g cap cur, v = .slice (some ⟨g, 0, none⟩) n cap ∧ base ≤ g ∧ w.heap[g]? = some (.cells cur e (0, 0)) ∧ n ≤ cap ∧ cap ≤ maxLen ∧ cur.size = cap * size

theorem Sh.of_own {w : World} {base : Nat} {e : TypeId} {size : Nat} {v : Value} {n : Nat} {xs : List Value} (h : w.ownsRow base e size v n xs) : Sh w base e size v n := by
  rcases h.2 with h | ⟨g, cap, cur, h1, h2, h3, h4, h5, h6, _⟩
  · exact .inl h
  · exact .inr ⟨g, cap, cur, h1, h2, h3, h4, h5, h6⟩
theorem Sh.own {w : World} {base : Nat} {e : TypeId} {size : Nat} {v : Value} {n : Nat} (h : Sh w base e size v n) : ∃ xs, w.ownsRow base e size v n xs := by
  rcases h with ⟨rfl, rfl⟩ | ⟨g, cap, cur, h1, h2, h3, h4, h5, h6⟩
  · exact ⟨[], World.ownsRow_nil _ _ _ _⟩
  · refine ⟨_, ?_, .inr ⟨g, cap, cur, h1, h2, h3, h4, h5, h6, rfl⟩⟩
    rw [List.length_take, Array.length_toList, h6]
    exact Nat.min_eq_left (Nat.mul_le_mul_right _ h4)
theorem Sh.step {K : TypeId → Nat → Prop} {b : Nat} {w w' : World} {base : Nat} {e : TypeId} {size : Nat} {v : Value} {n : Nat} (h : Sh w base e size v n) (hs : Step K b w w') : Sh w' base e size v n := by
  rcases h with h | ⟨g, cap, cur, h1, h2, h3, h4, h5, h6⟩
  · exact .inl h
  · obtain ⟨cur', k1, k2, _⟩ := hs.shape g cur e h3
    exact .inr ⟨g, cap, cur', h1, h2, k1, h4, h5, k2.trans h6⟩
theorem Sh.form {w : World} {base : Nat} {e : TypeId} {size : Nat} {v : Value} {n : Nat} (h : Sh w base e size v n) : ∃ a cap, v = .slice a n cap := by
  rcases h with ⟨rfl, rfl⟩ | ⟨g, cap, cur, rfl, _⟩
  · exact ⟨_, _, rfl⟩
  · exact ⟨_, _, rfl⟩
/-- A cell of an element of it: it is there, and may be written. -/
theorem Sh.at {w : World} {base : Nat} {e : TypeId} {size : Nat} {a : Option Addr} {cap n : Nat} (h : Sh w base e size (.slice a n cap) n) (hn : 0 < n) :
    ∃ g cur, a = some ⟨g, 0, none⟩ ∧ base ≤ g ∧ w.heap[g]? = some (.cells cur e (0, 0)) ∧ n * size ≤ cur.size := by
  rcases h with ⟨_, rfl⟩ | ⟨g, cap', cur, h1, h2, h3, h4, h5, h6⟩
  · omega
  · injection h1 with h1 _ _
    exact ⟨g, cur, h1, h2, h3, by rw [h6]; exact Nat.mul_le_mul_right _ h4⟩

theorem there_of {w : World} {g : Nat} {cur : Array Value} {e : TypeId} (h : w.heap[g]? = some (.cells cur e (0, 0))) {o n : Nat} (hn : o + n ≤ cur.size) : w.there g o n := by
  intro j hj
  refine ⟨?_, by simp [World.frozen?, h]⟩
  have : o + j < cur.size := by omega
  simp [World.cell?, h, this]

/-- append onto an own row: the old one keeps its shape, whether it is the new one or not. -/
theorem run_append_step {P : Program} (w : World) (K : TypeId → Nat → Prop) (base : Nat) (t ty e : TypeId) (i : TypeInfo) (z : Value) (size bytes : Nat) (ht : P.underlying t = some (.slice e)) (hi : P.info? e = some i) (hz : i.zero = some z)
    (hsize : i.size = size) (hby : i.bytes = bytes) (v : Value) (n : Nat) (xs : List Value) (hown : w.ownsRow base e size v n xs)
    (a : Addr) (m c : Nat) (news : List Value) (hl : news.length = m * size) (hnews : ∀ j u, news[j]? = some u → w.cell? (a.add j) = some u) (h1 : ∀ u ∈ news, u.oneCell' = true)
    (h63 : n + m ≤ maxLen) (hbytes : (n + m) * bytes ≤ 140737488355328) (hbase : base ≤ w.heap.size) (hk : ∀ j, ¬ K e j) (hm : 0 < m) :
    ∃ v' w', (Builtin.append_ #[t, t] ty #[v, .slice (some a) m c]).run P w = .ok v' w' ∧ Step K base w w' := by
  subst hsize
  subst hby
  have hsmall : n + m ≤ 9223372036854775807 := by simp only [maxLen] at h63; omega
  rcases hown.2 with ⟨rfl, rfl⟩ | ⟨g, cap, cur, rfl, hbg, hg, hnc, hcm, hcs, htake⟩
  · have hr := run_append_nil (P := P) w t ty e i z ht hi hz a m c news hl hnews (by omega) (by omega) (by have hb := hbytes; simp only [Nat.zero_add] at hb; omega)
    exact ⟨_, _, hr, ((Step.refl K base w).drew).alloc hbase _⟩
  · by_cases hroom : n + m ≤ cap
    · have hfit : n * i.size + news.length ≤ cur.size := by rw [hl, hcs, ← Nat.add_mul]; exact Nat.mul_le_mul_right _ hroom
      have hr := run_append_room (P := P) w t ty e i ht hi g n cap cur hg a m c news hl hnews h1 hroom hfit
      refine ⟨_, _, hr, ⟨⟨rfl, rfl, rfl, ?_, fun k hk => setRow_other w g k _ (by omega)⟩, fun k cur' e' hh => ?_⟩⟩
      · simp [World.setRow]
      · by_cases hkg : k = g
        · subst hkg
          rw [hg] at hh
          injection hh with hh
          injection hh with h1 h2 h3
          subst h1 h2
          refine ⟨_, setRow_heap w k cur _ e _ hg, ?_, fun j hj => absurd hj (hk j)⟩
          simp only [List.size_toArray, List.length_append, List.length_take, List.length_drop, Array.length_toList]
          omega
        · exact ⟨cur', (setRow_other w g k _ hkg).trans hh, rfl, fun _ _ => rfl⟩
    · have holds : ∀ j u, xs[j]? = some u → w.cell? ((⟨g, 0, none⟩ : Addr).add j) = some u := hown.cells (g := g) rfl
      have hr := run_append_grow (P := P) w t ty e i z ht hi hz ⟨g, 0, none⟩ n cap xs hown.1 holds a m c news hl hnews (by omega) (by omega) (growslice_fits (by omega) hbytes)
      exact ⟨_, _, hr, ((Step.refl K base w).drew).alloc hbase _⟩

theorem wpList_append_step {P : Program} {w : World} {ops : Array Oper} {rest : List Oper} {o : Oper} {a : Act} {Q : Exit → Act → World → Prop} (hgd : o.guard = none) (s x : Operand) (t : TypeId)
    (ho : o.op = .call { callee := .builtin .append, args := #[s, x], argTypes := #[t, t] })
    (K : TypeId → Nat → Prop) (base : Nat) (e : TypeId) (i : TypeInfo) (z : Value) (size bytes : Nat) (ht : P.underlying t = some (.slice e)) (hi : P.info? e = some i) (hz : i.zero = some z)
    (hsize : i.size = size) (hby : i.bytes = bytes)
    (v : Value) (n : Nat) (hs : a.eval s = v) (hsh : Sh w base e size v n)
    (ad : Addr) (m c : Nat) (news : List Value) (hx : a.eval x = .slice (some ad) m c) (hl : news.length = m * size) (hnews : ∀ j u, news[j]? = some u → w.cell? (ad.add j) = some u) (h1 : ∀ u ∈ news, u.oneCell' = true)
    (h63 : n + m ≤ maxLen) (hbytes : (n + m) * bytes ≤ 140737488355328) (hbase : base ≤ w.heap.size) (hk : ∀ j, ¬ K e j) (hm : 0 < m)
    (h : ∀ v' w', Step K base w w' → wpList P ops Q rest (a.put o.dst v') w') :
    wpList P ops Q (o :: rest) a w := by
  refine wpList_plain hgd fun K' hK => ?_
  obtain ⟨xs, hown⟩ := hsh.own
  obtain ⟨v', w', hr, h2⟩ := run_append_step (P := P) w K base t o.type e i z size bytes ht hi hz hsize hby v n xs hown ad m c news hl hnews h1 h63 hbytes hbase hk hm
  unfold Oper.wp execOp
  simp only [ho, resolve, invoke, builtin, Sem.run_bind, Sem.run_pure, Result.andThen_ok, List.map_toArray, List.map_cons, List.map_nil, hs, hx, hr]
  exact hK _ _ (h v' w' h2)
end Go.Proofs.YtpffanfpohajhaaGreat
