/- Walk of links of the reference. Condition: bounds on lengths. -/
import Derived.Test.YtpffanfpohajhaaGreatR4
namespace Go.Proofs.YtpffanfpohajhaaGreat
open Go Go.MapKept
open Go.RowKit hiding intOf

def countE (l : List (ByteArray × Int)) (n : Int) : Nat := l.countP fun p => p.2 == n
def countL (l : List NodeL) (n : Int) : Nat := (l.map fun x => countE x.ents n).sum
def linksR (l : List NodeL) (n : Int) : Int := countL l n + if n = 1 then 1 else 0
def entsR (l : List NodeL) : Nat := (l.map fun x => x.ents.length).sum

theorem countE_le (l : List (ByteArray × Int)) (n : Int) : countE l n ≤ l.length := List.countP_le_length
theorem countL_le (l : List NodeL) (n : Int) : countL l n ≤ entsR l := by
  unfold countL entsR
  induction l with
  | nil => simp
  | cons x l ih => simp only [List.map_cons, List.sum_cons]; have := countE_le x.ents n; omega
theorem countE_snoc {l : List (ByteArray × Int)} {k : Nat} {p : ByteArray × Int} (h : l[k]? = some p) (n : Int) : countE (l.take (k + 1)) n = countE (l.take k) n + if p.2 == n then 1 else 0 := by
  unfold countE
  rw [List.take_add_one, h, List.countP_append]
  simp
theorem countL_snoc {l : List NodeL} {k : Nat} {x : NodeL} (h : l[k]? = some x) (n : Int) : countL (l.take (k + 1)) n = countL (l.take k) n + countE x.ents n := by
  unfold countL
  rw [List.take_add_one, h, List.map_append, List.sum_append]
  simp
theorem ents_le {l : List NodeL} {x : NodeL} (h : x ∈ l) : x.ents.length ≤ entsR l := by
  unfold entsR
  induction l with
  | nil => cases h
  | cons y l ih =>
    simp only [List.map_cons, List.sum_cons]
    rcases List.mem_cons.1 h with rfl | h
    · omega
    · have := ih h; omega
theorem countL_part {l : List NodeL} {k j : Nat} {x : NodeL} (h : l[k]? = some x) (n : Int) : countL (l.take k) n + countE (x.ents.take j) n ≤ entsR l := by
  have h1 : countE (x.ents.take j) n ≤ countE x.ents n := by
    unfold countE
    conv => rhs; rw [← List.take_append_drop j x.ents]
    rw [List.countP_append]
    omega
  have h2 := countL_snoc h n
  have h3 : countL (l.take (k + 1)) n ≤ countL l n := by
    unfold countL
    conv => rhs; rw [← List.take_append_drop (k + 1) l]
    rw [List.map_append, List.sum_append]
    omega
  have h4 := countL_le l n
  omega

/-- An entry of a node. -/
theorem NodesRd.ent {w : World} {v : Value} {l : List (NodeL × Value × Value)} (h : NodesRd w v l) {k : Nat} {nd : NodeL} {dv : Value} {a : Option Addr} {m cap : Nat} (hk : l[k]? = some (nd, dv, .slice a m cap)) {j : Nat} {p : ByteArray × Int} (hj : nd.ents[j]? = some p) :
    ∃ b o, a = some ⟨b, o, none⟩ ∧ w.cell? ⟨b, o + j * 2, none⟩ = some (.string p.1) ∧ w.cell? ⟨b, o + j * 2 + 1, none⟩ = some (.int .i64 p.2) := by
  obtain ⟨_, pe⟩ := h.parts _ (List.mem_of_getElem? hk)
  have hlt := (List.getElem?_eq_some_iff.1 hj).1
  obtain ⟨b, o, rfl, hc⟩ := pe.get (by simp only; omega)
  obtain ⟨x1, x2⟩ := named_at nd.ents j p hj
  refine ⟨b, o, rfl, ?_, ?_⟩
  · have := hc _ _ x1; rwa [Nat.mul_comm 2 j] at this
  · have := hc _ _ x2; rw [Nat.mul_comm 2 j] at this; rw [Nat.add_assoc]; exact this

set_option maxRecDepth 100000 in
set_option maxHeartbeats 1000000 in
theorem links_any (v : Value) (l : List (NodeL × Value × Value)) (w : World) (h : NodesRd w v l) (n : Int) (hl : l.length ≤ 1073741824) (hs : entsR (l.map (·.1)) ≤ 281474976710656) :
    Calls Tryz.prog 77 #[v, .int .i64 n] w (IntSame (linksR (l.map (·.1)) n) w) := by
  obtain ⟨a, c, rfl⟩ := h.row.form
  have H := Lib.hid h
  have HS := Lib.hid hs
  clear h hs
  go_enter Tryz.func77, Tryz.ntmps77
  go_wp2_with fail
  go_loopw [5, 6] (fun cv iv wr => ∃ k : Nat, k ≤ l.length ∧ iv = .int .i64 k ∧ cv = .int .i64 (countL ((l.map (·.1)).take k) n : Nat) ∧ wr = w) (fun _ iv _ => l.length - (RowKit.intOf iv).toNat)
  case atStart => exact ⟨0, Nat.zero_le _, rfl, rfl, rfl⟩
  case round =>
    obtain ⟨k, hk, rfl, rfl, rfl⟩ := hrel
    by_cases hlt : k < l.length
    · obtain ⟨⟨nd, dv, ev⟩, gp⟩ : ∃ p, l[k]? = some p := ⟨_, List.getElem?_eq_getElem hlt⟩
      obtain ⟨b, o, rfl, hc⟩ := H.out.cells gp
      obtain ⟨_, pe⟩ := H.out.parts _ (List.mem_of_getElem? gp)
      simp only at pe
      obtain ⟨ea, ec, rfl⟩ := pe.form
      have x9 := hc 9 _ (by omega) rfl
      have hlt' : (k : Int) < (l.length : Int) := by omega
      have hk0 : (0 : Int) ≤ (k : Int) := by omega
      have hm : (l.map (·.1))[k]? = some nd := by rw [List.getElem?_map, gp]; rfl
      have hel : nd.ents.length ≤ 281474976710656 := Nat.le_trans (ents_le (List.mem_of_getElem? hm)) HS.out
      have HM := Lib.hid hm
      have GP := Lib.hid gp
      clear hc gp hm pe
      go_wp2_with fail
      go_loopw [5, 7] (fun cv jv wx => ∃ m : Nat, m ≤ nd.ents.length ∧ jv = .int .i64 m ∧ cv = .int .i64 (countL ((l.map (·.1)).take k) n + countE (nd.ents.take m) n : Nat) ∧ wx = wr) (fun _ jv _ => nd.ents.length - (RowKit.intOf jv).toNat)
      case atStart => exact ⟨0, Nat.zero_le _, rfl, rfl, rfl⟩
      case round =>
        obtain ⟨m, hm, rfl, rfl, rfl⟩ := hrel
        by_cases hlt2 : m < nd.ents.length
        · obtain ⟨p, hp⟩ : ∃ p, nd.ents[m]? = some p := ⟨_, List.getElem?_eq_getElem hlt2⟩
          obtain ⟨b2, o2, rfl, y1, y2⟩ := H.out.ent GP.out hp
          have hlt2' : (m : Int) < (nd.ents.length : Int) := by omega
          have hm0 : (0 : Int) ≤ (m : Int) := by omega
          have e := countE_snoc hp n
          have hb := countL_part HM.out n (j := m)
          have hS := HS.out
          have ew := wrap_add (a := (countL ((l.map (·.1)).take k) n + countE (nd.ents.take m) n : Nat)) (b := 1) (by omega) (by omega) (by omega) (by omega)
          generalize hc1 : countL ((l.map (·.1)).take k) n + countE (nd.ents.take m) n = c1 at *
          have E := Lib.hid e
          have C1 := Lib.hid hc1
          clear hp e hb hS hc1
          cases t : p.2 == n with
          | true =>
            go_wp2_with fail
            case roundEnd =>
              refine ⟨⟨m + 1, by omega, rfl, ?_, by trivial⟩, ?_⟩
              · rw [E.out, t, ← C1.out]; simp; omega
              · change nd.ents.length - ((m : Int) + 1).toNat < nd.ents.length - (m : Int).toNat; omega
          | false =>
            go_wp2_with fail
            case roundEnd =>
              refine ⟨⟨m + 1, by omega, rfl, ?_, by trivial⟩, ?_⟩
              · rw [E.out, t, ← C1.out]; simp
              · change nd.ents.length - ((m : Int) + 1).toNat < nd.ents.length - (m : Int).toNat; omega
        · have hlt2' : ¬ (m : Int) < (nd.ents.length : Int) := by omega
          have e : countL ((l.map (·.1)).take k) n + countE (nd.ents.take m) n = countL ((l.map (·.1)).take (k + 1)) n := by
            rw [countL_snoc HM.out, List.take_of_length_le (l := nd.ents) (by omega)]
          rw [e]
          clear e
          go_wp2_with fail
          case roundEnd =>
            refine ⟨⟨k + 1, by omega, rfl, rfl, by trivial⟩, ?_⟩
            change l.length - ((k : Int) + 1).toNat < l.length - (k : Int).toNat; omega
    · have hlt' : ¬ (k : Int) < (l.length : Int) := by omega
      have q : countL ((l.map (·.1)).take k) n = countL (l.map (·.1)) n := by rw [List.take_of_length_le (by simp; omega)]
      rw [q]
      have hb := countL_le (l.map (·.1)) n
      have hS := HS.out
      have ew := wrap_add (a := (countL (l.map (·.1)) n : Nat)) (b := 1) (by omega) (by omega) (by omega) (by omega)
      have hf : linksR (l.map (·.1)) n = countL (l.map (·.1)) n + if n = 1 then 1 else 0 := rfl
      have HF := Lib.hid hf
      clear q hf hb hS
      by_cases hn : n = 1
      · subst hn
        rw [if_pos rfl] at HF
        go_wp2_with fail
        go_ret
        exact ⟨ret_int HF.out.symm, rfl⟩
      · rw [if_neg hn, Int.add_zero] at HF
        have hn' : (n == 1) = false := by simpa using hn
        go_wp2_with fail
        go_ret
        exact ⟨ret_int HF.out.symm, rfl⟩
end Go.Proofs.YtpffanfpohajhaaGreat
