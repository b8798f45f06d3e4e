/- Walks of bytes and Free of the reference. Condition: bounds on lengths. -/
import Derived.Test.YtpffanfpohajhaaGreatR3
namespace Go.Proofs.YtpffanfpohajhaaGreat
open Go Go.MapKept
open Go.RowKit hiding intOf

def bytesR (l : List NodeL) : Nat := (l.map fun x => x.data.length).sum

set_option maxRecDepth 100000 in
set_option maxHeartbeats 1000000 in
theorem bytes_any (v : Value) (l : List (NodeL × Value × Value)) (w : World) (h : NodesRd w v l) (hl : l.length ≤ 1073741824) (hs : bytesR (l.map (·.1)) ≤ 281474976710656) :
    Calls Tryz.prog 100 #[v] w (IntSame (bytesR (l.map (·.1))) w) := by
  obtain ⟨a, c, rfl⟩ := h.row.form
  have H := Lib.hid h
  have HS := Lib.hid hs
  clear h hs
  go_enter Tryz.func100, Tryz.ntmps100
  go_wp2_with fail
  go_loopw [3, 4] (fun iv jv wr => ∃ k : Nat, k ≤ l.length ∧ jv = .int .i64 k ∧ iv = .int .i64 (bytesR ((l.map (·.1)).take k) : Nat) ∧ wr = w) (fun _ jv _ => l.length - (RowKit.intOf jv).toNat)
  case atStart => exact ⟨0, Nat.zero_le _, rfl, rfl, rfl⟩
  case round =>
    obtain ⟨k, hk, rfl, rfl, rfl⟩ := hrel
    by_cases hlt : k < l.length
    · obtain ⟨⟨nd, dv, ev⟩, gp⟩ : ∃ p, l[k]? = some p := ⟨_, List.getElem?_eq_getElem hlt⟩
      obtain ⟨b, o, rfl, hc⟩ := H.out.cells gp
      obtain ⟨pd, _⟩ := H.out.parts _ (List.mem_of_getElem? gp)
      simp only at pd
      obtain ⟨da, dc, rfl⟩ := pd.form
      have x7 := hc 7 _ (by omega) rfl
      have hlt' : (k : Int) < (l.length : Int) := by omega
      have hk0 : (0 : Int) ≤ (k : Int) := by omega
      have hm : (l.map (·.1))[k]? = some nd := by rw [List.getElem?_map, gp]; rfl
      have e : bytesR ((l.map (·.1)).take (k + 1)) = bytesR ((l.map (·.1)).take k) + nd.data.length := by
        unfold bytesR
        rw [List.take_add_one, hm, List.map_append, List.sum_append]
        simp
      have hle : bytesR ((l.map (·.1)).take (k + 1)) ≤ bytesR (l.map (·.1)) := by
        unfold bytesR
        conv => rhs; rw [← List.take_append_drop (k + 1) (l.map (·.1))]
        rw [List.map_append, List.sum_append]
        omega
      have hS := HS.out
      generalize bytesR ((l.map (·.1)).take k) = s0 at *
      have E := Lib.hid e
      have hb1 : s0 ≤ 281474976710656 := by omega
      have hb2 : nd.data.length ≤ 281474976710656 := by omega
      clear hc gp hm pd hle e hS
      have ew := wrap_add (a := s0) (b := nd.data.length) (by omega) (by omega) (by omega) (by omega)
      go_wp2_with fail
      case roundEnd =>
        refine ⟨⟨k + 1, by omega, rfl, ?_, by trivial⟩, ?_⟩
        · rw [E.out]; simp
        · change l.length - ((k : Int) + 1).toNat < l.length - (k : Int).toNat; omega
    · have hlt' : ¬ (k : Int) < (l.length : Int) := by omega
      have q : bytesR ((l.map (·.1)).take k) = bytesR (l.map (·.1)) := by rw [List.take_of_length_le (by simp; omega)]
      rw [q]
      clear q
      go_wp2_with fail
      go_ret
      exact ⟨rfl, rfl⟩

def freeRR (R : Rf) : Int × Int := (R.img.nodes - R.img.list.length, R.img.bytes - bytesR R.img.list)

def TwoQuiet (x : Int × Int) (w : World) (e : Ending) (w' : World) : Prop := Two x e ∧ ∃ n, w' = w.drewN n

set_option maxRecDepth 100000 in
set_option maxHeartbeats 1000000 in
theorem FreeR_any (q : Nat) (R : Rf) (l : List (NodeL × Value × Value)) (lv tv : Value) (w : World) (h : RefAt w q R l lv tv) (hl : l.length ≤ 1073741824) (hs : bytesR R.img.list ≤ 4194304)
    (h1 : 0 ≤ R.img.nodes ∧ R.img.nodes ≤ 140737488355328) (h2 : 0 ≤ R.img.bytes ∧ R.img.bytes ≤ 140737488355328) :
    Calls Tryz.prog 70 #[ptr q] w (TwoQuiet (freeRR R) w) := by
  have c0 : w.cell? ⟨q, 0, none⟩ = some (.int .i64 R.img.nodes) := h.row.cell 0 rfl
  have c1 : w.cell? ⟨q, 1, none⟩ = some (.int .i64 R.img.bytes) := h.row.cell 1 rfl
  have c3 : w.cell? ⟨q, 3, none⟩ = some lv := h.row.cell 3 rfl
  have hcall : ∀ n, Calls Tryz.prog 100 #[lv] (w.drewN n) (IntSame (bytesR R.img.list) (w.drewN n)) := fun n => by
    have := bytes_any lv l (w.drewN n) (h.below (below_drewN (Below.refl _ _) n)).rd hl (by rw [h.list]; omega)
    rwa [h.list] at this
  have HC := Lib.hid hcall
  have hll : (R.img.list.length : Int) = l.length := by rw [← h.list]; simp
  obtain ⟨a, c, rfl⟩ := h.rd.row.form
  have e1 := wrap_sub h1.1 h1.2 (b := l.length) (by omega) (by omega)
  have e2 := wrap_sub h2.1 h2.2 (b := bytesR R.img.list) (by omega) (by omega)
  have hf : freeRR R = (R.img.nodes - (l.length : Int), R.img.bytes - bytesR R.img.list) := by unfold freeRR; rw [hll]
  have HF := Lib.hid hf
  clear h hcall hll hf
  unfold ptr
  go_enter Tryz.func70, Tryz.ntmps70
  go_wp2
  go_quiet ((go_at_call 100; exact Calls.quiet_of_same (HC.out _)))
  go_wp2
  go_ret2
  exact ⟨Two.mk HF.out, _, rfl⟩
end Go.Proofs.YtpffanfpohajhaaGreat
