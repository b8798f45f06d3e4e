/- Readings of nodes; walks of SameNode and Same of the reference. Condition: bounds on lengths. -/
import Derived.Test.YtpffanfpohajhaaGreatH1
namespace Go.Proofs.YtpffanfpohajhaaGreat
open Go Go.MapKept
open Go.RowKit hiding intOf

/-- A slice that reads as cells, `size` to an element. -/
def Rd (w : World) (v : Value) (n size : Nat) (xs : List Value) : Prop :=
  xs.length = n * size ∧ ((∃ cap, v = .slice none n cap ∧ n = 0) ∨ ∃ b o cap, v = .slice (some ⟨b, o, none⟩) n cap ∧ ∀ j u, xs[j]? = some u → b < w.heap.size ∧ w.cell? ⟨b, o + j, none⟩ = some u)

theorem Rd.of_own {w : World} {base : Nat} {e : TypeId} {size n : Nat} {v : Value} {xs : List Value} (h : w.ownsRow base e size v n xs) : Rd w v n size xs := by
  have h0 := h
  obtain ⟨h1, ⟨rfl, rfl⟩ | ⟨g, cap, cur, rfl, h3, h4, h5⟩⟩ := h
  · exact ⟨h1, .inl ⟨0, rfl, rfl⟩⟩
  · refine ⟨h1, .inr ⟨g, 0, cap, rfl, fun j u hj => ⟨(Array.getElem?_eq_some_iff.1 h4).1, ?_⟩⟩⟩
    have := h0.cells (g := g) rfl j u hj
    have e : (⟨g, 0, none⟩ : Addr).add j = ⟨g, j, none⟩ := by unfold Addr.add; split <;> simp_all
    rw [e] at this
    rw [Nat.zero_add]; exact this
theorem Rd.below {w w' : World} {v : Value} {n size : Nat} {xs : List Value} (h : Rd w v n size xs) (hb : Below w.heap.size w w') : Rd w' v n size xs := by
  obtain ⟨h1, h2 | ⟨b, o, cap, rfl, h3⟩⟩ := h
  · exact ⟨h1, .inl h2⟩
  · refine ⟨h1, .inr ⟨b, o, cap, rfl, fun j u hj => ?_⟩⟩
    obtain ⟨hlt, hc⟩ := h3 j u hj
    exact ⟨Nat.lt_of_lt_of_le hlt hb.size, (hb.cell (p := ⟨b, o + j, none⟩) hlt).trans hc⟩
theorem Rd.form {w : World} {v : Value} {n size : Nat} {xs : List Value} (h : Rd w v n size xs) : ∃ a cap, v = .slice a n cap := by
  obtain ⟨_, ⟨cap, rfl, _⟩ | ⟨b, o, cap, rfl, _⟩⟩ := h
  · exact ⟨_, cap, rfl⟩
  · exact ⟨_, cap, rfl⟩

theorem Rd.get {w : World} {a : Option Addr} {n m cap size : Nat} {xs : List Value} (h : Rd w (.slice a n cap) m size xs) (hp : 0 < m) : ∃ b o, a = some ⟨b, o, none⟩ ∧ ∀ j u, xs[j]? = some u → w.cell? ⟨b, o + j, none⟩ = some u := by
  obtain ⟨h1, ⟨cap', e, h0⟩ | ⟨b, o, cap', e, h3⟩⟩ := h
  · omega
  · injection e with e _ _
    subst e
    exact ⟨b, o, rfl, fun j u hj => (h3 j u hj).2⟩

theorem strOfNums_bytes (l : List UInt8) : strOfNums (l.map fun b => (b.toNat : Int)) = ⟨l.toArray⟩ := by
  unfold strOfNums
  congr 2
  rw [List.map_map]
  conv => rhs; rw [← List.map_id l]
  refine List.map_congr_left fun b _ => ?_
  simp

theorem Rd.conv {w : World} {v : Value} {l : List UInt8} (h : Rd w v l.length 1 (u8s l)) : (convert 34 9 v).run Tryz.prog w = .ok (.string ⟨l.toArray⟩) w := by
  obtain ⟨h2, ⟨cap, rfl, h0⟩ | ⟨b, o, cap, rfl, h3⟩⟩ := h
  · obtain rfl : l = [] := List.eq_nil_of_length_eq_zero h0
    exact run_convert_bytes_nil w 34 5 Tryz.underlying34 Tryz.underlying5 0 cap 9 Tryz.underlying9
  · have := run_convert_bytes_arg (P := Tryz.prog) w 34 5 Tryz.underlying34 Tryz.underlying5 b o l.length cap (l.map fun b => (b.toNat : Int)) (by simp) (fun i hi => by
      obtain ⟨_, hc⟩ := h3 i (.int .u8 ((l[i]'hi).toNat)) (by rw [u8s, List.getElem?_map, List.getElem?_eq_getElem hi]; rfl)
      rw [hc, List.getD_eq_getElem?_getD, List.getElem?_map, List.getElem?_eq_getElem hi]; rfl) 9 Tryz.underlying9
    rw [this, strOfNums_bytes]

theorem named_at (l : List (ByteArray × Int)) (k : Nat) (p : ByteArray × Int) (h : l[k]? = some p) : (named l)[2 * k]? = some (.string p.1) ∧ (named l)[2 * k + 1]? = some (.int .i64 p.2) := by
  induction l generalizing k with
  | nil => simp at h
  | cons q l ih =>
    cases k with
    | zero => simp only [List.getElem?_cons_zero, Option.some.injEq] at h; subst h; simp [named]
    | succ k =>
      have := ih k (by simpa using h)
      have e : named (q :: l) = [.string q.1, .int .i64 q.2] ++ named l := by simp [named]
      rw [e]
      constructor
      · rw [List.getElem?_append_right (by simp; omega)]
        simpa [show 2 * (k + 1) - 2 = 2 * k from by omega] using this.1
      · rw [List.getElem?_append_right (by simp; omega)]
        simpa [show 2 * (k + 1) + 1 - 2 = 2 * k + 1 from by omega] using this.2

theorem meta_neq (a b : Mt) (w : World) : (binOp .neq 33 (.agg #[.int .u32 a.mode, .int .u32 a.uid, .int .u32 a.gid, .int .i64 a.time, .int .i32 a.nano]) (.agg #[.int .u32 b.mode, .int .u32 b.uid, .int .u32 b.gid, .int .i64 b.time, .int .i32 b.nano])).run Tryz.prog w = .ok (.bool (!decide (a = b))) w := by
  go_simp
  obtain ⟨a1, a2, a3, a4, a5⟩ := a
  obtain ⟨b1, b2, b3, b4, b5⟩ := b
  simp only [Mt.mk.injEq]
  by_cases h1 : a1 = b1 <;> by_cases h2 : a2 = b2 <;> by_cases h3 : a3 = b3 <;> by_cases h4 : a4 = b4 <;> by_cases h5 : a5 = b5 <;> simp [h1, h2, h3, h4, h5]
theorem str_eq (a b : ByteArray) : (a.toList == b.toList) = decide (a = b) := by
  rw [ByteArray.toList_eq, ByteArray.toList_eq, Bool.eq_iff_iff, beq_iff_eq, decide_eq_true_eq]
  constructor
  · intro h
    obtain ⟨⟨x⟩⟩ := a
    obtain ⟨⟨y⟩⟩ := b
    simp only at h
    rw [h]
  · rintro rfl; rfl
theorem named_neq (a b : ByteArray × Int) (w : World) : (binOp .neq 101 (.agg #[.string a.1, .int .i64 a.2]) (.agg #[.string b.1, .int .i64 b.2])).run Tryz.prog w = .ok (.bool (!decide (a = b))) w := by
  go_simp
  obtain ⟨a1, a2⟩ := a
  obtain ⟨b1, b2⟩ := b
  have hs := str_eq a1 b1
  simp only [Prod.mk.injEq]
  by_cases h1 : a1 = b1 <;> by_cases h2 : a2 = b2 <;> simp [h1, h2] at hs ⊢ <;> simp [hs]
theorem data_eq (a b : List UInt8) : (decide ((⟨a.toArray⟩ : ByteArray) = ⟨b.toArray⟩)) = decide (a = b) := by
  rw [decide_eq_decide]
  constructor
  · intro h
    injection h with h
    have := congrArg Array.toList h
    simpa using this
  · rintro rfl; rfl

/-- What a call that looks alone hands back. -/
def BoolBelow (b : Bool) (w : World) (e : Ending) (w' : World) : Prop := e = .returned (.bool b) ∧ Below w.heap.size w w'

set_option maxRecDepth 100000 in
set_option maxHeartbeats 4000000 in
theorem sameNode_any (a b : NodeL) (av bv : Value × Value) (w : World) (ha : Rd w av.1 a.data.length 1 (u8s a.data)) (hb : Rd w bv.1 b.data.length 1 (u8s b.data))
    (ha2 : Rd w av.2 a.ents.length 2 (named a.ents)) (hb2 : Rd w bv.2 b.ents.length 2 (named b.ents)) (hl : a.ents.length ≤ 140737488355328) :
    Calls Tryz.prog 36 #[.agg (nodeCells a av).toArray, .agg (nodeCells b bv).toArray] w (BoolBelow (decide (a = b)) w) := by
  have hB : Below w.heap.size w ((w.alloc (.cells (nodeCells a av).toArray 76)).alloc (.cells (nodeCells b bv).toArray 76)) := ((Below.refl _ _).alloc (Nat.le_refl _) _).alloc (by simp) _
  have hca := (ha.below hB).conv
  have hcb := (hb.below hB).conv
  obtain ⟨aa, ac, ea⟩ := ha.form
  obtain ⟨ba, bc, eb⟩ := hb.form
  obtain ⟨aa2, ac2, ea2⟩ := ha2.form
  obtain ⟨ba2, bc2, eb2⟩ := hb2.form
  have HA2 := Lib.hid (ha2.below hB)
  have HB2 := Lib.hid (hb2.below hB)
  have HB := Lib.hid hB
  obtain ⟨av1, av2⟩ := av
  obtain ⟨bv1, bv2⟩ := bv
  simp only at ea eb ea2 eb2
  subst ea eb ea2 eb2
  have hme := meta_neq a.mt b.mt
  simp only [nodeCells] at hca hcb HA2 HB2 HB ⊢
  have hda := data_eq a.data b.data
  generalize (⟨a.data.toArray⟩ : ByteArray) = sa at hca hda
  generalize (⟨b.data.toArray⟩ : ByteArray) = sb at hcb hda
  clear ha hb ha2 hb2 hB
  cases t1 : a.number != b.number with
  | true =>
    have hne : decide (a = b) = false := decide_eq_false (by rintro rfl; simp at t1)
    rw [hne]
    clear hne hda hme
    go_enter Tryz.func36, Tryz.ntmps36
    go_wp2_with fail
    go_ret
    exact ⟨rfl, HB.out⟩
  | false =>
    have q1 : a.number = b.number := by simpa using t1
    have Q1 := Lib.hid q1
    clear q1
    cases t2 : a.kind != b.kind with
    | true =>
      have hne : decide (a = b) = false := decide_eq_false (by rintro rfl; simp at t2)
      rw [hne]
      clear hne hda hme
      go_enter Tryz.func36, Tryz.ntmps36
      go_wp2_with fail
      go_ret
      exact ⟨rfl, HB.out⟩
    | false =>
      have q2 : a.kind = b.kind := by simpa using t2
      have Q2 := Lib.hid q2
      clear q2
      cases t3 : !decide (a.mt = b.mt) with
      | true =>
        rw [t3] at hme
        have hne : decide (a = b) = false := decide_eq_false (by rintro rfl; simp at t3)
        rw [hne]
        clear hne hda t3
        go_enter Tryz.func36, Tryz.ntmps36
        go_wp2_with fail
        go_ret
        exact ⟨rfl, HB.out⟩
      | false =>
        rw [t3] at hme
        have q3 : a.mt = b.mt := by simpa using t3
        have Q3 := Lib.hid q3
        clear q3 t3
        have hsab := str_eq sa sb
        rw [hda] at hsab
        cases t4 : sa.toList == sb.toList with
        | false =>
          rw [t4] at hsab
          have hne : decide (a = b) = false := decide_eq_false (by rintro rfl; simp at hsab)
          rw [hne]
          clear hne hda hsab
          have t4' : sa.toList ≠ sb.toList := by simpa using t4
          go_enter Tryz.func36, Tryz.ntmps36
          go_wp2_with fail
          go_ret
          exact ⟨rfl, HB.out⟩
        | true =>
          rw [t4] at hsab
          have q4 : a.data = b.data := by simpa using hsab.symm
          have Q4 := Lib.hid q4
          have hst := str_eq a.target b.target
          have t4' : sa.toList = sb.toList := by simpa using t4
          clear q4 hsab hda
          cases t5 : a.target.toList == b.target.toList with
          | false =>
            rw [t5] at hst
            have hne : decide (a = b) = false := decide_eq_false (by rintro rfl; simp at hst)
            rw [hne]
            have t5' : a.target.toList ≠ b.target.toList := by simpa using t5
            clear hne hst
            go_enter Tryz.func36, Tryz.ntmps36
            go_wp2_with fail
            go_ret
            exact ⟨rfl, HB.out⟩
          | true =>
            rw [t5] at hst
            have q5 : a.target = b.target := by simpa using hst.symm
            have Q5 := Lib.hid q5
            have t5' : a.target.toList = b.target.toList := by simpa using t5
            clear q5 hst
            cases t6 : (a.ents.length : Int) != b.ents.length with
            | true =>
              have hne : decide (a = b) = false := decide_eq_false (by rintro rfl; simp at t6)
              rw [hne]
              clear hne
              go_enter Tryz.func36, Tryz.ntmps36
              go_wp2_with fail
              go_ret
              exact ⟨rfl, HB.out⟩
            | false =>
              have q6 : a.ents.length = b.ents.length := by simp at t6; omega
              have Q6 := Lib.hid q6
              clear q6
              go_enter Tryz.func36, Tryz.ntmps36
              go_wp2_with fail
              go_loopw [5] (fun iv wr => ∃ k n : Nat, k ≤ a.ents.length ∧ iv = .int .i64 k ∧ wr = ((w.alloc (.cells #[.int .i64 a.number, .int .i64 a.kind, .int .u32 a.mt.mode, .int .u32 a.mt.uid, .int .u32 a.mt.gid, .int .i64 a.mt.time, .int .i32 a.mt.nano, .slice aa a.data.length ac, .string a.target, .slice aa2 a.ents.length ac2] 76)).alloc (.cells #[.int .i64 b.number, .int .i64 b.kind, .int .u32 b.mt.mode, .int .u32 b.mt.uid, .int .u32 b.mt.gid, .int .i64 b.mt.time, .int .i32 b.mt.nano, .slice ba b.data.length bc, .string b.target, .slice ba2 b.ents.length bc2] 76)).drewN n ∧ a.ents.take k = b.ents.take k) (fun iv _ => a.ents.length - (RowKit.intOf iv).toNat)
              case atStart => exact ⟨0, 0, Nat.zero_le _, rfl, rfl, rfl⟩
              case round =>
                obtain ⟨k, n, hk, rfl, rfl, hpre⟩ := hrel
                have HPRE := Lib.hid hpre
                clear hpre
                by_cases hlt : k < a.ents.length
                · obtain ⟨b1, o1, rfl, hc1⟩ := HA2.out.get (by omega)
                  obtain ⟨b2, o2, rfl, hc2⟩ := HB2.out.get (by have := Q6.out; omega)
                  have hltb : k < b.ents.length := by have := Q6.out; omega
                  have hltb' : (k : Int) < (b.ents.length : Int) := by omega
                  have hlta' : (k : Int) < (a.ents.length : Int) := by omega
                  have hk0 : (0 : Int) ≤ (k : Int) := by omega
                  obtain ⟨x1, x2⟩ := named_at a.ents k _ (List.getElem?_eq_getElem hlt)
                  obtain ⟨y1, y2⟩ := named_at b.ents k _ (List.getElem?_eq_getElem hltb)
                  have cx1 := hc1 _ _ x1
                  have cx2 := hc1 _ _ x2
                  have cy1 := hc2 _ _ y1
                  have cy2 := hc2 _ _ y2
                  have hnn := named_neq a.ents[k] b.ents[k]
                  have gp := List.getElem?_eq_getElem hlt
                  have gq := List.getElem?_eq_getElem hltb
                  have GP := Lib.hid gp
                  have GQ := Lib.hid gq
                  clear gp gq
                  generalize a.ents[k] = p at *
                  generalize b.ents[k] = q at *
                  clear hc1 hc2 x1 x2 y1 y2
                  rw [show 2 * k + 1 = k * 2 + 1 from by omega, ← Nat.add_assoc] at cx2 cy2
                  rw [Nat.mul_comm 2 k] at cx1 cy1
                  cases t7 : !decide (p = q) with
                  | true =>
                    have hne : decide (a = b) = false := decide_eq_false (by
                      rintro rfl
                      have := GP.out.symm.trans GQ.out
                      simp only [Option.some.injEq] at this
                      simp [this] at t7)
                    rw [hne]
                    rw [t7] at hnn
                    clear hne t7
                    go_wp2
                    go_quiet (fail)
                    go_wp2_with fail
                    go_ret
                    exact ⟨rfl, below_drewN (below_drewN HB.out _) _⟩
                  | false =>
                    have q7 : p = q := by simpa using t7
                    rw [t7] at hnn
                    have Q7 := Lib.hid q7
                    clear q7 t7
                    go_wp2
                    go_quiet (fail)
                    go_wp2_with fail
                    case roundEnd =>
                      refine ⟨⟨k + 1, n + nq, by omega, rfl, rfl, ?_⟩, ?_⟩
                      · rw [List.take_add_one, List.take_add_one, HPRE.out, GP.out, GQ.out, Q7.out]
                      · change a.ents.length - ((k : Int) + 1).toNat < a.ents.length - (k : Int).toNat; omega
                · have hlt' : ¬ (k : Int) < (a.ents.length : Int) := by omega
                  have heq : decide (a = b) = true := by
                    refine decide_eq_true ?_
                    have hp := HPRE.out
                    rw [List.take_of_length_le (by omega), List.take_of_length_le (by have := Q6.out; omega)] at hp
                    obtain ⟨n1, n2, n3, n4, n5, n6⟩ := a
                    obtain ⟨m1, m2, m3, m4, m5, m6⟩ := b
                    simp only at hp
                    have := Q1.out; have := Q2.out; have := Q3.out; have := Q4.out; have := Q5.out
                    simp_all
                  have HEQ := Lib.hid heq
                  clear heq
                  go_wp2_with fail
                  go_ret
                  exact ⟨congrArg (fun b => Ending.returned (.bool b)) HEQ.out.symm, below_drewN HB.out _⟩
end Go.Proofs.YtpffanfpohajhaaGreat
