/- Walks of dirs, at, Lookup, has, Up of vfs. No condition. -/
import Derived.Test.YtpffanfpohajhaaGreatC
import Derived.Test.YtpffanfpohajhaaGreatE2
namespace Go.Proofs.YtpffanfpohajhaaGreat
open Go Go.MapKept
open Go.RowKit hiding intOf

def isDirB (F : Fs) (n : Int) : Bool := match F.get n with | some i => decide (i.kind = 1) | none => false
def dirsR (F : Fs) (ns : List Int) : Int := if ns.all (fun n => (F.get n).isSome) then (if ns.all (isDirB F) then 0 else 101) else 100

theorem FsAt.m_cell {w : World} {F : Fs} {f : Fp} (h : FsAt w F f) : w.cell? ⟨f.p, 4, none⟩ = some (.map (some f.m)) := Row.cell (h.holds .fs) 4 rfl
theorem FsAt.lk {w : World} {F : Fs} {f : Fp} (h : FsAt w F f) {n : Int} {i : Ino} (hi : F.get n = some i) : (Instr.lookup 135 (.map (some f.m)) (.int .i64 n) false).run Tryz.prog w = .ok (.pointer (some ⟨f.ib n, 0, none⟩)) w := by
  have := h.run_ino n
  unfold ptrOf at this
  rw [hi] at this
  exact this
theorem FsAt.lk_none {w : World} {F : Fs} {f : Fp} (h : FsAt w F f) {n : Int} (hi : F.get n = none) : (Instr.lookup 135 (.map (some f.m)) (.int .i64 n) false).run Tryz.prog w = .ok (.pointer none) w := by
  have := h.run_ino n
  unfold ptrOf at this
  rw [hi] at this
  exact this
theorem FsAt.kind_cell {w : World} {F : Fs} {f : Fp} (h : FsAt w F f) {n : Int} {i : Ino} (hi : F.get n = some i) : w.cell? ⟨f.ib n, 0, none⟩ = some (.int .i64 i.kind) := Row.cell (h.holds (.ino n) i hi) 0 rfl
theorem FsAt.ent_cell {w : World} {F : Fs} {f : Fp} (h : FsAt w F f) {n : Int} {i : Ino} (hi : F.get n = some i) : w.cell? ⟨f.ib n, 8, none⟩ = some (f.entv n i) := Row.cell (h.holds (.ino n) i hi) 8 rfl

theorem ret_int {k : IntKind} {a b : Int} (h : a = b) : Ending.returned (.int k a) = .returned (.int k b) := by rw [h]

set_option maxRecDepth 100000 in
set_option maxHeartbeats 1000000 in
theorem dirs_all (F : Fs) (f : Fp) (w : World) (h : FsAt w F f) (a : Addr) (cap : Nat) (ns : List Int) (hl : ns.length ≤ 9223372036854775807)
    (hc : ∀ j, j < ns.length → w.cell? (a.add j) = some (.int .i64 (ns.getD j 0))) :
    Calls Tryz.prog 112 #[ptr f.p, .slice (some a) ns.length cap] w fun e w' => e = .returned (.int .i64 (dirsR F ns)) ∧ w' = w := by
  have hT := Lib.hid (there_all F f w h a cap ns hl hc)
  cases hth : ns.all (fun n => (F.get n).isSome) with
  | false =>
    have e1 : thereR F ns = 100 := by unfold thereR; rw [hth]; rfl
    have e2 : dirsR F ns = 100 := by unfold dirsR; rw [hth]; rfl
    rw [e1] at hT
    rw [e2]
    have HT := Lib.hid hth
    clear hth e1 e2 hc
    unfold ptr at *
    go_enter Tryz.func112, Tryz.ntmps112
    go_wp2_with (go_at_call 80; refine hT.out.mono ?_; rintro e w' ⟨rfl, rfl⟩)
    go_ret
    exact ⟨rfl, rfl⟩
  | true =>
    have e1 : thereR F ns = 0 := by unfold thereR; rw [hth]; rfl
    have e2 : dirsR F ns = if ns.all (isDirB F) then 0 else 101 := by unfold dirsR; rw [hth]; rfl
    rw [e1] at hT
    have HT := Lib.hid hth
    have E2 := Lib.hid e2
    have hm := h.m_cell
    clear hth e1 e2
    have Hc := Lib.hid hc
    clear hc
    unfold ptr at *
    go_enter Tryz.func112, Tryz.ntmps112
    go_wp2_with (go_at_call 80; refine hT.out.mono ?_; rintro e w' ⟨rfl, rfl⟩)
    clear hT
    go_loop [16] (fun i => ∃ k : Nat, k ≤ ns.length ∧ i = .int .i64 k ∧ (ns.take k).all (isDirB F) = true) (fun i => ns.length - (RowKit.intOf i).toNat)
    case atStart => exact ⟨0, Nat.zero_le _, rfl, rfl⟩
    case round =>
      obtain ⟨k, hk, rfl, hall⟩ := hrel
      have Hall := Lib.hid hall; clear hall
      by_cases hlt : k < ns.length
      · have hck := Hc.out k hlt
        have hn : ns.getD k 0 = ns[k] := by rw [List.getD_eq_getElem?_getD, List.getElem?_eq_getElem hlt, Option.getD_some]
        rw [hn] at hck
        have hmem : ns[k] ∈ ns := List.getElem_mem hlt
        have hsome := (List.all_eq_true.1 HT.out) _ hmem
        have Hmem := Lib.hid hmem
        clear hn hmem
        generalize hnn : ns[k] = n at *
        have HNN := Lib.hid hnn
        clear hnn
        obtain ⟨i, hi⟩ := Option.isSome_iff_exists.1 hsome
        have hlk := h.lk hi
        have hkc := h.kind_cell hi
        have HI := Lib.hid hi
        clear hi hsome
        cases hd : i.kind == 1
        · have hd2 : (i.kind != 1) = true := by rw [bne, hd]; rfl
          have HD := Lib.hid hd
          clear hd
          go_wp2
          go_ret
          refine ⟨ret_int ?_, rfl⟩
          rw [E2.out, if_neg]
          intro ha
          have := (List.all_eq_true.1 ha) n Hmem.out
          have h2 : ¬ i.kind = 1 := by simpa using HD.out
          simp [isDirB, HI.out, h2] at this
        · have hd2 : (i.kind != 1) = false := by rw [bne, hd]; rfl
          have HD := Lib.hid hd
          clear hd
          go_wp2
          go_round
          case rel => exact ⟨k + 1, by omega, by go_num, by
            have h2 : i.kind = 1 := by simpa using HD.out
            rw [List.take_succ_eq_append_getElem hlt, List.all_append, Hall.out, HNN.out]
            simp [isDirB, HI.out, h2]⟩
          case measure => simp [RowKit.intOf]; omega
      · go_wp2
        go_ret
        refine ⟨ret_int ?_, rfl⟩
        rw [E2.out, if_pos]
        have := Hall.out
        rwa [List.take_of_length_le (by omega)] at this

theorem FsAt.alloc {w : World} {F : Fs} {f : Fp} (h : FsAt w F f) (o : Obj) : FsAt (w.alloc o) F f :=
  h.of_blocks fun l b hb => Below.heap_alloc _ _ _ (Fp.lt h l b hb)
theorem FsAt.below {w w' : World} {F : Fs} {f : Fp} (h : FsAt w F f) (hb : Below w.heap.size w w') : FsAt w' F f :=
  h.of_blocks fun l b e => hb.block _ (Fp.lt h l b e)

theorem cell_new (w : World) (cs : List Value) (T : TypeId) (j : Nat) (v : Value) (h : cs[j]? = some v) : (w.alloc (.cells cs.toArray T)).cell? ((⟨w.heap.size, 0, none⟩ : Addr).add j) = some v := by
  have : (w.alloc (.cells cs.toArray T)).heap[w.heap.size]? = some (.cells cs.toArray T (0, 0)) := (heap_alloc w _).1
  unfold Addr.add
  split
  · subst j; simp only [World.cell?, this]; simp [h]
  · simp only [World.cell?, this]; simp [h]
theorem lit_cells (w : World) (ns : List Int) (j : Nat) (h : j < ns.length) : (w.alloc (.cells (ns.map fun n => Value.int .i64 n).toArray 3)).cell? ((⟨w.heap.size, 0, none⟩ : Addr).add j) = some (.int .i64 (ns.getD j 0)) :=
  cell_new w _ 3 j _ (by simp [List.getElem?_eq_getElem h, List.getD_eq_getElem?_getD])
/-- A slice of ints, written out at the call. -/
theorem dirs_one (F : Fs) (f : Fp) (w : World) (h : FsAt w F f) (n : Int) :
    Calls Tryz.prog 112 #[ptr f.p, .slice (some ⟨w.heap.size, 0, none⟩) 1 1] (w.alloc (.cells #[.int .i64 n] 3)) fun e w' => e = .returned (.int .i64 (dirsR F [n])) ∧ w' = w.alloc (.cells #[.int .i64 n] 3) :=
  dirs_all F f _ (h.alloc _) ⟨w.heap.size, 0, none⟩ 1 [n] (by simp) (lit_cells w [n])
theorem dirs_two (F : Fs) (f : Fp) (w : World) (h : FsAt w F f) (n m : Int) :
    Calls Tryz.prog 112 #[ptr f.p, .slice (some ⟨w.heap.size, 0, none⟩) 2 2] (w.alloc (.cells #[.int .i64 n, .int .i64 m] 3)) fun e w' => e = .returned (.int .i64 (dirsR F [n, m])) ∧ w' = w.alloc (.cells #[.int .i64 n, .int .i64 m] 3) :=
  dirs_all F f _ (h.alloc _) ⟨w.heap.size, 0, none⟩ 2 [n, m] (by simp) (lit_cells w [n, m])
theorem there_one (F : Fs) (f : Fp) (w : World) (h : FsAt w F f) (n : Int) :
    Calls Tryz.prog 80 #[ptr f.p, .slice (some ⟨w.heap.size, 0, none⟩) 1 1] (w.alloc (.cells #[.int .i64 n] 3)) fun e w' => e = .returned (.int .i64 (thereR F [n])) ∧ w' = w.alloc (.cells #[.int .i64 n] 3) :=
  there_all F f _ (h.alloc _) ⟨w.heap.size, 0, none⟩ 1 [n] (by simp) (lit_cells w [n])
theorem there_two (F : Fs) (f : Fp) (w : World) (h : FsAt w F f) (n m : Int) :
    Calls Tryz.prog 80 #[ptr f.p, .slice (some ⟨w.heap.size, 0, none⟩) 2 2] (w.alloc (.cells #[.int .i64 n, .int .i64 m] 3)) fun e w' => e = .returned (.int .i64 (thereR F [n, m])) ∧ w' = w.alloc (.cells #[.int .i64 n, .int .i64 m] 3) :=
  there_all F f _ (h.alloc _) ⟨w.heap.size, 0, none⟩ 2 [n, m] (by simp) (lit_cells w [n, m])

/-- What is wrong with a directory and a name in it. -/
def atR (F : Fs) (dir : Int) (name : ByteArray) : Int :=
  match F.get dir with
  | none => 100
  | some i => if i.kind = 1 then (if okName name then 0 else 102) else 101

theorem dirsR_one (F : Fs) (n : Int) : dirsR F [n] = match F.get n with | none => 100 | some i => if i.kind = 1 then 0 else 101 := by
  unfold dirsR
  simp only [List.all_cons, List.all_nil, Bool.and_true, isDirB]
  cases F.get n with
  | none => rfl
  | some i => simp

set_option maxRecDepth 100000 in
theorem at_any (F : Fs) (f : Fp) (w : World) (h : FsAt w F f) (dir : Int) (name : ByteArray) :
    Calls Tryz.prog 106 #[ptr f.p, .int .i64 dir, .string name] w fun e w' => e = .returned (.int .i64 (atR F dir name)) ∧ Below w.heap.size w w' := by
  have hd := dirs_one F f w h dir
  have e1 := dirsR_one F dir
  cases hg : F.get dir with
  | none =>
    have e2 : atR F dir name = 100 := by unfold atR; rw [hg]
    rw [hg] at e1
    simp only at e1
    rw [e1] at hd
    rw [e2]
    have HD := Lib.hid hd
    clear hd e1 e2 hg
    unfold ptr at *
    go_enter Tryz.func106, Tryz.ntmps106
    go_wp2_with (go_at_call 112; refine HD.out.mono ?_; rintro e w' ⟨rfl, rfl⟩)
    go_ret
    exact ⟨rfl, (Below.refl _ _).alloc (Nat.le_refl _) _⟩
  | some i =>
    rw [hg] at e1
    simp only at e1
    by_cases hk : i.kind = 1
    · rw [if_pos hk] at e1
      rw [e1] at hd
      have e2 : atR F dir name = if okName name then 0 else 102 := by unfold atR; rw [hg]; simp [hk]
      have HD := Lib.hid hd
      have hn := Lib.hid (isName_any name (w.alloc (.cells #[.int .i64 dir] 3)))
      cases ho : okName name with
      | true =>
        rw [ho] at e2 hn
        simp only [if_true] at e2
        rw [e2]
        clear hd e1 e2 hg hk ho
        unfold ptr at *
        go_enter Tryz.func106, Tryz.ntmps106
        go_wp2_with (first | (go_at_call 112; refine HD.out.mono ?_; rintro e w' ⟨rfl, rfl⟩) | (go_at_call 143; refine hn.out.mono ?_; rintro e w' ⟨rfl, hb⟩; have HB := Lib.hid hb; clear hb))
        go_ret
        exact ⟨rfl, ((Below.refl _ _).alloc (Nat.le_refl _) _).trans (HB.out.mono (by simp))⟩
      | false =>
        rw [ho] at e2 hn
        simp only [Bool.false_eq_true, if_false] at e2
        rw [e2]
        clear hd e1 e2 hg hk ho
        unfold ptr at *
        go_enter Tryz.func106, Tryz.ntmps106
        go_wp2_with (first | (go_at_call 112; refine HD.out.mono ?_; rintro e w' ⟨rfl, rfl⟩) | (go_at_call 143; refine hn.out.mono ?_; rintro e w' ⟨rfl, hb⟩; have HB := Lib.hid hb; clear hb))
        go_ret
        exact ⟨rfl, ((Below.refl _ _).alloc (Nat.le_refl _) _).trans (HB.out.mono (by simp))⟩
    · rw [if_neg hk] at e1
      rw [e1] at hd
      have e2 : atR F dir name = 101 := by unfold atR; rw [hg]; simp [hk]
      rw [e2]
      have HD := Lib.hid hd
      clear hd e1 e2 hg hk
      unfold ptr at *
      go_enter Tryz.func106, Tryz.ntmps106
      go_wp2_with (go_at_call 112; refine HD.out.mono ?_; rintro e w' ⟨rfl, rfl⟩)
      go_ret
      exact ⟨rfl, (Below.refl _ _).alloc (Nat.le_refl _) _⟩
end Go.Proofs.YtpffanfpohajhaaGreat
