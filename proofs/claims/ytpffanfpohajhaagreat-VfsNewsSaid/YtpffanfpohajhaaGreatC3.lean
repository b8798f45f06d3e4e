/- Walks of Lookup, has, Up, Readlink, Free, Forget of vfs. No condition. -/
import Derived.Test.YtpffanfpohajhaaGreatC2
namespace Go.Proofs.YtpffanfpohajhaaGreat
open Go Go.MapKept
open Go.RowKit hiding intOf

theorem FsAt.up_cell {w : World} {F : Fs} {f : Fp} (h : FsAt w F f) {n : Int} {i : Ino} (hi : F.get n = some i) : w.cell? ⟨f.ib n, 10, none⟩ = some (.int .i64 i.up) := Row.cell (h.holds (.ino n) i hi) 10 rfl
theorem FsAt.links_cell {w : World} {F : Fs} {f : Fp} (h : FsAt w F f) {n : Int} {i : Ino} (hi : F.get n = some i) : w.cell? ⟨f.ib n, 9, none⟩ = some (.int .i64 i.links) := Row.cell (h.holds (.ino n) i hi) 9 rfl
theorem FsAt.target_cell {w : World} {F : Fs} {f : Fp} (h : FsAt w F f) {n : Int} {i : Ino} (hi : F.get n = some i) : w.cell? ⟨f.ib n, 7, none⟩ = some (.string i.target) := Row.cell (h.holds (.ino n) i hi) 7 rfl
theorem FsAt.data_cell {w : World} {F : Fs} {f : Fp} (h : FsAt w F f) {n : Int} {i : Ino} (hi : F.get n = some i) : w.cell? ⟨f.ib n, 6, none⟩ = some (f.dv n) := Row.cell (h.holds (.ino n) i hi) 6 rfl

/-- What at answers: fine, or what is wrong. -/
theorem atR_zero {F : Fs} {dir : Int} {name : ByteArray} (h : atR F dir name = 0) : ∃ i, F.get dir = some i ∧ i.kind = 1 ∧ okName name = true := by
  unfold atR at h
  cases hg : F.get dir with
  | none => simp [hg] at h
  | some i =>
    rw [hg] at h
    simp only at h
    split at h
    · split at h
      · exact ⟨i, rfl, by assumption, by assumption⟩
      · simp at h
    · simp at h

def lookupR (F : Fs) (dir : Int) (name : ByteArray) : Int × Int :=
  if atR F dir name = 0 then
    match (F.get dir).bind fun i => get name i.ents with
    | none => (0, 103)
    | some n => (n, 0)
  else (0, atR F dir name)

/-- Two ints, handed back. -/
def Two (x : Int × Int) (e : Ending) : Prop := e = .returned (.tuple #[.int .i64 x.1, .int .i64 x.2])
theorem Two.mk {a b : Int} {x : Int × Int} (h : x = (a, b)) : Two x (.returned (.tuple #[.int .i64 a, .int .i64 b])) := by subst h; rfl

set_option maxRecDepth 100000 in
theorem lookup_any (F : Fs) (f : Fp) (w : World) (h : FsAt w F f) (dir : Int) (name : ByteArray) :
    Calls Tryz.prog 40 #[ptr f.p, .int .i64 dir, .string name] w fun e w' => Two (lookupR F dir name) e ∧ Below w.heap.size w w' := by
  have ha := Lib.hid (at_any F f w h dir name)
  by_cases h0 : atR F dir name = 0
  · obtain ⟨i, hg, hk, _⟩ := atR_zero h0
    have er : lookupR F dir name = match get name i.ents with | none => (0, 103) | some n => (n, 0) := by unfold lookupR; rw [if_pos h0, hg]; rfl
    rw [h0] at ha
    have HG := Lib.hid hg
    have HK := Lib.hid hk
    have ER := Lib.hid er
    clear h0 hg hk er
    unfold ptr at *
    go_enter Tryz.func40, Tryz.ntmps40
    go_wp2_with fail
    refine ha.out.mono ?_
    rintro e w1 ⟨rfl, hb⟩
    have HB := Lib.hid hb
    have h1 := h.below hb
    clear hb ha
    have hm := h1.m_cell
    have hlk := h1.lk HG.out
    have hec := h1.ent_cell HG.out
    have hE : f.entv dir i = .map (some (f.eb dir)) := by unfold Fp.entv; rw [if_pos HK.out]
    rw [hE] at hec
    have hel := h1.run_ent HG.out HK.out name
    clear hE
    cases hq : get name i.ents with
    | none =>
      rw [hq] at hel
      have HQ := Lib.hid hq
      clear hq
      simp only [Option.getD_none, Option.isSome_none] at hel
      go_wp2
      go_ret2
      exact ⟨Two.mk (by rw [ER.out, HQ.out]), HB.out⟩
    | some m =>
      rw [hq] at hel
      have HQ := Lib.hid hq
      clear hq
      simp only [Option.getD_some, Option.isSome_some] at hel
      go_wp2
      go_ret2
      exact ⟨Two.mk (by rw [ER.out, HQ.out]), HB.out⟩
  · have er : lookupR F dir name = (0, atR F dir name) := by unfold lookupR; rw [if_neg h0]
    have hne : (atR F dir name != 0) = true := by rw [bne_iff_ne]; exact h0
    generalize atR F dir name = r at *
    have ER := Lib.hid er
    clear h0 er
    unfold ptr at *
    go_enter Tryz.func40, Tryz.ntmps40
    go_wp2_with (go_at_call 106; refine ha.out.mono ?_; rintro e w1 ⟨rfl, hb⟩; have HB := Lib.hid hb; clear hb)
    go_ret2
    exact ⟨Two.mk ER.out, HB.out⟩

def upR (F : Fs) (dir : Int) : Int × Int := match F.get dir with | none => (0, 100) | some i => if i.kind = 1 then (i.up, 0) else (0, 101)

set_option maxRecDepth 100000 in
theorem up_any (F : Fs) (f : Fp) (w : World) (h : FsAt w F f) (dir : Int) :
    Calls Tryz.prog 49 #[ptr f.p, .int .i64 dir] w fun e w' => Two (upR F dir) e ∧ Below w.heap.size w w' := by
  have hd := dirs_one F f w h dir
  have e1 := dirsR_one F dir
  have hB : Below w.heap.size w (w.alloc (.cells #[.int .i64 dir] 3)) := (Below.refl _ _).alloc (Nat.le_refl _) _
  have HB := Lib.hid hB
  clear hB
  by_cases h0 : dirsR F [dir] = 0
  · rw [h0] at hd e1
    cases hg : F.get dir with
    | none => simp [hg] at e1
    | some i =>
      rw [hg] at e1
      simp only at e1
      have hk : i.kind = 1 := by
        by_cases hk : i.kind = 1
        · exact hk
        · rw [if_neg hk] at e1; omega
      have er : upR F dir = (i.up, 0) := by unfold upR; rw [hg]; simp [hk]
      rw [er]
      have HD := Lib.hid hd
      have h1 := h.below HB.out
      have hm := h1.m_cell
      have hlk := h1.lk hg
      have huc := h1.up_cell hg
      clear hd e1 h0 er hg hk
      unfold ptr at *
      go_enter Tryz.func49, Tryz.ntmps49
      go_wp2_with (go_at_call 112; refine HD.out.mono ?_; rintro e w1 ⟨rfl, rfl⟩)
      go_ret2
      exact ⟨rfl, HB.out⟩
  · have er : upR F dir = (0, dirsR F [dir]) := by
      rw [e1]
      unfold upR
      cases hg : F.get dir with
      | none => rfl
      | some i =>
        simp only
        split
        · rw [e1, hg] at h0; simp_all
        · rfl
    have hne : (dirsR F [dir] != 0) = true := by rw [bne_iff_ne]; exact h0
    generalize dirsR F [dir] = r at *
    have ER := Lib.hid er
    have HD := Lib.hid hd
    clear h0 er e1 hd
    unfold ptr at *
    go_enter Tryz.func49, Tryz.ntmps49
    go_wp2_with (go_at_call 112; refine HD.out.mono ?_; rintro e w1 ⟨rfl, rfl⟩)
    go_ret2
    exact ⟨Two.mk ER.out, HB.out⟩

def hasR (F : Fs) (dir : Int) (name : ByteArray) : Bool := ((F.get dir).bind fun i => get name i.ents).isSome

set_option maxRecDepth 100000 in
theorem has_any (F : Fs) (f : Fp) (w : World) (h : FsAt w F f) (dir : Int) (name : ByteArray) {i : Ino} (hg : F.get dir = some i) (hk : i.kind = 1) :
    Calls Tryz.prog 142 #[ptr f.p, .int .i64 dir, .string name] w fun e w' => e = .returned (.bool (hasR F dir name)) ∧ w' = w := by
  have hm := h.m_cell
  have hlk := h.lk hg
  have hec := h.ent_cell hg
  have hE : f.entv dir i = .map (some (f.eb dir)) := by unfold Fp.entv; rw [if_pos hk]
  rw [hE] at hec
  have hel := h.run_ent hg hk name
  have er : hasR F dir name = (get name i.ents).isSome := by unfold hasR; rw [hg]; rfl
  rw [er]
  generalize (get name i.ents).isSome = b at *
  clear hE hg hk er
  unfold ptr at *
  go_enter Tryz.func142, Tryz.ntmps142
  go_wp2
  go_ret
  exact ⟨rfl, rfl⟩

theorem MapHas.run_len {K : Type} {T : KeyT K} {w : World} {b : Nat} {g : K → Option Value} {n : Nat} (h : MapHas T w b g n) {P : Program} {t k e ty : TypeId} (ht : P.underlying t = some (.map k e)) :
    (Builtin.len_ #[t] ty #[.map (some b)]).run P w = .ok (.int .i64 n) w := by
  obtain ⟨es, c, h1, _, _, _, h5⟩ := h
  have := MapKept.run_getObj_map (P := P) h1
  simp [Builtin.len_, run_underlying ht, this, Result.andThen, goInt, h5]

def freeR (F : Fs) : Int × Int := (F.nodes - F.inos.length, F.bytes - F.used)

theorem wrap_sub {a b : Int} (h1 : 0 ≤ a) (h2 : a ≤ 140737488355328) (h3 : 0 ≤ b) (h4 : b ≤ 140737488355328) : IntKind.i64.wrap (a - b) = a - b := IntWalk.i64_in _ (by omega)

set_option maxRecDepth 100000 in
theorem free_any (F : Fs) (f : Fp) (w : World) (h : FsAt w F f) (h1 : 0 ≤ F.nodes ∧ F.nodes ≤ 4096) (h2 : 0 ≤ F.bytes ∧ F.bytes ≤ 4194304) (h3 : 0 ≤ F.used ∧ F.used ≤ F.bytes) (h4 : F.inos.length ≤ 4096) :
    Calls Tryz.prog 50 #[ptr f.p] w fun e w' => Two (freeR F) e ∧ ∃ n, w' = w.drewN n := by
  have c0 : w.cell? ⟨f.p, 0, none⟩ = some (.int .i64 F.nodes) := Row.cell (h.holds .fs) 0 rfl
  have c1 : w.cell? ⟨f.p, 1, none⟩ = some (.int .i64 F.bytes) := Row.cell (h.holds .fs) 1 rfl
  have c3 : w.cell? ⟨f.p, 3, none⟩ = some (.int .i64 F.used) := Row.cell (h.holds .fs) 3 rfl
  have c4 := h.m_cell
  have hln := fun n ty => MapHas.run_len (w := w.drewN n) (ty := ty) (MapHas.of_block (h.holds .map) rfl) Tryz.underlying135
  have w1 := wrap_sub (a := F.nodes) (b := F.inos.length) h1.1 (by omega) (by omega) (by omega)
  have w2 := wrap_sub (a := F.bytes) (b := F.used) h2.1 (by omega) h3.1 (by omega)
  have er : freeR F = (F.nodes - F.inos.length, F.bytes - F.used) := rfl
  have ER := Lib.hid er
  clear er h1 h2 h3 h4
  unfold ptr at *
  go_enter Tryz.func50, Tryz.ntmps50
  go_wp2
  go_quiet (fail)
  go_wp2
  go_ret2
  exact ⟨Two.mk ER.out, _, rfl⟩

def readlinkR (F : Fs) (n : Int) : ByteArray × Int := match F.get n with | none => (ByteArray.empty, 100) | some i => if i.kind = 3 then (i.target, 0) else (ByteArray.empty, 106)
def StrInt (x : ByteArray × Int) (e : Ending) : Prop := e = .returned (.tuple #[.string x.1, .int .i64 x.2])
theorem StrInt.mk {a : ByteArray} {b : Int} {x : ByteArray × Int} (h : x = (a, b)) : StrInt x (.returned (.tuple #[.string a, .int .i64 b])) := by subst h; rfl

set_option maxRecDepth 100000 in
theorem readlink_any (F : Fs) (f : Fp) (w : World) (h : FsAt w F f) (n : Int) :
    Calls Tryz.prog 68 #[ptr f.p, .int .i64 n] w fun e w' => StrInt (readlinkR F n) e ∧ w' = w := by
  have hm := h.m_cell
  cases hg : F.get n with
  | none =>
    have er : readlinkR F n = (ByteArray.empty, 100) := by unfold readlinkR; rw [hg]
    have hlk := h.lk_none hg
    have ER := Lib.hid er
    clear hg er
    unfold ptr at *
    go_enter Tryz.func68, Tryz.ntmps68
    go_wp2
    go_ret2
    exact ⟨StrInt.mk ER.out, rfl⟩
  | some i =>
    have hlk := h.lk hg
    have hkc := h.kind_cell hg
    have htc := h.target_cell hg
    cases hk : i.kind == 3 with
    | true =>
      have er : readlinkR F n = (i.target, 0) := by unfold readlinkR; rw [hg]; simp at hk; simp [hk]
      have hk2 : (i.kind != 3) = false := by rw [bne, hk]; rfl
      have ER := Lib.hid er
      clear hg er hk
      unfold ptr at *
      go_enter Tryz.func68, Tryz.ntmps68
      go_wp2
      go_ret2
      exact ⟨StrInt.mk ER.out, rfl⟩
    | false =>
      have er : readlinkR F n = (ByteArray.empty, 106) := by unfold readlinkR; rw [hg]; simp at hk; simp [hk]
      have hk2 : (i.kind != 3) = true := by rw [bne, hk]; rfl
      have ER := Lib.hid er
      clear hg er hk
      unfold ptr at *
      go_enter Tryz.func68, Tryz.ntmps68
      go_wp2
      go_ret2
      exact ⟨StrInt.mk ER.out, rfl⟩
end Go.Proofs.YtpffanfpohajhaaGreat
