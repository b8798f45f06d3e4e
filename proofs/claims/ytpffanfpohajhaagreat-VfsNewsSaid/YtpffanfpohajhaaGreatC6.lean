/- Walk of Stat of vfs. Condition: bounds on sizes. -/
import Derived.Test.YtpffanfpohajhaaGreatC5
import Derived.StillTailTactics
import Derived.Laws.CopyOwn
namespace Go.Proofs.YtpffanfpohajhaaGreat
open Go Go.MapKept
open Go.RowKit hiding intOf

structure StatL where
  node : Int
  kind : Int
  mt : Mt
  links : Int
  size : Int
  deriving DecidableEq

def StatL.cells (s : StatL) : List Value := [.int .i64 s.node, .int .i64 s.kind, .int .u32 s.mt.mode, .int .u32 s.mt.uid, .int .u32 s.mt.gid, .int .i64 s.mt.time, .int .i32 s.mt.nano, .int .i64 s.links, .int .i64 s.size]
def Mt.zero : Mt := ⟨0, 0, 0, 0, 0⟩
def StatL.zero : StatL := ⟨0, 0, Mt.zero, 0, 0⟩

def statR (F : Fs) (n : Int) : StatL × Int := match F.get n with
  | none => (StatL.zero, 100)
  | some i => (⟨n, i.kind, i.mt, i.links, (i.data.length : Int) + i.ents.length + i.target.size⟩, 0)
def StatPost (x : StatL × Int) (w : World) (e : Ending) (w' : World) : Prop := e = .returned (.tuple #[.agg x.1.cells.toArray, .int .i64 x.2]) ∧ Below w.heap.size w w'

theorem zero48 (w : World) : (zeroValue 48).run Tryz.prog w = .ok (.agg StatL.zero.cells.toArray) w := by kernel_rfl

theorem FsAt.ino_row {w : World} {F : Fs} {f : Fp} (h : FsAt w F f) {n : Int} {i : Ino} (hi : F.get n = some i) (j : Nat) {v : Value} (e : (f.inoCells n i)[j]? = some v) : w.cell? ⟨f.ib n, j, none⟩ = some v := Row.cell (h.holds (.ino n) i hi) j e

theorem wrap_add {a b : Int} (h1 : 0 ≤ a) (h2 : a ≤ 281474976710656) (h3 : 0 ≤ b) (h4 : b ≤ 281474976710656) : IntKind.i64.wrap (a + b) = a + b := IntWalk.i64_in _ (by omega)

/-- A return of a struct that lies in a row of its own, and of a slot. -/
theorem ret_row2 {P : Program} {fn : Func} {R : Ending → World → Prop} {a : Act} {w : World} {p u : Tmp} {ty : TypeId} {g : Nat} {T : TypeId} {cs : Array Value} {fr : Nat × Nat} {d : TypeDesc}
    (h : fn.results = #[.cell p ty, .tmp u]) (hp : a.tmps.getD p undef = .pointer (some ⟨g, 0, none⟩)) (hg : w.heap[g]? = some (.cells cs T fr))
    (hu : P.underlying ty = some d) (hd : (match d with | .struct _ | .array _ _ => true | _ => false) = true) (hi : (P.info? ty).map (·.size) = some cs.size) (hdf : a.defers = [])
    (hR : R (.returned (.tuple #[.agg cs, a.tmps.getD u undef])) w) : bodyPost P fn R .ret a w := by
  refine bodyPost_ret (v := .tuple #[.agg cs, a.tmps.getD u undef]) ?_ hdf hR
  rw [results_cell_tmp h, hp]
  have := run_loadVar_row (P := P) w g T ty cs fr d hg hu (by cases d <;> first | rfl | exact absurd hd (by simp)) hi
  simp [asAddr, Result.andThen, this]

set_option maxRecDepth 100000 in
set_option maxHeartbeats 1000000 in
theorem Stat_any (F : Fs) (f : Fp) (w : World) (h : FsAt w F f) (n : Int) (ho : ∀ i, F.get n = some i → i.ents.length ≤ 70368744177664 ∧ i.data.length ≤ 70368744177664 ∧ i.target.size ≤ 70368744177664) :
    Calls Tryz.prog 26 #[ptr f.p, .int .i64 n] w (StatPost (statR F n) w) := by
  have ht := there_one F f (w.alloc (.cells StatL.zero.cells.toArray 48)) (h.alloc _) n
  have hz : (w.alloc (.cells StatL.zero.cells.toArray 48)).heap.size = w.heap.size + 1 := by simp
  rw [hz] at ht
  clear hz
  have hB : Below w.heap.size w ((w.alloc (.cells StatL.zero.cells.toArray 48)).alloc (.cells #[.int .i64 n] 3)) := ((Below.refl _ _).alloc (Nat.le_refl _) _).alloc (by simp) _
  have HB := Lib.hid hB
  clear hB
  cases hg : F.get n with
  | none =>
    have er : statR F n = (StatL.zero, 100) := by unfold statR; rw [hg]
    rw [er]
    have et : thereR F [n] = 100 := by unfold thereR; simp [hg]
    rw [et] at ht
    have HT := Lib.hid ht
    have hrow : ((w.alloc (.cells StatL.zero.cells.toArray 48)).alloc (.cells #[.int .i64 n] 3)).heap[w.heap.size]? = some (.cells StatL.zero.cells.toArray 48 (0, 0)) := by
      rw [(heap_alloc _ _).2 _ (by simp), (heap_alloc _ _).1]
    have HROW := Lib.hid hrow
    clear er et ht hg ho hrow
    unfold ptr at *
    go_enter Tryz.func26, Tryz.ntmps26
    go_wp2_with fail
    refine HT.out.mono ?_
    rintro e w1 ⟨rfl, rfl⟩
    clear HT
    unfold StatL.zero StatL.cells Mt.zero
    go_wp2
    refine ret_row2 (g := w.heap.size) (T := 48) (cs := StatL.zero.cells.toArray) (fr := (0, 0)) rfl rfl ?_ Tryz.underlying48 rfl (by kernel_rfl) rfl ⟨rfl, HB.out⟩
    exact HROW.out
  | some i =>
    obtain ⟨o1, o2, o3⟩ := ho i hg
    have er : statR F n = (⟨n, i.kind, i.mt, i.links, (i.data.length : Int) + i.ents.length + i.target.size⟩, 0) := by unfold statR; rw [hg]
    rw [er]
    have et : thereR F [n] = 0 := by unfold thereR; simp [hg]
    rw [et] at ht
    have HT := Lib.hid ht
    have h1 := (h.alloc (.cells StatL.zero.cells.toArray 48)).alloc (.cells #[.int .i64 n] 3)
    have H1 := Lib.hid h1
    have HG := Lib.hid hg
    have hrow : ((w.alloc (.cells StatL.zero.cells.toArray 48)).alloc (.cells #[.int .i64 n] 3)).heap[w.heap.size]? = some (.cells StatL.zero.cells.toArray 48 (0, 0)) := by
      rw [(heap_alloc _ _).2 _ (by simp), (heap_alloc _ _).1]
    have HROW := Lib.hid hrow
    clear er et ht hg ho h1 hrow
    unfold ptr at *
    go_enter Tryz.func26, Tryz.ntmps26
    go_wp2_with fail
    refine HT.out.mono ?_
    rintro e w1 ⟨rfl, rfl⟩
    clear HT
    have h1 := H1.out
    obtain ⟨a, cap, hdv, _⟩ := own_form (H1.out.holds (.dat n) i HG.out)
    clear H1
    generalize ((w.alloc (.cells StatL.zero.cells.toArray 48)).alloc (.cells #[.int .i64 n] 3)) = w1 at *
    have hm := h1.m_cell
    have hlk := h1.lk HG.out
    have k0 := h1.ino_row HG.out 0 rfl
    have k1 := h1.ino_row HG.out 1 rfl
    have k2 := h1.ino_row HG.out 2 rfl
    have k3 := h1.ino_row HG.out 3 rfl
    have k4 := h1.ino_row HG.out 4 rfl
    have k5 := h1.ino_row HG.out 5 rfl
    have k6 := h1.ino_row HG.out 6 rfl
    rw [hdv] at k6
    clear hdv
    have k7 := h1.ino_row HG.out 7 rfl
    have k8 := h1.ino_row HG.out 8 rfl
    have k9 := h1.ino_row HG.out 9 rfl
    have a1 := wrap_add (a := i.data.length) (b := i.ents.length) (by omega) (by omega) (by omega) (by omega)
    have a2 := wrap_add (a := (i.data.length : Int) + i.ents.length) (b := i.target.size) (by omega) (by omega) (by omega) (by omega)
    have hent := h1.holds (.ent n) i HG.out
    unfold Fp.entv at k8
    by_cases hk : i.kind = 1
    · rw [if_pos hk] at k8 hent
      have hln := fun ty => MapHas.run_len (P := Tryz.prog) (w := w1.drew) (ty := ty) (MapHas.of_block hent rfl) Tryz.underlying138
      clear hent hk
      go_wp2
      go_still_tail 31, (by kernel_rfl)
      refine wpList_store_row rfl 48 _ _ rfl w.heap.size _ rfl rfl 48 _ HROW.out (by kernel_rfl) rfl (by simp [Value.oneCell']) ?_
      go_wp2
      refine ret_row2 (g := w.heap.size) rfl rfl (setRow_heap _ _ _ _ _ _ HROW.out) Tryz.underlying48 rfl (by kernel_rfl) rfl ⟨rfl, below_setRow HB.out.drew (Nat.le_refl _) _⟩
    · rw [if_neg hk] at k8 hent
      have he : (i.ents.length : Int) = 0 := by rw [hent]; rfl
      have a3 : IntKind.i64.wrap (i.data.length : Int) = i.data.length := IntWalk.i64_in _ (by omega)
      rw [he, Int.add_zero] at a2
      have HE := Lib.hid he
      clear hent hk he a1
      go_wp2
      go_still_tail 31, (by kernel_rfl)
      refine wpList_store_row rfl 48 _ _ rfl w.heap.size _ rfl rfl 48 _ HROW.out (by kernel_rfl) rfl (by simp [Value.oneCell']) ?_
      go_wp2
      refine ret_row2 (g := w.heap.size) rfl rfl (setRow_heap _ _ _ _ _ _ HROW.out) Tryz.underlying48 rfl (by kernel_rfl) rfl ⟨by unfold StatL.cells; rw [HE.out, Int.add_zero]; rfl, below_setRow HB.out.drew (Nat.le_refl _) _⟩
end Go.Proofs.YtpffanfpohajhaaGreat
