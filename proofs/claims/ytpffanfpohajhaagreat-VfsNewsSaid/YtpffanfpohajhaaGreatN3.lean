/- Walks of asks: Up, Stat, List, Free. Condition: the two answer alike, and bounds. -/
import Derived.Test.YtpffanfpohajhaaGreatN2
namespace Go.Proofs.YtpffanfpohajhaaGreat
open Go Go.MapKept
open Go.RowKit hiding intOf

/-- A call, as it comes. -/
structure OpL where
  kind : Int
  on : Bool
  dir : Int
  name : ByteArray
  node : Int
  to : Int
  other : ByteArray
  target : ByteArray
  mt : Mt
  pos : Int
  n : Int

def OpL.cells (o : OpL) (bv x0 x1 x2 x3 : Value) : List Value :=
  [.int .i64 o.kind, .bool o.on, .int .i64 o.dir, .string o.name, .int .i64 o.node, .int .i64 o.to, .string o.other, .string o.target, .int .u32 o.mt.mode, .int .u32 o.mt.uid, .int .u32 o.mt.gid, .int .i64 o.mt.time, .int .i32 o.mt.nano, .int .i64 o.pos, .int .i64 o.n, bv, x0, x1, x2, x3]

set_option maxRecDepth 100000 in
set_option maxHeartbeats 2000000 in
theorem asks_up (o : OpL) (bv xa xb xc xd : Value) (hk : o.kind = 12) (b : Nat) (F : Fs) (f : Fp) (R : Rf) (q : Nat) (l : List (NodeL × Value × Value)) (lv tv : Value) (w : World) (h : PairAt w b F f R q l lv tv)
    (hup : upR F o.dir = upRR R o.dir) (hsm : Small R.img.list) :
    Calls Tryz.prog 19 #[ptr b, .agg (o.cells bv xa xb xc xd).toArray] w (BoolBelow true w) := by
  have hbw : Below w.heap.size w (w.alloc (.cells (o.cells bv xa xb xc xd).toArray 39)) := (Below.refl _ _).alloc (Nat.le_refl _) _
  have hr : Row (w.alloc (.cells (o.cells bv xa xb xc xd).toArray 39)) w.heap.size (o.cells bv xa xb xc xd) := ⟨39, (heap_alloc w _).1⟩
  have k0 := hr.cell 0 rfl
  have k2 := hr.cell 2 rfl
  rw [hk] at k0
  have hsz : (w.alloc (.cells (o.cells bv xa xb xc xd).toArray 39)).heap.size = w.heap.size + 1 := by simp
  have h1 := h.below hbw
  have p0 : (w.alloc (.cells (o.cells bv xa xb xc xd).toArray 39)).cell? ⟨b, 0, none⟩ = some (.pointer (some ⟨f.p, 0, none⟩)) := h1.row.cell 0 rfl
  have p1 : (w.alloc (.cells (o.cells bv xa xb xc xd).toArray 39)).cell? ⟨b, 1, none⟩ = some (.pointer (some ⟨q, 0, none⟩)) := h1.row.cell 1 rfl
  have hll := h1.ref.list
  have hC1 := up_any F f (w.alloc (.cells (o.cells bv xa xb xc xd).toArray 39)).drew (h1.fs.below (Below.refl _ _).drew) o.dir
  have hC2 : ∀ w', Below (w.heap.size + 1) (w.alloc (.cells (o.cells bv xa xb xc xd).toArray 39)) w' → Calls Tryz.prog 63 #[ptr q, .int .i64 o.dir] w' (TwoSame (upRR R o.dir) w') := fun w' hw' =>
    UpR_any q R l lv tv w' (h1.ref.below (by rw [hsz]; exact hw')) o.dir (by have := congrArg List.length hll; have := hsm.few; simp at *; omega) (fun p hp => hsm.ents p.1 (by rw [← hll]; exact List.mem_map_of_mem hp))
  rw [← hup] at hC2
  obtain ⟨u1, u2⟩ := upR F o.dir
  have HC1 := Lib.hid hC1
  have HC2 := Lib.hid hC2
  have HW := Lib.hid hbw
  have hbl : b < w.heap.size + 1 := by rw [← hsz]; exact h1.row.lt
  have HSZ := Lib.hid hsz
  clear h hbw h1 hk hup hsm hr hll hC1 hC2 hsz
  unfold ptr at *
  go_enter Tryz.func19, Tryz.ntmps19
  go_wp2_with fail
  generalize w.alloc (.cells (o.cells bv xa xb xc xd).toArray 39) = w1 at *
  go_region_held3 (fun w' => w'.cell? ⟨b, 0, none⟩ = some (.pointer (some ⟨f.p, 0, none⟩)) ∧ w'.cell? ⟨w.heap.size, 2, none⟩ = some (.int .i64 o.dir)) (go_keep)
    (first
      | (go_at_call 49; refine HC1.out.mono ?_; rintro e w2 ⟨rfl, hb2⟩; have z0 := (hb2.cell (p := ⟨b, 0, none⟩) (by show b < w1.heap.size; rw [HSZ.out]; exact hbl)).trans p0; have z1 := (hb2.cell (p := ⟨b, 1, none⟩) (by show b < w1.heap.size; rw [HSZ.out]; exact hbl)).trans p1; have z2 := (hb2.cell (p := ⟨w.heap.size, 2, none⟩) (by show w.heap.size < w1.heap.size; rw [HSZ.out]; omega)).trans k2))
  have hb12 : Below (w.heap.size + 1) w1 w2.drew := by rw [← HSZ.out]; exact ((Below.refl _ _).drew.trans hb2).drew
  have HB12 := Lib.hid hb12
  have hC3 := HC2.out w2.drew hb12
  have HC3 := Lib.hid hC3
  clear hb12 hC3 hb2 HC1 HC2
  go_wp2_with fail
  go_region_held3 (fun w' => w'.cell? ⟨b, 1, none⟩ = some (.pointer (some ⟨q, 0, none⟩)) ∧ w'.cell? ⟨w.heap.size, 2, none⟩ = some (.int .i64 o.dir)) (go_keep)
    (first
      | (go_at_call 63; refine HC3.out.mono ?_; rintro e w3 ⟨rfl, rfl⟩))
  go_wp2_with fail
  go_ret
  exact ⟨rfl, HW.out.trans (HB12.out.mono (by omega))⟩
end Go.Proofs.YtpffanfpohajhaaGreat
