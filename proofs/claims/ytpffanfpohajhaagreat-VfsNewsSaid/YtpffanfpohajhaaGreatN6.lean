/- Walk of asks: Stat. Condition: the two answer alike, and bounds. -/
import Derived.Test.YtpffanfpohajhaaGreatN5
namespace Go.Proofs.YtpffanfpohajhaaGreat
open Go Go.MapKept
open Go.RowKit hiding intOf

theorem stat_zero {w : World} {b : Nat} (h : w.heap[b]? = some (.cells StatL.zero.cells.toArray 48 (0, 0))) : w.cell? ⟨b, 0, none⟩ = some (.int .i64 0) ∧ w.cell? ⟨b, 1, none⟩ = some (.int .i64 0) ∧ w.cell? ⟨b, 2, none⟩ = some (.int .u32 0) ∧ w.cell? ⟨b, 3, none⟩ = some (.int .u32 0) ∧ w.cell? ⟨b, 4, none⟩ = some (.int .u32 0) ∧ w.cell? ⟨b, 5, none⟩ = some (.int .i64 0) ∧ w.cell? ⟨b, 6, none⟩ = some (.int .i32 0) ∧ w.cell? ⟨b, 7, none⟩ = some (.int .i64 0) ∧ w.cell? ⟨b, 8, none⟩ = some (.int .i64 0) ∧ w.frozen? ⟨b, 0, none⟩ = false ∧ w.frozen? ⟨b, 1, none⟩ = false ∧ w.frozen? ⟨b, 2, none⟩ = false ∧ w.frozen? ⟨b, 3, none⟩ = false ∧ w.frozen? ⟨b, 4, none⟩ = false ∧ w.frozen? ⟨b, 5, none⟩ = false ∧ w.frozen? ⟨b, 6, none⟩ = false ∧ w.frozen? ⟨b, 7, none⟩ = false ∧ w.frozen? ⟨b, 8, none⟩ = false := by
  have h' : Row w b StatL.zero.cells := ⟨48, h⟩
  exact ⟨h'.cell 0 rfl, h'.cell 1 rfl, h'.cell 2 rfl, h'.cell 3 rfl, h'.cell 4 rfl, h'.cell 5 rfl, h'.cell 6 rfl, h'.cell 7 rfl, h'.cell 8 rfl, h'.frozen 0, h'.frozen 1, h'.frozen 2, h'.frozen 3, h'.frozen 4, h'.frozen 5, h'.frozen 6, h'.frozen 7, h'.frozen 8⟩

theorem setCells_stat (w : World) (g : Nat) (s : StatL) : w.setCells g 0 s.cells = ((((((((w.setCell ⟨g, 0, none⟩ (.int .i64 s.node)).setCell ⟨g, 1, none⟩ (.int .i64 s.kind)).setCell ⟨g, 2, none⟩ (.int .u32 s.mt.mode)).setCell ⟨g, 3, none⟩ (.int .u32 s.mt.uid)).setCell ⟨g, 4, none⟩ (.int .u32 s.mt.gid)).setCell ⟨g, 5, none⟩ (.int .i64 s.mt.time)).setCell ⟨g, 6, none⟩ (.int .i32 s.mt.nano)).setCell ⟨g, 7, none⟩ (.int .i64 s.links)).setCell ⟨g, 8, none⟩ (.int .i64 s.size) := by
  simp only [StatL.cells, World.setCells]

/-- The nine cells of a Stat lie at b. -/
structure Has9 (w : World) (b : Nat) (u : StatL) : Prop where
  lt : b < w.heap.size
  cell : ∀ j v, u.cells[j]? = some v → w.cell? ⟨b, j, none⟩ = some v
theorem Has9.of_row {w : World} {b : Nat} {u : StatL} (h : Row w b u.cells) : Has9 w b u := ⟨h.lt, fun j _ hj => h.cell j hj⟩
theorem Has9.of_block {w w' : World} {b : Nat} {u : StatL} (h : Has9 w b u) (e : w'.heap[b]? = w.heap[b]?) : Has9 w' b u :=
  ⟨by rw [Array.getElem?_eq_getElem h.lt] at e; exact (Array.getElem?_eq_some_iff.1 e).1, fun j v hj => (World.cell?_of_block (a := ⟨b, j, none⟩) e).trans (h.cell j v hj)⟩
theorem stat_row {w : World} {b : Nat} {u : StatL} (h : Has9 w b u) : w.cell? ⟨b, 0, none⟩ = some (.int .i64 u.node) ∧ w.cell? ⟨b, 1, none⟩ = some (.int .i64 u.kind) ∧ w.cell? ⟨b, 2, none⟩ = some (.int .u32 u.mt.mode) ∧ w.cell? ⟨b, 3, none⟩ = some (.int .u32 u.mt.uid) ∧ w.cell? ⟨b, 4, none⟩ = some (.int .u32 u.mt.gid) ∧ w.cell? ⟨b, 5, none⟩ = some (.int .i64 u.mt.time) ∧ w.cell? ⟨b, 6, none⟩ = some (.int .i32 u.mt.nano) ∧ w.cell? ⟨b, 7, none⟩ = some (.int .i64 u.links) ∧ w.cell? ⟨b, 8, none⟩ = some (.int .i64 u.size) := ⟨h.cell 0 _ rfl, h.cell 1 _ rfl, h.cell 2 _ rfl, h.cell 3 _ rfl, h.cell 4 _ rfl, h.cell 5 _ rfl, h.cell 6 _ rfl, h.cell 7 _ rfl, h.cell 8 _ rfl⟩
theorem stat_over {w : World} {g : Nat} {u : StatL} (h : w.heap[g]? = some (.cells StatL.zero.cells.toArray 48 (0, 0))) : Has9 (w.setCells g 0 u.cells) g u := by
  have h9 : u.cells.length = 9 := rfl
  have hr := World.rangeAt_setCells_same w g 0 u.cells (there_of h (by rw [h9]; decide))
  have key : ∀ j v, u.cells[j]? = some v → (w.setCells g 0 u.cells).cell? ⟨g, j, none⟩ = some v := fun j v hj => by
    have := hr j v hj
    rwa [Nat.zero_add] at this
  exact ⟨World.block_lt_of_cell? _ _ (key 0 _ rfl), key⟩

set_option maxRecDepth 100000 in
set_option maxHeartbeats 2000000 in
theorem asks_stat (o : OpL) (bv xa xb xc xd : Value) (hk : o.kind = 14) (b : Nat) (F : Fs) (f : Fp) (R : Rf) (q : Nat) (l : List (NodeL × Value × Value)) (lv tv : Value) (w : World) (h : PairAt w b F f R q l lv tv)
    (hup : statR F o.node = statRR R o.node) (hen : ∀ i, F.get o.node = some i → i.ents.length ≤ 70368744177664 ∧ i.data.length ≤ 70368744177664 ∧ i.target.size ≤ 70368744177664) (hta : ∀ x ∈ R.img.list, x.target.size ≤ 1073741824) (hes : entsR R.img.list ≤ 281474976710656) (hsm : Small R.img.list) :
    Calls Tryz.prog 19 #[ptr b, .agg (o.cells bv xa xb xc xd).toArray] w (BoolBelow true w) := by
  have hbw : Below w.heap.size w (w.alloc (.cells (o.cells bv xa xb xc xd).toArray 39)) := (Below.refl _ _).alloc (Nat.le_refl _) _
  have hr : Row (w.alloc (.cells (o.cells bv xa xb xc xd).toArray 39)) w.heap.size (o.cells bv xa xb xc xd) := ⟨39, (heap_alloc w _).1⟩
  have k0 := hr.cell 0 rfl
  have k2 := hr.cell 4 rfl
  rw [hk] at k0
  have hsz : (w.alloc (.cells (o.cells bv xa xb xc xd).toArray 39)).heap.size = w.heap.size + 1 := by simp
  have h1 := h.below hbw
  have p0 : (w.alloc (.cells (o.cells bv xa xb xc xd).toArray 39)).cell? ⟨b, 0, none⟩ = some (.pointer (some ⟨f.p, 0, none⟩)) := h1.row.cell 0 rfl
  have p1 : (w.alloc (.cells (o.cells bv xa xb xc xd).toArray 39)).cell? ⟨b, 1, none⟩ = some (.pointer (some ⟨q, 0, none⟩)) := h1.row.cell 1 rfl
  have hll := h1.ref.list
  have hC1 : ∀ w', Below (w.heap.size + 1) (w.alloc (.cells (o.cells bv xa xb xc xd).toArray 39)) w' → Calls Tryz.prog 26 #[ptr f.p, .int .i64 o.node] w' (StatPost (statR F o.node) w') := fun w' hw' => Stat_any F f w' (h1.fs.below (by rw [hsz]; exact hw')) o.node hen
  have hC2 : ∀ w', Below (w.heap.size + 1) (w.alloc (.cells (o.cells bv xa xb xc xd).toArray 39)) w' → Calls Tryz.prog 23 #[ptr q, .int .i64 o.node] w' (StatPost (statRR R o.node) w') := fun w' hw' =>
    StatR_any q R l lv tv w' (h1.ref.below (by rw [hsz]; exact hw')) o.node (by have := congrArg List.length hll; have := hsm.few; simp at *; omega) (fun p hp => have hm : p.1 ∈ R.img.list := by rw [← hll]; exact List.mem_map_of_mem hp
      ⟨hsm.ents p.1 hm, hsm.data p.1 hm, hta p.1 hm⟩) hes
  rw [← hup] at hC2
  generalize statR F o.node = u at *
  obtain ⟨u1, u2⟩ := u
  have HC1 := Lib.hid hC1
  have HC2 := Lib.hid hC2
  have HW := Lib.hid hbw
  have hbl : b < w.heap.size + 1 := by rw [← hsz]; exact h1.row.lt
  have HSZ := Lib.hid hsz
  clear h hbw h1 hk hup hsm hen hta hes hr hll hC1 hC2 hsz
  unfold ptr at *
  go_enter Tryz.func19, Tryz.ntmps19
  go_wp2_with fail
  generalize w.alloc (.cells (o.cells bv xa xb xc xd).toArray 39) = w1 at *
  unfold StatPost StatL.cells at HC1 HC2
  have hq1 : ∀ (w' : World), Below (w.heap.size + 1) w1 w' → w'.cell? ⟨b, 0, none⟩ = some (.pointer (some ⟨f.p, 0, none⟩)) ∧ w'.cell? ⟨b, 1, none⟩ = some (.pointer (some ⟨q, 0, none⟩)) ∧ w'.cell? ⟨w.heap.size, 4, none⟩ = some (.int .i64 o.node) := fun w' hw' =>
    ⟨(hw'.cell (p := ⟨b, 0, none⟩) hbl).trans p0, (hw'.cell (p := ⟨b, 1, none⟩) hbl).trans p1, (hw'.cell (p := ⟨w.heap.size, 4, none⟩) (by show w.heap.size < w.heap.size + 1; omega)).trans k2⟩
  have HQ := Lib.hid hq1
  have hsl : w.heap.size + 1 ≤ w1.heap.size := by rw [HSZ.out]; omega
  clear hq1
  have n0 := World.new_ne w1 _ p0
  have n1 := World.new_ne w1 _ p1
  have n2 := World.new_ne w1 _ k2
  go_region_held3 (fun w' => w'.cell? ⟨b, 0, none⟩ = some (.pointer (some ⟨f.p, 0, none⟩)) ∧ w'.cell? ⟨w.heap.size, 4, none⟩ = some (.int .i64 o.node)) (go_keep)
    (first
      | (go_at_call 26; refine (HC1.out w1.drew ((Below.refl _ _).drew)).mono ?_; rintro e w2 ⟨rfl, hb2⟩; have HB2 := Lib.hid ((Below.refl (w.heap.size + 1) w1).drew.trans (hb2.mono hsl)); clear hb2; obtain ⟨z0, z1, z2⟩ := HQ.out w2 HB2.out)
      | (go_at_call 26; refine (HC1.out _ (((Below.refl _ _).alloc hsl _).drew)).mono ?_; rintro e w2 ⟨rfl, hb2⟩; have HB2 := Lib.hid (((Below.refl (w.heap.size + 1) w1).alloc hsl _).drew.trans (hb2.mono (by simp; omega))); obtain ⟨g0, g1, g2, g3, g4, g5, g6, g7, g8, g9, g10, g11, g12, g13, g14, g15, g16, g17⟩ := stat_zero ((hb2.block w1.heap.size (by simp)).trans (heap_alloc_new w1 _)); have HNEW0 := Lib.hid ((hb2.block w1.heap.size (by simp)).trans (heap_alloc_new w1 _)); clear hb2; obtain ⟨z0, z1, z2⟩ := HQ.out w2 HB2.out))
  · have hX : Has9 (w2.alloc (.cells u1.cells.toArray 48)) w2.heap.size u1 := .of_row ⟨48, (heap_alloc w2 _).1⟩
    have hBx : Below (w.heap.size + 1) w1 (w2.alloc (.cells u1.cells.toArray 48)) := HB2.out.alloc (Nat.le_trans hsl HB2.out.size) _
    have hXl : w.heap.size + 1 ≤ w2.heap.size := Nat.le_trans hsl HB2.out.size
    change Exit.then _ _ _ _ (w2.alloc (.cells u1.cells.toArray 48))
    have HX := Lib.hid hX
    have HBX := Lib.hid hBx
    obtain ⟨z0', z1', z2'⟩ := HQ.out _ hBx
    clear hX hBx
    generalize hXX : w2.heap.size = X at *
    generalize w2.alloc (.cells u1.cells.toArray 48) = w3 at *
    clear z0 z1 z2 HB2 HC1
    go_wp2_with fail
    have m1 := World.new_ne w3 _ z1'
    have m2 := World.new_ne w3 _ z2'
    have hs3 : w.heap.size + 1 ≤ w3.heap.size := Nat.le_trans hsl HBX.out.size
    have hXlt : X < w3.heap.size := HX.out.lt
    go_region_held3 (fun w' => w'.cell? ⟨b, 1, none⟩ = some (.pointer (some ⟨q, 0, none⟩)) ∧ w'.cell? ⟨w.heap.size, 4, none⟩ = some (.int .i64 o.node)) (go_keep)
      (first
        | (go_at_call 23; refine (HC2.out w3.drew HBX.out.drew).mono ?_; rintro e w4 ⟨rfl, hb4⟩; have HY := Lib.hid (HBX.out.drew.trans (hb4.mono hs3)); have HRX := Lib.hid (HX.out.of_block (hb4.block X hXlt)); clear hb4; obtain ⟨v0, v1, v2⟩ := HQ.out w4 HY.out)
        | (go_at_call 23; refine (HC2.out _ ((HBX.out.alloc hs3 _).drew)).mono ?_; rintro e w4 ⟨rfl, hb4⟩; have HY := Lib.hid ((HBX.out.alloc hs3 _).drew.trans (hb4.mono (by simp; omega))); have HRX := Lib.hid ((HX.out.of_block (heap_alloc_old w3 _ hXlt)).of_block (hb4.block X (by simp; omega))); have hnew := (hb4.block w3.heap.size (by simp)).trans (heap_alloc_new w3 _); clear hb4; obtain ⟨v0, v1, v2⟩ := HQ.out w4 HY.out; obtain ⟨g0, g1, g2, g3, g4, g5, g6, g7, g8, g9, g10, g11, g12, g13, g14, g15, g16, g17⟩ := stat_zero hnew; have HNEW := Lib.hid hnew; clear hnew))
    · have hRY : Has9 (w4.alloc (.cells u1.cells.toArray 48)) w4.heap.size u1 := .of_row ⟨48, (heap_alloc w4 _).1⟩
      have hRX : Has9 (w4.alloc (.cells u1.cells.toArray 48)) X u1 := HRX.out.of_block (heap_alloc_old w4 _ HRX.out.lt)
      have hB5 : Below (w.heap.size + 1) w1 (w4.alloc (.cells u1.cells.toArray 48)) := HY.out.alloc (Nat.le_trans hsl HY.out.size) _
      change Exit.then _ _ _ _ (w4.alloc (.cells u1.cells.toArray 48))
      obtain ⟨a0, a1, a2, a3, a4, a5, a6, a7, a8⟩ := stat_row hRX
      obtain ⟨b0, b1, b2, b3, b4, b5, b6, b7, b8⟩ := stat_row hRY
      have HB5 := Lib.hid hB5
      clear hRX hRY hB5
      generalize w4.alloc (.cells u1.cells.toArray 48) = w5 at *
      go_wp2_with fail
      go_ret
      exact ⟨rfl, HW.out.trans (HB5.out.mono (by omega))⟩
    · rw [← setCells_stat]
      obtain ⟨b0, b1, b2, b3, b4, b5, b6, b7, b8⟩ := stat_row (stat_over (u := u1) HNEW.out)
      have hRX : Has9 (w4.setCells w3.heap.size 0 u1.cells) X u1 := HRX.out.of_block (heap_setCells_ne _ (by omega) _ _ _)
      have hB5 : Below (w.heap.size + 1) w1 (w4.setCells w3.heap.size 0 u1.cells) := HY.out.trans (Step.setCells (K := fun _ _ => False) hs3 (fun _ h => h) _ _ _ HNEW.out).below
      obtain ⟨a0, a1, a2, a3, a4, a5, a6, a7, a8⟩ := stat_row hRX
      have HB5 := Lib.hid hB5
      clear hRX hB5
      generalize w4.setCells w3.heap.size 0 u1.cells = w5 at *
      go_wp2_with fail
      go_ret
      exact ⟨rfl, HW.out.trans (HB5.out.mono (by omega))⟩
  · rw [← setCells_stat]
    have hX : Has9 (w2.setCells w1.heap.size 0 u1.cells) w1.heap.size u1 := stat_over HNEW0.out
    have hBx : Below (w.heap.size + 1) w1 (w2.setCells w1.heap.size 0 u1.cells) := HB2.out.trans (Step.setCells (K := fun _ _ => False) hsl (fun _ h => h) _ _ _ HNEW0.out).below
    clear g0 g1 g2 g3 g4 g5 g6 g7 g8 g9 g10 g11 g12 g13 g14 g15 g16 g17 HNEW0 n0 n1 n2
    have hXl := hsl
    have HX := Lib.hid hX
    have HBX := Lib.hid hBx
    obtain ⟨z0', z1', z2'⟩ := HQ.out _ hBx
    clear hX hBx
    generalize w2.setCells w1.heap.size 0 u1.cells = w3 at *
    clear z0 z1 z2 HB2 HC1
    go_wp2_with fail
    have m1 := World.new_ne w3 _ z1'
    have m2 := World.new_ne w3 _ z2'
    have hs3 : w.heap.size + 1 ≤ w3.heap.size := Nat.le_trans hsl HBX.out.size
    have hXlt : w1.heap.size < w3.heap.size := HX.out.lt
    go_region_held3 (fun w' => w'.cell? ⟨b, 1, none⟩ = some (.pointer (some ⟨q, 0, none⟩)) ∧ w'.cell? ⟨w.heap.size, 4, none⟩ = some (.int .i64 o.node)) (go_keep)
      (first
        | (go_at_call 23; refine (HC2.out w3.drew HBX.out.drew).mono ?_; rintro e w4 ⟨rfl, hb4⟩; have HY := Lib.hid (HBX.out.drew.trans (hb4.mono hs3)); have HRX := Lib.hid (HX.out.of_block (hb4.block (w1.heap.size) hXlt)); clear hb4; obtain ⟨v0, v1, v2⟩ := HQ.out w4 HY.out)
        | (go_at_call 23; refine (HC2.out _ ((HBX.out.alloc hs3 _).drew)).mono ?_; rintro e w4 ⟨rfl, hb4⟩; have HY := Lib.hid ((HBX.out.alloc hs3 _).drew.trans (hb4.mono (by simp; omega))); have HRX := Lib.hid ((HX.out.of_block (heap_alloc_old w3 _ hXlt)).of_block (hb4.block (w1.heap.size) (by simp; omega))); have hnew := (hb4.block w3.heap.size (by simp)).trans (heap_alloc_new w3 _); clear hb4; obtain ⟨v0, v1, v2⟩ := HQ.out w4 HY.out; obtain ⟨g0, g1, g2, g3, g4, g5, g6, g7, g8, g9, g10, g11, g12, g13, g14, g15, g16, g17⟩ := stat_zero hnew; have HNEW := Lib.hid hnew; clear hnew))
    · have hRY : Has9 (w4.alloc (.cells u1.cells.toArray 48)) w4.heap.size u1 := .of_row ⟨48, (heap_alloc w4 _).1⟩
      have hRX : Has9 (w4.alloc (.cells u1.cells.toArray 48)) w1.heap.size u1 := HRX.out.of_block (heap_alloc_old w4 _ HRX.out.lt)
      have hB5 : Below (w.heap.size + 1) w1 (w4.alloc (.cells u1.cells.toArray 48)) := HY.out.alloc (Nat.le_trans hsl HY.out.size) _
      change Exit.then _ _ _ _ (w4.alloc (.cells u1.cells.toArray 48))
      obtain ⟨a0, a1, a2, a3, a4, a5, a6, a7, a8⟩ := stat_row hRX
      obtain ⟨b0, b1, b2, b3, b4, b5, b6, b7, b8⟩ := stat_row hRY
      have HB5 := Lib.hid hB5
      clear hRX hRY hB5
      generalize w4.alloc (.cells u1.cells.toArray 48) = w5 at *
      go_wp2_with fail
      go_ret
      exact ⟨rfl, HW.out.trans (HB5.out.mono (by omega))⟩
    · rw [← setCells_stat]
      obtain ⟨b0, b1, b2, b3, b4, b5, b6, b7, b8⟩ := stat_row (stat_over (u := u1) HNEW.out)
      have hRX : Has9 (w4.setCells w3.heap.size 0 u1.cells) w1.heap.size u1 := HRX.out.of_block (heap_setCells_ne _ (by omega) _ _ _)
      have hB5 : Below (w.heap.size + 1) w1 (w4.setCells w3.heap.size 0 u1.cells) := HY.out.trans (Step.setCells (K := fun _ _ => False) hs3 (fun _ h => h) _ _ _ HNEW.out).below
      obtain ⟨a0, a1, a2, a3, a4, a5, a6, a7, a8⟩ := stat_row hRX
      have HB5 := Lib.hid hB5
      clear hRX hB5
      generalize w4.setCells w3.heap.size 0 u1.cells = w5 at *
      go_wp2_with fail
      go_ret
      exact ⟨rfl, HW.out.trans (HB5.out.mono (by omega))⟩
end Go.Proofs.YtpffanfpohajhaaGreat
