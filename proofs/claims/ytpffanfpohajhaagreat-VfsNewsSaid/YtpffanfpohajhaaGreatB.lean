/- The satchel file system's memory: which blocks a file system has, and what lies in them. No condition. -/
import Derived.Test.YtpffanfpohajhaaGreatA
namespace Go.Proofs.YtpffanfpohajhaaGreat
open Go Go.RowKit Go.MapKept

/-! ### 1. The state, as plain data -/
structure Mt where
  mode : Int
  uid : Int
  gid : Int
  time : Int
  nano : Int
  deriving DecidableEq, Inhabited

def Mt.cells (m : Mt) : List Value := [.int .u32 m.mode, .int .u32 m.uid, .int .u32 m.gid, .int .i64 m.time, .int .i32 m.nano]

structure Ino where
  kind : Int
  mt : Mt
  data : List UInt8
  target : ByteArray
  ents : List (ByteArray × Int)
  links : Int
  up : Int
  deriving DecidableEq, Inhabited

structure Act8 where
  op : Int
  dir : Int
  name : ByteArray
  node : Int
  to : Int
  other : ByteArray
  pos : Int
  n : Int
  deriving DecidableEq, Inhabited

def Act8.cells (a : Act8) : List Value := [.int .i64 a.op, .int .i64 a.dir, .string a.name, .int .i64 a.node, .int .i64 a.to, .string a.other, .int .i64 a.pos, .int .i64 a.n]

structure Fs where
  nodes : Int
  bytes : Int
  next : Int
  used : Int
  inos : List (Int × Ino)
  trace : List Act8

def get {K V : Type} [DecidableEq K] (k : K) : List (K × V) → Option V
  | [] => none
  | p :: r => if p.1 = k then some p.2 else get k r

def Fs.get (F : Fs) (n : Int) : Option Ino := YtpffanfpohajhaaGreat.get n F.inos

/-! ### 2. Rows of cells -/
def Row (w : World) (b : Nat) (cs : List Value) : Prop := ∃ T, w.heap[b]? = some (.cells cs.toArray T (0, 0))

theorem Row.of_block {w w' : World} {b : Nat} {cs : List Value} (h : Row w b cs) (e : w'.heap[b]? = w.heap[b]?) : Row w' b cs := by
  obtain ⟨T, h⟩ := h
  exact ⟨T, e.trans h⟩
theorem Row.cell {w : World} {b : Nat} {cs : List Value} (h : Row w b cs) (j : Nat) {v : Value} (e : cs[j]? = some v) : w.cell? ⟨b, j, none⟩ = some v := by
  obtain ⟨T, h⟩ := h
  simp [World.cell?, h, e]
theorem Row.frozen {w : World} {b : Nat} {cs : List Value} (h : Row w b cs) (j : Nat) : w.frozen? ⟨b, j, none⟩ = false := by
  obtain ⟨T, h⟩ := h
  simp [World.frozen?, h]
theorem Row.lt {w : World} {b : Nat} {cs : List Value} (h : Row w b cs) : b < w.heap.size := by
  obtain ⟨T, h⟩ := h
  exact (Array.getElem?_eq_some_iff.1 h).1

/-- A slice that reads as a list of cells, `size` to an element: nil, or the head of a row. -/
def Sl (w : World) (e : TypeId) (size : Nat) (v : Value) (n : Nat) (xs : List Value) : Prop := w.ownsRow 0 e size v n xs

theorem Sl.of_block {w w' : World} {e : TypeId} {size : Nat} {v : Value} {n : Nat} {xs : List Value} (h : Sl w e size v n xs) (hb : ∀ b, v.ownBlock = some b → w'.heap[b]? = w.heap[b]?) : Sl w' e size v n xs := by
  obtain ⟨h1, h2 | ⟨g, cap, cur, rfl, h3, h4, h5⟩⟩ := h
  · exact ⟨h1, .inl h2⟩
  · exact ⟨h1, .inr ⟨g, cap, cur, rfl, h3, (hb g rfl).trans h4, h5⟩⟩
theorem Sl.lt {w : World} {e : TypeId} {size : Nat} {v : Value} {n : Nat} {xs : List Value} (h : Sl w e size v n xs) (b : Nat) (hb : v.ownBlock = some b) : b < w.heap.size := (World.ownsRow.lt h b hb).2

def u8s (l : List UInt8) : List Value := l.map fun b => .int .u8 b.toNat
def acts (l : List Act8) : List Value := l.flatMap Act8.cells

/-! ### 3. A file system in memory -/
inductive Lbl where
  | fs | map | ino (n : Int) | ent (n : Int) | dat (n : Int) | tr

/-- Where it lies. -/
structure Fp where
  p : Nat
  m : Nat
  ib : Int → Nat
  eb : Int → Nat
  dv : Int → Value
  tv : Value

def Fp.blk (f : Fp) (F : Fs) : Lbl → Option Nat
  | .fs => some f.p
  | .map => some f.m
  | .ino n => (F.get n).map fun _ => f.ib n
  | .ent n => (F.get n).bind fun i => if i.kind = 1 then some (f.eb n) else none
  | .dat n => (F.get n).bind fun _ => (f.dv n).ownBlock
  | .tr => f.tv.ownBlock

def ptr (b : Nat) : Value := .pointer (some ⟨b, 0, none⟩)

def Fp.entv (f : Fp) (n : Int) (i : Ino) : Value := .map (if i.kind = 1 then some (f.eb n) else none)
def Fp.inoCells (f : Fp) (n : Int) (i : Ino) : List Value :=
  [.int .i64 i.kind, .int .u32 i.mt.mode, .int .u32 i.mt.uid, .int .u32 i.mt.gid, .int .i64 i.mt.time, .int .i32 i.mt.nano, f.dv n, .string i.target, f.entv n i, .int .i64 i.links, .int .i64 i.up]

/-- What lies in the block of a label. -/
def Fp.holds (f : Fp) (F : Fs) (w : World) : Lbl → Prop
  | .fs => Row w f.p [.int .i64 F.nodes, .int .i64 F.bytes, .int .i64 F.next, .int .i64 F.used, .map (some f.m), f.tv]
  | .map => MapHas ints w f.m (fun n => (F.get n).map fun _ => ptr (f.ib n)) F.inos.length
  | .ino n => ∀ i, F.get n = some i → Row w (f.ib n) (f.inoCells n i)
  | .ent n => ∀ i, F.get n = some i → if i.kind = 1 then MapHas strs w (f.eb n) (fun s => (get s i.ents).map fun k => .int .i64 k) i.ents.length else i.ents = []
  | .dat n => ∀ i, F.get n = some i → Sl w 5 1 (f.dv n) i.data.length (u8s i.data)
  | .tr => Sl w 96 8 f.tv F.trace.length (acts F.trace)

structure FsAt (w : World) (F : Fs) (f : Fp) : Prop where
  holds : ∀ l, f.holds F w l
  apart : ∀ l l' b, f.blk F l = some b → f.blk F l' = some b → l = l'

/-- The world is the old one but for what lies in S and what is new. -/
structure Chg (S : Nat → Prop) (w w' : World) : Prop where
  os : w'.os = w.os
  tape : w'.tape = w.tape
  output : w'.output = w.output
  size : w.heap.size ≤ w'.heap.size
  block : ∀ k, k < w.heap.size → ¬ S k → w'.heap[k]? = w.heap[k]?

theorem Chg.refl (S : Nat → Prop) (w : World) : Chg S w w := ⟨rfl, rfl, rfl, Nat.le_refl _, fun _ _ _ => rfl⟩
theorem Chg.of_below {w w' : World} (h : Below w.heap.size w w') (S : Nat → Prop) : Chg S w w' := ⟨h.os, h.tape, h.output, h.size, fun k hk _ => h.block k hk⟩
theorem Chg.below {w w' : World} (h : Chg (fun _ => False) w w') : Below w.heap.size w w' := ⟨h.os, h.tape, h.output, h.size, fun k hk => h.block k hk (fun x => x)⟩
theorem Chg.mono {S S' : Nat → Prop} {w w' : World} (h : Chg S w w') (hs : ∀ k, k < w.heap.size → S k → S' k) : Chg S' w w' := ⟨h.os, h.tape, h.output, h.size, fun k hk hn => h.block k hk (fun x => hn (hs k hk x))⟩
theorem Chg.trans {S S' S'' : Nat → Prop} {a b c : World} (h : Chg S a b) (k : Chg S' b c) (h1 : ∀ x, x < a.heap.size → S x → S'' x) (h2 : ∀ x, x < a.heap.size → S' x → S'' x) : Chg S'' a c :=
  ⟨k.os.trans h.os, k.tape.trans h.tape, k.output.trans h.output, Nat.le_trans h.size k.size, fun i hi hn => (k.block i (Nat.lt_of_lt_of_le hi h.size) (fun x => hn (h2 i hi x))).trans (h.block i hi (fun x => hn (h1 i hi x)))⟩

theorem Fp.lt {w : World} {F : Fs} {f : Fp} (h : FsAt w F f) : ∀ l b, f.blk F l = some b → b < w.heap.size := by
  intro l b hb
  have := h.holds l
  cases l with
  | fs => cases hb; exact Row.lt this
  | map => cases hb; exact MapHas.lt this
  | ino n =>
    simp only [Fp.blk, Option.map_eq_some_iff] at hb
    obtain ⟨i, hi, rfl⟩ := hb
    exact (this i hi).lt
  | ent n =>
    simp only [Fp.blk, Option.bind_eq_some_iff] at hb
    obtain ⟨i, hi, hb⟩ := hb
    have := this i hi
    split at hb
    · cases hb; rw [if_pos (by assumption)] at this; exact this.lt
    · cases hb
  | dat n =>
    simp only [Fp.blk, Option.bind_eq_some_iff] at hb
    obtain ⟨i, hi, hb⟩ := hb
    exact (this i hi).lt b hb
  | tr => exact Sl.lt this b hb

theorem Fp.holds_of {w w' : World} {F : Fs} {f : Fp} {l : Lbl} (h : f.holds F w l) (hb : ∀ b, f.blk F l = some b → w'.heap[b]? = w.heap[b]?) : f.holds F w' l := by
  cases l with
  | fs => exact Row.of_block h (hb _ rfl)
  | map => exact MapHas.of_block h (hb _ rfl)
  | ino n => exact fun i hi => (h i hi).of_block (hb _ (by simp [Fp.blk, hi]))
  | ent n =>
    intro i hi
    have := h i hi
    split at this
    · rename_i hk; rw [if_pos hk]; exact this.of_block (hb _ (by simp [Fp.blk, hi, hk]))
    · rename_i hk; rw [if_neg hk]; exact this
  | dat n => exact fun i hi => (h i hi).of_block fun b hv => hb b (by simp [Fp.blk, hi, hv])
  | tr => exact Sl.of_block h fun b hv => hb b hv

theorem FsAt.of_blocks {w w' : World} {F : Fs} {f : Fp} (h : FsAt w F f) (hb : ∀ l b, f.blk F l = some b → w'.heap[b]? = w.heap[b]?) : FsAt w' F f :=
  ⟨fun l => Fp.holds_of (h.holds l) (hb l), h.apart⟩

/-- A file system at p, all of it in S. -/
def FsIn (w : World) (p : Nat) (F : Fs) (S : Nat → Prop) : Prop := ∃ f : Fp, FsAt w F f ∧ f.p = p ∧ (∀ l b, f.blk F l = some b → S b)

theorem FsIn.chg {w w' : World} {p : Nat} {F : Fs} {S S' : Nat → Prop} (h : FsIn w p F S) (hc : Chg S' w w') (hd : ∀ k, S k → ¬ S' k) : FsIn w' p F S := by
  obtain ⟨f, h1, h2, h3⟩ := h
  exact ⟨f, h1.of_blocks fun l b hb => hc.block b (Fp.lt h1 l b hb) (hd b (h3 l b hb)), h2, h3⟩
theorem FsIn.below {w w' : World} {p : Nat} {F : Fs} {S : Nat → Prop} (h : FsIn w p F S) (hc : Below w.heap.size w w') : FsIn w' p F S :=
  h.chg (Chg.of_below hc (fun _ => False)) (fun _ _ x => x)
theorem FsIn.mono {w : World} {p : Nat} {F : Fs} {S S' : Nat → Prop} (h : FsIn w p F S) (hs : ∀ k, S k → S' k) : FsIn w p F S' := by
  obtain ⟨f, h1, h2, h3⟩ := h
  exact ⟨f, h1, h2, fun l b hb => hs b (h3 l b hb)⟩

/-! ### 4. Closed facts of the program -/
theorem zero134 (w : World) : (zeroValue 134).run Tryz.prog w = .ok (.pointer none) w := by kernel_rfl
theorem zero3 (w : World) : (zeroValue 3).run Tryz.prog w = .ok (.int .i64 0) w := by kernel_rfl

/-! ### 5. What a walk reads of it -/
def ptrOf (f : Fp) (F : Fs) (n : Int) : Value := .pointer ((F.get n).map fun _ => ⟨f.ib n, 0, none⟩)
theorem FsAt.run_ino {w : World} {F : Fs} {f : Fp} (h : FsAt w F f) (n : Int) : (Instr.lookup 135 (.map (some f.m)) (.int .i64 n) false).run Tryz.prog w = .ok (ptrOf f F n) w := by
  have := (MapHas.run_lookup (h.holds .map) Tryz.underlying135 Tryz.underlying3 zero134 n)
  refine this.trans ?_
  unfold ptrOf ptr
  cases F.get n <;> rfl
theorem FsAt.run_ent {w : World} {F : Fs} {f : Fp} (h : FsAt w F f) {n : Int} {i : Ino} (hi : F.get n = some i) (hk : i.kind = 1) (s : ByteArray) :
    (Instr.lookup 138 (.map (some (f.eb n))) (.string s) true).run Tryz.prog w = .ok (.tuple #[.int .i64 ((get s i.ents).getD 0), .bool (get s i.ents).isSome]) w := by
  have h1 := h.holds (.ent n) i hi
  rw [if_pos hk] at h1
  refine (MapHas.run_lookup_ok h1 Tryz.underlying138 Tryz.underlying9 zero3 s).trans ?_
  cases get s i.ents <;> rfl
end Go.Proofs.YtpffanfpohajhaaGreat
