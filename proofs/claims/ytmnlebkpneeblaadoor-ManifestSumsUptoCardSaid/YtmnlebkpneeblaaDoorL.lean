/- Walk of the reference's Of. Condition: bounds. -/
import Derived.Test.YtmnlebkpneeblaaDoorK
namespace Go.Proofs.YtmnlebkpneeblaaDoor
open Go Go.RowKit

def AggP (cs : List Value) (w : World) (e : Ending) (w' : World) : Prop := e = .returned (.agg cs.toArray) ∧ Below w.heap.size w w'

set_option maxRecDepth 100000 in
theorem begins_any (w : World) : Calls Tryd.prog 15 #[] w (AggP (u32s S8.begins.list) w) := by
  have HB := Lib.hid ((Below.refl w.heap.size w).alloc (Nat.le_refl _) (.cells (u32s S8.begins.list).toArray 34))
  have HR := Lib.hid (heap_alloc_new w (.cells (u32s S8.begins.list).toArray 34))
  go_enter Tryd.func15, Tryd.ntmps15
  go_wp2_with fail
  exact bodyPost_ret (v := .agg (u32s S8.begins.list).toArray) (results_cell_row (p := 0) (ty := 34) rfl _ _ w.heap.size 34 _ _ _ rfl HR.out Tryd.underlying34 rfl (by kernel_rfl)) rfl ⟨rfl, HB.out⟩

theorem u32s_one (l : List Int) : ∀ u ∈ u32s l, u.oneCell' = true := by
  intro u hu
  obtain ⟨b, _, rfl⟩ := List.mem_map.1 hu
  rfl

def ksA : Array Value := #[.int .u32 1116352408, .int .u32 1899447441, .int .u32 3049323471, .int .u32 3921009573, .int .u32 961987163, .int .u32 1508970993, .int .u32 2453635748, .int .u32 2870763221, .int .u32 3624381080, .int .u32 310598401, .int .u32 607225278, .int .u32 1426881987, .int .u32 1925078388, .int .u32 2162078206, .int .u32 2614888103, .int .u32 3248222580, .int .u32 3835390401, .int .u32 4022224774, .int .u32 264347078, .int .u32 604807628, .int .u32 770255983, .int .u32 1249150122, .int .u32 1555081692, .int .u32 1996064986, .int .u32 2554220882, .int .u32 2821834349, .int .u32 2952996808, .int .u32 3210313671, .int .u32 3336571891, .int .u32 3584528711, .int .u32 113926993, .int .u32 338241895, .int .u32 666307205, .int .u32 773529912, .int .u32 1294757372, .int .u32 1396182291, .int .u32 1695183700, .int .u32 1986661051, .int .u32 2177026350, .int .u32 2456956037, .int .u32 2730485921, .int .u32 2820302411, .int .u32 3259730800, .int .u32 3345764771, .int .u32 3516065817, .int .u32 3600352804, .int .u32 4094571909, .int .u32 275423344, .int .u32 430227734, .int .u32 506948616, .int .u32 659060556, .int .u32 883997877, .int .u32 958139571, .int .u32 1322822218, .int .u32 1537002063, .int .u32 1747873779, .int .u32 1955562222, .int .u32 2024104815, .int .u32 2227730452, .int .u32 2361852424, .int .u32 2428436474, .int .u32 2756734187, .int .u32 3204031479, .int .u32 3329325298]
theorem ksA_list : ksA.toList = u32s Ks := rfl
theorem ksA_size : ksA.size = 64 := rfl
theorem ks_len : (u32s Ks).length = 64 := rfl
def zsA : Array Value := (List.replicate 64 (Value.int .u32 0)).toArray
theorem zsA_list : zsA.toList = List.replicate 64 (Value.int .u32 0) := rfl
set_option maxRecDepth 100000 in
set_option maxHeartbeats 1000000 in
theorem keys_any (w : World) : Calls Tryd.prog 16 #[] w (AggP (u32s Ks) w) := by
  have hr := Row.new w (List.replicate 64 (Value.int .u32 0)) 40
  have hb := (Below.refl w.heap.size w).alloc (Nat.le_refl _) (.cells (List.replicate 64 (Value.int .u32 0)).toArray 40)
  have HTH : Hid ((w.alloc (.cells (List.replicate 64 (Value.int .u32 0)).toArray 40)).there w.heap.size 0 ksA.size) := Lib.hid (hr.there _ (by rw [ksA_size, List.length_replicate]; exact Nat.le_refl _))
  have HFIN := Lib.hid (hr.over (vs := ksA.toList) (by rw [Array.length_toList, ksA_size, List.length_replicate]))
  have HBF := Lib.hid (below_setCells (Nat.le_refl _) ksA.toList 0 w _ hb)
  clear hr hb
  go_enter Tryd.func16, Tryd.ntmps16
  go_wp2_with (refine wpList_store_mid rfl 40 _ _ rfl w.heap.size 0 ksA rfl rfl HTH.out (by kernel_rfl) (by kernel_rfl) ?_)
  obtain ⟨T, hT⟩ := HFIN.out
  exact bodyPost_ret (v := .agg ksA) (results_cell_row (p := 0) (ty := 40) rfl _ _ w.heap.size T ksA (0, 0) _ rfl hT Tryd.underlying40 rfl (by kernel_rfl)) rfl ⟨by rw [← ksA_list], HBF.out⟩
end Go.Proofs.YtmnlebkpneeblaaDoor
