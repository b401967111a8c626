/- Package cells: store, add, does. -/
import Derived.Test.YtcikopeddljgkaaGreatKHcc
import Derived.Test.YtcikopeddljgkaaGreatKHma
import Derived.Test.YtcikopeddljgkaaGreatKHmet
import Derived.Test.YtcikopeddljgkaaGreatKHr
import Derived.Test.YtcikopeddljgkaaGreatKHnac
import Derived.Below
import Derived.BigQuiet
import Derived.Deep.Draws
import Derived.Deep.Light
import Derived.Deep.OwnRows
import Derived.Deep.QuietTactic
import Derived.Deep.RegionHeld
import Derived.Laws.CopyOwn
import Derived.Laws.CopyRow
import Derived.Laws.Tables
import Derived.Lib.AppendZerosOnto
import Derived.Lib.Hide
import Derived.Lib.Tables
import Derived.Lib.Walk
import Derived.LoopIn
import Derived.LoopN
import Derived.LoopNIn
import Derived.Maps.AppendAt
import Derived.Maps.Views
import Derived.OwnWalkIn
import Derived.RangeFuncBox
import Derived.RangeFuncCalls
import Derived.RangeFuncRecord
import Derived.RangeFuncSeq
import Derived.Recover
import Derived.RegionTactic
import Derived.Shelf.Slices.Clone
import Derived.StillTail
import Derived.StillTailTactics
import Derived.TacticsInMore
import Derived.Test.YtcikopeddljgkaaGreatProg
import Derived.WalkKit
import Derived.WalkLawsBesides
import Derived.WalkMore
import Derived.WalkSpells
set_option linter.unusedSimpArgs false
set_option linter.unusedVariables false
namespace Go.Proofs.Hc
open Go.RowKit
variable {me : Int}
attribute [local go_sem] wrap_u64 wrap_u8 bits_xor64 bits_and64 bits_or64 bits_not64 bits_xor8 bits_and8 bits_or8 signed64 signed8 ofInt_N BitVec.ofInt_add BitVec.ofInt_mul ofInt_sub' ofInt8_N64 ofInt64_N8 wide8 eqN neN shr_pow shr1 shr7 shr56
attribute [local go_sem high] bits_com64 shl_wrap
attribute [local go_sem] cell_heap ice_heap cellAt_cells iceAt_cells setAt_cells rowAt_cells canLay_cells laidAt_cells size_onObj size_setCell rowRes_some layRes_true
attribute [local go_sem] load26 load73 load23 store26 build73
attribute [local go_sem ↓] lrow26 lrow73 lrow23 srow26 zero26 brow73 heap_alloc heap_drew heap_drewN heap_setCell heap_onObj
attribute [local go_sem] tcells_size hcells_size tcells_get hcells_get tcells_one hcells_one hcells_table tcells_table hcells_all hcells_ctrl tcells_ctrl
attribute [local go_sem] nn2 nm2 nn3 nm3 nn4 nm4 nn5 nm5 nn6 nm6 nn7 nm7 nn8 nm8
attribute [local go_sem] nn2 nm2 nn3 nm3 nn4 nm4 nn5 nm5 nn6 nm6 nn7 nm7 nn8 nm8
attribute [local go_sem] acc_g0 acc_g1 acc_g2 acc_g4 acc_s0 acc_s1 acc_s2 acc_s4 accC_size accC_one accC_all loadAcc storeAcc bacc0 bacc2 bacc3 bacc3u bacc4
attribute [local go_sem ↓] lrowAcc srowAcc browAcc zeroAcc_run
attribute [local go_sem high] laidAt_acc
attribute [local go_sem] loadAcs storeAcs buildAcs boxAcs boxAcc meth_load meth_swap
attribute [local go_sem ↓] lrowAcs srowAcs browAcs zeroAcs_run
attribute [local go_sem] seenC_size seenC_one seenC_all seenC_g0 loadSeen storeSeen buildSeen buildSeen0
attribute [local go_sem ↓] lrowSeen srowSeen browSeen zeroSeen_run
attribute [local go_sem high] laidAt_seen
attribute [local irreducible] seenC
attribute [local go_sem] Oper.semAt_some make_func1 ofInt_N
attribute [local irreducible] accC
/-- What an access does to a cell of a row. -/
def DoesPost (w : World) (r o : Nat) (cur : Array Value) (x z : BitVec 64) (e : Ending) (w' : World) : Prop := e = .returned (.agg (seenC (N x) true)) ∧ Ch [r] w w' ∧ w'.heap[r]? = some (.cells (cur.setIfInBounds o (U z)) 22 (0, 0))
theorem set_same (cur : Array Value) (o : Nat) (v : Value) (h : cur[o]? = some v) : cur.setIfInBounds o v = cur := by
  apply Array.ext_getElem?
  intro i
  rw [Array.getElem?_setIfInBounds]
  by_cases e : o = i
  · subst e
    have := (Array.getElem?_eq_some_iff.1 h).1
    rw [if_pos rfl, if_pos this, h]
  · rw [if_neg e]
set_option maxHeartbeats 2000000 in
set_option maxRecDepth 100000 in
theorem aStore_any (kd a : Int) (x y : BitVec 64) (r o : Nat) (cur : Array Value) (w : World) (hr : w.heap[r]? = some (.cells cur 22 (0, 0))) (ho : cur[o]? = some (U x)) :
    Calls Tryz.prog 236 #[.agg (accC me kd a (N y)), .iface 268 (.agg #[.slice (some ⟨r, o, none⟩) 1 1])] w (DoesPost w r o cur x y) := by
  have C0 : Ch [] w ((w.alloc (.cells (accC me kd a (N y)) 264)).alloc (.cells (seenC 0 false) 93)) := ((Ch.refl [] w).alloc _).alloc _
  have z0 : ((w.alloc (.cells (accC me kd a (N y)) 264)).alloc (.cells (seenC 0 false) 93)).heap[w.heap.size + 1]? = some (.cells (seenC 0 false) 93 (0, 0)) := by rw [heap_alloc, if_pos (by simp)]
  have b0 : ((w.alloc (.cells (accC me kd a (N y)) 264)).alloc (.cells (seenC 0 false) 93)).heap[w.heap.size]? = some (.cells (accC me kd a (N y)) 264 (0, 0)) := by rw [heap_alloc, if_neg (by simp), heap_alloc, if_pos rfl]
  have r0 := hkeep C0 hr
  have hrl : r < w.heap.size := (Array.getElem?_eq_some_iff.1 hr).1
  clear hr
  go_enter Tryz.func236, Tryz.ntmps236
  go_wp2_with fail
  generalize (w.alloc (.cells (accC me kd a (N y)) 264)).alloc (.cells (seenC 0 false) 93) = W0 at *
  refine (change_any 283 kd a (N y) x y w.heap.size r o cur (accC me kd a (N y)) W0 r0 ho b0 Tryz.call283 (fun W h => toStore_any kd a x y w.heap.size W h)).mono ?_
  rintro e w3 ⟨rfl, hc3, r3⟩
  have z3 : w3.heap[w.heap.size + 1]? = some (.cells (seenC 0 false) 93 (0, 0)) := (hc3.block _ (Array.getElem?_eq_some_iff.1 z0).1 (by simp; omega)).trans z0
  have C3 : Ch [r] w w3 := (C0.of_nil).trans hc3
  go_wp2
  refine bodyPost_ret (seen_result Tryz.results236 _ (w.heap.size + 1) _ (N x) true rfl ?_) rfl ⟨rfl, ?_, ?_⟩
  · simp [go_sem, z3]
  · exact C3.onObj (p := w.heap.size + 1) (.inr (by omega)) _
  · rw [heap_onObj, if_neg (by omega)]; exact r3
set_option maxHeartbeats 2000000 in
set_option maxRecDepth 100000 in
theorem aAdd_any (kd a : Int) (x y : BitVec 64) (r o : Nat) (cur : Array Value) (w : World) (hr : w.heap[r]? = some (.cells cur 22 (0, 0))) (ho : cur[o]? = some (U x)) :
    Calls Tryz.prog 238 #[.agg (accC me kd a (N y)), .iface 268 (.agg #[.slice (some ⟨r, o, none⟩) 1 1])] w (DoesPost w r o cur x (x + y)) := by
  have C0 : Ch [] w ((w.alloc (.cells (accC me kd a (N y)) 264)).alloc (.cells (seenC 0 false) 93)) := ((Ch.refl [] w).alloc _).alloc _
  have z0 : ((w.alloc (.cells (accC me kd a (N y)) 264)).alloc (.cells (seenC 0 false) 93)).heap[w.heap.size + 1]? = some (.cells (seenC 0 false) 93 (0, 0)) := by rw [heap_alloc, if_pos (by simp)]
  have b0 : ((w.alloc (.cells (accC me kd a (N y)) 264)).alloc (.cells (seenC 0 false) 93)).heap[w.heap.size]? = some (.cells (accC me kd a (N y)) 264 (0, 0)) := by rw [heap_alloc, if_neg (by simp), heap_alloc, if_pos rfl]
  have r0 := hkeep C0 hr
  have hrl : r < w.heap.size := (Array.getElem?_eq_some_iff.1 hr).1
  clear hr
  go_enter Tryz.func238, Tryz.ntmps238
  go_wp2_with fail
  generalize (w.alloc (.cells (accC me kd a (N y)) 264)).alloc (.cells (seenC 0 false) 93) = W0 at *
  refine (change_any 284 kd a (N y) x (x + y) w.heap.size r o cur (accC me kd a (N y)) W0 r0 ho b0 Tryz.call284 (fun W h => toAdd_any kd a x y w.heap.size W h)).mono ?_
  rintro e w3 ⟨rfl, hc3, r3⟩
  have z3 : w3.heap[w.heap.size + 1]? = some (.cells (seenC 0 false) 93 (0, 0)) := (hc3.block _ (Array.getElem?_eq_some_iff.1 z0).1 (by simp; omega)).trans z0
  have C3 : Ch [r] w w3 := (C0.of_nil).trans hc3
  go_wp2
  refine bodyPost_ret (seen_result Tryz.results238 _ (w.heap.size + 1) _ (N x) true rfl ?_) rfl ⟨rfl, ?_, ?_⟩
  · simp [go_sem, z3]
  · exact C3.onObj (p := w.heap.size + 1) (.inr (by omega)) _
  · rw [heap_onObj, if_neg (by omega)]; exact r3
/-- The kinds' functions, bound to an access. -/
def waysC (a : Value) : Array Value := #[.nilFunc, .func (.func 235) #[a] #[], .func (.func 236) #[a] #[], .func (.func 237) #[a] #[], .func (.func 238) #[a] #[]]
theorem waysC_size (a : Value) : (waysC a).size = 5 := rfl
theorem waysC_one (a : Value) : allOne (waysC a) = true := by unfold allOne waysC; simp [Value.oneCell']
theorem waysC_1 (a : Value) : (waysC a)[1]? = some (.func (.func 235) #[a] #[]) := rfl
theorem waysC_2 (a : Value) : (waysC a)[2]? = some (.func (.func 236) #[a] #[]) := rfl
theorem waysC_4 (a : Value) : (waysC a)[4]? = some (.func (.func 238) #[a] #[]) := rfl
def ways0 : Array Value := #[.nilFunc, .nilFunc, .nilFunc, .nilFunc, .nilFunc]
theorem ways0_size : ways0.size = 5 := rfl
theorem brow252 (ps : Array (Nat × Value)) : Instr.build 318 ps = buildRow 318 ps := rfl
theorem build252 (x y z u : Int) (w : World) : (buildRow 318 #[(1, .func (.func 235) #[.agg (accC x y z u)] #[]), (2, .func (.func 236) #[.agg (accC x y z u)] #[]), (3, .func (.func 237) #[.agg (accC x y z u)] #[]), (4, .func (.func 238) #[.agg (accC x y z u)] #[])]).run Tryz.prog w = .ok (.agg (waysC (.agg (accC x y z u)))) w := by kernel_rfl
theorem zero252_run (w : World) : (zeroValue 318).run Tryz.prog w = .ok (.agg ways0) w := by kernel_rfl
theorem store252 (g o : Nat) (vs : Array Value) (w : World) : (storeRow 318 ⟨g, o, none⟩ (.agg vs)).run Tryz.prog w = layRes Tryz.prog 318 g o vs w (((w.heap[g]?).map (canLay o 5 vs)).getD false) :=
  run_lay (by kernel_rfl) g o vs w
theorem srow252 (a : Addr) (v : Value) : storeVar 318 a v = storeRow 318 a v := rfl
theorem laidAt_252 (a : Value) (t : TypeId) (fr : Nat × Nat) : laidAt 0 (waysC a) (.cells ways0 t fr) = .cells (waysC a) t fr := by
  rw [laidAt_cells, laid_whole _ _ (by rw [ways0_size, waysC_size])]
attribute [local go_sem] build252 store252 waysC_one waysC_size ways0_size waysC_1 waysC_2 waysC_4
attribute [local go_sem ↓] brow252 zero252_run srow252
attribute [local go_sem high] laidAt_252
attribute [local irreducible] waysC ways0
set_option maxHeartbeats 2000000 in
set_option maxRecDepth 100000 in
theorem does_1 (a : Int) (d : Int) (x : BitVec 64) (r o : Nat) (cur : Array Value) (w : World) (hr : w.heap[r]? = some (.cells cur 22 (0, 0))) (ho : cur[o]? = some (U x)) :
    Calls Tryz.prog 185 #[.agg (accC me 1 a d), .iface 268 (.agg #[.slice (some ⟨r, o, none⟩) 1 1])] w (DoesPost w r o cur x x) := by
  have C0 : Ch [] w (World.onObj (((w.alloc (.cells (accC me 1 a d) 264)).alloc (.cells (seenC 0 false) 93)).alloc (.cells ways0 318)) (w.heap.size + 1 + 1) (laidAt 0 (waysC (.agg (accC me 1 a d))))) := ((((Ch.refl [] w).alloc _).alloc _).alloc _).onObj (p := w.heap.size + 1 + 1) (.inr (by omega)) _
  have z0 : (World.onObj (((w.alloc (.cells (accC me 1 a d) 264)).alloc (.cells (seenC 0 false) 93)).alloc (.cells ways0 318)) (w.heap.size + 1 + 1) (laidAt 0 (waysC (.agg (accC me 1 a d))))).heap[w.heap.size + 1]? = some (.cells (seenC 0 false) 93 (0, 0)) := by
    rw [heap_onObj, if_neg (by omega), heap_alloc, if_neg (by simp), heap_alloc, if_pos (by simp)]
  have r0 := hkeep C0 hr
  have hrl : r < w.heap.size := (Array.getElem?_eq_some_iff.1 hr).1
  clear hr
  go_enter Tryz.func185, Tryz.ntmps185
  go_wp2_with fail
  generalize World.onObj (((w.alloc (.cells (accC me 1 a d) 264)).alloc (.cells (seenC 0 false) 93)).alloc (.cells ways0 318)) (w.heap.size + 1 + 1) (laidAt 0 (waysC (.agg (accC me 1 a d)))) = W0 at *
  refine (aLoad_any 1 a d r o x W0 (by rw [cell_heap, r0]; exact ho)).mono ?_
  rintro e w3 ⟨rfl, hc3'⟩
  have hc3 : Ch [r] W0 w3 := hc3'.of_nil
  have r3 : w3.heap[r]? = some (.cells (cur.setIfInBounds o (U x)) 22 (0, 0)) := by rw [set_same cur o (U x) ho]; exact hkeep hc3' r0
  have z3 : w3.heap[w.heap.size + 1]? = some (.cells (seenC 0 false) 93 (0, 0)) := (hc3.block _ (Array.getElem?_eq_some_iff.1 z0).1 (by simp; omega)).trans z0
  have C3 : Ch [r] w w3 := (C0.of_nil).trans hc3
  go_wp2
  refine bodyPost_ret (seen_result Tryz.results185 _ (w.heap.size + 1) _ (N x) true rfl ?_) rfl ⟨rfl, ?_, ?_⟩
  · simp [go_sem, z3]
  · exact C3.onObj (p := w.heap.size + 1) (.inr (by omega)) _
  · rw [heap_onObj, if_neg (by omega)]; exact r3
set_option maxHeartbeats 2000000 in
set_option maxRecDepth 100000 in
theorem does_2 (a : Int) (y : BitVec 64) (x : BitVec 64) (r o : Nat) (cur : Array Value) (w : World) (hr : w.heap[r]? = some (.cells cur 22 (0, 0))) (ho : cur[o]? = some (U x)) :
    Calls Tryz.prog 185 #[.agg (accC me 2 a (N y)), .iface 268 (.agg #[.slice (some ⟨r, o, none⟩) 1 1])] w (DoesPost w r o cur x y) := by
  have C0 : Ch [] w (World.onObj (((w.alloc (.cells (accC me 2 a (N y)) 264)).alloc (.cells (seenC 0 false) 93)).alloc (.cells ways0 318)) (w.heap.size + 1 + 1) (laidAt 0 (waysC (.agg (accC me 2 a (N y)))))) := ((((Ch.refl [] w).alloc _).alloc _).alloc _).onObj (p := w.heap.size + 1 + 1) (.inr (by omega)) _
  have z0 : (World.onObj (((w.alloc (.cells (accC me 2 a (N y)) 264)).alloc (.cells (seenC 0 false) 93)).alloc (.cells ways0 318)) (w.heap.size + 1 + 1) (laidAt 0 (waysC (.agg (accC me 2 a (N y)))))).heap[w.heap.size + 1]? = some (.cells (seenC 0 false) 93 (0, 0)) := by
    rw [heap_onObj, if_neg (by omega), heap_alloc, if_neg (by simp), heap_alloc, if_pos (by simp)]
  have r0 := hkeep C0 hr
  have hrl : r < w.heap.size := (Array.getElem?_eq_some_iff.1 hr).1
  clear hr
  go_enter Tryz.func185, Tryz.ntmps185
  go_wp2_with fail
  generalize World.onObj (((w.alloc (.cells (accC me 2 a (N y)) 264)).alloc (.cells (seenC 0 false) 93)).alloc (.cells ways0 318)) (w.heap.size + 1 + 1) (laidAt 0 (waysC (.agg (accC me 2 a (N y))))) = W0 at *
  refine (aStore_any 2 a x y r o cur W0 r0 ho).mono ?_
  rintro e w3 ⟨rfl, hc3, r3⟩
  have z3 : w3.heap[w.heap.size + 1]? = some (.cells (seenC 0 false) 93 (0, 0)) := (hc3.block _ (Array.getElem?_eq_some_iff.1 z0).1 (by simp; omega)).trans z0
  have C3 : Ch [r] w w3 := (C0.of_nil).trans hc3
  go_wp2
  refine bodyPost_ret (seen_result Tryz.results185 _ (w.heap.size + 1) _ (N x) true rfl ?_) rfl ⟨rfl, ?_, ?_⟩
  · simp [go_sem, z3]
  · exact C3.onObj (p := w.heap.size + 1) (.inr (by omega)) _
  · rw [heap_onObj, if_neg (by omega)]; exact r3
set_option maxHeartbeats 2000000 in
set_option maxRecDepth 100000 in
theorem does_4 (a : Int) (y : BitVec 64) (x : BitVec 64) (r o : Nat) (cur : Array Value) (w : World) (hr : w.heap[r]? = some (.cells cur 22 (0, 0))) (ho : cur[o]? = some (U x)) :
    Calls Tryz.prog 185 #[.agg (accC me 4 a (N y)), .iface 268 (.agg #[.slice (some ⟨r, o, none⟩) 1 1])] w (DoesPost w r o cur x (x + y)) := by
  have C0 : Ch [] w (World.onObj (((w.alloc (.cells (accC me 4 a (N y)) 264)).alloc (.cells (seenC 0 false) 93)).alloc (.cells ways0 318)) (w.heap.size + 1 + 1) (laidAt 0 (waysC (.agg (accC me 4 a (N y)))))) := ((((Ch.refl [] w).alloc _).alloc _).alloc _).onObj (p := w.heap.size + 1 + 1) (.inr (by omega)) _
  have z0 : (World.onObj (((w.alloc (.cells (accC me 4 a (N y)) 264)).alloc (.cells (seenC 0 false) 93)).alloc (.cells ways0 318)) (w.heap.size + 1 + 1) (laidAt 0 (waysC (.agg (accC me 4 a (N y)))))).heap[w.heap.size + 1]? = some (.cells (seenC 0 false) 93 (0, 0)) := by
    rw [heap_onObj, if_neg (by omega), heap_alloc, if_neg (by simp), heap_alloc, if_pos (by simp)]
  have r0 := hkeep C0 hr
  have hrl : r < w.heap.size := (Array.getElem?_eq_some_iff.1 hr).1
  clear hr
  go_enter Tryz.func185, Tryz.ntmps185
  go_wp2_with fail
  generalize World.onObj (((w.alloc (.cells (accC me 4 a (N y)) 264)).alloc (.cells (seenC 0 false) 93)).alloc (.cells ways0 318)) (w.heap.size + 1 + 1) (laidAt 0 (waysC (.agg (accC me 4 a (N y))))) = W0 at *
  refine (aAdd_any 4 a x y r o cur W0 r0 ho).mono ?_
  rintro e w3 ⟨rfl, hc3, r3⟩
  have z3 : w3.heap[w.heap.size + 1]? = some (.cells (seenC 0 false) 93 (0, 0)) := (hc3.block _ (Array.getElem?_eq_some_iff.1 z0).1 (by simp; omega)).trans z0
  have C3 : Ch [r] w w3 := (C0.of_nil).trans hc3
  go_wp2
  refine bodyPost_ret (seen_result Tryz.results185 _ (w.heap.size + 1) _ (N x) true rfl ?_) rfl ⟨rfl, ?_, ?_⟩
  · simp [go_sem, z3]
  · exact C3.onObj (p := w.heap.size + 1) (.inr (by omega)) _
  · rw [heap_onObj, if_neg (by omega)]; exact r3
end Go.Proofs.Hc
