/- Package cells: plain, check, load. -/
import Derived.Test.YtmfajobocpaimaaGreatKHm
import Derived.Test.YtmfajobocpaimaaGreatKHcs
import Derived.Test.YtmfajobocpaimaaGreatKHma
import Derived.Test.YtmfajobocpaimaaGreatKHxc
import Derived.Below
import Derived.BigQuiet
import Derived.Deep.Draws
import Derived.Deep.Light
import Derived.Deep.OwnRows
import Derived.Deep.QuietTactic
import Derived.Deep.RegionHeld
import Derived.Laws.CopyOwn
import Derived.Laws.CopyRow
import Derived.Laws.Tables
import Derived.Lib.AppendZerosOnto
import Derived.Lib.Hide
import Derived.Lib.Tables
import Derived.Lib.Walk
import Derived.LoopIn
import Derived.LoopN
import Derived.LoopNIn
import Derived.Maps.AppendAt
import Derived.Maps.Views
import Derived.OwnWalkIn
import Derived.RangeFuncBox
import Derived.RangeFuncCalls
import Derived.RangeFuncRecord
import Derived.RangeFuncSeq
import Derived.Recover
import Derived.RegionTactic
import Derived.Shelf.Slices.Clone
import Derived.StillTail
import Derived.StillTailTactics
import Derived.TacticsInMore
import Derived.Test.YtmfajobocpaimaaGreatProg
import Derived.WalkKit
import Derived.WalkLawsBesides
import Derived.WalkMore
import Derived.WalkSpells
set_option linter.unusedSimpArgs false
set_option linter.unusedVariables false
namespace Go.Proofs.Hc
open Go.RowKit
attribute [local go_sem] wrap_u64 wrap_u8 bits_xor64 bits_and64 bits_or64 bits_not64 bits_xor8 bits_and8 bits_or8 signed64 signed8 ofInt_N BitVec.ofInt_add BitVec.ofInt_mul ofInt_sub' ofInt8_N64 ofInt64_N8 wide8 eqN neN shr_pow shr1 shr7 shr56
attribute [local go_sem high] bits_com64 shl_wrap
attribute [local go_sem] cell_heap ice_heap cellAt_cells iceAt_cells setAt_cells rowAt_cells canLay_cells laidAt_cells size_onObj size_setCell rowRes_some layRes_true
attribute [local go_sem] load26 load73 load23 store26 build73
attribute [local go_sem ↓] lrow26 lrow73 lrow23 srow26 zero26 brow73 heap_alloc heap_drew heap_drewN heap_setCell heap_onObj
attribute [local go_sem] tcells_size hcells_size tcells_get hcells_get tcells_one hcells_one hcells_table tcells_table hcells_all hcells_ctrl tcells_ctrl
attribute [local go_sem] nn2 nm2 nn3 nm3 nn4 nm4 nn5 nm5 nn6 nm6 nn7 nm7 nn8 nm8
attribute [local go_sem] nn2 nm2 nn3 nm3 nn4 nm4 nn5 nm5 nn6 nm6 nn7 nm7 nn8 nm8
attribute [local go_sem] acc_g0 acc_g1 acc_g2 acc_g4 acc_s0 acc_s1 acc_s2 acc_s4 accC_size accC_one accC_all loadAcc storeAcc bacc0 bacc2 bacc3 bacc3u bacc4
attribute [local go_sem ↓] lrowAcc srowAcc browAcc zeroAcc_run
attribute [local go_sem high] laidAt_acc
attribute [local go_sem] Oper.semAt_some make_func1
attribute [local irreducible] accC
theorem loadAcs (g o : Nat) (w : World) : (loadRow 217 ⟨g, o, none⟩).run Tryz.prog w = rowRes Tryz.prog 217 g o w ((w.heap[g]?).bind (rowAt o 5)) :=
  run_row Tryz.underlying217 rfl (by kernel_rfl) g o w
theorem storeAcs (g o : Nat) (vs : Array Value) (w : World) : (storeRow 217 ⟨g, o, none⟩ (.agg vs)).run Tryz.prog w = layRes Tryz.prog 217 g o vs w (((w.heap[g]?).map (canLay o 5 vs)).getD false) :=
  run_lay (by kernel_rfl) g o vs w
theorem lrowAcs (a : Addr) : loadVar 217 a = loadRow 217 a := rfl
theorem srowAcs (a : Addr) (v : Value) : storeVar 217 a v = storeRow 217 a v := rfl
theorem browAcs (ps : Array (Nat × Value)) : Instr.build 217 ps = buildRow 217 ps := rfl
theorem buildAcs (a b c d : Int) (w : World) : (buildRow 217 #[(0, .agg (accC a b c d))]).run Tryz.prog w = .ok (.agg (accC a b c d)) w := by kernel_rfl
theorem zeroAcs_run (w : World) : (zeroValue 217).run Tryz.prog w = .ok (.agg (accC 0 0 0 0)) w := by kernel_rfl
theorem boxAcs (a b c d : Int) (w : World) : (Instr.box 217 (.agg (accC a b c d))).run Tryz.prog w = .ok (.pointer (some ⟨w.heap.size, 0, none⟩)) (w.alloc (.cells (accC a b c d) 217)) := rfl
theorem boxAcc (a b c d : Int) (w : World) : (Instr.box 96 (.agg (accC a b c d))).run Tryz.prog w = .ok (.pointer (some ⟨w.heap.size, 0, none⟩)) (w.alloc (.cells (accC a b c d) 96)) := rfl
attribute [local go_sem] loadAcs storeAcs buildAcs boxAcs boxAcc
attribute [local go_sem ↓] lrowAcs srowAcs browAcs zeroAcs_run
set_option maxHeartbeats 1000000 in
set_option maxRecDepth 100000 in
theorem cCheck_ok (k a n d : Int) (hk : 1 ≤ k) (hk4 : k ≤ 4) (ha : 0 ≤ a) (hn : a < n) (hn1 : 1 ≤ n) (hn2 : n ≤ 8192) (w : World) : Calls Tryz.prog 155 #[.agg (accC 0 k a d), I n] w fun e w' => e = .returned (I 0) ∧ Ch [] w w' := by
  go_enter Tryz.func155, Tryz.ntmps155
  go_wp2
  go_ret
  exact ⟨rfl, (Ch.refl [] w).alloc _⟩
set_option maxHeartbeats 1000000 in
set_option maxRecDepth 100000 in
theorem cCheck_at (k a n d : Int) (hk : 1 ≤ k) (hk4 : k ≤ 4) (ha : 0 ≤ a) (hn : n ≤ a) (hn1 : 1 ≤ n) (hn2 : n ≤ 8192) (w : World) : Calls Tryz.prog 155 #[.agg (accC 0 k a d), I n] w fun e w' => e = .returned (I 2) ∧ Ch [] w w' := by
  go_enter Tryz.func155, Tryz.ntmps155
  go_wp2
  go_ret
  exact ⟨rfl, (Ch.refl [] w).alloc _⟩
set_option maxHeartbeats 1000000 in
set_option maxRecDepth 100000 in
theorem pLoad_any (r o : Nat) (x : BitVec 64) (w : World) (h : w.cell? ⟨r, o, none⟩ = some (U x)) : Calls Tryz.prog 277 #[.agg #[.slice (some ⟨r, o, none⟩) 1 1]] w fun e w' => e = .returned (U x) ∧ Ch [] w w' := by
  rw [cell_heap] at h
  have hrn : ¬ r = w.heap.size := by
    intro e; rw [e, Array.getElem?_eq_none (Nat.le_refl _)] at h; cases h
  go_enter Tryz.func277, Tryz.ntmps277
  go_wp2
  go_ret
  exact ⟨rfl, (Ch.refl [] w).alloc _⟩
set_option maxHeartbeats 1000000 in
set_option maxRecDepth 100000 in
theorem pSwap_any (r o : Nat) (cur : Array Value) (x y : BitVec 64) (w : World) (hb : w.heap[r]? = some (.cells cur 22 (0, 0))) (h : cur[o]? = some (U x)) : Calls Tryz.prog 278 #[.agg #[.slice (some ⟨r, o, none⟩) 1 1], U x, U y] w fun e w' => e = .returned (.bool true) ∧ Ch [r] w w' ∧ w'.heap[r]? = some (.cells (cur.setIfInBounds o (U y)) 22 (0, 0)) := by
  have hrn : ¬ r = w.heap.size := by have := (Array.getElem?_eq_some_iff.1 hb).1; omega
  go_enter Tryz.func278, Tryz.ntmps278
  go_wp2
  go_ret
  refine ⟨rfl, ((Ch.refl [r] w).alloc _).setCell (p := ⟨r, o, none⟩) (.inl (by simp)) _, ?_⟩
  simp [go_sem, hb, hrn]
theorem meth_load (v : Value) (w : World) : (method 394 221 v "honeycomb/cells.load").run Tryz.prog w = .ok (277, v) w := by kernel_rfl
theorem meth_swap (v : Value) (w : World) : (method 394 221 v "honeycomb/cells.swap").run Tryz.prog w = .ok (278, v) w := by kernel_rfl
theorem loadSeen (g o : Nat) (w : World) : (loadRow 157 ⟨g, o, none⟩).run Tryz.prog w = rowRes Tryz.prog 157 g o w ((w.heap[g]?).bind (rowAt o 2)) :=
  run_row Tryz.underlying157 rfl (by kernel_rfl) g o w
theorem storeSeen (g o : Nat) (vs : Array Value) (w : World) : (storeRow 157 ⟨g, o, none⟩ (.agg vs)).run Tryz.prog w = layRes Tryz.prog 157 g o vs w (((w.heap[g]?).map (canLay o 2 vs)).getD false) :=
  run_lay (by kernel_rfl) g o vs w
theorem lrowSeen (a : Addr) : loadVar 157 a = loadRow 157 a := rfl
theorem srowSeen (a : Addr) (v : Value) : storeVar 157 a v = storeRow 157 a v := rfl
/-- What an access told. -/
def seenC (x : Int) (b : Bool) : Array Value := #[.int .u64 x, .bool b]
theorem seenC_size (x : Int) (b : Bool) : (seenC x b).size = 2 := rfl
theorem seenC_one (x : Int) (b : Bool) : allOne (seenC x b) = true := by unfold allOne seenC; simp [Value.oneCell']
theorem seenC_all (x : Int) (b : Bool) : (seenC x b).extract 0 2 = seenC x b := by have := Array.extract_size (xs := seenC x b); rwa [seenC_size] at this
theorem seenC_g0 (x : Int) (b : Bool) : (seenC x b)[0]? = some (.int .u64 x) := rfl
theorem browSeen (ps : Array (Nat × Value)) : Instr.build 157 ps = buildRow 157 ps := rfl
theorem buildSeen (x : Int) (b : Bool) (w : World) : (buildRow 157 #[(0, .int .u64 x), (1, .bool b)]).run Tryz.prog w = .ok (.agg (seenC x b)) w := by kernel_rfl
theorem buildSeen0 (w : World) : (buildRow 157 #[]).run Tryz.prog w = .ok (.agg (seenC 0 false)) w := by kernel_rfl
theorem zeroSeen_run (w : World) : (zeroValue 157).run Tryz.prog w = .ok (.agg (seenC 0 false)) w := by kernel_rfl
theorem laidAt_seen (x y : Int) (b c : Bool) (T : TypeId) (fr : Nat × Nat) : laidAt 0 (seenC x b) (.cells (seenC y c) T fr) = .cells (seenC x b) T fr := by
  rw [laidAt_cells, laid_whole _ _ (by rw [seenC_size, seenC_size])]
theorem seen_result {fn : Func} {p : Tmp} (h : fn.results = #[.cell p 157]) (tmps : Array Value) (b : Nat) (w : World) (x : Int) (d : Bool) (hp : tmps.getD p undef = .pointer (some ⟨b, 0, none⟩))
    (hb : w.heap[b]? = some (.cells (seenC x d) 157 (0, 0))) : (results fn tmps).run Tryz.prog w = .ok (.agg (seenC x d)) w := by
  have hl := run_loadVar_row (P := Tryz.prog) w b 157 157 (seenC x d) (0, 0) _ hb Tryz.underlying157 rfl (by rw [seenC_size]; kernel_rfl)
  have hp' : tmps[p]?.getD undef = .pointer (some ⟨b, 0, none⟩) := by simpa using hp
  simp [results, h, hp', asAddr, hl]
attribute [local go_sem] meth_load meth_swap
attribute [local go_sem] seenC_size seenC_one seenC_all seenC_g0 loadSeen storeSeen buildSeen buildSeen0
attribute [local go_sem ↓] lrowSeen srowSeen browSeen zeroSeen_run
attribute [local go_sem high] laidAt_seen
attribute [local irreducible] seenC
set_option maxHeartbeats 1000000 in
set_option maxRecDepth 100000 in
theorem aLoad_any (k a d : Int) (r o : Nat) (x : BitVec 64) (w : World) (h : w.cell? ⟨r, o, none⟩ = some (U x)) : Calls Tryz.prog 214 #[.agg (accC 0 k a d), .iface 221 (.agg #[.slice (some ⟨r, o, none⟩) 1 1])] w fun e w' => e = .returned (.agg (seenC (N x) true)) ∧ Ch [] w w' := by
  have C0 : Ch [] w ((w.alloc (.cells (accC 0 k a d) 217)).alloc (.cells (seenC 0 false) 157)) := ((Ch.refl [] w).alloc _).alloc _
  have z0 : ((w.alloc (.cells (accC 0 k a d) 217)).alloc (.cells (seenC 0 false) 157)).heap[w.heap.size + 1]? = some (.cells (seenC 0 false) 157 (0, 0)) := by rw [heap_alloc, if_pos (by simp)]
  have hr : r < w.heap.size := by
    rw [cell_heap] at h
    rcases Nat.lt_or_ge r w.heap.size with h1 | h1
    · exact h1
    · rw [Array.getElem?_eq_none h1] at h; cases h
  have h0 := (C0.cell r o hr).trans h
  have P1 := fun w h => pLoad_any r o x w h
  clear hr h
  go_enter Tryz.func214, Tryz.ntmps214
  go_wp2_with fail
  generalize (w.alloc (.cells (accC 0 k a d) 217)).alloc (.cells (seenC 0 false) 157) = W0 at *
  refine (P1 _ h0).mono ?_
  rintro e w1 ⟨rfl, hc1⟩
  have z1 := hkeep hc1 z0
  go_wp2
  refine bodyPost_ret (seen_result Tryz.results214 _ (w.heap.size + 1) _ (N x) true rfl ?_) rfl ⟨rfl, ?_⟩
  · simp [go_sem, z1]
  · exact (C0.trans hc1).onObj (p := w.heap.size + 1) (.inr (by omega)) _
end Go.Proofs.Hc
/- Package cells: change, store, add, does. -/
namespace Go.Proofs.Hc
open Go.RowKit
attribute [local go_sem] wrap_u64 wrap_u8 bits_xor64 bits_and64 bits_or64 bits_not64 bits_xor8 bits_and8 bits_or8 signed64 signed8 ofInt_N BitVec.ofInt_add BitVec.ofInt_mul ofInt_sub' ofInt8_N64 ofInt64_N8 wide8 eqN neN shr_pow shr1 shr7 shr56
attribute [local go_sem high] bits_com64 shl_wrap
attribute [local go_sem] cell_heap ice_heap cellAt_cells iceAt_cells setAt_cells rowAt_cells canLay_cells laidAt_cells size_onObj size_setCell rowRes_some layRes_true
attribute [local go_sem] load26 load73 load23 store26 build73
attribute [local go_sem ↓] lrow26 lrow73 lrow23 srow26 zero26 brow73 heap_alloc heap_drew heap_drewN heap_setCell heap_onObj
attribute [local go_sem] tcells_size hcells_size tcells_get hcells_get tcells_one hcells_one hcells_table tcells_table hcells_all hcells_ctrl tcells_ctrl
attribute [local go_sem] nn2 nm2 nn3 nm3 nn4 nm4 nn5 nm5 nn6 nm6 nn7 nm7 nn8 nm8
attribute [local go_sem] nn2 nm2 nn3 nm3 nn4 nm4 nn5 nm5 nn6 nm6 nn7 nm7 nn8 nm8
attribute [local go_sem] acc_g0 acc_g1 acc_g2 acc_g4 acc_s0 acc_s1 acc_s2 acc_s4 accC_size accC_one accC_all loadAcc storeAcc bacc0 bacc2 bacc3 bacc3u bacc4
attribute [local go_sem ↓] lrowAcc srowAcc browAcc zeroAcc_run
attribute [local go_sem high] laidAt_acc
attribute [local go_sem] loadAcs storeAcs buildAcs boxAcs boxAcc meth_load meth_swap
attribute [local go_sem ↓] lrowAcs srowAcs browAcs zeroAcs_run
attribute [local go_sem] seenC_size seenC_one seenC_all seenC_g0 loadSeen storeSeen buildSeen buildSeen0
attribute [local go_sem ↓] lrowSeen srowSeen browSeen zeroSeen_run
attribute [local go_sem high] laidAt_seen
attribute [local irreducible] seenC
attribute [local go_sem] Oper.semAt_some make_func1 ofInt_N
attribute [local irreducible] accC
theorem nil_swap (v : Value) (w : World) : (nilAhead 394 221 (.agg #[v]) "honeycomb/cells.swap").run Tryz.prog w = .ok (some false) w := by kernel_rfl
attribute [local go_sem] nil_swap
theorem toStore_any (k a : Int) (x y : BitVec 64) (b : Nat) (w : World) (hb : w.heap[b]? = some (.cells (accC 0 k a (N y)) 217 (0, 0))) : Calls Tryz.prog 250 #[U x, .pointer (some ⟨b, 0, none⟩)] w fun e w' => e = .returned (U y) ∧ w = w' := by
  go_enter Tryz.func250, Tryz.ntmps250
  go_wp2
  go_ret
  exact ⟨rfl, rfl⟩
theorem toAdd_any (k a : Int) (x y : BitVec 64) (b : Nat) (w : World) (hb : w.heap[b]? = some (.cells (accC 0 k a (N y)) 217 (0, 0))) : Calls Tryz.prog 251 #[U x, .pointer (some ⟨b, 0, none⟩)] w fun e w' => e = .returned (U (x + y)) ∧ w = w' := by
  go_enter Tryz.func251, Tryz.ntmps251
  go_wp2
  go_ret
  exact ⟨rfl, rfl⟩
set_option maxHeartbeats 2000000 in
set_option maxRecDepth 100000 in
theorem change_any (k : Nat) (kd a d : Int) (x z : BitVec 64) (B0 r o : Nat) (cur bc : Array Value) (w : World) (hr : w.heap[r]? = some (.cells cur 22 (0, 0))) (ho : cur[o]? = some (U x)) (hb : w.heap[B0]? = some (.cells bc 217 (0, 0)))
    (hdf : ∀ args w, (callFunc k args).run Tryz.prog w = .ok (.enter k args) w)
    (hto : ∀ W : World, W.heap[B0]? = some (.cells bc 217 (0, 0)) → Calls Tryz.prog k #[U x, .pointer (some ⟨B0, 0, none⟩)] W fun e w' => e = .returned (U z) ∧ W = w') :
    Calls Tryz.prog 249 #[.agg (accC 0 kd a d), .iface 221 (.agg #[.slice (some ⟨r, o, none⟩) 1 1]), .func (.func k) #[] #[.pointer (some ⟨B0, 0, none⟩)]] w fun e w' => e = .returned (.agg (seenC (N x) true)) ∧ Ch [r] w w' ∧ w'.heap[r]? = some (.cells (cur.setIfInBounds o (U z)) 22 (0, 0)) := by
  have C0 : Ch [] w ((w.alloc (.cells (accC 0 kd a d) 217)).alloc (.cells (seenC 0 false) 157)) := ((Ch.refl [] w).alloc _).alloc _
  have z0 : ((w.alloc (.cells (accC 0 kd a d) 217)).alloc (.cells (seenC 0 false) 157)).heap[w.heap.size + 1]? = some (.cells (seenC 0 false) 157 (0, 0)) := by rw [heap_alloc, if_pos (by simp)]
  have r0 := hkeep C0 hr
  have b0 := hkeep C0 hb
  have hrl : r < w.heap.size := (Array.getElem?_eq_some_iff.1 hr).1
  have P1 := fun w (h : w.heap[r]? = some (.cells cur 22 (0, 0))) => pLoad_any r o x w (by rw [cell_heap, h]; exact ho)
  have S1 := fun w (h : w.heap[r]? = some (.cells cur 22 (0, 0))) => pSwap_any r o cur x z w h ho
  clear hr hb ho
  go_enter Tryz.func249, Tryz.ntmps249
  go_wp2
  go_step3
  go_wp2
  generalize (w.alloc (.cells (accC 0 kd a d) 217)).alloc (.cells (seenC 0 false) 157) = W0 at *
  go_step3
  go_wp2
  refine wp_loop_rounds 1 ?_
  rw [rounds_succ]
  go_wp2_with fail
  refine (P1 _ r0).mono ?_
  rintro e w1 ⟨rfl, hc1⟩
  have z1 := hkeep hc1 z0
  have r1 := hkeep hc1 r0
  have b1 := hkeep hc1 b0
  have C1 := C0.trans hc1
  clear z0 r0 b0 C0 hc1 P1
  go_wp2
  refine wp_region_held_drew (S := fun _ => True) (by kernel_rfl) trivial ?_
  intro _
  simp only [List.size_toArray, List.length_cons, List.length_nil, Nat.reduceAdd]
  have z2 : w1.drew.heap[w.heap.size + 1]? = _ := z1
  have r2 : w1.drew.heap[r]? = _ := r1
  have b2 : w1.drew.heap[B0]? = _ := b1
  have C2 : Ch [] w w1.drew := C1.drew
  clear z1 r1 b1 C1
  generalize w1.drew = w2 at *
  refine wpAnyH_take (i := 0) (oi := ⟨some 10, _, _, _, _, none⟩) (v := ?_) rfl (by kernel_rfl) (by kernel_rfl) (by kernel_rfl) (fun _ _ _ h => h) (Or.inl ⟨by rfl, ?_⟩) trivial ?_
  rotate_left
  · intro wq hSq
    first | (go_simp; done) | (go_simp; with_reducible rfl)
  try simp only [Act.put, List.setIfInBounds_toArray, List.set_cons_zero, List.set_cons_succ]
  refine wpAnyH_take (i := 1) (oi := ⟨some 11, _, _, _, _, none⟩) (v := ?_) rfl (by kernel_rfl) (by kernel_rfl) (by kernel_rfl) (fun _ _ _ h => h) (Or.inl ⟨by rfl, ?_⟩) trivial ?_
  rotate_left
  · intro wq hSq
    first | (go_simp; done) | (go_simp; with_reducible rfl)
  try simp only [Act.put, List.setIfInBounds_toArray, List.set_cons_zero, List.set_cons_succ]
  refine wpAnyH_take (i := 2) (oi := ⟨some 12, _, _, _, _, none⟩) (v := ?_) rfl (by kernel_rfl) (by kernel_rfl) (by kernel_rfl) (fun _ _ _ h => h) (Or.inl ⟨by rfl, ?_⟩) trivial ?_
  rotate_left
  · intro wq hSq
    first | (go_simp; done) | (go_simp; with_reducible rfl)
  try simp only [Act.put, List.setIfInBounds_toArray, List.set_cons_zero, List.set_cons_succ]
  refine wpAnyH_take (i := 3) (oi := ⟨some 13, _, _, _, _, none⟩) (v := ?_) rfl (by kernel_rfl) (by kernel_rfl) (by kernel_rfl) (fun _ _ _ h => h) (Or.inl ⟨by rfl, ?_⟩) trivial ?_
  rotate_left
  · intro wq hSq
    first | (go_simp; done) | (go_simp; with_reducible rfl)
  try simp only [Act.put, List.setIfInBounds_toArray, List.set_cons_zero, List.set_cons_succ]
  refine wpAnyH_take (i := 5) (oi := ⟨some 15, _, _, _, _, none⟩) (v := ?_) rfl (by kernel_rfl) (by kernel_rfl) (by kernel_rfl) (fun _ _ _ h => h) (Or.inl ⟨by rfl, ?_⟩) trivial ?_
  rotate_left
  · intro wq hSq
    first | (go_simp; done) | (go_simp; with_reducible rfl)
  try simp only [Act.put, List.setIfInBounds_toArray, List.set_cons_zero, List.set_cons_succ]
  refine wpAnyH_take (i := 6) (oi := ⟨some 16, _, _, _, _, none⟩) (v := ?_) rfl (by kernel_rfl) (by kernel_rfl) (by kernel_rfl) (fun _ _ _ h => h) (Or.inl ⟨by rfl, ?_⟩) trivial ?_
  rotate_left
  · intro wq hSq
    first | (go_simp; done) | (go_simp; with_reducible rfl)
  try simp only [Act.put, List.setIfInBounds_toArray, List.set_cons_zero, List.set_cons_succ]
  refine wpAnyH_take (i := 7) (oi := ⟨some 17, _, _, _, _, none⟩) (v := ?_) rfl (by kernel_rfl) (by kernel_rfl) (by kernel_rfl) (fun _ _ _ h => h) (Or.inl ⟨by rfl, ?_⟩) trivial ?_
  rotate_left
  · intro wq hSq
    first | (go_simp; done) | (go_simp; with_reducible rfl)
  try simp only [Act.put, List.setIfInBounds_toArray, List.set_cons_zero, List.set_cons_succ]
  refine wpAnyH_ready (rs := [4]) (by kernel_rfl) (by simp) ?_
  refine AllReadyH.cons rfl (fun K hK => ?_) AllReadyH.nil
  go_simp
  refine (hto _ b2).mono ?_
  rintro e w' ⟨rfl, rfl⟩
  refine hK.out _ _ trivial (fun _ => ?_)
  clear hK K
  refine wpAnyH_ready (rs := [8]) (by kernel_rfl) (by simp) ?_
  refine AllReadyH.cons rfl (fun K hK => ?_) AllReadyH.nil
  go_simp
  refine (S1 _ r2).mono ?_
  rintro e w3 ⟨rfl, hc3, r3⟩
  refine hK.out _ _ trivial (fun _ => ?_)
  clear hK K
  have z3 : w3.heap[w.heap.size + 1]? = some (.cells (seenC 0 false) 157 (0, 0)) := (hc3.block _ (Array.getElem?_eq_some_iff.1 z2).1 (by simp; omega)).trans z2
  have C3 : Ch [r] w w3 := (C2.of_nil).trans hc3
  refine wpAnyH_done (by kernel_rfl) ?_ _
  go_wp2
  rw [Exit.noGoto_ret]
  refine bodyPost_ret (seen_result Tryz.results249 _ (w.heap.size + 1) _ (N x) true rfl ?_) rfl ⟨rfl, ?_, ?_⟩
  · simp [go_sem, z3]
  · exact C3.onObj (p := w.heap.size + 1) (.inr (by omega)) _
  · rw [heap_onObj, if_neg (by omega)]; exact r3
end Go.Proofs.Hc
/- Package cells: store, add, does. -/
namespace Go.Proofs.Hc
open Go.RowKit
attribute [local go_sem] wrap_u64 wrap_u8 bits_xor64 bits_and64 bits_or64 bits_not64 bits_xor8 bits_and8 bits_or8 signed64 signed8 ofInt_N BitVec.ofInt_add BitVec.ofInt_mul ofInt_sub' ofInt8_N64 ofInt64_N8 wide8 eqN neN shr_pow shr1 shr7 shr56
attribute [local go_sem high] bits_com64 shl_wrap
attribute [local go_sem] cell_heap ice_heap cellAt_cells iceAt_cells setAt_cells rowAt_cells canLay_cells laidAt_cells size_onObj size_setCell rowRes_some layRes_true
attribute [local go_sem] load26 load73 load23 store26 build73
attribute [local go_sem ↓] lrow26 lrow73 lrow23 srow26 zero26 brow73 heap_alloc heap_drew heap_drewN heap_setCell heap_onObj
attribute [local go_sem] tcells_size hcells_size tcells_get hcells_get tcells_one hcells_one hcells_table tcells_table hcells_all hcells_ctrl tcells_ctrl
attribute [local go_sem] nn2 nm2 nn3 nm3 nn4 nm4 nn5 nm5 nn6 nm6 nn7 nm7 nn8 nm8
attribute [local go_sem] nn2 nm2 nn3 nm3 nn4 nm4 nn5 nm5 nn6 nm6 nn7 nm7 nn8 nm8
attribute [local go_sem] acc_g0 acc_g1 acc_g2 acc_g4 acc_s0 acc_s1 acc_s2 acc_s4 accC_size accC_one accC_all loadAcc storeAcc bacc0 bacc2 bacc3 bacc3u bacc4
attribute [local go_sem ↓] lrowAcc srowAcc browAcc zeroAcc_run
attribute [local go_sem high] laidAt_acc
attribute [local go_sem] loadAcs storeAcs buildAcs boxAcs boxAcc meth_load meth_swap
attribute [local go_sem ↓] lrowAcs srowAcs browAcs zeroAcs_run
attribute [local go_sem] seenC_size seenC_one seenC_all seenC_g0 loadSeen storeSeen buildSeen buildSeen0
attribute [local go_sem ↓] lrowSeen srowSeen browSeen zeroSeen_run
attribute [local go_sem high] laidAt_seen
attribute [local irreducible] seenC
attribute [local go_sem] Oper.semAt_some make_func1 ofInt_N
attribute [local irreducible] accC
/-- What an access does to a cell of a row. -/
def DoesPost (w : World) (r o : Nat) (cur : Array Value) (x z : BitVec 64) (e : Ending) (w' : World) : Prop := e = .returned (.agg (seenC (N x) true)) ∧ Ch [r] w w' ∧ w'.heap[r]? = some (.cells (cur.setIfInBounds o (U z)) 22 (0, 0))
theorem set_same (cur : Array Value) (o : Nat) (v : Value) (h : cur[o]? = some v) : cur.setIfInBounds o v = cur := by
  apply Array.ext_getElem?
  intro i
  rw [Array.getElem?_setIfInBounds]
  by_cases e : o = i
  · subst e
    have := (Array.getElem?_eq_some_iff.1 h).1
    rw [if_pos rfl, if_pos this, h]
  · rw [if_neg e]
set_option maxHeartbeats 2000000 in
set_option maxRecDepth 100000 in
theorem aStore_any (kd a : Int) (x y : BitVec 64) (r o : Nat) (cur : Array Value) (w : World) (hr : w.heap[r]? = some (.cells cur 22 (0, 0))) (ho : cur[o]? = some (U x)) :
    Calls Tryz.prog 215 #[.agg (accC 0 kd a (N y)), .iface 221 (.agg #[.slice (some ⟨r, o, none⟩) 1 1])] w (DoesPost w r o cur x y) := by
  have C0 : Ch [] w ((w.alloc (.cells (accC 0 kd a (N y)) 217)).alloc (.cells (seenC 0 false) 157)) := ((Ch.refl [] w).alloc _).alloc _
  have z0 : ((w.alloc (.cells (accC 0 kd a (N y)) 217)).alloc (.cells (seenC 0 false) 157)).heap[w.heap.size + 1]? = some (.cells (seenC 0 false) 157 (0, 0)) := by rw [heap_alloc, if_pos (by simp)]
  have b0 : ((w.alloc (.cells (accC 0 kd a (N y)) 217)).alloc (.cells (seenC 0 false) 157)).heap[w.heap.size]? = some (.cells (accC 0 kd a (N y)) 217 (0, 0)) := by rw [heap_alloc, if_neg (by simp), heap_alloc, if_pos rfl]
  have r0 := hkeep C0 hr
  have hrl : r < w.heap.size := (Array.getElem?_eq_some_iff.1 hr).1
  clear hr
  go_enter Tryz.func215, Tryz.ntmps215
  go_wp2_with fail
  generalize (w.alloc (.cells (accC 0 kd a (N y)) 217)).alloc (.cells (seenC 0 false) 157) = W0 at *
  refine (change_any 250 kd a (N y) x y w.heap.size r o cur (accC 0 kd a (N y)) W0 r0 ho b0 Tryz.call250 (fun W h => toStore_any kd a x y w.heap.size W h)).mono ?_
  rintro e w3 ⟨rfl, hc3, r3⟩
  have z3 : w3.heap[w.heap.size + 1]? = some (.cells (seenC 0 false) 157 (0, 0)) := (hc3.block _ (Array.getElem?_eq_some_iff.1 z0).1 (by simp; omega)).trans z0
  have C3 : Ch [r] w w3 := (C0.of_nil).trans hc3
  go_wp2
  refine bodyPost_ret (seen_result Tryz.results215 _ (w.heap.size + 1) _ (N x) true rfl ?_) rfl ⟨rfl, ?_, ?_⟩
  · simp [go_sem, z3]
  · exact C3.onObj (p := w.heap.size + 1) (.inr (by omega)) _
  · rw [heap_onObj, if_neg (by omega)]; exact r3
set_option maxHeartbeats 2000000 in
set_option maxRecDepth 100000 in
theorem aAdd_any (kd a : Int) (x y : BitVec 64) (r o : Nat) (cur : Array Value) (w : World) (hr : w.heap[r]? = some (.cells cur 22 (0, 0))) (ho : cur[o]? = some (U x)) :
    Calls Tryz.prog 217 #[.agg (accC 0 kd a (N y)), .iface 221 (.agg #[.slice (some ⟨r, o, none⟩) 1 1])] w (DoesPost w r o cur x (x + y)) := by
  have C0 : Ch [] w ((w.alloc (.cells (accC 0 kd a (N y)) 217)).alloc (.cells (seenC 0 false) 157)) := ((Ch.refl [] w).alloc _).alloc _
  have z0 : ((w.alloc (.cells (accC 0 kd a (N y)) 217)).alloc (.cells (seenC 0 false) 157)).heap[w.heap.size + 1]? = some (.cells (seenC 0 false) 157 (0, 0)) := by rw [heap_alloc, if_pos (by simp)]
  have b0 : ((w.alloc (.cells (accC 0 kd a (N y)) 217)).alloc (.cells (seenC 0 false) 157)).heap[w.heap.size]? = some (.cells (accC 0 kd a (N y)) 217 (0, 0)) := by rw [heap_alloc, if_neg (by simp), heap_alloc, if_pos rfl]
  have r0 := hkeep C0 hr
  have hrl : r < w.heap.size := (Array.getElem?_eq_some_iff.1 hr).1
  clear hr
  go_enter Tryz.func217, Tryz.ntmps217
  go_wp2_with fail
  generalize (w.alloc (.cells (accC 0 kd a (N y)) 217)).alloc (.cells (seenC 0 false) 157) = W0 at *
  refine (change_any 251 kd a (N y) x (x + y) w.heap.size r o cur (accC 0 kd a (N y)) W0 r0 ho b0 Tryz.call251 (fun W h => toAdd_any kd a x y w.heap.size W h)).mono ?_
  rintro e w3 ⟨rfl, hc3, r3⟩
  have z3 : w3.heap[w.heap.size + 1]? = some (.cells (seenC 0 false) 157 (0, 0)) := (hc3.block _ (Array.getElem?_eq_some_iff.1 z0).1 (by simp; omega)).trans z0
  have C3 : Ch [r] w w3 := (C0.of_nil).trans hc3
  go_wp2
  refine bodyPost_ret (seen_result Tryz.results217 _ (w.heap.size + 1) _ (N x) true rfl ?_) rfl ⟨rfl, ?_, ?_⟩
  · simp [go_sem, z3]
  · exact C3.onObj (p := w.heap.size + 1) (.inr (by omega)) _
  · rw [heap_onObj, if_neg (by omega)]; exact r3
/-- The kinds' functions, bound to an access. -/
def waysC (a : Value) : Array Value := #[.nilFunc, .func (.func 214) #[a] #[], .func (.func 215) #[a] #[], .func (.func 216) #[a] #[], .func (.func 217) #[a] #[]]
theorem waysC_size (a : Value) : (waysC a).size = 5 := rfl
theorem waysC_one (a : Value) : allOne (waysC a) = true := by unfold allOne waysC; simp [Value.oneCell']
theorem waysC_1 (a : Value) : (waysC a)[1]? = some (.func (.func 214) #[a] #[]) := rfl
theorem waysC_2 (a : Value) : (waysC a)[2]? = some (.func (.func 215) #[a] #[]) := rfl
theorem waysC_4 (a : Value) : (waysC a)[4]? = some (.func (.func 217) #[a] #[]) := rfl
def ways0 : Array Value := #[.nilFunc, .nilFunc, .nilFunc, .nilFunc, .nilFunc]
theorem ways0_size : ways0.size = 5 := rfl
theorem brow252 (ps : Array (Nat × Value)) : Instr.build 252 ps = buildRow 252 ps := rfl
theorem build252 (x y z u : Int) (w : World) : (buildRow 252 #[(1, .func (.func 214) #[.agg (accC x y z u)] #[]), (2, .func (.func 215) #[.agg (accC x y z u)] #[]), (3, .func (.func 216) #[.agg (accC x y z u)] #[]), (4, .func (.func 217) #[.agg (accC x y z u)] #[])]).run Tryz.prog w = .ok (.agg (waysC (.agg (accC x y z u)))) w := by kernel_rfl
theorem zero252_run (w : World) : (zeroValue 252).run Tryz.prog w = .ok (.agg ways0) w := by kernel_rfl
theorem store252 (g o : Nat) (vs : Array Value) (w : World) : (storeRow 252 ⟨g, o, none⟩ (.agg vs)).run Tryz.prog w = layRes Tryz.prog 252 g o vs w (((w.heap[g]?).map (canLay o 5 vs)).getD false) :=
  run_lay (by kernel_rfl) g o vs w
theorem srow252 (a : Addr) (v : Value) : storeVar 252 a v = storeRow 252 a v := rfl
theorem laidAt_252 (a : Value) (t : TypeId) (fr : Nat × Nat) : laidAt 0 (waysC a) (.cells ways0 t fr) = .cells (waysC a) t fr := by
  rw [laidAt_cells, laid_whole _ _ (by rw [ways0_size, waysC_size])]
attribute [local go_sem] build252 store252 waysC_one waysC_size ways0_size waysC_1 waysC_2 waysC_4
attribute [local go_sem ↓] brow252 zero252_run srow252
attribute [local go_sem high] laidAt_252
attribute [local irreducible] waysC ways0
set_option maxHeartbeats 2000000 in
set_option maxRecDepth 100000 in
theorem does_1 (a : Int) (d : Int) (x : BitVec 64) (r o : Nat) (cur : Array Value) (w : World) (hr : w.heap[r]? = some (.cells cur 22 (0, 0))) (ho : cur[o]? = some (U x)) :
    Calls Tryz.prog 156 #[.agg (accC 0 1 a d), .iface 221 (.agg #[.slice (some ⟨r, o, none⟩) 1 1])] w (DoesPost w r o cur x x) := by
  have C0 : Ch [] w (World.onObj (((w.alloc (.cells (accC 0 1 a d) 217)).alloc (.cells (seenC 0 false) 157)).alloc (.cells ways0 252)) (w.heap.size + 1 + 1) (laidAt 0 (waysC (.agg (accC 0 1 a d))))) := ((((Ch.refl [] w).alloc _).alloc _).alloc _).onObj (p := w.heap.size + 1 + 1) (.inr (by omega)) _
  have z0 : (World.onObj (((w.alloc (.cells (accC 0 1 a d) 217)).alloc (.cells (seenC 0 false) 157)).alloc (.cells ways0 252)) (w.heap.size + 1 + 1) (laidAt 0 (waysC (.agg (accC 0 1 a d))))).heap[w.heap.size + 1]? = some (.cells (seenC 0 false) 157 (0, 0)) := by
    rw [heap_onObj, if_neg (by omega), heap_alloc, if_neg (by simp), heap_alloc, if_pos (by simp)]
  have r0 := hkeep C0 hr
  have hrl : r < w.heap.size := (Array.getElem?_eq_some_iff.1 hr).1
  clear hr
  go_enter Tryz.func156, Tryz.ntmps156
  go_wp2_with fail
  generalize World.onObj (((w.alloc (.cells (accC 0 1 a d) 217)).alloc (.cells (seenC 0 false) 157)).alloc (.cells ways0 252)) (w.heap.size + 1 + 1) (laidAt 0 (waysC (.agg (accC 0 1 a d)))) = W0 at *
  refine (aLoad_any 1 a d r o x W0 (by rw [cell_heap, r0]; exact ho)).mono ?_
  rintro e w3 ⟨rfl, hc3'⟩
  have hc3 : Ch [r] W0 w3 := hc3'.of_nil
  have r3 : w3.heap[r]? = some (.cells (cur.setIfInBounds o (U x)) 22 (0, 0)) := by rw [set_same cur o (U x) ho]; exact hkeep hc3' r0
  have z3 : w3.heap[w.heap.size + 1]? = some (.cells (seenC 0 false) 157 (0, 0)) := (hc3.block _ (Array.getElem?_eq_some_iff.1 z0).1 (by simp; omega)).trans z0
  have C3 : Ch [r] w w3 := (C0.of_nil).trans hc3
  go_wp2
  refine bodyPost_ret (seen_result Tryz.results156 _ (w.heap.size + 1) _ (N x) true rfl ?_) rfl ⟨rfl, ?_, ?_⟩
  · simp [go_sem, z3]
  · exact C3.onObj (p := w.heap.size + 1) (.inr (by omega)) _
  · rw [heap_onObj, if_neg (by omega)]; exact r3
set_option maxHeartbeats 2000000 in
set_option maxRecDepth 100000 in
theorem does_2 (a : Int) (y : BitVec 64) (x : BitVec 64) (r o : Nat) (cur : Array Value) (w : World) (hr : w.heap[r]? = some (.cells cur 22 (0, 0))) (ho : cur[o]? = some (U x)) :
    Calls Tryz.prog 156 #[.agg (accC 0 2 a (N y)), .iface 221 (.agg #[.slice (some ⟨r, o, none⟩) 1 1])] w (DoesPost w r o cur x y) := by
  have C0 : Ch [] w (World.onObj (((w.alloc (.cells (accC 0 2 a (N y)) 217)).alloc (.cells (seenC 0 false) 157)).alloc (.cells ways0 252)) (w.heap.size + 1 + 1) (laidAt 0 (waysC (.agg (accC 0 2 a (N y)))))) := ((((Ch.refl [] w).alloc _).alloc _).alloc _).onObj (p := w.heap.size + 1 + 1) (.inr (by omega)) _
  have z0 : (World.onObj (((w.alloc (.cells (accC 0 2 a (N y)) 217)).alloc (.cells (seenC 0 false) 157)).alloc (.cells ways0 252)) (w.heap.size + 1 + 1) (laidAt 0 (waysC (.agg (accC 0 2 a (N y)))))).heap[w.heap.size + 1]? = some (.cells (seenC 0 false) 157 (0, 0)) := by
    rw [heap_onObj, if_neg (by omega), heap_alloc, if_neg (by simp), heap_alloc, if_pos (by simp)]
  have r0 := hkeep C0 hr
  have hrl : r < w.heap.size := (Array.getElem?_eq_some_iff.1 hr).1
  clear hr
  go_enter Tryz.func156, Tryz.ntmps156
  go_wp2_with fail
  generalize World.onObj (((w.alloc (.cells (accC 0 2 a (N y)) 217)).alloc (.cells (seenC 0 false) 157)).alloc (.cells ways0 252)) (w.heap.size + 1 + 1) (laidAt 0 (waysC (.agg (accC 0 2 a (N y))))) = W0 at *
  refine (aStore_any 2 a x y r o cur W0 r0 ho).mono ?_
  rintro e w3 ⟨rfl, hc3, r3⟩
  have z3 : w3.heap[w.heap.size + 1]? = some (.cells (seenC 0 false) 157 (0, 0)) := (hc3.block _ (Array.getElem?_eq_some_iff.1 z0).1 (by simp; omega)).trans z0
  have C3 : Ch [r] w w3 := (C0.of_nil).trans hc3
  go_wp2
  refine bodyPost_ret (seen_result Tryz.results156 _ (w.heap.size + 1) _ (N x) true rfl ?_) rfl ⟨rfl, ?_, ?_⟩
  · simp [go_sem, z3]
  · exact C3.onObj (p := w.heap.size + 1) (.inr (by omega)) _
  · rw [heap_onObj, if_neg (by omega)]; exact r3
set_option maxHeartbeats 2000000 in
set_option maxRecDepth 100000 in
theorem does_4 (a : Int) (y : BitVec 64) (x : BitVec 64) (r o : Nat) (cur : Array Value) (w : World) (hr : w.heap[r]? = some (.cells cur 22 (0, 0))) (ho : cur[o]? = some (U x)) :
    Calls Tryz.prog 156 #[.agg (accC 0 4 a (N y)), .iface 221 (.agg #[.slice (some ⟨r, o, none⟩) 1 1])] w (DoesPost w r o cur x (x + y)) := by
  have C0 : Ch [] w (World.onObj (((w.alloc (.cells (accC 0 4 a (N y)) 217)).alloc (.cells (seenC 0 false) 157)).alloc (.cells ways0 252)) (w.heap.size + 1 + 1) (laidAt 0 (waysC (.agg (accC 0 4 a (N y)))))) := ((((Ch.refl [] w).alloc _).alloc _).alloc _).onObj (p := w.heap.size + 1 + 1) (.inr (by omega)) _
  have z0 : (World.onObj (((w.alloc (.cells (accC 0 4 a (N y)) 217)).alloc (.cells (seenC 0 false) 157)).alloc (.cells ways0 252)) (w.heap.size + 1 + 1) (laidAt 0 (waysC (.agg (accC 0 4 a (N y)))))).heap[w.heap.size + 1]? = some (.cells (seenC 0 false) 157 (0, 0)) := by
    rw [heap_onObj, if_neg (by omega), heap_alloc, if_neg (by simp), heap_alloc, if_pos (by simp)]
  have r0 := hkeep C0 hr
  have hrl : r < w.heap.size := (Array.getElem?_eq_some_iff.1 hr).1
  clear hr
  go_enter Tryz.func156, Tryz.ntmps156
  go_wp2_with fail
  generalize World.onObj (((w.alloc (.cells (accC 0 4 a (N y)) 217)).alloc (.cells (seenC 0 false) 157)).alloc (.cells ways0 252)) (w.heap.size + 1 + 1) (laidAt 0 (waysC (.agg (accC 0 4 a (N y))))) = W0 at *
  refine (aAdd_any 4 a x y r o cur W0 r0 ho).mono ?_
  rintro e w3 ⟨rfl, hc3, r3⟩
  have z3 : w3.heap[w.heap.size + 1]? = some (.cells (seenC 0 false) 157 (0, 0)) := (hc3.block _ (Array.getElem?_eq_some_iff.1 z0).1 (by simp; omega)).trans z0
  have C3 : Ch [r] w w3 := (C0.of_nil).trans hc3
  go_wp2
  refine bodyPost_ret (seen_result Tryz.results156 _ (w.heap.size + 1) _ (N x) true rfl ?_) rfl ⟨rfl, ?_, ?_⟩
  · simp [go_sem, z3]
  · exact C3.onObj (p := w.heap.size + 1) (.inr (by omega)) _
  · rw [heap_onObj, if_neg (by omega)]; exact r3
end Go.Proofs.Hc
