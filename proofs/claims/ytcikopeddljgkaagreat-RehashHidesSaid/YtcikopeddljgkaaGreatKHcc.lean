/- Package cells: plain, check, load. -/
import Derived.Test.YtcikopeddljgkaaGreatKHma
import Derived.Test.YtcikopeddljgkaaGreatKHmet
import Derived.Test.YtcikopeddljgkaaGreatKHr
import Derived.Test.YtcikopeddljgkaaGreatKHnac
import Derived.Below
import Derived.BigQuiet
import Derived.Deep.Draws
import Derived.Deep.Light
import Derived.Deep.OwnRows
import Derived.Deep.QuietTactic
import Derived.Deep.RegionHeld
import Derived.Laws.CopyOwn
import Derived.Laws.CopyRow
import Derived.Laws.Tables
import Derived.Lib.AppendZerosOnto
import Derived.Lib.Hide
import Derived.Lib.Tables
import Derived.Lib.Walk
import Derived.LoopIn
import Derived.LoopN
import Derived.LoopNIn
import Derived.Maps.AppendAt
import Derived.Maps.Views
import Derived.OwnWalkIn
import Derived.RangeFuncBox
import Derived.RangeFuncCalls
import Derived.RangeFuncRecord
import Derived.RangeFuncSeq
import Derived.Recover
import Derived.RegionTactic
import Derived.Shelf.Slices.Clone
import Derived.StillTail
import Derived.StillTailTactics
import Derived.TacticsInMore
import Derived.Test.YtcikopeddljgkaaGreatProg
import Derived.WalkKit
import Derived.WalkLawsBesides
import Derived.WalkMore
import Derived.WalkSpells
set_option linter.unusedSimpArgs false
set_option linter.unusedVariables false
namespace Go.Proofs.Hc
open Go.RowKit
variable {me : Int}
attribute [local go_sem] wrap_u64 wrap_u8 bits_xor64 bits_and64 bits_or64 bits_not64 bits_xor8 bits_and8 bits_or8 signed64 signed8 ofInt_N BitVec.ofInt_add BitVec.ofInt_mul ofInt_sub' ofInt8_N64 ofInt64_N8 wide8 eqN neN shr_pow shr1 shr7 shr56
attribute [local go_sem high] bits_com64 shl_wrap
attribute [local go_sem] cell_heap ice_heap cellAt_cells iceAt_cells setAt_cells rowAt_cells canLay_cells laidAt_cells size_onObj size_setCell rowRes_some layRes_true
attribute [local go_sem] load26 load73 load23 store26 build73
attribute [local go_sem ↓] lrow26 lrow73 lrow23 srow26 zero26 brow73 heap_alloc heap_drew heap_drewN heap_setCell heap_onObj
attribute [local go_sem] tcells_size hcells_size tcells_get hcells_get tcells_one hcells_one hcells_table tcells_table hcells_all hcells_ctrl tcells_ctrl
attribute [local go_sem] nn2 nm2 nn3 nm3 nn4 nm4 nn5 nm5 nn6 nm6 nn7 nm7 nn8 nm8
attribute [local go_sem] nn2 nm2 nn3 nm3 nn4 nm4 nn5 nm5 nn6 nm6 nn7 nm7 nn8 nm8
attribute [local go_sem] acc_g0 acc_g1 acc_g2 acc_g4 acc_s0 acc_s1 acc_s2 acc_s4 accC_size accC_one accC_all loadAcc storeAcc bacc0 bacc2 bacc3 bacc3u bacc4
attribute [local go_sem ↓] lrowAcc srowAcc browAcc zeroAcc_run
attribute [local go_sem high] laidAt_acc
attribute [local go_sem] Oper.semAt_some make_func1
attribute [local irreducible] accC
theorem loadAcs (g o : Nat) (w : World) : (loadRow 264 ⟨g, o, none⟩).run Tryz.prog w = rowRes Tryz.prog 264 g o w ((w.heap[g]?).bind (rowAt o 5)) :=
  run_row Tryz.underlying264 rfl (by kernel_rfl) g o w
theorem storeAcs (g o : Nat) (vs : Array Value) (w : World) : (storeRow 264 ⟨g, o, none⟩ (.agg vs)).run Tryz.prog w = layRes Tryz.prog 264 g o vs w (((w.heap[g]?).map (canLay o 5 vs)).getD false) :=
  run_lay (by kernel_rfl) g o vs w
theorem lrowAcs (a : Addr) : loadVar 264 a = loadRow 264 a := rfl
theorem srowAcs (a : Addr) (v : Value) : storeVar 264 a v = storeRow 264 a v := rfl
theorem browAcs (ps : Array (Nat × Value)) : Instr.build 264 ps = buildRow 264 ps := rfl
theorem buildAcs (a b c d : Int) (w : World) : (buildRow 264 #[(0, .agg (accC a b c d))]).run Tryz.prog w = .ok (.agg (accC a b c d)) w := by kernel_rfl
theorem zeroAcs_run (w : World) : (zeroValue 264).run Tryz.prog w = .ok (.agg (accC 0 0 0 0)) w := by kernel_rfl
theorem boxAcs (a b c d : Int) (w : World) : (Instr.box 264 (.agg (accC a b c d))).run Tryz.prog w = .ok (.pointer (some ⟨w.heap.size, 0, none⟩)) (w.alloc (.cells (accC a b c d) 264)) := rfl
theorem boxAcc (a b c d : Int) (w : World) : (Instr.box 87 (.agg (accC a b c d))).run Tryz.prog w = .ok (.pointer (some ⟨w.heap.size, 0, none⟩)) (w.alloc (.cells (accC a b c d) 87)) := rfl
attribute [local go_sem] loadAcs storeAcs buildAcs boxAcs boxAcc
attribute [local go_sem ↓] lrowAcs srowAcs browAcs zeroAcs_run
set_option maxHeartbeats 1000000 in
set_option maxRecDepth 100000 in
theorem cCheck_ok (hm0 : 0 ≤ me) (hm7 : me < 8) (k a n d : Int) (hk : 1 ≤ k) (hk4 : k ≤ 4) (ha : 0 ≤ a) (hn : a < n) (hn1 : 1 ≤ n) (hn2 : n ≤ 8192) (w : World) : Calls Tryz.prog 183 #[.agg (accC me k a d), I n] w fun e w' => e = .returned (I 0) ∧ Ch [] w w' := by
  go_enter Tryz.func183, Tryz.ntmps183
  go_wp2
  go_ret
  exact ⟨rfl, (Ch.refl [] w).alloc _⟩
set_option maxHeartbeats 1000000 in
set_option maxRecDepth 100000 in
theorem cCheck_at (hm0 : 0 ≤ me) (hm7 : me < 8) (k a n d : Int) (hk : 1 ≤ k) (hk4 : k ≤ 4) (ha : 0 ≤ a) (hn : n ≤ a) (hn1 : 1 ≤ n) (hn2 : n ≤ 8192) (w : World) : Calls Tryz.prog 183 #[.agg (accC me k a d), I n] w fun e w' => e = .returned (I 2) ∧ Ch [] w w' := by
  go_enter Tryz.func183, Tryz.ntmps183
  go_wp2
  go_ret
  exact ⟨rfl, (Ch.refl [] w).alloc _⟩
set_option maxHeartbeats 1000000 in
set_option maxRecDepth 100000 in
theorem pLoad_any (r o : Nat) (x : BitVec 64) (w : World) (h : w.cell? ⟨r, o, none⟩ = some (U x)) : Calls Tryz.prog 337 #[.agg #[.slice (some ⟨r, o, none⟩) 1 1]] w fun e w' => e = .returned (U x) ∧ Ch [] w w' := by
  rw [cell_heap] at h
  have hrn : ¬ r = w.heap.size := by
    intro e; rw [e, Array.getElem?_eq_none (Nat.le_refl _)] at h; cases h
  go_enter Tryz.func337, Tryz.ntmps337
  go_wp2
  go_ret
  exact ⟨rfl, (Ch.refl [] w).alloc _⟩
set_option maxHeartbeats 1000000 in
set_option maxRecDepth 100000 in
theorem pSwap_any (r o : Nat) (cur : Array Value) (x y : BitVec 64) (w : World) (hb : w.heap[r]? = some (.cells cur 22 (0, 0))) (h : cur[o]? = some (U x)) : Calls Tryz.prog 338 #[.agg #[.slice (some ⟨r, o, none⟩) 1 1], U x, U y] w fun e w' => e = .returned (.bool true) ∧ Ch [r] w w' ∧ w'.heap[r]? = some (.cells (cur.setIfInBounds o (U y)) 22 (0, 0)) := by
  have hrn : ¬ r = w.heap.size := by have := (Array.getElem?_eq_some_iff.1 hb).1; omega
  go_enter Tryz.func338, Tryz.ntmps338
  go_wp2
  go_ret
  refine ⟨rfl, ((Ch.refl [r] w).alloc _).setCell (p := ⟨r, o, none⟩) (.inl (by simp)) _, ?_⟩
  simp [go_sem, hb, hrn]
theorem meth_load (v : Value) (w : World) : (method 473 268 v "honeycomb/cells.load").run Tryz.prog w = .ok (337, v) w := by kernel_rfl
theorem meth_swap (v : Value) (w : World) : (method 473 268 v "honeycomb/cells.swap").run Tryz.prog w = .ok (338, v) w := by kernel_rfl
theorem loadSeen (g o : Nat) (w : World) : (loadRow 93 ⟨g, o, none⟩).run Tryz.prog w = rowRes Tryz.prog 93 g o w ((w.heap[g]?).bind (rowAt o 2)) :=
  run_row Tryz.underlying93 rfl (by kernel_rfl) g o w
theorem storeSeen (g o : Nat) (vs : Array Value) (w : World) : (storeRow 93 ⟨g, o, none⟩ (.agg vs)).run Tryz.prog w = layRes Tryz.prog 93 g o vs w (((w.heap[g]?).map (canLay o 2 vs)).getD false) :=
  run_lay (by kernel_rfl) g o vs w
theorem lrowSeen (a : Addr) : loadVar 93 a = loadRow 93 a := rfl
theorem srowSeen (a : Addr) (v : Value) : storeVar 93 a v = storeRow 93 a v := rfl
/-- What an access told. -/
def seenC (x : Int) (b : Bool) : Array Value := #[.int .u64 x, .bool b]
theorem seenC_size (x : Int) (b : Bool) : (seenC x b).size = 2 := rfl
theorem seenC_one (x : Int) (b : Bool) : allOne (seenC x b) = true := by unfold allOne seenC; simp [Value.oneCell']
theorem seenC_all (x : Int) (b : Bool) : (seenC x b).extract 0 2 = seenC x b := by have := Array.extract_size (xs := seenC x b); rwa [seenC_size] at this
theorem seenC_g0 (x : Int) (b : Bool) : (seenC x b)[0]? = some (.int .u64 x) := rfl
theorem browSeen (ps : Array (Nat × Value)) : Instr.build 93 ps = buildRow 93 ps := rfl
theorem buildSeen (x : Int) (b : Bool) (w : World) : (buildRow 93 #[(0, .int .u64 x), (1, .bool b)]).run Tryz.prog w = .ok (.agg (seenC x b)) w := by kernel_rfl
theorem buildSeen0 (w : World) : (buildRow 93 #[]).run Tryz.prog w = .ok (.agg (seenC 0 false)) w := by kernel_rfl
theorem zeroSeen_run (w : World) : (zeroValue 93).run Tryz.prog w = .ok (.agg (seenC 0 false)) w := by kernel_rfl
theorem laidAt_seen (x y : Int) (b c : Bool) (T : TypeId) (fr : Nat × Nat) : laidAt 0 (seenC x b) (.cells (seenC y c) T fr) = .cells (seenC x b) T fr := by
  rw [laidAt_cells, laid_whole _ _ (by rw [seenC_size, seenC_size])]
theorem seen_result {fn : Func} {p : Tmp} (h : fn.results = #[.cell p 93]) (tmps : Array Value) (b : Nat) (w : World) (x : Int) (d : Bool) (hp : tmps.getD p undef = .pointer (some ⟨b, 0, none⟩))
    (hb : w.heap[b]? = some (.cells (seenC x d) 93 (0, 0))) : (results fn tmps).run Tryz.prog w = .ok (.agg (seenC x d)) w := by
  have hl := run_loadVar_row (P := Tryz.prog) w b 93 93 (seenC x d) (0, 0) _ hb Tryz.underlying93 rfl (by rw [seenC_size]; kernel_rfl)
  have hp' : tmps[p]?.getD undef = .pointer (some ⟨b, 0, none⟩) := by simpa using hp
  simp [results, h, hp', asAddr, hl]
attribute [local go_sem] meth_load meth_swap
attribute [local go_sem] seenC_size seenC_one seenC_all seenC_g0 loadSeen storeSeen buildSeen buildSeen0
attribute [local go_sem ↓] lrowSeen srowSeen browSeen zeroSeen_run
attribute [local go_sem high] laidAt_seen
attribute [local irreducible] seenC
set_option maxHeartbeats 1000000 in
set_option maxRecDepth 100000 in
theorem aLoad_any (k a d : Int) (r o : Nat) (x : BitVec 64) (w : World) (h : w.cell? ⟨r, o, none⟩ = some (U x)) : Calls Tryz.prog 235 #[.agg (accC me k a d), .iface 268 (.agg #[.slice (some ⟨r, o, none⟩) 1 1])] w fun e w' => e = .returned (.agg (seenC (N x) true)) ∧ Ch [] w w' := by
  have C0 : Ch [] w ((w.alloc (.cells (accC me k a d) 264)).alloc (.cells (seenC 0 false) 93)) := ((Ch.refl [] w).alloc _).alloc _
  have z0 : ((w.alloc (.cells (accC me k a d) 264)).alloc (.cells (seenC 0 false) 93)).heap[w.heap.size + 1]? = some (.cells (seenC 0 false) 93 (0, 0)) := by rw [heap_alloc, if_pos (by simp)]
  have hr : r < w.heap.size := by
    rw [cell_heap] at h
    rcases Nat.lt_or_ge r w.heap.size with h1 | h1
    · exact h1
    · rw [Array.getElem?_eq_none h1] at h; cases h
  have h0 := (C0.cell r o hr).trans h
  have P1 := fun w h => pLoad_any r o x w h
  clear hr h
  go_enter Tryz.func235, Tryz.ntmps235
  go_wp2_with fail
  generalize (w.alloc (.cells (accC me k a d) 264)).alloc (.cells (seenC 0 false) 93) = W0 at *
  refine (P1 _ h0).mono ?_
  rintro e w1 ⟨rfl, hc1⟩
  have z1 := hkeep hc1 z0
  go_wp2
  refine bodyPost_ret (seen_result Tryz.results235 _ (w.heap.size + 1) _ (N x) true rfl ?_) rfl ⟨rfl, ?_⟩
  · simp [go_sem, z1]
  · exact (C0.trans hc1).onObj (p := w.heap.size + 1) (.inr (by omega)) _
end Go.Proofs.Hc
/- Package cells: change, store, add, does. -/
namespace Go.Proofs.Hc
open Go.RowKit
variable {me : Int}
attribute [local go_sem] wrap_u64 wrap_u8 bits_xor64 bits_and64 bits_or64 bits_not64 bits_xor8 bits_and8 bits_or8 signed64 signed8 ofInt_N BitVec.ofInt_add BitVec.ofInt_mul ofInt_sub' ofInt8_N64 ofInt64_N8 wide8 eqN neN shr_pow shr1 shr7 shr56
attribute [local go_sem high] bits_com64 shl_wrap
attribute [local go_sem] cell_heap ice_heap cellAt_cells iceAt_cells setAt_cells rowAt_cells canLay_cells laidAt_cells size_onObj size_setCell rowRes_some layRes_true
attribute [local go_sem] load26 load73 load23 store26 build73
attribute [local go_sem ↓] lrow26 lrow73 lrow23 srow26 zero26 brow73 heap_alloc heap_drew heap_drewN heap_setCell heap_onObj
attribute [local go_sem] tcells_size hcells_size tcells_get hcells_get tcells_one hcells_one hcells_table tcells_table hcells_all hcells_ctrl tcells_ctrl
attribute [local go_sem] nn2 nm2 nn3 nm3 nn4 nm4 nn5 nm5 nn6 nm6 nn7 nm7 nn8 nm8
attribute [local go_sem] nn2 nm2 nn3 nm3 nn4 nm4 nn5 nm5 nn6 nm6 nn7 nm7 nn8 nm8
attribute [local go_sem] acc_g0 acc_g1 acc_g2 acc_g4 acc_s0 acc_s1 acc_s2 acc_s4 accC_size accC_one accC_all loadAcc storeAcc bacc0 bacc2 bacc3 bacc3u bacc4
attribute [local go_sem ↓] lrowAcc srowAcc browAcc zeroAcc_run
attribute [local go_sem high] laidAt_acc
attribute [local go_sem] loadAcs storeAcs buildAcs boxAcs boxAcc meth_load meth_swap
attribute [local go_sem ↓] lrowAcs srowAcs browAcs zeroAcs_run
attribute [local go_sem] seenC_size seenC_one seenC_all seenC_g0 loadSeen storeSeen buildSeen buildSeen0
attribute [local go_sem ↓] lrowSeen srowSeen browSeen zeroSeen_run
attribute [local go_sem high] laidAt_seen
attribute [local irreducible] seenC
attribute [local go_sem] Oper.semAt_some make_func1 ofInt_N
attribute [local irreducible] accC
theorem nil_swap (v : Value) (w : World) : (nilAhead 473 268 (.agg #[v]) "honeycomb/cells.swap").run Tryz.prog w = .ok (some false) w := by kernel_rfl
attribute [local go_sem] nil_swap
theorem toStore_any (k a : Int) (x y : BitVec 64) (b : Nat) (w : World) (hb : w.heap[b]? = some (.cells (accC me k a (N y)) 264 (0, 0))) : Calls Tryz.prog 283 #[U x, .pointer (some ⟨b, 0, none⟩)] w fun e w' => e = .returned (U y) ∧ w = w' := by
  go_enter Tryz.func283, Tryz.ntmps283
  go_wp2
  go_ret
  exact ⟨rfl, rfl⟩
theorem toAdd_any (k a : Int) (x y : BitVec 64) (b : Nat) (w : World) (hb : w.heap[b]? = some (.cells (accC me k a (N y)) 264 (0, 0))) : Calls Tryz.prog 284 #[U x, .pointer (some ⟨b, 0, none⟩)] w fun e w' => e = .returned (U (x + y)) ∧ w = w' := by
  go_enter Tryz.func284, Tryz.ntmps284
  go_wp2
  go_ret
  exact ⟨rfl, rfl⟩
set_option maxHeartbeats 2000000 in
set_option maxRecDepth 100000 in
theorem change_any (k : Nat) (kd a d : Int) (x z : BitVec 64) (B0 r o : Nat) (cur bc : Array Value) (w : World) (hr : w.heap[r]? = some (.cells cur 22 (0, 0))) (ho : cur[o]? = some (U x)) (hb : w.heap[B0]? = some (.cells bc 264 (0, 0)))
    (hdf : ∀ args w, (callFunc k args).run Tryz.prog w = .ok (.enter k args) w)
    (hto : ∀ W : World, W.heap[B0]? = some (.cells bc 264 (0, 0)) → Calls Tryz.prog k #[U x, .pointer (some ⟨B0, 0, none⟩)] W fun e w' => e = .returned (U z) ∧ W = w') :
    Calls Tryz.prog 282 #[.agg (accC me kd a d), .iface 268 (.agg #[.slice (some ⟨r, o, none⟩) 1 1]), .func (.func k) #[] #[.pointer (some ⟨B0, 0, none⟩)]] w fun e w' => e = .returned (.agg (seenC (N x) true)) ∧ Ch [r] w w' ∧ w'.heap[r]? = some (.cells (cur.setIfInBounds o (U z)) 22 (0, 0)) := by
  have C0 : Ch [] w ((w.alloc (.cells (accC me kd a d) 264)).alloc (.cells (seenC 0 false) 93)) := ((Ch.refl [] w).alloc _).alloc _
  have z0 : ((w.alloc (.cells (accC me kd a d) 264)).alloc (.cells (seenC 0 false) 93)).heap[w.heap.size + 1]? = some (.cells (seenC 0 false) 93 (0, 0)) := by rw [heap_alloc, if_pos (by simp)]
  have r0 := hkeep C0 hr
  have b0 := hkeep C0 hb
  have hrl : r < w.heap.size := (Array.getElem?_eq_some_iff.1 hr).1
  have P1 := fun w (h : w.heap[r]? = some (.cells cur 22 (0, 0))) => pLoad_any r o x w (by rw [cell_heap, h]; exact ho)
  have S1 := fun w (h : w.heap[r]? = some (.cells cur 22 (0, 0))) => pSwap_any r o cur x z w h ho
  clear hr hb ho
  go_enter Tryz.func282, Tryz.ntmps282
  go_wp2
  go_step3
  go_wp2
  generalize (w.alloc (.cells (accC me kd a d) 264)).alloc (.cells (seenC 0 false) 93) = W0 at *
  go_step3
  go_wp2
  refine wp_loop_rounds 1 ?_
  rw [rounds_succ]
  go_wp2_with fail
  refine (P1 _ r0).mono ?_
  rintro e w1 ⟨rfl, hc1⟩
  have z1 := hkeep hc1 z0
  have r1 := hkeep hc1 r0
  have b1 := hkeep hc1 b0
  have C1 := C0.trans hc1
  clear z0 r0 b0 C0 hc1 P1
  go_wp2
  refine wp_region_held_drew (S := fun _ => True) (by kernel_rfl) trivial ?_
  intro _
  simp only [List.size_toArray, List.length_cons, List.length_nil, Nat.reduceAdd]
  have z2 : w1.drew.heap[w.heap.size + 1]? = _ := z1
  have r2 : w1.drew.heap[r]? = _ := r1
  have b2 : w1.drew.heap[B0]? = _ := b1
  have C2 : Ch [] w w1.drew := C1.drew
  clear z1 r1 b1 C1
  generalize w1.drew = w2 at *
  refine wpAnyH_take (i := 0) (oi := ⟨some 10, _, _, _, _, none⟩) (v := ?_) rfl (by kernel_rfl) (by kernel_rfl) (by kernel_rfl) (fun _ _ _ h => h) (Or.inl ⟨by rfl, ?_⟩) trivial ?_
  rotate_left
  · intro wq hSq
    first | (go_simp; done) | (go_simp; with_reducible rfl)
  try simp only [Act.put, List.setIfInBounds_toArray, List.set_cons_zero, List.set_cons_succ]
  refine wpAnyH_take (i := 1) (oi := ⟨some 11, _, _, _, _, none⟩) (v := ?_) rfl (by kernel_rfl) (by kernel_rfl) (by kernel_rfl) (fun _ _ _ h => h) (Or.inl ⟨by rfl, ?_⟩) trivial ?_
  rotate_left
  · intro wq hSq
    first | (go_simp; done) | (go_simp; with_reducible rfl)
  try simp only [Act.put, List.setIfInBounds_toArray, List.set_cons_zero, List.set_cons_succ]
  refine wpAnyH_take (i := 2) (oi := ⟨some 12, _, _, _, _, none⟩) (v := ?_) rfl (by kernel_rfl) (by kernel_rfl) (by kernel_rfl) (fun _ _ _ h => h) (Or.inl ⟨by rfl, ?_⟩) trivial ?_
  rotate_left
  · intro wq hSq
    first | (go_simp; done) | (go_simp; with_reducible rfl)
  try simp only [Act.put, List.setIfInBounds_toArray, List.set_cons_zero, List.set_cons_succ]
  refine wpAnyH_take (i := 3) (oi := ⟨some 13, _, _, _, _, none⟩) (v := ?_) rfl (by kernel_rfl) (by kernel_rfl) (by kernel_rfl) (fun _ _ _ h => h) (Or.inl ⟨by rfl, ?_⟩) trivial ?_
  rotate_left
  · intro wq hSq
    first | (go_simp; done) | (go_simp; with_reducible rfl)
  try simp only [Act.put, List.setIfInBounds_toArray, List.set_cons_zero, List.set_cons_succ]
  refine wpAnyH_take (i := 5) (oi := ⟨some 15, _, _, _, _, none⟩) (v := ?_) rfl (by kernel_rfl) (by kernel_rfl) (by kernel_rfl) (fun _ _ _ h => h) (Or.inl ⟨by rfl, ?_⟩) trivial ?_
  rotate_left
  · intro wq hSq
    first | (go_simp; done) | (go_simp; with_reducible rfl)
  try simp only [Act.put, List.setIfInBounds_toArray, List.set_cons_zero, List.set_cons_succ]
  refine wpAnyH_take (i := 6) (oi := ⟨some 16, _, _, _, _, none⟩) (v := ?_) rfl (by kernel_rfl) (by kernel_rfl) (by kernel_rfl) (fun _ _ _ h => h) (Or.inl ⟨by rfl, ?_⟩) trivial ?_
  rotate_left
  · intro wq hSq
    first | (go_simp; done) | (go_simp; with_reducible rfl)
  try simp only [Act.put, List.setIfInBounds_toArray, List.set_cons_zero, List.set_cons_succ]
  refine wpAnyH_take (i := 7) (oi := ⟨some 17, _, _, _, _, none⟩) (v := ?_) rfl (by kernel_rfl) (by kernel_rfl) (by kernel_rfl) (fun _ _ _ h => h) (Or.inl ⟨by rfl, ?_⟩) trivial ?_
  rotate_left
  · intro wq hSq
    first | (go_simp; done) | (go_simp; with_reducible rfl)
  try simp only [Act.put, List.setIfInBounds_toArray, List.set_cons_zero, List.set_cons_succ]
  refine wpAnyH_ready (rs := [4]) (by kernel_rfl) (by simp) ?_
  refine AllReadyH.cons rfl (fun K hK => ?_) AllReadyH.nil
  go_simp
  refine (hto _ b2).mono ?_
  rintro e w' ⟨rfl, rfl⟩
  refine hK.out _ _ trivial (fun _ => ?_)
  clear hK K
  refine wpAnyH_ready (rs := [8]) (by kernel_rfl) (by simp) ?_
  refine AllReadyH.cons rfl (fun K hK => ?_) AllReadyH.nil
  go_simp
  refine (S1 _ r2).mono ?_
  rintro e w3 ⟨rfl, hc3, r3⟩
  refine hK.out _ _ trivial (fun _ => ?_)
  clear hK K
  have z3 : w3.heap[w.heap.size + 1]? = some (.cells (seenC 0 false) 93 (0, 0)) := (hc3.block _ (Array.getElem?_eq_some_iff.1 z2).1 (by simp; omega)).trans z2
  have C3 : Ch [r] w w3 := (C2.of_nil).trans hc3
  refine wpAnyH_done (by kernel_rfl) ?_ _
  go_wp2
  rw [Exit.noGoto_ret]
  refine bodyPost_ret (seen_result Tryz.results282 _ (w.heap.size + 1) _ (N x) true rfl ?_) rfl ⟨rfl, ?_, ?_⟩
  · simp [go_sem, z3]
  · exact C3.onObj (p := w.heap.size + 1) (.inr (by omega)) _
  · rw [heap_onObj, if_neg (by omega)]; exact r3
end Go.Proofs.Hc
