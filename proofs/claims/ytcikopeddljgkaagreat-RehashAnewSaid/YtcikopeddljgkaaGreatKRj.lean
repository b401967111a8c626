/- Package rehash: what the phases ask for, and what comes of it but for reading (printed by gen_ways20.py). -/
import Derived.Test.YtcikopeddljgkaaGreatKHcb
import Derived.Test.YtcikopeddljgkaaGreatKHdb
import Derived.Test.YtcikopeddljgkaaGreatKSb
import Derived.Test.YtcikopeddljgkaaGreatKHj
import Derived.Test.YtcikopeddljgkaaGreatKHma
import Derived.Test.YtcikopeddljgkaaGreatKHmet
import Derived.Test.YtcikopeddljgkaaGreatKHo
import Derived.Test.YtcikopeddljgkaaGreatKHr
import Derived.Test.YtcikopeddljgkaaGreatKHtr2
import Derived.Test.YtcikopeddljgkaaGreatKRb
import Derived.Test.YtcikopeddljgkaaGreatKRi
import Derived.Below
import Derived.BigQuiet
import Derived.Deep.Draws
import Derived.Deep.Light
import Derived.Deep.OwnRows
import Derived.Deep.QuietTactic
import Derived.Deep.RegionHeld
import Derived.IntWalk
import Derived.Laws.CopyOwn
import Derived.Laws.CopyRow
import Derived.Laws.StructEq
import Derived.Laws.Tables
import Derived.Lib.AppendZerosOnto
import Derived.Lib.Hide
import Derived.Lib.Tables
import Derived.Lib.Walk
import Derived.LoopIn
import Derived.LoopN
import Derived.LoopNIn
import Derived.Maps.AppendAt
import Derived.Maps.Views
import Derived.OwnWalkIn
import Derived.RangeFuncBox
import Derived.RangeFuncCalls
import Derived.RangeFuncRecord
import Derived.RangeFuncSeq
import Derived.Recover
import Derived.RegionTactic
import Derived.ScopeJumps
import Derived.Shelf.Slices.Clone
import Derived.StillTail
import Derived.StillTailTactics
import Derived.TacticsInMore
import Derived.Test.YtcikopeddljgkaaGreatProg
import Derived.WalkKit
import Derived.WalkLawsBesides
import Derived.WalkMore
import Derived.WalkSpells
set_option linter.unusedSimpArgs false
set_option linter.unusedVariables false
namespace Go.Proofs.Hc
open Go.RowKit
attribute [local go_sem] wrap_u64 wrap_u8 bits_xor64 bits_and64 bits_or64 bits_not64 bits_xor8 bits_and8 bits_or8 signed64 signed8 ofInt_N BitVec.ofInt_add BitVec.ofInt_mul ofInt_sub' ofInt8_N64 ofInt64_N8 wide8 eqN neN shr_pow shr1 shr7 shr56
attribute [local go_sem high] bits_com64 shl_wrap
attribute [local go_sem] cell_heap ice_heap cellAt_cells iceAt_cells setAt_cells rowAt_cells canLay_cells laidAt_cells size_onObj size_setCell rowRes_some layRes_true
attribute [local go_sem] load26 load73 load23 store26 build73
attribute [local go_sem ↓] lrow26 lrow73 lrow23 srow26 zero26 brow73 heap_alloc heap_drew heap_drewN heap_setCell heap_onObj
attribute [local go_sem] tcells_size hcells_size tcells_get hcells_get tcells_one hcells_one hcells_table tcells_table hcells_all hcells_ctrl tcells_ctrl
attribute [local go_sem] nn2 nm2 nn3 nm3 nn4 nm4 nn5 nm5 nn6 nm6 nn7 nm7 nn8 nm8
attribute [local go_sem] nn2 nm2 nn3 nm3 nn4 nm4 nn5 nm5 nn6 nm6 nn7 nm7 nn8 nm8
attribute [local go_sem] acc_g0 acc_g1 acc_g2 acc_g4 acc_s0 acc_s1 acc_s2 acc_s4 accC_size accC_one accC_all loadAcc storeAcc bacc0 bacc2 bacc3 bacc3u bacc4
attribute [local go_sem ↓] lrowAcc srowAcc browAcc zeroAcc_run
attribute [local go_sem high] laidAt_acc
attribute [local go_sem] seenC_size seenC_one seenC_all seenC_g0 loadSeen storeSeen buildSeen buildSeen0
attribute [local go_sem ↓] lrowSeen srowSeen browSeen zeroSeen_run
attribute [local go_sem high] laidAt_seen
attribute [local irreducible] seenC
attribute [local go_sem] ofInt_N ofInt_pow8
attribute [local go_sem] Oper.semAt_some make_func1
attribute [local go_sem] layC_idx lcell0 lcell1 lcell2 lcell3 lcell4 lcell5 lcell46
attribute [local go_sem] lay_g0 lay_g1 lay_g2 lay_g3 lay_g4 lay_g5 lay_g46 lay_s0 lay_s4 lay_s5 lay_s46 layC_size layC_one layC_all layC_ws boxLay loadLay storeLay build_lay box_lay buildLay0 buildLay2 buildLay3
attribute [local go_sem ↓] lrowLay srowLay browLay brow_lay zeroLay_run
attribute [local go_sem high] laidAt_lay
attribute [local irreducible] layC
attribute [local irreducible] accC
attribute [local go_sem high] tmod2_64w bit64w bit64zw
theorem boxSeen (x : Int) (b : Bool) (w : World) : (Instr.box 93 (.agg (seenC x b))).run Tryz.prog w = .ok (.pointer (some ⟨w.heap.size, 0, none⟩)) (w.alloc (.cells (seenC x b) 93)) := rfl
attribute [local go_sem] boxSeen
set_option maxHeartbeats 1000000 in
set_option maxRecDepth 100000 in
theorem lNeed0_any (p : LayT) (g : Nat) (s0 : 0 ≤ p.sl) (s1 : p.sl < 128) (w : World) (hg : w.heap[g]? = some (.cells (layC p) 163 (0, 0))) :
    Calls Tryz.prog 189 #[.pointer (some ⟨g, 0, none⟩)] w fun e w' => e = .returned (.agg (accC p.who 1 (16 + 40 * p.sl) 0)) ∧ Ch [] w w' := by
  have K1 := fun w hg => lLoad_any p g 0 s0 s1 (by omega) (by omega) w hg
  simp only [Int.add_zero] at K1
  have C0 : Ch [] w (w.alloc (.cells (accC 0 0 0 0) 87)) := (Ch.refl [] w).alloc _
  have z0 : (w.alloc (.cells (accC 0 0 0 0) 87)).heap[w.heap.size]? = some (.cells (accC 0 0 0 0) 87 (0, 0)) := by rw [heap_alloc, if_pos rfl]
  have g0 := hkeep C0 hg
  clear hg
  go_enter Tryz.func189, Tryz.ntmps189
  go_upto_region 1 with (fail)
  generalize w.alloc (.cells (accC 0 0 0 0) 87) = W0 at *
  go_wp2_with fail
  refine (K1 _ g0).mono ?_
  rintro e w1 ⟨rfl, hc1⟩
  have z1 := hkeep hc1 z0
  go_wp2
  refine bodyPost_ret (acc_result Tryz.results189 _ w.heap.size _ p.who 1 (16 + 40 * p.sl) 0 rfl ?_) rfl ⟨rfl, (C0.trans hc1).onObj (.inr (Nat.le_refl _)) _⟩
  rw [heap_onObj, if_pos rfl, z1, Option.map_some, laidAt_acc]
set_option maxHeartbeats 1000000 in
set_option maxRecDepth 100000 in
theorem lNeed1_any (p : LayT) (g : Nat) (s0 : 0 ≤ p.sl) (s1 : p.sl < 128) (w : World) (hg : w.heap[g]? = some (.cells (layC p) 163 (0, 0))) :
    Calls Tryz.prog 192 #[.pointer (some ⟨g, 0, none⟩)] w fun e w' => e = .returned (.agg (accC p.who 2 (16 + 40 * p.sl) (N (p.count + 1#64)))) ∧ Ch [] w w' := by
  have K1 := fun w hg => lStore_any p g 0 (p.count + 1#64) s0 s1 (by omega) (by omega) w hg
  simp only [Int.add_zero] at K1
  have C0 : Ch [] w (w.alloc (.cells (accC 0 0 0 0) 87)) := (Ch.refl [] w).alloc _
  have z0 : (w.alloc (.cells (accC 0 0 0 0) 87)).heap[w.heap.size]? = some (.cells (accC 0 0 0 0) 87 (0, 0)) := by rw [heap_alloc, if_pos rfl]
  have g0 := hkeep C0 hg
  clear hg
  go_enter Tryz.func192, Tryz.ntmps192
  go_upto_region 1 with (fail)
  generalize w.alloc (.cells (accC 0 0 0 0) 87) = W0 at *
  go_wp2_with fail
  refine (K1 _ g0).mono ?_
  rintro e w1 ⟨rfl, hc1⟩
  have z1 := hkeep hc1 z0
  go_wp2
  refine bodyPost_ret (acc_result Tryz.results192 _ w.heap.size _ p.who 2 (16 + 40 * p.sl) (N (p.count + 1#64)) rfl ?_) rfl ⟨rfl, (C0.trans hc1).onObj (.inr (Nat.le_refl _)) _⟩
  rw [heap_onObj, if_pos rfl, z1, Option.map_some, laidAt_acc]
set_option maxHeartbeats 1000000 in
set_option maxRecDepth 100000 in
theorem lNeed2_any (p : LayT) (g : Nat) (s0 : 0 ≤ p.sl) (s1 : p.sl < 128) (a0 : 0 ≤ p.at_) (a1 : p.at_ < 40) (w : World) (hg : w.heap[g]? = some (.cells (layC p) 163 (0, 0))) :
    Calls Tryz.prog 195 #[.pointer (some ⟨g, 0, none⟩)] w fun e w' => e = .returned (.agg (accC p.who 1 (16 + 40 * p.sl + p.at_) 0)) ∧ Ch [] w w' := by
  have K1 := fun w hg => lLoad_any p g p.at_ s0 s1 a0 a1 w hg
  have C0 : Ch [] w (w.alloc (.cells (accC 0 0 0 0) 87)) := (Ch.refl [] w).alloc _
  have z0 : (w.alloc (.cells (accC 0 0 0 0) 87)).heap[w.heap.size]? = some (.cells (accC 0 0 0 0) 87 (0, 0)) := by rw [heap_alloc, if_pos rfl]
  have g0 := hkeep C0 hg
  clear hg
  go_enter Tryz.func195, Tryz.ntmps195
  go_upto_region 1 with (fail)
  generalize w.alloc (.cells (accC 0 0 0 0) 87) = W0 at *
  go_wp2_with fail
  refine (K1 _ g0).mono ?_
  rintro e w1 ⟨rfl, hc1⟩
  have z1 := hkeep hc1 z0
  go_wp2
  refine bodyPost_ret (acc_result Tryz.results195 _ w.heap.size _ p.who 1 (16 + 40 * p.sl + p.at_) 0 rfl ?_) rfl ⟨rfl, (C0.trans hc1).onObj (.inr (Nat.le_refl _)) _⟩
  rw [heap_onObj, if_pos rfl, z1, Option.map_some, laidAt_acc]
set_option maxHeartbeats 1000000 in
set_option maxRecDepth 100000 in
theorem lNeed4_any (p : LayT) (g : Nat) (s0 : 0 ≤ p.sl) (s1 : p.sl < 128) (w : World) (hg : w.heap[g]? = some (.cells (layC p) 163 (0, 0))) :
    Calls Tryz.prog 200 #[.pointer (some ⟨g, 0, none⟩)] w fun e w' => e = .returned (.agg (accC p.who 2 (16 + 40 * p.sl) (N (p.count + 2#64)))) ∧ Ch [] w w' := by
  have K1 := fun w hg => lStore_any p g 0 (p.count + 2#64) s0 s1 (by omega) (by omega) w hg
  simp only [Int.add_zero] at K1
  have C0 : Ch [] w (w.alloc (.cells (accC 0 0 0 0) 87)) := (Ch.refl [] w).alloc _
  have z0 : (w.alloc (.cells (accC 0 0 0 0) 87)).heap[w.heap.size]? = some (.cells (accC 0 0 0 0) 87 (0, 0)) := by rw [heap_alloc, if_pos rfl]
  have g0 := hkeep C0 hg
  clear hg
  go_enter Tryz.func200, Tryz.ntmps200
  go_upto_region 1 with (fail)
  generalize w.alloc (.cells (accC 0 0 0 0) 87) = W0 at *
  go_wp2_with fail
  refine (K1 _ g0).mono ?_
  rintro e w1 ⟨rfl, hc1⟩
  have z1 := hkeep hc1 z0
  go_wp2
  refine bodyPost_ret (acc_result Tryz.results200 _ w.heap.size _ p.who 2 (16 + 40 * p.sl) (N (p.count + 2#64)) rfl ?_) rfl ⟨rfl, (C0.trans hc1).onObj (.inr (Nat.le_refl _)) _⟩
  rw [heap_onObj, if_pos rfl, z1, Option.map_some, laidAt_acc]
set_option maxHeartbeats 1000000 in
set_option maxRecDepth 100000 in
theorem lNeed3_any (p : LayT) (g j : Nat) (s0 : 0 ≤ p.sl) (s1 : p.sl < 128) (hj : p.at_ = (j : Int)) (hj4 : j < 40) (w : World) (hg : w.heap[g]? = some (.cells (layC p) 163 (0, 0))) :
    Calls Tryz.prog 198 #[.pointer (some ⟨g, 0, none⟩)] w fun e w' => e = .returned (.agg (accC p.who 2 (16 + 40 * p.sl + p.at_) (N (p.ws j)))) ∧ Ch [] w w' := by
  have K1 := fun w hg => lStore_any p g p.at_ (p.ws j) s0 s1 (by omega) (by omega) w hg
  have C0 : Ch [] w (w.alloc (.cells (accC 0 0 0 0) 87)) := (Ch.refl [] w).alloc _
  have z0 : (w.alloc (.cells (accC 0 0 0 0) 87)).heap[w.heap.size]? = some (.cells (accC 0 0 0 0) 87 (0, 0)) := by rw [heap_alloc, if_pos rfl]
  have g0 := hkeep C0 hg
  have hgn : ¬ g = w.heap.size := by have := (Array.getElem?_eq_some_iff.1 hg).1; omega
  have hjI : (j : Int) < 40 := by omega
  clear hg
  have hgw := lay_gw p j hj4
  have e5 : (layC p)[5]? = some (I (j : Int)) := by rw [lay_g5, hj]
  obtain ⟨cu, hcu⟩ : ∃ c, layC p = c := ⟨_, rfl⟩
  obtain ⟨x, hx⟩ : ∃ x, p.ws j = x := ⟨_, rfl⟩
  rw [hcu] at K1 e5 hgw g0
  rw [hx] at K1 hgw ⊢
  rw [hj] at K1 ⊢
  clear hcu hx hj hj4
  go_enter Tryz.func198, Tryz.ntmps198
  go_upto_region 1 with (fail)
  generalize w.alloc (.cells (accC 0 0 0 0) 87) = W0 at *
  have s2 : (fun W' : World => W'.heap[g]? = some (.cells cu 163 (0, 0))) W0.drew := g0
  have z2 : W0.drew.heap[w.heap.size]? = some (.cells (accC 0 0 0 0) 87 (0, 0)) := z0
  have C2 : Ch [] w W0.drew := C0.drew
  refine wp_region_held_drew (S := fun W' => W'.heap[g]? = some (.cells cu 163 (0, 0))) (by kernel_rfl) s2 ?_
  intro _
  simp only [List.size_toArray, List.length_cons, List.length_nil, Nat.reduceAdd]
  clear z0 g0 C0
  generalize W0.drew = w2 at *
  refine wpAnyH_take (i := 0) (oi := ⟨some 3, _, _, _, _, none⟩) (v := ?_) rfl (by kernel_rfl) (by kernel_rfl) (by kernel_rfl) (fun _ _ _ h => h) (Or.inl ⟨by rfl, ?_⟩) s2 ?_
  rotate_left
  · intro wq hSq
    first | (go_simp; done) | (go_simp; with_reducible rfl)
  try simp only [Act.put, List.setIfInBounds_toArray, List.set_cons_zero, List.set_cons_succ]
  refine wpAnyH_take (i := 1) (oi := ⟨some 4, _, _, _, _, none⟩) (v := ?_) rfl (by kernel_rfl) (by kernel_rfl) (by kernel_rfl) (fun _ _ _ h => h) (Or.inl ⟨by rfl, ?_⟩) s2 ?_
  rotate_left
  · intro wq hSq
    first | (go_simp; done) | (go_simp; with_reducible rfl)
  try simp only [Act.put, List.setIfInBounds_toArray, List.set_cons_zero, List.set_cons_succ]
  refine wpAnyH_take (i := 2) (oi := ⟨some 5, _, _, _, _, none⟩) (v := ?_) rfl (by kernel_rfl) (by kernel_rfl) (by kernel_rfl) (fun _ _ _ h => h) (Or.inl ⟨by rfl, ?_⟩) s2 ?_
  rotate_left
  · intro wq hSq
    first | (go_simp; done) | (go_simp; with_reducible rfl)
  try simp only [Act.put, List.setIfInBounds_toArray, List.set_cons_zero, List.set_cons_succ]
  refine wpAnyH_take (i := 3) (oi := ⟨some 6, _, _, _, _, none⟩) (v := ?_) rfl (by kernel_rfl) (by kernel_rfl) (by kernel_rfl) (fun _ _ _ h => h) (Or.inl ⟨by rfl, ?_⟩) s2 ?_
  rotate_left
  · intro wq hSq
    first | (go_simp; done) | (go_simp; with_reducible rfl)
  try simp only [Act.put, List.setIfInBounds_toArray, List.set_cons_zero, List.set_cons_succ]
  refine wpAnyH_take (i := 4) (oi := ⟨some 7, _, _, _, _, none⟩) (v := ?_) rfl (by kernel_rfl) (by kernel_rfl) (by kernel_rfl) (fun _ _ _ h => h) (Or.inl ⟨by rfl, ?_⟩) s2 ?_
  rotate_left
  · intro wq hSq
    first | (go_simp; done) | (go_simp; with_reducible rfl)
  try simp only [Act.put, List.setIfInBounds_toArray, List.set_cons_zero, List.set_cons_succ]
  refine wpAnyH_take (i := 5) (oi := ⟨some 8, _, _, _, _, none⟩) (v := ?_) rfl (by kernel_rfl) (by kernel_rfl) (by kernel_rfl) (fun _ _ _ h => h) (Or.inl ⟨by rfl, ?_⟩) s2 ?_
  rotate_left
  · intro wq hSq
    first | (go_simp; done) | (go_simp; with_reducible rfl)
  try simp only [Act.put, List.setIfInBounds_toArray, List.set_cons_zero, List.set_cons_succ]
  refine wpAnyH_take (i := 6) (oi := ⟨some 9, _, _, _, _, none⟩) (v := ?_) rfl (by kernel_rfl) (by kernel_rfl) (by kernel_rfl) (fun _ _ _ h => h) (Or.inl ⟨by rfl, ?_⟩) s2 ?_
  rotate_left
  · intro wq hSq
    first | (go_simp; done) | (go_simp; with_reducible rfl)
  try simp only [Act.put, List.setIfInBounds_toArray, List.set_cons_zero, List.set_cons_succ]
  refine wpAnyH_take (i := 7) (oi := ⟨some 10, _, _, _, _, none⟩) (v := ?_) rfl (by kernel_rfl) (by kernel_rfl) (by kernel_rfl) (fun _ _ _ h => h) (Or.inl ⟨by rfl, ?_⟩) s2 ?_
  rotate_left
  · intro wq hSq
    first | (go_simp; done) | (go_simp; with_reducible rfl)
  try simp only [Act.put, List.setIfInBounds_toArray, List.set_cons_zero, List.set_cons_succ]
  refine wpAnyH_take (i := 8) (oi := ⟨some 11, _, _, _, _, none⟩) (v := ?_) rfl (by kernel_rfl) (by kernel_rfl) (by kernel_rfl) (fun _ _ _ h => h) (Or.inl ⟨by rfl, ?_⟩) s2 ?_
  rotate_left
  · intro wq hSq
    first | (go_simp; done) | (go_simp; with_reducible rfl)
  try simp only [Act.put, List.setIfInBounds_toArray, List.set_cons_zero, List.set_cons_succ]
  refine wpAnyH_take (i := 9) (oi := ⟨some 12, _, _, _, _, none⟩) (v := ?_) rfl (by kernel_rfl) (by kernel_rfl) (by kernel_rfl) (fun _ _ _ h => h) (Or.inl ⟨by rfl, ?_⟩) s2 ?_
  rotate_left
  · intro wq hSq
    first | (go_simp; done) | (go_simp; with_reducible rfl)
  try simp only [Act.put, List.setIfInBounds_toArray, List.set_cons_zero, List.set_cons_succ]
  refine wpAnyH_take (i := 10) (oi := ⟨some 13, _, _, _, _, none⟩) (v := ?_) rfl (by kernel_rfl) (by kernel_rfl) (by kernel_rfl) (fun _ _ _ h => h) (Or.inl ⟨by rfl, ?_⟩) s2 ?_
  rotate_left
  · intro wq hSq
    first | (go_simp; done) | (go_simp; with_reducible rfl)
  try simp only [Act.put, List.setIfInBounds_toArray, List.set_cons_zero, List.set_cons_succ]
  refine wpAnyH_take (i := 11) (oi := ⟨some 14, _, _, _, _, none⟩) (v := ?_) rfl (by kernel_rfl) (by kernel_rfl) (by kernel_rfl) (fun _ _ _ h => h) (Or.inl ⟨by rfl, ?_⟩) s2 ?_
  rotate_left
  · intro wq hSq
    first | (go_simp; done) | (go_simp; with_reducible rfl)
  try simp only [Act.put, List.setIfInBounds_toArray, List.set_cons_zero, List.set_cons_succ]
  refine wpAnyH_take (i := 12) (oi := ⟨some 15, _, _, _, _, none⟩) (v := ?_) rfl (by kernel_rfl) (by kernel_rfl) (by kernel_rfl) (fun _ _ _ h => h) (Or.inl ⟨by rfl, ?_⟩) s2 ?_
  rotate_left
  · intro wq hSq
    first | (go_simp; done) | (go_simp; with_reducible rfl)
  try simp only [Act.put, List.setIfInBounds_toArray, List.set_cons_zero, List.set_cons_succ]
  refine wpAnyH_take (i := 13) (oi := ⟨some 16, _, _, _, _, none⟩) (v := ?_) rfl (by kernel_rfl) (by kernel_rfl) (by kernel_rfl) (fun _ _ _ h => h) (Or.inl ⟨by rfl, ?_⟩) s2 ?_
  rotate_left
  · intro wq hSq
    first | (go_simp; done) | (go_simp; with_reducible rfl)
  try simp only [Act.put, List.setIfInBounds_toArray, List.set_cons_zero, List.set_cons_succ]
  refine wpAnyH_take (i := 14) (oi := ⟨some 17, _, _, _, _, none⟩) (v := ?_) rfl (by kernel_rfl) (by kernel_rfl) (by kernel_rfl) (fun _ _ _ h => h) (Or.inl ⟨by rfl, ?_⟩) s2 ?_
  rotate_left
  · intro wq hSq
    first | (go_simp; done) | (go_simp; with_reducible rfl)
  try simp only [Act.put, List.setIfInBounds_toArray, List.set_cons_zero, List.set_cons_succ]
  refine wpAnyH_take (i := 15) (oi := ⟨some 18, _, _, _, _, none⟩) (v := ?_) rfl (by kernel_rfl) (by kernel_rfl) (by kernel_rfl) (fun _ _ _ h => h) (Or.inl ⟨by rfl, ?_⟩) s2 ?_
  rotate_left
  · intro wq hSq
    first | (go_simp; done) | (go_simp; with_reducible rfl)
  try simp only [Act.put, List.setIfInBounds_toArray, List.set_cons_zero, List.set_cons_succ]
  refine wpAnyH_take (i := 16) (oi := ⟨some 19, _, _, _, _, none⟩) (v := ?_) rfl (by kernel_rfl) (by kernel_rfl) (by kernel_rfl) (fun _ _ _ h => h) (Or.inl ⟨by rfl, ?_⟩) s2 ?_
  rotate_left
  · intro wq hSq
    first | (go_simp; done) | (go_simp; with_reducible rfl)
  try simp only [Act.put, List.setIfInBounds_toArray, List.set_cons_zero, List.set_cons_succ]
  refine wpAnyH_ready (rs := [17]) (by kernel_rfl) (by simp) ?_
  refine AllReadyH.cons rfl (fun K hK => ?_) AllReadyH.nil
  go_simp
  refine (K1 _ s2).mono ?_
  rintro e w3 ⟨rfl, hc3⟩
  have s3 := hkeep hc3 s2
  have z3 := hkeep hc3 z2
  have C3 := C2.trans hc3
  refine hK.out _ _ s3 (fun _ => ?_)
  clear hK K s2 z2 C2
  refine wpAnyH_ready (rs := [18]) (by kernel_rfl) (by simp) ?_
  refine AllReadyH.cons rfl (fun K hK => ?_) AllReadyH.nil
  go_simp
  refine hK.out _ _ ?_ (fun _ => ?_)
  · rw [heap_onObj, if_neg hgn]; exact s3
  clear hK K
  refine wpAnyH_done (by kernel_rfl) ?_ _
  go_wp2
  refine bodyPost_ret (acc_result Tryz.results198 _ w.heap.size _ p.who 2 (16 + 40 * p.sl + (j : Int)) (N x) rfl ?_) rfl ⟨rfl, C3.onObj (.inr (Nat.le_refl _)) _⟩
  rw [heap_onObj, if_pos rfl, z3, Option.map_some, laidAt_acc]
set_option maxHeartbeats 1000000 in
set_option maxRecDepth 100000 in
theorem lThen0_yes (p : LayT) (g : Nat) (x : BitVec 64) (b : Bool) (ho : oddB x = false) (w : World) (hg : w.heap[g]? = some (.cells (layC p) 163 (0, 0))) :
    Calls Tryz.prog 191 #[.pointer (some ⟨g, 0, none⟩), .agg (seenC (N x) b)] w fun e w' => e = .returned (.tuple #[]) ∧ w'.heap[g]? = some (.cells (layC { p with ph := 1, count := x }) 163 (0, 0)) ∧ Ch [g] w w' := by
  have hgn : ¬ g = w.heap.size := by have := (Array.getElem?_eq_some_iff.1 hg).1; omega
  have C0 : Ch [g] w (w.alloc (.cells (seenC (N x) b) 93)) := (Ch.refl [g] w).alloc _
  go_enter Tryz.func191, Tryz.ntmps191
  go_upto_region 1 with (fail)
  have g0 : (w.alloc (.cells (seenC (N x) b) 93)).heap[g]? = some (.cells (layC p) 163 (0, 0)) := by rw [heap_alloc, if_neg hgn]; exact hg
  have y0 : (w.alloc (.cells (seenC (N x) b) 93)).heap[w.heap.size]? = some (.cells (seenC (N x) b) 93 (0, 0)) := by rw [heap_alloc, if_pos rfl]
  generalize w.alloc (.cells (seenC (N x) b) 93) = W0 at *
  generalize w.heap.size = B at *
  have hBg : ¬ B = g := fun e => hgn e.symm
  clear hg
  go_upto_region 3 with (fail)
  have g1 : (W0.setCell ⟨g, 0, none⟩ (I 6)).heap[g]? = some (.cells (layC { p with ph := 6 }) 163 (0, 0)) := by rw [heap_setCell, if_pos rfl, g0, Option.map_some, setAt_cells, lay_s0]
  have y1 : (W0.setCell ⟨g, 0, none⟩ (I 6)).heap[B]? = some (.cells (seenC (N x) b) 93 (0, 0)) := by rw [heap_setCell, if_neg hBg]; exact y0
  have C1 := C0.setCell (p := ⟨g, 0, none⟩) (.inl (by simp)) (I 6)
  clear g0 y0 C0
  obtain ⟨w1, hw1⟩ : ∃ W, W0.setCell ⟨g, 0, none⟩ (I 6) = W := ⟨_, rfl⟩
  rw [hw1] at g1 y1 C1 ⊢
  clear hw1
  have s2 : (fun W' : World => W'.heap[B]? = some (.cells (seenC (N x) b) 93 (0, 0))) w1.drew := y1
  have g2 : w1.drew.heap[g]? = _ := g1
  have C2 : Ch [g] w w1.drew := C1.drew
  refine wp_region_held_drew (S := fun W' => W'.heap[B]? = some (.cells (seenC (N x) b) 93 (0, 0))) (by kernel_rfl) s2 ?_
  intro _
  simp only [List.size_toArray, List.length_cons, List.length_nil, Nat.reduceAdd]
  clear g1 y1 C1
  generalize w1.drew = w2 at *
  refine wpAnyH_take (i := 0) (oi := ⟨some 12, _, _, _, _, none⟩) (v := ?_) rfl (by kernel_rfl) (by kernel_rfl) (by kernel_rfl) (fun _ _ _ h => h) (Or.inl ⟨by rfl, ?_⟩) s2 ?_
  rotate_left
  · intro wq hSq
    first | (go_simp; done) | (go_simp; with_reducible rfl)
  try simp only [Act.put, List.setIfInBounds_toArray, List.set_cons_zero, List.set_cons_succ]
  refine wpAnyH_take (i := 1) (oi := ⟨some 13, _, _, _, _, none⟩) (v := ?_) rfl (by kernel_rfl) (by kernel_rfl) (by kernel_rfl) (fun _ _ _ h => h) (Or.inl ⟨by rfl, ?_⟩) s2 ?_
  rotate_left
  · intro wq hSq
    first | (go_simp; done) | (go_simp; with_reducible rfl)
  try simp only [Act.put, List.setIfInBounds_toArray, List.set_cons_zero, List.set_cons_succ]
  refine wpAnyH_take (i := 2) (oi := ⟨some 14, _, _, _, _, none⟩) (v := ?_) rfl (by kernel_rfl) (by kernel_rfl) (by kernel_rfl) (fun _ _ _ h => h) (Or.inl ⟨by rfl, ?_⟩) s2 ?_
  rotate_left
  · intro wq hSq
    first | (go_simp; done) | (go_simp; with_reducible rfl)
  try simp only [Act.put, List.setIfInBounds_toArray, List.set_cons_zero, List.set_cons_succ]
  refine wpAnyH_take (i := 3) (oi := ⟨some 15, _, _, _, _, none⟩) (v := ?_) rfl (by kernel_rfl) (by kernel_rfl) (by kernel_rfl) (fun _ _ _ h => h) (Or.inl ⟨by rfl, ?_⟩) s2 ?_
  rotate_left
  · intro wq hSq
    first | (go_simp; done) | (go_simp; with_reducible rfl)
  try simp only [Act.put, List.setIfInBounds_toArray, List.set_cons_zero, List.set_cons_succ]
  refine wpAnyH_take (i := 4) (oi := ⟨some 16, _, _, _, _, none⟩) (v := ?_) rfl (by kernel_rfl) (by kernel_rfl) (by kernel_rfl) (fun _ _ _ h => h) (Or.inl ⟨by rfl, ?_⟩) s2 ?_
  rotate_left
  · intro wq hSq
    first | (go_simp; done) | (go_simp; with_reducible rfl)
  try simp only [Act.put, List.setIfInBounds_toArray, List.set_cons_zero, List.set_cons_succ]
  refine wpAnyH_take (i := 5) (oi := ⟨some 17, _, _, _, _, none⟩) (v := ?_) rfl (by kernel_rfl) (by kernel_rfl) (by kernel_rfl) (fun _ _ _ h => h) (Or.inl ⟨by rfl, ?_⟩) s2 ?_
  rotate_left
  · intro wq hSq
    first | (go_simp; done) | (go_simp; with_reducible rfl)
  try simp only [Act.put, List.setIfInBounds_toArray, List.set_cons_zero, List.set_cons_succ]
  refine wpAnyH_take (i := 6) (oi := ⟨some 18, _, _, _, _, none⟩) (v := ?_) rfl (by kernel_rfl) (by kernel_rfl) (by kernel_rfl) (fun _ _ _ h => h) (Or.inl ⟨by rfl, ?_⟩) s2 ?_
  rotate_left
  · intro wq hSq
    first | (go_simp; done) | (go_simp; with_reducible rfl)
  try simp only [Act.put, List.setIfInBounds_toArray, List.set_cons_zero, List.set_cons_succ]
  refine wpAnyH_ready (rs := [7]) (by kernel_rfl) (by simp) ?_
  refine AllReadyH.cons rfl (fun K hK => ?_) AllReadyH.nil
  go_simp
  have s3 : (w2.setCell ⟨g, 0, none⟩ (I 1)).heap[B]? = some (.cells (seenC (N x) b) 93 (0, 0)) := by rw [heap_setCell, if_neg hBg]; exact s2
  have g3 : (w2.setCell ⟨g, 0, none⟩ (I 1)).heap[g]? = some (.cells (layC { p with ph := 1 }) 163 (0, 0)) := by rw [heap_setCell, if_pos rfl, g2, Option.map_some, setAt_cells, lay_s0]
  have C3 := C2.setCell (p := ⟨g, 0, none⟩) (.inl (by simp)) (I 1)
  refine hK.out _ _ s3 (fun _ => ?_)
  clear hK K s2 g2 C2
  generalize (w2.setCell ⟨g, 0, none⟩ (I 1)) = w3 at *
  refine wpAnyH_take (i := 8) (oi := ⟨some 19, _, _, _, _, none⟩) (v := ?_) rfl (by kernel_rfl) (by kernel_rfl) (by kernel_rfl) (fun _ _ _ h => h) (Or.inl ⟨by rfl, ?_⟩) s3 ?_
  rotate_left
  · intro wq hSq
    first | (go_simp; done) | (go_simp; with_reducible rfl)
  try simp only [Act.put, List.setIfInBounds_toArray, List.set_cons_zero, List.set_cons_succ]
  refine wpAnyH_take (i := 9) (oi := ⟨some 20, _, _, _, _, none⟩) (v := ?_) rfl (by kernel_rfl) (by kernel_rfl) (by kernel_rfl) (fun _ _ _ h => h) (Or.inl ⟨by rfl, ?_⟩) s3 ?_
  rotate_left
  · intro wq hSq
    first | (go_simp; done) | (go_simp; with_reducible rfl)
  try simp only [Act.put, List.setIfInBounds_toArray, List.set_cons_zero, List.set_cons_succ]
  refine wpAnyH_take (i := 10) (oi := ⟨some 21, _, _, _, _, none⟩) (v := ?_) rfl (by kernel_rfl) (by kernel_rfl) (by kernel_rfl) (fun _ _ _ h => h) (Or.inl ⟨by rfl, ?_⟩) s3 ?_
  rotate_left
  · intro wq hSq
    first | (go_simp; done) | (go_simp; with_reducible rfl)
  try simp only [Act.put, List.setIfInBounds_toArray, List.set_cons_zero, List.set_cons_succ]
  refine wpAnyH_ready (rs := [11]) (by kernel_rfl) (by simp) ?_
  refine AllReadyH.cons rfl (fun K hK => ?_) AllReadyH.nil
  go_simp
  refine hK.out _ _ (by rw [heap_setCell, if_neg hBg]; exact s3) (fun _ => ?_)
  clear hK K
  refine wpAnyH_done (by kernel_rfl) ?_ _
  go_wp2
  go_end0
  refine ⟨rfl, ?_, C3.setCell (p := ⟨g, 4, none⟩) (.inl (by simp)) _⟩
  rw [heap_setCell, if_pos rfl, g3, Option.map_some, setAt_cells]
  exact congrArg (fun x => some (Obj.cells x 163 (0, 0))) (lay_s4 _ _)
set_option maxHeartbeats 1000000 in
set_option maxRecDepth 100000 in
theorem lThen0_no (p : LayT) (g : Nat) (x : BitVec 64) (b : Bool) (ho : oddB x = true) (w : World) (hg : w.heap[g]? = some (.cells (layC p) 163 (0, 0))) :
    Calls Tryz.prog 191 #[.pointer (some ⟨g, 0, none⟩), .agg (seenC (N x) b)] w fun e w' => e = .returned (.tuple #[]) ∧ w'.heap[g]? = some (.cells (layC { p with ph := 6 }) 163 (0, 0)) ∧ Ch [g] w w' := by
  have hgn : ¬ g = w.heap.size := by have := (Array.getElem?_eq_some_iff.1 hg).1; omega
  have C0 : Ch [g] w (w.alloc (.cells (seenC (N x) b) 93)) := (Ch.refl [g] w).alloc _
  go_enter Tryz.func191, Tryz.ntmps191
  go_upto_region 1 with (fail)
  have g0 : (w.alloc (.cells (seenC (N x) b) 93)).heap[g]? = some (.cells (layC p) 163 (0, 0)) := by rw [heap_alloc, if_neg hgn]; exact hg
  have y0 : (w.alloc (.cells (seenC (N x) b) 93)).heap[w.heap.size]? = some (.cells (seenC (N x) b) 93 (0, 0)) := by rw [heap_alloc, if_pos rfl]
  generalize w.alloc (.cells (seenC (N x) b) 93) = W0 at *
  generalize w.heap.size = B at *
  have hBg : ¬ B = g := fun e => hgn e.symm
  clear hg
  go_wp2
  go_end0
  refine ⟨rfl, ?_, ?_⟩
  · simp [go_sem, g0]
  · exact C0.setCell (p := ⟨g, 0, none⟩) (.inl (by simp)) _
set_option maxHeartbeats 1000000 in
set_option maxRecDepth 100000 in
theorem lThen1_any (p : LayT) (g : Nat) (x : BitVec 64) (b : Bool) (w : World) (hg : w.heap[g]? = some (.cells (layC p) 163 (0, 0))) :
    Calls Tryz.prog 194 #[.pointer (some ⟨g, 0, none⟩), .agg (seenC (N x) b)] w fun e w' => e = .returned (.tuple #[]) ∧ w'.heap[g]? = some (.cells (layC { p with ph := 2, at_ := 1 }) 163 (0, 0)) ∧ Ch [g] w w' := by
  have hgn : ¬ g = w.heap.size := by have := (Array.getElem?_eq_some_iff.1 hg).1; omega
  have C0 : Ch [g] w (w.alloc (.cells (seenC (N x) b) 93)) := (Ch.refl [g] w).alloc _
  go_enter Tryz.func194, Tryz.ntmps194
  go_wp2
  go_end0
  refine ⟨rfl, ?_, ?_⟩
  · simp [go_sem, hg, hgn]
  · exact (C0.setCell (p := ⟨g, 0, none⟩) (.inl (by simp)) _).setCell (p := ⟨g, 5, none⟩) (.inl (by simp)) _
set_option maxHeartbeats 1000000 in
set_option maxRecDepth 100000 in
theorem lThen4_any (p : LayT) (g : Nat) (x : BitVec 64) (b : Bool) (c : Nat) (w : World) (hg : w.heap[g]? = some (.cells (layC p) 163 (0, 0))) (hb : w.heap[c]? = some (.cells #[I 5] 3 (0, 0))) :
    Calls Tryz.prog 188 #[.pointer (some ⟨g, 0, none⟩), .agg (seenC (N x) b), .pointer (some ⟨c, 0, none⟩)] w fun e w' => e = .returned (.tuple #[]) ∧ w'.heap[g]? = some (.cells (layC { p with ph := 5 }) 163 (0, 0)) ∧ Ch [g] w w' := by
  have hgn : ¬ g = w.heap.size := by have := (Array.getElem?_eq_some_iff.1 hg).1; omega
  have C0 : Ch [g] w (w.alloc (.cells (seenC (N x) b) 93)) := (Ch.refl [g] w).alloc _
  have hcn : ¬ c = w.heap.size := by have := (Array.getElem?_eq_some_iff.1 hb).1; omega
  go_enter Tryz.func188, Tryz.ntmps188
  go_wp2
  go_end0
  refine ⟨rfl, ?_, ?_⟩
  · simp [go_sem, hg, hgn]
  · exact C0.setCell (p := ⟨g, 0, none⟩) (.inl (by simp)) _
set_option maxHeartbeats 1000000 in
set_option maxRecDepth 100000 in
theorem lThen3_last (p : LayT) (g : Nat) (x : BitVec 64) (b : Bool) (ha : p.at_ = 39) (w : World) (hg : w.heap[g]? = some (.cells (layC p) 163 (0, 0))) :
    Calls Tryz.prog 199 #[.pointer (some ⟨g, 0, none⟩), .agg (seenC (N x) b)] w fun e w' => e = .returned (.tuple #[]) ∧ w'.heap[g]? = some (.cells (layC { p with at_ := 40, ph := 4 }) 163 (0, 0)) ∧ Ch [g] w w' := by
  have hgn : ¬ g = w.heap.size := by have := (Array.getElem?_eq_some_iff.1 hg).1; omega
  have C0 : Ch [g] w (w.alloc (.cells (seenC (N x) b) 93)) := (Ch.refl [g] w).alloc _
  go_enter Tryz.func199, Tryz.ntmps199
  go_wp2
  go_end0
  refine ⟨rfl, ?_, ?_⟩
  · simp [go_sem, hg, hgn, ha]
  · exact (C0.setCell (p := ⟨g, 5, none⟩) (.inl (by simp)) _).setCell (p := ⟨g, 0, none⟩) (.inl (by simp)) _
set_option maxHeartbeats 1000000 in
set_option maxRecDepth 100000 in
theorem lThen3_more (p : LayT) (g : Nat) (x : BitVec 64) (b : Bool) (a0 : 1 ≤ p.at_) (a1 : p.at_ < 39) (w : World) (hg : w.heap[g]? = some (.cells (layC p) 163 (0, 0))) :
    Calls Tryz.prog 199 #[.pointer (some ⟨g, 0, none⟩), .agg (seenC (N x) b)] w fun e w' => e = .returned (.tuple #[]) ∧ w'.heap[g]? = some (.cells (layC { p with at_ := p.at_ + 1 }) 163 (0, 0)) ∧ Ch [g] w w' := by
  have hgn : ¬ g = w.heap.size := by have := (Array.getElem?_eq_some_iff.1 hg).1; omega
  have C0 : Ch [g] w (w.alloc (.cells (seenC (N x) b) 93)) := (Ch.refl [g] w).alloc _
  go_enter Tryz.func199, Tryz.ntmps199
  go_wp2
  go_end0
  refine ⟨rfl, ?_, ?_⟩
  · simp [go_sem, hg, hgn]
  · exact C0.setCell (p := ⟨g, 5, none⟩) (.inl (by simp)) _
end Go.Proofs.Hc
