/- bound.Least of two scripts; slices.Equal at words. -/
import Derived.Test.YtfoicjijngfhbaaGreatDoorKBc
import Derived.Test.YtfoicjijngfhbaaGreatDoorKBd
import Derived.Test.YtfoicjijngfhbaaGreatDoorKBe
import Derived.Test.YtfoicjijngfhbaaGreatDoorKBf
import Derived.Test.YtfoicjijngfhbaaGreatDoorKBk
import Derived.Test.YtfoicjijngfhbaaGreatDoorKBo
import Derived.Test.YtfoicjijngfhbaaGreatDoorKBu
import Derived.Test.YtfoicjijngfhbaaGreatDoorKBw
import Derived.Test.YtfoicjijngfhbaaGreatDoorKDa
import Derived.Test.YtfoicjijngfhbaaGreatDoorKEf
import Derived.Test.YtfoicjijngfhbaaGreatDoorKEk
import Derived.Test.YtfoicjijngfhbaaGreatDoorKHm
import Derived.Test.YtfoicjijngfhbaaGreatDoorKHr
import Derived.Below
import Derived.BigQuiet
import Derived.Deep.Cut
import Derived.Deep.Draws
import Derived.Deep.OwnRows
import Derived.Deep.QuietTactic
import Derived.Deep.RegionHeld
import Derived.Laws.AppendOwn
import Derived.Laws.CopyOwn
import Derived.Laws.CopyRow
import Derived.Laws.EntriesVeiled
import Derived.Laws.Tables
import Derived.Lib.AppendZerosOnto
import Derived.Lib.Hide
import Derived.Lib.Tables
import Derived.LoopIn
import Derived.LoopNIn
import Derived.Maps.RangeWalk
import Derived.Maps.Views
import Derived.OwnWalkIn
import Derived.RangeFuncCalls
import Derived.RangeFuncRecord
import Derived.RangeFuncSeq
import Derived.Recover
import Derived.ScopeJumps
import Derived.StillTail
import Derived.TacticsInMore
import Derived.Test.YtfoicjijngfhbaaGreatDoorProg
import Derived.WalkKit
import Derived.WalkLawsBesides
set_option linter.unusedSimpArgs false
set_option linter.unusedVariables false
namespace Go.Proofs.Hc
open Go.RowKit
set_option linter.unusedVariables false
attribute [local go_sem] wrap_u64 wrap_u8 bits_xor64 bits_and64 bits_or64 bits_not64 bits_xor8 bits_and8 bits_or8 signed64 signed8 ofInt_N BitVec.ofInt_add BitVec.ofInt_mul ofInt_sub' ofInt8_N64 ofInt64_N8 wide8 eqN neN shr_pow shr1 shr7 shr56
attribute [local go_sem high] bits_com64 shl_wrap
attribute [local go_sem] nn2 nm2 nn3 nm3 nn4 nm4 nn5 nm5 nn6 nm6 nn7 nm7 nn8 nm8
attribute [local go_sem] Oper.semAt_some make_func1 make_funcB
attribute [local go_sem] cell_heap ice_heap cellAt_cells iceAt_cells setAt_cells size_setCell rowAt_cells canLay_cells laidAt_cells size_onObj rowRes_some layRes_true
attribute [local go_sem ↓] heap_alloc heap_drew heap_drewN heap_setCell heap_putObj heap_onObj
theorem box_sl (v : Value) (w : World) (a : Option Addr) (n c : Nat) (h : v = .slice a n c) : ∃ W, w.alloc (.cells #[.slice a n c] 57) = W ∧ Ch [] w W ∧ W.heap[w.heap.size]? = some (.cells #[.slice a n c] 57 (0, 0)) := ⟨_, rfl, (Ch.refl [] w).alloc _, by rw [heap_alloc, if_pos rfl]⟩
set_option maxRecDepth 100000 in
theorem leastP_two (s : ScT) (k : BitVec 64) (Q c : Nat) (w : World) (R : OneSc w s k) (hQ : w.heap[Q]? = some (.cells (twoSc s) 26 (0, 0))) : Calls Tryz.prog 14 #[.slice (some ⟨Q, 0, none⟩) 2 c] w fun e w' => e = .returned (.tuple #[I 2, I 0]) ∧ Ch [] w w' := by
  obtain ⟨W, hW, C, hB⟩ := box_sl _ w (some ⟨Q, 0, none⟩) 2 c rfl
  have T1 : Calls Tryz.prog 27 #[.func (.func 34) #[] #[.pointer (some ⟨w.heap.size, 0, none⟩)]] W fun e w' => e = .returned (.tuple #[I 2, I 0]) ∧ Ch [] W w' := by
    refine (triesBI_ok 34 _ W (fun x _ => x = 2) (fun _ _ _ h _ => h) (fun _ _ => by kernel_rfl) (fun w1 hc hz => (least1_two s k _ Q c w1 (R.ch (C.trans hc)) (bkeep hc hB) (bkeep (C.trans hc) hQ)).mono fun e w2 h => ⟨_, h.1, rfl, h.2⟩)).mono ?_
    rintro e w' ⟨x, rfl, rfl, hc⟩
    exact ⟨rfl, hc⟩
  clear R hQ hB
  obtain ⟨B, hBe⟩ : ∃ B, w.heap.size = B := ⟨_, rfl⟩
  rw [hBe] at T1
  go_enter Tryz.func14, Tryz.ntmps14
  go_upto_region 1 with (fail)
  try rw [hW]
  try rw [hBe]
  clear hW hBe
  go_wp2_with fail
  refine T1.mono ?_
  rintro e w2 ⟨rfl, hc⟩
  go_wp2
  go_ret2
  exact ⟨rfl, C.trans hc⟩
set_option maxRecDepth 100000 in
theorem equal_one (k : BitVec 64) (base : Nat) (v : Value) (q c : Nat) (w : World) (hown : w.ownsRow base 22 1 v 1 [U k]) (hq : w.heap[q]? = some (.cells #[U k] 22 (0, 0))) : Calls Tryz.prog 10 #[v, .slice (some ⟨q, 0, none⟩) 1 c] w fun e w' => e = .returned (.bool true) ∧ Ch [] w w' := by
  obtain ⟨_, ⟨_, h0⟩ | ⟨p, cap, cur, rfl, hbq, hp, hnc, hcm, hcs, htake⟩⟩ := hown
  · cases h0
  have hcur : cur[0]? = some (U k) := by
    have := congrArg (fun l => l[0]?) htake
    simpa using this
  clear htake hcs hcm hnc hbq
  go_enter Tryz.func10, Tryz.ntmps10
  go_wp2
  refine wp_loop_rounds 2 ?_
  rw [rounds_succ]
  go_wp2
  have sP : (fun W' : World => Ch [] w W' ∧ W'.heap[p]? = some (.cells cur 22 (0, 0)) ∧ W'.heap[q]? = some (.cells #[U k] 22 (0, 0))) w.drew := ⟨(Ch.refl [] w).drew, hp, hq⟩
  refine wp_region_held_drew (S := fun W' : World => Ch [] w W' ∧ W'.heap[p]? = some (.cells cur 22 (0, 0)) ∧ W'.heap[q]? = some (.cells #[U k] 22 (0, 0))) (by kernel_rfl) sP ?_
  intro _
  simp only [List.size_toArray, List.length_cons, List.length_nil, Nat.reduceAdd]
  clear hp hq
  generalize w.drew = w2 at *
  refine wpAnyH_take (i := 0) (oi := ⟨some 16, _, _, _, _, none⟩) (v := ?_) rfl (by kernel_rfl) (by kernel_rfl) (by kernel_rfl) (fun _ _ _ h => h) (Or.inl ⟨by rfl, ?_⟩) sP ?_
  rotate_left
  · intro wq hSq
    obtain ⟨q0, q1, q2⟩ := hSq
    first | (go_simp; done) | (go_simp; with_reducible rfl)
  try simp only [Act.put, List.setIfInBounds_toArray, List.set_cons_zero, List.set_cons_succ]
  refine wpAnyH_take (i := 1) (oi := ⟨some 17, _, _, _, _, none⟩) (v := ?_) rfl (by kernel_rfl) (by kernel_rfl) (by kernel_rfl) (fun _ _ _ h => h) (Or.inl ⟨by rfl, ?_⟩) sP ?_
  rotate_left
  · intro wq hSq
    obtain ⟨q0, q1, q2⟩ := hSq
    first | (go_simp; done) | (go_simp; with_reducible rfl)
  try simp only [Act.put, List.setIfInBounds_toArray, List.set_cons_zero, List.set_cons_succ]
  refine wpAnyH_take (i := 2) (oi := ⟨some 18, _, _, _, _, none⟩) (v := ?_) rfl (by kernel_rfl) (by kernel_rfl) (by kernel_rfl) (fun _ _ _ h => h) (Or.inl ⟨by rfl, ?_⟩) sP ?_
  rotate_left
  · intro wq hSq
    obtain ⟨q0, q1, q2⟩ := hSq
    first | (go_simp; done) | (go_simp; with_reducible rfl)
  try simp only [Act.put, List.setIfInBounds_toArray, List.set_cons_zero, List.set_cons_succ]
  refine wpAnyH_take (i := 3) (oi := ⟨some 19, _, _, _, _, none⟩) (v := ?_) rfl (by kernel_rfl) (by kernel_rfl) (by kernel_rfl) (fun _ _ _ h => h) (Or.inl ⟨by rfl, ?_⟩) sP ?_
  rotate_left
  · intro wq hSq
    obtain ⟨q0, q1, q2⟩ := hSq
    first | (go_simp; done) | (go_simp; with_reducible rfl)
  try simp only [Act.put, List.setIfInBounds_toArray, List.set_cons_zero, List.set_cons_succ]
  refine wpAnyH_take (i := 4) (oi := ⟨some 20, _, _, _, _, none⟩) (v := ?_) rfl (by kernel_rfl) (by kernel_rfl) (by kernel_rfl) (fun _ _ _ h => h) (Or.inl ⟨by rfl, ?_⟩) sP ?_
  rotate_left
  · intro wq hSq
    obtain ⟨q0, q1, q2⟩ := hSq
    first | (go_simp; done) | (go_simp; with_reducible rfl)
  try simp only [Act.put, List.setIfInBounds_toArray, List.set_cons_zero, List.set_cons_succ]
  refine wpAnyH_take (i := 5) (oi := ⟨some 21, _, _, _, _, none⟩) (v := ?_) rfl (by kernel_rfl) (by kernel_rfl) (by kernel_rfl) (fun _ _ _ h => h) (Or.inl ⟨by rfl, ?_⟩) sP ?_
  rotate_left
  · intro wq hSq
    obtain ⟨q0, q1, q2⟩ := hSq
    first | (go_simp; done) | (go_simp; with_reducible rfl)
  try simp only [Act.put, List.setIfInBounds_toArray, List.set_cons_zero, List.set_cons_succ]
  refine wpAnyH_take (i := 6) (oi := ⟨some 22, _, _, _, _, none⟩) (v := ?_) rfl (by kernel_rfl) (by kernel_rfl) (by kernel_rfl) (fun _ _ _ h => h) (Or.inl ⟨by rfl, ?_⟩) sP ?_
  rotate_left
  · intro wq hSq
    obtain ⟨q0, q1, q2⟩ := hSq
    first | (go_simp; done) | (go_simp; with_reducible rfl)
  try simp only [Act.put, List.setIfInBounds_toArray, List.set_cons_zero, List.set_cons_succ]
  refine wpAnyH_take (i := 7) (oi := ⟨some 23, _, _, _, _, none⟩) (v := ?_) rfl (by kernel_rfl) (by kernel_rfl) (by kernel_rfl) (fun _ _ _ h => h) (Or.inl ⟨by rfl, ?_⟩) sP ?_
  rotate_left
  · intro wq hSq
    obtain ⟨q0, q1, q2⟩ := hSq
    first | (go_simp; done) | (go_simp; with_reducible rfl)
  try simp only [Act.put, List.setIfInBounds_toArray, List.set_cons_zero, List.set_cons_succ]
  refine wpAnyH_take (i := 8) (oi := ⟨some 24, _, _, _, _, none⟩) (v := ?_) rfl (by kernel_rfl) (by kernel_rfl) (by kernel_rfl) (fun _ _ _ h => h) (Or.inl ⟨by rfl, ?_⟩) sP ?_
  rotate_left
  · intro wq hSq
    obtain ⟨q0, q1, q2⟩ := hSq
    first | (go_simp; done) | (go_simp; with_reducible rfl)
  try simp only [Act.put, List.setIfInBounds_toArray, List.set_cons_zero, List.set_cons_succ]
  refine wpAnyH_done (by kernel_rfl) ?_ _
  have C2 := sP.1
  clear sP
  go_wp2
  rw [rounds_succ]
  go_wp2
  go_ret
  exact ⟨rfl, C2⟩
end Go.Proofs.Hc
/- Law 29: wakes. -/
namespace Go.Proofs.Hc
open Go.RowKit
set_option linter.unusedVariables false
attribute [local go_sem] wrap_u64 wrap_u8 bits_xor64 bits_and64 bits_or64 bits_not64 bits_xor8 bits_and8 bits_or8 signed64 signed8 ofInt_N BitVec.ofInt_add BitVec.ofInt_mul ofInt_sub' ofInt8_N64 ofInt64_N8 wide8 eqN neN shr_pow shr1 shr7 shr56
attribute [local go_sem high] bits_com64 shl_wrap
attribute [local go_sem] nn2 nm2 nn3 nm3 nn4 nm4 nn5 nm5 nn6 nm6 nn7 nm7 nn8 nm8
attribute [local go_sem] Oper.semAt_some make_func1 make_funcB
attribute [local go_sem] cell_heap ice_heap cellAt_cells iceAt_cells setAt_cells size_setCell rowAt_cells canLay_cells laidAt_cells size_onObj rowRes_some layRes_true
attribute [local go_sem ↓] heap_alloc heap_drew heap_drewN heap_setCell heap_putObj heap_onObj
attribute [local go_sem] loadS box_sc
attribute [local go_sem ↓] lrowS
theorem wk1 (w : World) : Calls Tryz.prog 17 #[I 8] w fun e w' => e = .returned (.tuple #[I 5, I 0]) ∧ Ch [] w w' := by
  have h := bSplits_ok 8 (by decide) (by decide) w
  rw [show splitsB 8 = 5 by decide] at h; exact h
theorem wk2 (w : World) : Calls Tryz.prog 18 #[I 64] w fun e w' => e = .returned (.tuple #[I 71, I 0]) ∧ Ch [] w w' := by
  have h := bSlabs_ok 64 (by decide) (by decide) w
  rw [show slabsB 64 = 71 by decide] at h; exact h
theorem wk3 (w : World) : Calls Tryz.prog 19 #[I 8] w fun e w' => e = .returned (.tuple #[I 5064, I 0]) ∧ Ch [] w w' := by
  have h := bSteps_ok 8 (by decide) w
  rw [show (5000 : Int) + 8 * 8 = 5064 by decide] at h; exact h
theorem wk4 (w : World) : Calls Tryz.prog 20 #[I 2, I 8, I 3] w fun e w' => e = .returned (.tuple #[I 30384, I 0]) ∧ Ch [] w w' := by
  have h := window_any 2 8 3 w
  rw [show winE 2 8 3 = (30384, 0) by decide] at h; exact h
theorem wk5 (w : World) : Calls Tryz.prog 17 #[I (-1)] w fun e w' => e = .returned (.tuple #[I 0, I 2]) ∧ Ch [] w w' := bSplits_no (-1) (by decide) w
def wkL : List CallT := [⟨2, 5#64, 0#64, 0#64⟩, ⟨1, 6#64, 0#64, 0#64⟩]
def wkS (R : Nat) : ScT := ⟨1, 2, 0#64, some (R + 1, 0), 1, [⟨some ⟨R, 0, none⟩, 2, wkL⟩], none, 0, 0⟩
theorem wk_one : ∀ k', cntL (catL (wkS 0).ls) k' ≠ 0 ↔ k' = 5#64 := fun k' => by
  show cntL wkL k' ≠ 0 ↔ k' = 5#64
  unfold cntL wkL
  by_cases h : k' = 5#64
  · subst h; decide
  · have h2 : ((5#64 : BitVec 64) == k') = false := by simpa using fun e => h e.symm
    simp [CallT.comes, h2, h]
theorem wk_world (w : World) (R : Nat) (hR : w.heap.size = R) (hT : TakesAt w) : ∃ W, ((w.alloc (.cells #[.int .i64 2, .int .u64 5, .int .u64 0, .int .u64 0, .int .i64 1, .int .u64 6, .int .u64 0, .int .u64 0] 44)).alloc (.cells #[.slice (some ⟨R, 0, none⟩) 2 2] 45)).alloc (.cells #[.int .i64 1, .int .i64 2, .int .u64 0, .slice (some ⟨R + 1, 0, none⟩) 1 1, .slice none 0 0] 26) = W ∧ Ch [] w W ∧ W.heap[R + 1 + 1]? = some (.cells #[I 1, I 2, U 0#64, .slice (some ⟨R + 1, 0, none⟩) 1 1, .slice none 0 0] 26 (0, 0)) ∧ OneSc W (wkS R) 5#64 := by
  subst hR
  have C : Ch [] w (((w.alloc (.cells #[.int .i64 2, .int .u64 5, .int .u64 0, .int .u64 0, .int .i64 1, .int .u64 6, .int .u64 0, .int .u64 0] 44)).alloc (.cells #[.slice (some ⟨w.heap.size, 0, none⟩) 2 2] 45)).alloc (.cells #[.int .i64 1, .int .i64 2, .int .u64 0, .slice (some ⟨w.heap.size + 1, 0, none⟩) 1 1, .slice none 0 0] 26)) := (((Ch.refl [] w).alloc _).alloc _).alloc _
  have h0 : (((w.alloc (.cells #[.int .i64 2, .int .u64 5, .int .u64 0, .int .u64 0, .int .i64 1, .int .u64 6, .int .u64 0, .int .u64 0] 44)).alloc (.cells #[.slice (some ⟨w.heap.size, 0, none⟩) 2 2] 45)).alloc (.cells #[.int .i64 1, .int .i64 2, .int .u64 0, .slice (some ⟨w.heap.size + 1, 0, none⟩) 1 1, .slice none 0 0] 26)).heap[w.heap.size]? = some (.cells #[I 2, U 5#64, U 0#64, U 0#64, I 1, U 6#64, U 0#64, U 0#64] 44 (0, 0)) := by
    rw [heap_alloc, if_neg (by simp; omega), heap_alloc, if_neg (by simp), heap_alloc, if_pos rfl]
    rfl
  have h1 : (((w.alloc (.cells #[.int .i64 2, .int .u64 5, .int .u64 0, .int .u64 0, .int .i64 1, .int .u64 6, .int .u64 0, .int .u64 0] 44)).alloc (.cells #[.slice (some ⟨w.heap.size, 0, none⟩) 2 2] 45)).alloc (.cells #[.int .i64 1, .int .i64 2, .int .u64 0, .slice (some ⟨w.heap.size + 1, 0, none⟩) 1 1, .slice none 0 0] 26)).heap[w.heap.size + 1]? = some (.cells #[.slice (some ⟨w.heap.size, 0, none⟩) 2 2] 45 (0, 0)) := by
    rw [heap_alloc, if_neg (by simp), heap_alloc, if_pos (by simp)]
  have h2 : (((w.alloc (.cells #[.int .i64 2, .int .u64 5, .int .u64 0, .int .u64 0, .int .i64 1, .int .u64 6, .int .u64 0, .int .u64 0] 44)).alloc (.cells #[.slice (some ⟨w.heap.size, 0, none⟩) 2 2] 45)).alloc (.cells #[.int .i64 1, .int .i64 2, .int .u64 0, .slice (some ⟨w.heap.size + 1, 0, none⟩) 1 1, .slice none 0 0] 26)).heap[w.heap.size + 1 + 1]? = some (.cells #[I 1, I 2, U 0#64, .slice (some ⟨w.heap.size + 1, 0, none⟩) 1 1, .slice none 0 0] 26 (0, 0)) := by
    rw [heap_alloc, if_pos (by simp)]
    rfl
  refine ⟨_, rfl, C, h2, ⟨⟨(by decide : (1 : Int) ≤ 1), (by decide : (1 : Int) ≤ 8), (by decide : (2 : Int) ≤ 2), (by decide : (2 : Int) ≤ 128), rfl, (by decide : 0 ≤ 4096), (by decide : wkL.length + 0 ≤ 64), (by decide : (wkL ++ []).all CallT.right = true), w.heap.size + 1, 0, rfl, ?_⟩, wk_one, hT.ch C⟩⟩
  intro i s hi
  match i with
  | 0 =>
    have hs : s = ⟨some ⟨w.heap.size, 0, none⟩, 2, wkL⟩ := by
      have : some (⟨some ⟨w.heap.size, 0, none⟩, 2, wkL⟩ : ListT) = some s := hi
      exact (Option.some.inj this).symm
    subst hs
    refine ⟨?_, .inr ⟨_, _, rfl, ?_⟩⟩
    · unfold World.cell?
      rw [h1]
      rfl
    · intro j u hj
      unfold World.cell?
      rw [h0]
      dsimp only
      rw [Nat.zero_add]
      have : #[I 2, U 5#64, U 0#64, U 0#64, I 1, U 6#64, U 0#64, U 0#64] = (crow wkL).toArray := rfl
      rw [this]
      simpa using hj
  | i + 1 =>
    have : (none : Option ListT) = some s := hi
    cases this
theorem wk_two (w : World) (R : Nat) : ∃ W, w.alloc (.cells #[I 1, I 2, U 0#64, .slice (some ⟨R + 1, 0, none⟩) 1 1, .slice none 0 0, I 1, I 2, U 0#64, .slice (some ⟨R + 1, 0, none⟩) 1 1, .slice none 0 0] 26) = W ∧ Ch [] w W ∧ W.heap[w.heap.size]? = some (.cells (twoSc (wkS R)) 26 (0, 0)) :=
  ⟨_, rfl, (Ch.refl [] w).alloc _, by rw [heap_alloc, if_pos rfl]; rfl⟩
set_option maxHeartbeats 4000000 in
set_option maxRecDepth 100000 in
theorem wakes29_any (w : World) (hT : TakesAt w) : Calls Tryz.prog 4 #[] w fun e w' => e = .returned (.bool true) ∧ Ch [] w w' := by
  go_enter Tryz.func4, Tryz.ntmps4
  go_wp2_with fail
  refine (wk1 _).mono ?_
  rintro e w1 ⟨rfl, c1⟩
  go_wp2_with fail
  refine (wk2 _).mono ?_
  rintro e w2 ⟨rfl, hc2⟩
  have c2 := c1.trans hc2
  clear c1 hc2
  go_wp2_with fail
  refine (wk3 _).mono ?_
  rintro e w3 ⟨rfl, hc3⟩
  have c3 := c2.trans hc3
  clear c2 hc3
  go_wp2_with fail
  refine (wk4 _).mono ?_
  rintro e w4 ⟨rfl, hc4⟩
  have c4 := c3.trans hc4
  clear c3 hc4
  go_wp2_with fail
  refine (wk5 _).mono ?_
  rintro e w5 ⟨rfl, hc5⟩
  have c5 := c4.trans hc5
  clear c4 hc5
  go_upto_region 7 with (fail)
  obtain ⟨R, hR⟩ : ∃ R, w5.heap.size = R := ⟨_, rfl⟩
  obtain ⟨W, hW, hcW, hS, O1⟩ := wk_world w5 R hR (hT.ch c5)
  have C6 := c5.trans hcW
  rw [hR]
  rw [hW]
  clear hR hW hcW c5 hT
  have M1 := comesP_one (wkS R) 5#64 W O1
  go_wp2_with fail
  refine M1.mono ?_
  rintro e w7 ⟨v, rfl, hown, hc7⟩
  have hS7 := bkeep hc7 hS
  have O7 := O1.ch hc7
  have C7 := C6.trans hc7
  obtain ⟨a, c, rfl⟩ := own_val hown
  clear M1 hS O1 C6 hc7
  obtain ⟨W8, hW8, hc8, hQ⟩ := wk_two w7 R
  have L1 := leastP_two (wkS R) 5#64 w7.heap.size 2 W8 (O7.ch hc8) hQ
  have O8 := O7.ch hc8
  have hS8 := bkeep hc8 hS7
  have C8 := C7.trans hc8
  have hown8 := own_keep hown hc8 (by simp)
  clear hQ
  go_wp2_with fail
  refine L1.mono ?_
  rintro e w9 ⟨rfl, hc9⟩
  have O9 := O8.ch hc9
  have hS9 := bkeep hc9 hS8
  have C9 := C8.trans hc9
  have hown9 := own_keep hown8 hc9 (by simp)
  obtain ⟨WA, hWA, hcA, hqA⟩ : ∃ W, w9.alloc (.cells #[.int .u64 5] 22) = W ∧ Ch [] w9 W ∧ W.heap[w9.heap.size]? = some (.cells #[U 5#64] 22 (0, 0)) := ⟨_, rfl, (Ch.refl [] w9).alloc _, by rw [heap_alloc, if_pos rfl]; rfl⟩
  have E1 := equal_one 5#64 _ (.slice a 1 c) w9.heap.size 1 WA (own_keep hown9 hcA (by simp)) hqA
  have OA := O9.ch hcA
  have hSA := bkeep hcA hS9
  have CA := C9.trans hcA
  clear L1 hc9 hcA hqA hown hown8 hown9 hW8 hc8 hS7 hS8 hS9 O7 O8 O9 C7 C8 C9
  go_wp2_with fail
  refine E1.mono ?_
  rintro e wB ⟨rfl, hcB⟩
  have F1 := enough_one (wkS R) 5#64 wB (OA.ch hcB)
  have hSB := bkeep hcB hSA
  have CB := CA.trans hcB
  clear E1 hcB hSA OA CA hWA
  go_wp2_with fail
  refine F1.mono ?_
  rintro e wC ⟨rfl, hcC⟩
  clear F1
  go_wp2
  go_ret
  exact ⟨rfl, CB.trans hcC⟩
end Go.Proofs.Hc
