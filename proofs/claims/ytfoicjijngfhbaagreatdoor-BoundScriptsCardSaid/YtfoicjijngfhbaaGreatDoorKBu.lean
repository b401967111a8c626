/- slices.Sort of one word. -/
import Derived.Test.YtfoicjijngfhbaaGreatDoorKBc
import Derived.Test.YtfoicjijngfhbaaGreatDoorKBd
import Derived.Test.YtfoicjijngfhbaaGreatDoorKBe
import Derived.Test.YtfoicjijngfhbaaGreatDoorKBf
import Derived.Test.YtfoicjijngfhbaaGreatDoorKBk
import Derived.Test.YtfoicjijngfhbaaGreatDoorKBo
import Derived.Test.YtfoicjijngfhbaaGreatDoorKBt
import Derived.Test.YtfoicjijngfhbaaGreatDoorKDa
import Derived.Test.YtfoicjijngfhbaaGreatDoorKDh0
import Derived.Test.YtfoicjijngfhbaaGreatDoorKEf
import Derived.Test.YtfoicjijngfhbaaGreatDoorKEk
import Derived.Test.YtfoicjijngfhbaaGreatDoorKHm
import Derived.Test.YtfoicjijngfhbaaGreatDoorKHr
import Derived.Below
import Derived.BigQuiet
import Derived.Deep.Cut
import Derived.Deep.Draws
import Derived.Deep.QuietTactic
import Derived.Deep.RegionHeld
import Derived.Laws.AppendOwn
import Derived.Laws.CopyRow
import Derived.Laws.EntriesVeiled
import Derived.Laws.Tables
import Derived.Lib.AppendZerosOnto
import Derived.Lib.Hide
import Derived.Lib.Tables
import Derived.LoopIn
import Derived.LoopNIn
import Derived.Maps.RangeWalk
import Derived.Maps.Views
import Derived.OwnWalkIn
import Derived.RangeFuncCalls
import Derived.RangeFuncRecord
import Derived.RangeFuncSeq
import Derived.Recover
import Derived.TacticsInMore
import Derived.Test.YtfoicjijngfhbaaGreatDoorProg
import Derived.WalkKit
import Derived.WalkLawsBesides
import Derived.Laws.Bits64
import Derived.Laws.Bits64b
import Derived.Lib.BitFns
import Derived.Lib.Slices
import Derived.Lib.Small
import Derived.Lib.Strings
import Derived.Lib.Walk
import Derived.Sort.Defs
import Derived.Sort.LotD1
import Derived.Sort.LotD5
import Derived.Sort.LotD6
import Derived.Deep.OwnRows
import Derived.Laws.CopyOwn
import Derived.StillTail
set_option linter.unusedSimpArgs false
set_option linter.unusedVariables false
namespace Go.Proofs.Hc
open Go.RowKit
set_option linter.unusedVariables false
set_option maxRecDepth 100000 in
theorem len64_one (w : World) : Calls Tryz.prog 80 #[.int .u64 1] w fun e w' => e = .returned (I 1) ∧ w = w' := by
  have h1 : Lib.len8 1 = 1 := by decide +kernel
  go_enter Tryz.func80, Tryz.ntmps80
  go_wp2
  go_ret
  exact ⟨rfl, rfl⟩
attribute [local go_sem] wrap_u64 wrap_u8 bits_xor64 bits_and64 bits_or64 bits_not64 bits_xor8 bits_and8 bits_or8 signed64 signed8 ofInt_N BitVec.ofInt_add BitVec.ofInt_mul ofInt_sub' ofInt8_N64 ofInt64_N8 wide8 eqN neN shr_pow shr1 shr7 shr56
attribute [local go_sem high] bits_com64 shl_wrap
attribute [local go_sem] nn2 nm2 nn3 nm3 nn4 nm4 nn5 nm5 nn6 nm6 nn7 nm7 nn8 nm8
attribute [local go_sem] Oper.semAt_some make_func1 make_funcB
theorem len_one (w : World) : Calls Tryz.prog 56 #[.int .u64 1] w fun e w' => e = .returned (I 1) ∧ w = w' := by
  go_enter Tryz.func56, Tryz.ntmps56
  go_wp2_with (go_at_call 80; refine (len64_one _).mono ?_; rintro e w' ⟨rfl, rfl⟩)
  go_ret
  exact ⟨rfl, rfl⟩
theorem insert_one (a : Option Addr) (c : Nat) (w : World) : Calls Tryz.prog 70 #[.slice a 1 c, I 0, I 1] w fun e w' => e = .returned (.tuple #[]) ∧ w = w' := by
  go_enter Tryz.func70, Tryz.ntmps70
  go_wp2
  refine wp_loop_rounds 1 ?_
  rw [rounds_succ]
  go_wp2
  go_end0
  exact ⟨rfl, rfl⟩
theorem pdq_one (a : Option Addr) (c : Nat) (w : World) : Calls Tryz.prog 55 #[.slice a 1 c, I 0, I 1, I 1] w fun e w' => e = .returned (.tuple #[]) ∧ w = w' := by
  go_enter Tryz.func55, Tryz.ntmps55
  go_wp2
  refine wp_loop_rounds 1 ?_
  rw [rounds_succ]
  go_wp2_with (go_at_call 70; refine (insert_one _ _ _).mono ?_; rintro e w' ⟨rfl, rfl⟩)
  exact bodyPost_ret (results_none rfl _ _ _) rfl ⟨rfl, rfl⟩
theorem sort_one (k : BitVec 64) : SortC [k] [k] := by
  intro v w base hown
  obtain ⟨a, c, rfl⟩ := own_val hown
  have HO := Lib.hid hown
  clear hown
  show Calls Tryz.prog 46 #[.slice a 1 c] w _
  go_enter Tryz.func46, Tryz.ntmps46
  go_wp2_with (first
    | (go_at_call 56; refine (len_one _).mono ?_; rintro e w' ⟨rfl, rfl⟩)
    | (go_at_call 55; refine (pdq_one _ _ _).mono ?_; rintro e w' ⟨rfl, rfl⟩))
  go_end0
  exact ⟨rfl, HO.out, ⟨rfl, rfl, rfl, Nat.le_refl _, fun _ _ _ => rfl⟩⟩
end Go.Proofs.Hc
/- bits.Len in general, nextPowerOfTwo, xorshift.Next. -/
namespace Go.Proofs.Hc
open Go.RowKit
set_option linter.unusedVariables false
set_option linter.unusedSimpArgs false
attribute [local go_sem] Oper.semAt_some make_func1
attribute [local go_sem] cell_heap ice_heap cellAt_cells iceAt_cells setAt_cells size_setCell rowAt_cells canLay_cells laidAt_cells size_onObj rowRes_some layRes_true
attribute [local go_sem ↓] heap_alloc heap_drew heap_drewN heap_setCell heap_putObj heap_onObj
theorem bitLen_is (x : Nat) (h : x < 2 ^ 64) : Lib.bitLen x = Go.Sort.bitsLen x := by
  induction x using Nat.strongRecOn with
  | _ x ih =>
    by_cases h0 : x = 0
    · subst h0; rfl
    · rw [Lib.bitLen_half x h0 h, ih (x / 2) (by omega) (by omega)]
      unfold Go.Sort.bitsLen
      rw [if_neg h0, Nat.log2_def x]
      by_cases h2 : 2 ≤ x
      · rw [if_pos h2, if_neg (by omega)]; omega
      · obtain rfl : x = 1 := by omega
        simp
set_option maxRecDepth 100000 in
theorem len_any (n : Nat) (hn : n < 4611686018427387904) (w : World) : Calls Tryz.prog 56 #[.int .u64 n] w fun e w' => e = .returned (I (Go.Sort.bitsLen n : Nat)) ∧ w' = w := by
  have L : ∀ w, Calls Tryz.prog 80 #[.int .u64 (n : Int)] w fun e w' => e = .returned (I (Go.Sort.bitsLen n : Nat)) ∧ w' = w := fun w => by
    have h := len64_any (n : Int) w (by omega) (by omega)
    rwa [Int.toNat_natCast, bitLen_is _ (by omega)] at h
  go_enter Tryz.func56, Tryz.ntmps56
  go_wp2_with (go_at_call 80; refine (L _).mono ?_; rintro e w' ⟨rfl, rfl⟩)
  go_ret
  exact ⟨rfl, rfl⟩
theorem two_pow_u64 (k : Nat) (hk : k ≤ 62) : IntKind.u64.wrap ((2 : Int) ^ k) = ((1 <<< k : Nat) : Int) := by
  have h : (2 : Nat) ^ k ≤ 2 ^ 62 := Nat.pow_le_pow_right (by decide) hk
  rw [IntKind.wrap_u64, Nat.one_shiftLeft, show ((2 : Int) ^ k) = ((2 ^ k : Nat) : Int) by push_cast; rfl]
  generalize (2 : Nat) ^ k = p at h
  omega
set_option maxRecDepth 100000 in
theorem npow_any (n : Nat) (hn : n < 4611686018427387904) (w : World) : Calls Tryz.prog 90 #[I n] w fun e w' => e = .returned (.int .u64 ((1 <<< Go.Sort.bitsLen n : Nat) : Int)) ∧ w' = w := by
  have hk : Go.Sort.bitsLen n ≤ 62 := (Go.Sort.bitsLen_le_iff n 62).2 (by omega)
  have hp := two_pow_u64 (Go.Sort.bitsLen n) hk
  have hL := fun w => len_any n hn w
  obtain ⟨k, hkk⟩ : ∃ k, Go.Sort.bitsLen n = k := ⟨_, rfl⟩
  rw [hkk] at hL hp hk ⊢
  obtain ⟨M, hM⟩ : ∃ M : Nat, 1 <<< k = M := ⟨_, rfl⟩
  rw [hM] at hp ⊢
  have k0 : (0 : Int) ≤ k := by omega
  have k1 : (k : Int) ≤ 62 := by omega
  clear hM hkk hk
  go_enter Tryz.func90, Tryz.ntmps90
  go_wp2_with fail
  refine (hL _).mono ?_
  rintro e w' ⟨rfl, rfl⟩
  clear hL
  go_wp2
  go_ret
  exact ⟨rfl, rfl⟩
end Go.Proofs.Hc
/- bound: a script of one key that comes. -/
namespace Go.Proofs.Hc
open Go.RowKit
set_option linter.unusedVariables false
attribute [local go_sem] wrap_u64 wrap_u8 bits_xor64 bits_and64 bits_or64 bits_not64 bits_xor8 bits_and8 bits_or8 signed64 signed8 ofInt_N BitVec.ofInt_add BitVec.ofInt_mul ofInt_sub' ofInt8_N64 ofInt64_N8 wide8 eqN neN shr_pow shr1 shr7 shr56
attribute [local go_sem high] bits_com64 shl_wrap
attribute [local go_sem] nn2 nm2 nn3 nm3 nn4 nm4 nn5 nm5 nn6 nm6 nn7 nm7 nn8 nm8
attribute [local go_sem] Oper.semAt_some make_func1 make_funcB
attribute [local go_sem] cell_heap ice_heap cellAt_cells iceAt_cells setAt_cells size_setCell rowAt_cells canLay_cells laidAt_cells size_onObj rowRes_some layRes_true
attribute [local go_sem ↓] heap_alloc heap_drew heap_drewN heap_setCell heap_putObj heap_onObj
attribute [local go_sem] loadS box_sc loadP5 box_pl scC_size scC_all
attribute [local go_sem ↓] lrowS lrowP5
/-- A script that may be, of which one key comes. -/
structure OneSc (w : World) (s : ScT) (k : BitVec 64) : Prop where
  right : RightSc w s
  one : ∀ k', cntL (catL s.ls) k' ≠ 0 ↔ k' = k
  tk : TakesAt w
theorem OneSc.ch {w w' : World} {s : ScT} {k : BitVec 64} (h : OneSc w s k) (c : Ch [] w w') : OneSc w' s k := ⟨h.right.ch c, h.one, h.tk.ch c⟩
theorem one_list {xs : List (BitVec 64)} {k : BitVec 64} (hn : xs.Nodup) (h : ∀ k', k' ∈ xs ↔ k' = k) : xs = [k] := by
  match xs, hn, h with
  | [], _, h => exact absurd ((h k).2 rfl) (by simp)
  | [a], _, h => rw [(h a).1 (by simp)]
  | a :: b :: l, hn, h =>
    have ha := (h a).1 (by simp)
    have hb := (h b).1 (by simp)
    rw [ha, hb] at hn
    simp at hn
theorem comes_one (s : ScT) (k : BitVec 64) (w : World) (R : OneSc w s k) :
    Calls Tryz.prog 26 #[.agg (scC s)] w fun e w' => ∃ v, e = .returned v ∧ w'.ownsRow w.heap.size 22 1 v 1 [U k] ∧ Ch [] w w' :=
  comes_any s w R.right [k] (fun xs hn h => by
    rw [one_list hn (fun k' => (h k').trans (R.one k'))]
    exact sort_one k)
theorem plbox (s : ScT) (w : World) : ∃ W, w.alloc (.cells (scC s) 50) = W ∧ Ch [] w W ∧ W.heap[w.heap.size]? = some (.cells (scC s) 50 (0, 0)) :=
  ⟨_, rfl, (Ch.refl [] w).alloc _, by rw [heap_alloc, if_pos rfl]⟩
theorem scC_seed (s : ScT) : (scC s)[2]? = some (U s.sd) := rfl
attribute [local go_sem] scC_seed
set_option maxHeartbeats 1000000 in
set_option maxRecDepth 100000 in
theorem parts_one (s : ScT) (k : BitVec 64) (w : World) (R : OneSc w s k) : Calls Tryz.prog 29 #[.agg (scC s)] w fun e w' => e = .returned (I 0) ∧ Ch [] w w' := by
  obtain ⟨W, hW, C, hB⟩ := plbox s w
  have R1 := R.ch C
  have M1 := fun w R => comes_one s k w R
  have D1 := fun v base w hown => deepest_one s.sd k 7 (by decide) v base w hown
  obtain ⟨B, hBe⟩ : ∃ B, w.heap.size = B := ⟨_, rfl⟩
  rw [hBe] at hB
  clear R
  go_enter Tryz.func29, Tryz.ntmps29
  go_wp2
  try rw [hW]
  try rw [hBe]
  clear hW hBe
  have sP : (fun W' : World => Ch [] w W' ∧ W'.heap[B]? = some (.cells (scC s) 50 (0, 0))) W.drew := ⟨C.drew, hB⟩
  have R2 := R1.ch ((Ch.refl [] W).drew)
  refine wp_region_held_drew (S := fun W' : World => Ch [] w W' ∧ W'.heap[B]? = some (.cells (scC s) 50 (0, 0))) (by kernel_rfl) sP ?_
  intro _
  simp only [List.size_toArray, List.length_cons, List.length_nil, Nat.reduceAdd]
  clear C hB R1
  generalize W.drew = w2 at *
  refine wpAnyH_take (i := 0) (oi := ⟨some 6, _, _, _, _, none⟩) (v := ?_) rfl (by kernel_rfl) (by kernel_rfl) (by kernel_rfl) (fun _ _ _ h => h) (Or.inl ⟨by rfl, ?_⟩) sP ?_
  rotate_left
  · intro wq hSq
    obtain ⟨q0, q1⟩ := hSq
    first | (go_simp; done) | (go_simp; with_reducible rfl)
  try simp only [Act.put, List.setIfInBounds_toArray, List.set_cons_zero, List.set_cons_succ]
  refine wpAnyH_take (i := 1) (oi := ⟨some 7, _, _, _, _, none⟩) (v := ?_) rfl (by kernel_rfl) (by kernel_rfl) (by kernel_rfl) (fun _ _ _ h => h) (Or.inl ⟨by rfl, ?_⟩) sP ?_
  rotate_left
  · intro wq hSq
    obtain ⟨q0, q1⟩ := hSq
    first | (go_simp; done) | (go_simp; with_reducible rfl)
  try simp only [Act.put, List.setIfInBounds_toArray, List.set_cons_zero, List.set_cons_succ]
  refine wpAnyH_take (i := 2) (oi := ⟨some 8, _, _, _, _, none⟩) (v := ?_) rfl (by kernel_rfl) (by kernel_rfl) (by kernel_rfl) (fun _ _ _ h => h) (Or.inl ⟨by rfl, ?_⟩) sP ?_
  rotate_left
  · intro wq hSq
    obtain ⟨q0, q1⟩ := hSq
    first | (go_simp; done) | (go_simp; with_reducible rfl)
  try simp only [Act.put, List.setIfInBounds_toArray, List.set_cons_zero, List.set_cons_succ]
  refine wpAnyH_take (i := 3) (oi := ⟨some 9, _, _, _, _, none⟩) (v := ?_) rfl (by kernel_rfl) (by kernel_rfl) (by kernel_rfl) (fun _ _ _ h => h) (Or.inl ⟨by rfl, ?_⟩) sP ?_
  rotate_left
  · intro wq hSq
    obtain ⟨q0, q1⟩ := hSq
    first | (go_simp; done) | (go_simp; with_reducible rfl)
  try simp only [Act.put, List.setIfInBounds_toArray, List.set_cons_zero, List.set_cons_succ]
  refine wpAnyH_ready (rs := [4]) (by kernel_rfl) (by simp) ?_
  refine AllReadyH.cons rfl (fun K hK => ?_) AllReadyH.nil
  go_simp
  refine (M1 _ R2).mono ?_
  rintro e w3 ⟨v, rfl, hown, hc3⟩
  have sP3 : (fun W' : World => Ch [] w W' ∧ W'.heap[B]? = some (.cells (scC s) 50 (0, 0))) w3 := ⟨sP.1.trans hc3, bkeep hc3 sP.2⟩
  refine hK.out _ _ sP3 (fun _ => ?_)
  clear hK K sP hc3 M1 R2
  refine wpAnyH_ready (rs := [5]) (by kernel_rfl) (by simp) ?_
  refine AllReadyH.cons rfl (fun K hK => ?_) AllReadyH.nil
  go_simp
  refine (D1 _ _ _ hown).mono ?_
  rintro e w4 ⟨rfl, hc4⟩
  have sP4 : (fun W' : World => Ch [] w W' ∧ W'.heap[B]? = some (.cells (scC s) 50 (0, 0))) w4 := ⟨sP3.1.trans hc4, bkeep hc4 sP3.2⟩
  refine hK.out _ _ sP4 (fun _ => ?_)
  clear hK K sP3 hc4 hown D1
  refine wpAnyH_take (i := 6) (oi := ⟨some 5, _, _, _, _, none⟩) (v := ?_) rfl (by kernel_rfl) (by kernel_rfl) (by kernel_rfl) (fun _ _ _ h => h) (Or.inl ⟨by rfl, ?_⟩) sP4 ?_
  rotate_left
  · intro wq hSq
    first | (go_simp; done) | (go_simp; with_reducible rfl)
  try simp only [Act.put, List.setIfInBounds_toArray, List.set_cons_zero, List.set_cons_succ]
  refine wpAnyH_take (i := 7) (oi := ⟨some 12, _, _, _, _, none⟩) (v := ?_) rfl (by kernel_rfl) (by kernel_rfl) (by kernel_rfl) (fun _ _ _ h => h) (Or.inl ⟨by rfl, ?_⟩) sP4 ?_
  rotate_left
  · intro wq hSq
    first | (go_simp; done) | (go_simp; with_reducible rfl)
  try simp only [Act.put, List.setIfInBounds_toArray, List.set_cons_zero, List.set_cons_succ]
  refine wpAnyH_take (i := 8) (oi := ⟨some 13, _, _, _, _, none⟩) (v := ?_) rfl (by kernel_rfl) (by kernel_rfl) (by kernel_rfl) (fun _ _ _ h => h) (Or.inl ⟨by rfl, ?_⟩) sP4 ?_
  rotate_left
  · intro wq hSq
    first | (go_simp; done) | (go_simp; with_reducible rfl)
  try simp only [Act.put, List.setIfInBounds_toArray, List.set_cons_zero, List.set_cons_succ]
  refine wpAnyH_take (i := 9) (oi := ⟨some 3, _, _, _, _, none⟩) (v := ?_) rfl (by kernel_rfl) (by kernel_rfl) (by kernel_rfl) (fun _ _ _ h => h) (Or.inl ⟨by rfl, ?_⟩) sP4 ?_
  rotate_left
  · intro wq hSq
    first | (go_simp; done) | (go_simp; with_reducible rfl)
  try simp only [Act.put, List.setIfInBounds_toArray, List.set_cons_zero, List.set_cons_succ]
  refine wpAnyH_take (i := 10) (oi := ⟨some 4, _, _, _, _, none⟩) (v := ?_) rfl (by kernel_rfl) (by kernel_rfl) (by kernel_rfl) (fun _ _ _ h => h) (Or.inl ⟨by rfl, ?_⟩) sP4 ?_
  rotate_left
  · intro wq hSq
    first | (go_simp; done) | (go_simp; with_reducible rfl)
  try simp only [Act.put, List.setIfInBounds_toArray, List.set_cons_zero, List.set_cons_succ]
  refine wpAnyH_done (by kernel_rfl) ?_ _
  have C4 := sP4.1
  clear sP4
  go_wp2_with (go_at_call 43; refine (bneed_yes _ _).mono ?_; rintro e w' ⟨rfl, rfl⟩)
  go_ret
  exact ⟨rfl, C4⟩
end Go.Proofs.Hc
