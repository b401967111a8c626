/- Package bound: numbers; the reference's (printed by gen_bound.py). -/
import Derived.Test.YtfoicjijngfhbaaGreatDoorKDa
import Derived.Test.YtfoicjijngfhbaaGreatDoorKHm
import Derived.Test.YtfoicjijngfhbaaGreatDoorKHr
import Derived.Below
import Derived.BigQuiet
import Derived.Deep.Draws
import Derived.Deep.QuietTactic
import Derived.Laws.CopyRow
import Derived.Laws.Tables
import Derived.Lib.Hide
import Derived.LoopIn
import Derived.LoopNIn
import Derived.OwnWalkIn
import Derived.RangeFuncCalls
import Derived.RangeFuncRecord
import Derived.RangeFuncSeq
import Derived.Recover
import Derived.TacticsInMore
import Derived.Test.YtfoicjijngfhbaaGreatDoorProg
import Derived.WalkKit
import Derived.WalkLawsBesides
import Derived.Deep.Cut
set_option linter.unusedSimpArgs false
set_option linter.unusedVariables false
namespace Go.Proofs.Hc
open Go.RowKit
set_option linter.unusedVariables false
attribute [local go_sem] wrap_u64 wrap_u8 bits_xor64 bits_and64 bits_or64 bits_not64 bits_xor8 bits_and8 bits_or8 signed64 signed8 ofInt_N BitVec.ofInt_add BitVec.ofInt_mul ofInt_sub' ofInt8_N64 ofInt64_N8 wide8 eqN neN shr_pow shr1 shr7 shr56
attribute [local go_sem high] bits_com64 shl_wrap
attribute [local go_sem] nn2 nm2 nn3 nm3 nn4 nm4 nn5 nm5 nn6 nm6 nn7 nm7 nn8 nm8
attribute [local go_sem] Oper.semAt_some make_func1
attribute [local go_sem] cell_heap ice_heap cellAt_cells iceAt_cells setAt_cells size_setCell
attribute [local go_sem ↓] heap_alloc heap_drew heap_drewN heap_setCell
def depthL : List Int := [1, 2, 4, 8, 16]
def sumMin (e : Int) (l : List Int) : Int := l.foldl (fun s p => s + min p e) 0
def splitsB (k : Int) : Int := sumMin (k / 8) depthL
def slabsB (k : Int) : Int := 2 + 3 * splitsB k
theorem sumMin_snoc (e : Int) (l : List Int) (x : Int) : sumMin e (l ++ [x]) = sumMin e l + min x e := by unfold sumMin; rw [List.foldl_append]; rfl
theorem sumMin_le (e : Int) (he : 0 ≤ e) (pre post : List Int) (h : depthL = pre ++ post) : 0 ≤ sumMin e pre ∧ sumMin e pre ≤ 31 := by
  unfold depthL at h
  match pre, h with
  | [], _ => exact ⟨Int.le_refl 0, (by decide : (0 : Int) ≤ 31)⟩
  | [a], h => simp at h; obtain ⟨rfl, _⟩ := h; simp [sumMin]; omega
  | [a, b], h => simp at h; obtain ⟨rfl, rfl, _⟩ := h; simp [sumMin]; omega
  | [a, b, c], h => simp at h; obtain ⟨rfl, rfl, rfl, _⟩ := h; simp [sumMin]; omega
  | [a, b, c, d], h => simp at h; obtain ⟨rfl, rfl, rfl, rfl, _⟩ := h; simp [sumMin]; omega
  | [a, b, c, d, f], h => simp at h; obtain ⟨rfl, rfl, rfl, rfl, rfl, _⟩ := h; simp [sumMin]; omega
  | a :: b :: c :: d :: f :: g :: r, h => simp at h
theorem splitsB_le {k : Int} (h : 0 ≤ k) : 0 ≤ splitsB k ∧ splitsB k ≤ 31 := sumMin_le _ (by omega) depthL [] rfl
theorem bneed_yes (c : Int) (w : World) :
    Calls Tryz.prog 43 #[.bool true, I c] w fun e w' => e = .returned (.tuple #[]) ∧ w = w' := by
  go_enter Tryz.func43, Tryz.ntmps43
  go_wp2
  go_end0
  exact ⟨rfl, rfl⟩
theorem bneed_no (c : Int) (w : World) :
    Calls Tryz.prog 43 #[.bool false, I c] w fun e w' => e = .panicked [{ v := .iface 29 (I c), recovered := false }] ∧ w = w' := by
  go_enter Tryz.func43, Tryz.ntmps43
  go_wp2
  exact ⟨rfl, rfl, rfl⟩
theorem depths_any (w : World) : Calls Tryz.prog 51 #[] w fun e w' => e = .returned (.func (.func 62) #[] #[]) ∧ w = w' := by
  go_enter Tryz.func51, Tryz.ntmps51
  go_wp2
  go_ret
  exact ⟨rfl, rfl⟩
theorem enters_depths (args : Array Value) (w : World) : (callFunc 62 args).run Tryz.prog w = .ok (.enter 62 args) w := by kernel_rfl
def depAt (j : Int) (pre : List Int) : Prop := (j = 0 ∧ pre = []) ∨ (j = 1 ∧ pre = [1]) ∨ (j = 2 ∧ pre = [1, 2]) ∨ (j = 3 ∧ pre = [1, 2, 4]) ∨ (j = 4 ∧ pre = [1, 2, 4, 8]) ∨ (j = 5 ∧ pre = [1, 2, 4, 8, 16])
theorem depths_yields (w : World) : Yields Tryz.prog 62 #[] (fun x : Int => #[I x]) depthL [] [] w := by
  intro n l J Jx W hW hk hJ hJx hY h0
  refine callsIn_of_wp Tryz.func62 rfl trivial ?_
  simp only [Tryz.ntmps62, List.size_toArray, List.length_cons, List.length_nil, Nat.reduceAdd, Nat.reduceSub, Array.replicate_succ, Array.replicate_zero, List.push_toArray, List.append_toArray, List.nil_append, List.cons_append]
  gi_wp2
  gi_loopw [3] (fun i wr => ∃ (j : Int) (pre : List Int), i = I j ∧ depAt j pre ∧ J pre wr) (fun i _ => 5 - (intOf i).toNat)
  case atStart => exact ⟨0, [], rfl, .inl ⟨rfl, rfl⟩, h0⟩
  case round =>
    obtain ⟨j, pre, hi, hd, hj⟩ := hrel
    subst hi
    rcases hd with ⟨rfl, rfl⟩ | ⟨rfl, rfl⟩ | ⟨rfl, rfl⟩ | ⟨rfl, rfl⟩ | ⟨rfl, rfl⟩ | ⟨rfl, rfl⟩
    · obtain ⟨fn, tmps, assign, body, hy, hR⟩ := hY [] 1 [2, 4, 8, 16] wr rfl hj
      clear hY hj
      gi_wp2_with fail
      refine hR.mono ?_
      rintro e W3 (⟨rfl, hJ3, hz3, hk3⟩ | ⟨rfl, hJx3⟩)
      · clear hk3 hy
        gi_wp2
        go_roundw
        case rel => exact ⟨1, [1], rfl, .inr (.inl ⟨rfl, rfl⟩), hJ3⟩
        case measure => decide
      · gi_wp2
        refine bodyPost_ret (results_none rfl _ _ _) rfl ?_
        exact ⟨⟨_, rfl⟩, .inr hJx3⟩
    · obtain ⟨fn, tmps, assign, body, hy, hR⟩ := hY [1] 2 [4, 8, 16] wr rfl hj
      clear hY hj
      gi_wp2_with fail
      refine hR.mono ?_
      rintro e W3 (⟨rfl, hJ3, hz3, hk3⟩ | ⟨rfl, hJx3⟩)
      · clear hk3 hy
        gi_wp2
        go_roundw
        case rel => exact ⟨2, [1, 2], rfl, .inr (.inr (.inl ⟨rfl, rfl⟩)), hJ3⟩
        case measure => decide
      · gi_wp2
        refine bodyPost_ret (results_none rfl _ _ _) rfl ?_
        exact ⟨⟨_, rfl⟩, .inr hJx3⟩
    · obtain ⟨fn, tmps, assign, body, hy, hR⟩ := hY [1, 2] 4 [8, 16] wr rfl hj
      clear hY hj
      gi_wp2_with fail
      refine hR.mono ?_
      rintro e W3 (⟨rfl, hJ3, hz3, hk3⟩ | ⟨rfl, hJx3⟩)
      · clear hk3 hy
        gi_wp2
        go_roundw
        case rel => exact ⟨3, [1, 2, 4], rfl, .inr (.inr (.inr (.inl ⟨rfl, rfl⟩))), hJ3⟩
        case measure => decide
      · gi_wp2
        refine bodyPost_ret (results_none rfl _ _ _) rfl ?_
        exact ⟨⟨_, rfl⟩, .inr hJx3⟩
    · obtain ⟨fn, tmps, assign, body, hy, hR⟩ := hY [1, 2, 4] 8 [16] wr rfl hj
      clear hY hj
      gi_wp2_with fail
      refine hR.mono ?_
      rintro e W3 (⟨rfl, hJ3, hz3, hk3⟩ | ⟨rfl, hJx3⟩)
      · clear hk3 hy
        gi_wp2
        go_roundw
        case rel => exact ⟨4, [1, 2, 4, 8], rfl, .inr (.inr (.inr (.inr (.inl ⟨rfl, rfl⟩)))), hJ3⟩
        case measure => decide
      · gi_wp2
        refine bodyPost_ret (results_none rfl _ _ _) rfl ?_
        exact ⟨⟨_, rfl⟩, .inr hJx3⟩
    · obtain ⟨fn, tmps, assign, body, hy, hR⟩ := hY [1, 2, 4, 8] 16 [] wr rfl hj
      clear hY hj
      gi_wp2_with fail
      refine hR.mono ?_
      rintro e W3 (⟨rfl, hJ3, hz3, hk3⟩ | ⟨rfl, hJx3⟩)
      · clear hk3 hy
        gi_wp2
        go_roundw
        case rel => exact ⟨5, [1, 2, 4, 8, 16], rfl, .inr (.inr (.inr (.inr (.inr (⟨rfl, rfl⟩))))), hJ3⟩
        case measure => decide
      · gi_wp2
        refine bodyPost_ret (results_none rfl _ _ _) rfl ?_
        exact ⟨⟨_, rfl⟩, .inr hJx3⟩
    · gi_wp2
      refine bodyPost_end (results_none rfl _ _ _) rfl ?_
      exact ⟨⟨_, rfl⟩, .inl hj⟩
end Go.Proofs.Hc
/- The reference 29: Splits, Slabs (printed by gen_bref.py). -/
namespace Go.Proofs.Hc
open Go.RowKit
set_option linter.unusedVariables false
attribute [local go_sem] wrap_u64 wrap_u8 bits_xor64 bits_and64 bits_or64 bits_not64 bits_xor8 bits_and8 bits_or8 signed64 signed8 ofInt_N BitVec.ofInt_add BitVec.ofInt_mul ofInt_sub' ofInt8_N64 ofInt64_N8 wide8 eqN neN shr_pow shr1 shr7 shr56
attribute [local go_sem high] bits_com64 shl_wrap
attribute [local go_sem] nn2 nm2 nn3 nm3 nn4 nm4 nn5 nm5 nn6 nm6 nn7 nm7 nn8 nm8
attribute [local go_sem] Oper.semAt_some make_func1
attribute [local go_sem] cell_heap ice_heap cellAt_cells iceAt_cells setAt_cells size_setCell
attribute [local go_sem ↓] heap_alloc heap_drew heap_drewN heap_setCell heap_putObj
theorem rsplits_any (k : Int) (h0 : 0 ≤ k) (hk : k ≤ 9223372036854775807) (w : World) :
    Calls Tryz.prog 35 #[I k] w fun e w' => e = .returned (I (splitsB k)) ∧ Ch [] w w' := by
  have hq : k.tdiv 8 = k / 8 := Int.tdiv_eq_ediv_of_nonneg h0
  obtain ⟨e, he⟩ : ∃ e, k / 8 = e := ⟨_, rfl⟩
  have he0 : 0 ≤ e := by omega
  have hsp : splitsB k = sumMin e depthL := by unfold splitsB; rw [he]
  rw [hsp]
  have HE := Lib.hid he
  clear he hsp
  go_enter Tryz.func35, Tryz.ntmps35
  go_wp2
  rw [HE.out]
  clear HE hq h0 hk
  obtain ⟨W0, hW0⟩ : ∃ W0, w.alloc (.cells #[I 1, I 2, I 4, I 8, I 16] 3) = W0 := ⟨_, rfl⟩
  have hC : Ch [] w W0 := by rw [← hW0]; exact (Ch.refl [] w).alloc _
  have hb : W0.heap[w.heap.size]? = some (.cells #[I 1, I 2, I 4, I 8, I 16] 3 (0, 0)) := by rw [← hW0, heap_alloc, if_pos rfl]
  first | rw [hW0] | skip
  clear hW0
  go_loopw [11, 4] (fun i s wr => ∃ (j : Int) (pre : List Int), i = I j ∧ s = I (sumMin e pre) ∧ depAt j pre ∧ wr = W0) (fun i _ _ => 5 - (intOf i).toNat)
  case atStart => exact ⟨0, [], rfl, rfl, .inl ⟨rfl, rfl⟩, rfl⟩
  case round =>
    obtain ⟨j, pre, hi, hs, hd, hwr⟩ := hrel
    subst hi hs hwr
    rcases hd with ⟨rfl, rfl⟩ | ⟨rfl, rfl⟩ | ⟨rfl, rfl⟩ | ⟨rfl, rfl⟩ | ⟨rfl, rfl⟩ | ⟨rfl, rfl⟩
    · have hsn := sumMin_snoc e [] 1
      have hb0 := sumMin_le e he0 [] [1, 2, 4, 8, 16] rfl
      obtain ⟨s0, hs⟩ : ∃ s, sumMin e [] = s := ⟨_, rfl⟩
      rw [hs] at hsn hb0
      rw [hs]
      clear hs
      rcases Int.lt_or_le e 1 with hlt | hlt
      · rw [show min 1 e = e by omega] at hsn
        have HS := Lib.hid hsn
        clear hsn
        go_wp2
        go_roundw
        case rel => exact ⟨1, [1], rfl, congrArg I HS.out.symm, .inr (.inl ⟨rfl, rfl⟩), trivial⟩
        case measure => decide
      · rw [show min 1 e = 1 by omega] at hsn
        have HS := Lib.hid hsn
        clear hsn
        go_wp2
        go_roundw
        case rel => exact ⟨1, [1], rfl, congrArg I HS.out.symm, .inr (.inl ⟨rfl, rfl⟩), trivial⟩
        case measure => decide
    · have hsn := sumMin_snoc e [1] 2
      have hb0 := sumMin_le e he0 [1] [2, 4, 8, 16] rfl
      obtain ⟨s0, hs⟩ : ∃ s, sumMin e [1] = s := ⟨_, rfl⟩
      rw [hs] at hsn hb0
      rw [hs]
      clear hs
      rcases Int.lt_or_le e 2 with hlt | hlt
      · rw [show min 2 e = e by omega] at hsn
        have HS := Lib.hid hsn
        clear hsn
        go_wp2
        go_roundw
        case rel => exact ⟨2, [1, 2], rfl, congrArg I HS.out.symm, .inr (.inr (.inl ⟨rfl, rfl⟩)), trivial⟩
        case measure => decide
      · rw [show min 2 e = 2 by omega] at hsn
        have HS := Lib.hid hsn
        clear hsn
        go_wp2
        go_roundw
        case rel => exact ⟨2, [1, 2], rfl, congrArg I HS.out.symm, .inr (.inr (.inl ⟨rfl, rfl⟩)), trivial⟩
        case measure => decide
    · have hsn := sumMin_snoc e [1, 2] 4
      have hb0 := sumMin_le e he0 [1, 2] [4, 8, 16] rfl
      obtain ⟨s0, hs⟩ : ∃ s, sumMin e [1, 2] = s := ⟨_, rfl⟩
      rw [hs] at hsn hb0
      rw [hs]
      clear hs
      rcases Int.lt_or_le e 4 with hlt | hlt
      · rw [show min 4 e = e by omega] at hsn
        have HS := Lib.hid hsn
        clear hsn
        go_wp2
        go_roundw
        case rel => exact ⟨3, [1, 2, 4], rfl, congrArg I HS.out.symm, .inr (.inr (.inr (.inl ⟨rfl, rfl⟩))), trivial⟩
        case measure => decide
      · rw [show min 4 e = 4 by omega] at hsn
        have HS := Lib.hid hsn
        clear hsn
        go_wp2
        go_roundw
        case rel => exact ⟨3, [1, 2, 4], rfl, congrArg I HS.out.symm, .inr (.inr (.inr (.inl ⟨rfl, rfl⟩))), trivial⟩
        case measure => decide
    · have hsn := sumMin_snoc e [1, 2, 4] 8
      have hb0 := sumMin_le e he0 [1, 2, 4] [8, 16] rfl
      obtain ⟨s0, hs⟩ : ∃ s, sumMin e [1, 2, 4] = s := ⟨_, rfl⟩
      rw [hs] at hsn hb0
      rw [hs]
      clear hs
      rcases Int.lt_or_le e 8 with hlt | hlt
      · rw [show min 8 e = e by omega] at hsn
        have HS := Lib.hid hsn
        clear hsn
        go_wp2
        go_roundw
        case rel => exact ⟨4, [1, 2, 4, 8], rfl, congrArg I HS.out.symm, .inr (.inr (.inr (.inr (.inl ⟨rfl, rfl⟩)))), trivial⟩
        case measure => decide
      · rw [show min 8 e = 8 by omega] at hsn
        have HS := Lib.hid hsn
        clear hsn
        go_wp2
        go_roundw
        case rel => exact ⟨4, [1, 2, 4, 8], rfl, congrArg I HS.out.symm, .inr (.inr (.inr (.inr (.inl ⟨rfl, rfl⟩)))), trivial⟩
        case measure => decide
    · have hsn := sumMin_snoc e [1, 2, 4, 8] 16
      have hb0 := sumMin_le e he0 [1, 2, 4, 8] [16] rfl
      obtain ⟨s0, hs⟩ : ∃ s, sumMin e [1, 2, 4, 8] = s := ⟨_, rfl⟩
      rw [hs] at hsn hb0
      rw [hs]
      clear hs
      rcases Int.lt_or_le e 16 with hlt | hlt
      · rw [show min 16 e = e by omega] at hsn
        have HS := Lib.hid hsn
        clear hsn
        go_wp2
        go_roundw
        case rel => exact ⟨5, [1, 2, 4, 8, 16], rfl, congrArg I HS.out.symm, .inr (.inr (.inr (.inr (.inr (⟨rfl, rfl⟩))))), trivial⟩
        case measure => decide
      · rw [show min 16 e = 16 by omega] at hsn
        have HS := Lib.hid hsn
        clear hsn
        go_wp2
        go_roundw
        case rel => exact ⟨5, [1, 2, 4, 8, 16], rfl, congrArg I HS.out.symm, .inr (.inr (.inr (.inr (.inr (⟨rfl, rfl⟩))))), trivial⟩
        case measure => decide
    · go_wp2
      go_ret
      exact ⟨rfl, hC⟩
theorem rslabs_any (k : Int) (h0 : 0 ≤ k) (hk : k ≤ 9223372036854775807) (w : World) :
    Calls Tryz.prog 15 #[I k] w fun e w' => e = .returned (I (slabsB k)) ∧ Ch [] w w' := by
  have S1 := fun w => rsplits_any k h0 hk w
  have hb := splitsB_le h0
  unfold slabsB
  obtain ⟨n, hn⟩ : ∃ n, splitsB k = n := ⟨_, rfl⟩
  rw [hn] at S1 hb
  rw [hn]
  clear hn
  go_enter Tryz.func15, Tryz.ntmps15
  go_wp2_with (go_at_call 35; refine (S1 _).mono ?_; rintro e w' ⟨rfl, hc⟩)
  go_ret
  exact ⟨rfl, hc⟩
end Go.Proofs.Hc
