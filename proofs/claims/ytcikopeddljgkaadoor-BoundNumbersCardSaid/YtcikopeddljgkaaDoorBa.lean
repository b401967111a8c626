import Derived.Test.YtcikopeddljgkaaDoorHr
import Derived.Recover
import Derived.WalkLawsBesides
/- Package bound: numbers; the reference's (printed by gen_bound.py). -/
namespace Go.Proofs.Hc
open Go.RowKit
set_option linter.unusedVariables false
attribute [local go_sem] wrap_u64 wrap_u8 bits_xor64 bits_and64 bits_or64 bits_not64 bits_xor8 bits_and8 bits_or8 signed64 signed8 ofInt_N BitVec.ofInt_add BitVec.ofInt_mul ofInt_sub' ofInt8_N64 ofInt64_N8 wide8 eqN neN shr_pow shr1 shr7 shr56
attribute [local go_sem high] bits_com64 shl_wrap
attribute [local go_sem] nn2 nm2 nn3 nm3 nn4 nm4 nn5 nm5 nn6 nm6 nn7 nm7 nn8 nm8
attribute [local go_sem] Oper.semAt_some make_func1
attribute [local go_sem] cell_heap ice_heap cellAt_cells iceAt_cells setAt_cells size_setCell
attribute [local go_sem ↓] heap_alloc heap_drew heap_drewN heap_setCell
def depthL : List Int := [1, 2, 4, 8, 16]
def sumMin (e : Int) (l : List Int) : Int := l.foldl (fun s p => s + min p e) 0
def splitsB (k : Int) : Int := sumMin (k / 8) depthL
def slabsB (k : Int) : Int := 2 + 3 * splitsB k
theorem sumMin_snoc (e : Int) (l : List Int) (x : Int) : sumMin e (l ++ [x]) = sumMin e l + min x e := by unfold sumMin; rw [List.foldl_append]; rfl
theorem sumMin_le (e : Int) (he : 0 ≤ e) (pre post : List Int) (h : depthL = pre ++ post) : 0 ≤ sumMin e pre ∧ sumMin e pre ≤ 31 := by
  unfold depthL at h
  match pre, h with
  | [], _ => exact ⟨Int.le_refl 0, (by decide : (0 : Int) ≤ 31)⟩
  | [a], h => simp at h; obtain ⟨rfl, _⟩ := h; simp [sumMin]; omega
  | [a, b], h => simp at h; obtain ⟨rfl, rfl, _⟩ := h; simp [sumMin]; omega
  | [a, b, c], h => simp at h; obtain ⟨rfl, rfl, rfl, _⟩ := h; simp [sumMin]; omega
  | [a, b, c, d], h => simp at h; obtain ⟨rfl, rfl, rfl, rfl, _⟩ := h; simp [sumMin]; omega
  | [a, b, c, d, f], h => simp at h; obtain ⟨rfl, rfl, rfl, rfl, rfl, _⟩ := h; simp [sumMin]; omega
  | a :: b :: c :: d :: f :: g :: r, h => simp at h
theorem splitsB_le {k : Int} (h : 0 ≤ k) : 0 ≤ splitsB k ∧ splitsB k ≤ 31 := sumMin_le _ (by omega) depthL [] rfl
theorem splitsB_eq (k : Int) : splitsB k = min 1 (k / 8) + min 2 (k / 8) + min 4 (k / 8) + min 8 (k / 8) + min 16 (k / 8) := by
  simp [splitsB, sumMin, depthL]
theorem bneed_yes (c : Int) (w : World) :
    Calls Tryd.prog 28 #[.bool true, I c] w fun e w' => e = .returned (.tuple #[]) ∧ w = w' := by
  go_enter Tryd.func28, Tryd.ntmps28
  go_wp2
  go_end0
  exact ⟨rfl, rfl⟩
theorem bneed_no (c : Int) (w : World) :
    Calls Tryd.prog 28 #[.bool false, I c] w fun e w' => e = .panicked [{ v := .iface 25 (I c), recovered := false }] ∧ w = w' := by
  go_enter Tryd.func28, Tryd.ntmps28
  go_wp2
  exact ⟨rfl, rfl, rfl⟩
theorem depths_any (w : World) : Calls Tryd.prog 43 #[] w fun e w' => e = .returned (.func (.func 49) #[] #[]) ∧ w = w' := by
  go_enter Tryd.func43, Tryd.ntmps43
  go_wp2
  go_ret
  exact ⟨rfl, rfl⟩
theorem enters_depths (args : Array Value) (w : World) : (callFunc 49 args).run Tryd.prog w = .ok (.enter 49 args) w := by kernel_rfl
def depAt (j : Int) (pre : List Int) : Prop := (j = 0 ∧ pre = []) ∨ (j = 1 ∧ pre = [1]) ∨ (j = 2 ∧ pre = [1, 2]) ∨ (j = 3 ∧ pre = [1, 2, 4]) ∨ (j = 4 ∧ pre = [1, 2, 4, 8]) ∨ (j = 5 ∧ pre = [1, 2, 4, 8, 16])
theorem depths_yields (w : World) : Yields Tryd.prog 49 #[] (fun x : Int => #[I x]) depthL [] [] w := by
  intro n l J Jx W hW hk hJ hJx hY h0
  refine callsIn_of_wp Tryd.func49 rfl trivial ?_
  simp only [Tryd.ntmps49, List.size_toArray, List.length_cons, List.length_nil, Nat.reduceAdd, Nat.reduceSub, Array.replicate_succ, Array.replicate_zero, List.push_toArray, List.append_toArray, List.nil_append, List.cons_append]
  gi_wp2
  gi_loopw [3] (fun i wr => ∃ (j : Int) (pre : List Int), i = I j ∧ depAt j pre ∧ J pre wr) (fun i _ => 5 - (intOf i).toNat)
  case atStart => exact ⟨0, [], rfl, .inl ⟨rfl, rfl⟩, h0⟩
  case round =>
    obtain ⟨j, pre, hi, hd, hj⟩ := hrel
    subst hi
    rcases hd with ⟨rfl, rfl⟩ | ⟨rfl, rfl⟩ | ⟨rfl, rfl⟩ | ⟨rfl, rfl⟩ | ⟨rfl, rfl⟩ | ⟨rfl, rfl⟩
    · obtain ⟨fn, tmps, assign, body, hy, hR⟩ := hY [] 1 [2, 4, 8, 16] wr rfl hj
      clear hY hj
      gi_wp2_with fail
      refine hR.mono ?_
      rintro e W3 (⟨rfl, hJ3, hz3, hk3⟩ | ⟨rfl, hJx3⟩)
      · clear hk3 hy
        gi_wp2
        go_roundw
        case rel => exact ⟨1, [1], rfl, .inr (.inl ⟨rfl, rfl⟩), hJ3⟩
        case measure => decide
      · gi_wp2
        refine bodyPost_ret (results_none rfl _ _ _) rfl ?_
        exact ⟨⟨_, rfl⟩, .inr hJx3⟩
    · obtain ⟨fn, tmps, assign, body, hy, hR⟩ := hY [1] 2 [4, 8, 16] wr rfl hj
      clear hY hj
      gi_wp2_with fail
      refine hR.mono ?_
      rintro e W3 (⟨rfl, hJ3, hz3, hk3⟩ | ⟨rfl, hJx3⟩)
      · clear hk3 hy
        gi_wp2
        go_roundw
        case rel => exact ⟨2, [1, 2], rfl, .inr (.inr (.inl ⟨rfl, rfl⟩)), hJ3⟩
        case measure => decide
      · gi_wp2
        refine bodyPost_ret (results_none rfl _ _ _) rfl ?_
        exact ⟨⟨_, rfl⟩, .inr hJx3⟩
    · obtain ⟨fn, tmps, assign, body, hy, hR⟩ := hY [1, 2] 4 [8, 16] wr rfl hj
      clear hY hj
      gi_wp2_with fail
      refine hR.mono ?_
      rintro e W3 (⟨rfl, hJ3, hz3, hk3⟩ | ⟨rfl, hJx3⟩)
      · clear hk3 hy
        gi_wp2
        go_roundw
        case rel => exact ⟨3, [1, 2, 4], rfl, .inr (.inr (.inr (.inl ⟨rfl, rfl⟩))), hJ3⟩
        case measure => decide
      · gi_wp2
        refine bodyPost_ret (results_none rfl _ _ _) rfl ?_
        exact ⟨⟨_, rfl⟩, .inr hJx3⟩
    · obtain ⟨fn, tmps, assign, body, hy, hR⟩ := hY [1, 2, 4] 8 [16] wr rfl hj
      clear hY hj
      gi_wp2_with fail
      refine hR.mono ?_
      rintro e W3 (⟨rfl, hJ3, hz3, hk3⟩ | ⟨rfl, hJx3⟩)
      · clear hk3 hy
        gi_wp2
        go_roundw
        case rel => exact ⟨4, [1, 2, 4, 8], rfl, .inr (.inr (.inr (.inr (.inl ⟨rfl, rfl⟩)))), hJ3⟩
        case measure => decide
      · gi_wp2
        refine bodyPost_ret (results_none rfl _ _ _) rfl ?_
        exact ⟨⟨_, rfl⟩, .inr hJx3⟩
    · obtain ⟨fn, tmps, assign, body, hy, hR⟩ := hY [1, 2, 4, 8] 16 [] wr rfl hj
      clear hY hj
      gi_wp2_with fail
      refine hR.mono ?_
      rintro e W3 (⟨rfl, hJ3, hz3, hk3⟩ | ⟨rfl, hJx3⟩)
      · clear hk3 hy
        gi_wp2
        go_roundw
        case rel => exact ⟨5, [1, 2, 4, 8, 16], rfl, .inr (.inr (.inr (.inr (.inr (⟨rfl, rfl⟩))))), hJ3⟩
        case measure => decide
      · gi_wp2
        refine bodyPost_ret (results_none rfl _ _ _) rfl ?_
        exact ⟨⟨_, rfl⟩, .inr hJx3⟩
    · gi_wp2
      refine bodyPost_end (results_none rfl _ _ _) rfl ?_
      exact ⟨⟨_, rfl⟩, .inl hj⟩
end Go.Proofs.Hc
