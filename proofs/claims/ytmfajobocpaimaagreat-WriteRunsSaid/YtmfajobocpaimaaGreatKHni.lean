/- Package probe: the row of two groups. -/
import Derived.Test.YtmfajobocpaimaaGreatKHq
import Derived.Test.YtmfajobocpaimaaGreatKHr
import Derived.Test.YtmfajobocpaimaaGreatKHop2
import Derived.Below
import Derived.BigQuiet
import Derived.Deep.Draws
import Derived.Deep.QuietTactic
import Derived.Laws.CopyRow
import Derived.Laws.Tables
import Derived.Lib.Hide
import Derived.Lib.Tables
import Derived.LoopIn
import Derived.LoopNIn
import Derived.Maps.AppendAt
import Derived.OwnWalkIn
import Derived.RangeFuncBox
import Derived.RangeFuncCalls
import Derived.RangeFuncRecord
import Derived.RangeFuncSeq
import Derived.Recover
import Derived.RegionTactic
import Derived.StillTail
import Derived.TacticsInMore
import Derived.Test.YtmfajobocpaimaaGreatProg
import Derived.WalkKit
import Derived.WalkLawsBesides
import Derived.WalkMore
import Derived.WalkSpells
import Derived.Deep.Light
import Derived.Deep.RegionHeld
import Derived.Laws.StructEq
import Derived.Lib.AppendZerosOnto
import Derived.Lib.Walk
import Derived.LoopN
import Derived.Maps.Views
import Derived.Shelf.Slices.Clone
import Derived.StillTailTactics
import Derived.ScopeJumps
set_option linter.unusedSimpArgs false
set_option linter.unusedVariables false
namespace Go.Proofs.Hc
open Go.RowKit
attribute [local go_sem] wrap_u64 wrap_u8 bits_xor64 bits_and64 bits_or64 bits_not64 bits_xor8 bits_and8 bits_or8 signed64 signed8 ofInt_N BitVec.ofInt_add BitVec.ofInt_mul ofInt_sub' ofInt8_N64 ofInt64_N8 wide8 eqN neN shr_pow shr1 shr7 shr56
attribute [local go_sem high] bits_com64 shl_wrap
attribute [local go_sem] nn2 nm2 nn3 nm3 nn4 nm4 nn5 nm5 nn6 nm6 nn7 nm7 nn8 nm8
attribute [local go_sem] Oper.semAt_some make_func1
attribute [local go_sem] cell_heap ice_heap cellAt_cells iceAt_cells setAt_cells size_setCell
attribute [local go_sem ↓] heap_alloc heap_drew heap_drewN heap_setCell
/-- The first group of two. -/
def g0 (h : BitVec 64) : Nat := if h &&& 1#64 = 0#64 then 0 else 1
theorem and_one (h : BitVec 64) : h &&& 1#64 = 0#64 ∨ h &&& 1#64 = 1#64 := by
  have e : (h &&& 1#64).toNat = h.toNat % 2 := by rw [BitVec.toNat_and]; exact Nat.and_one_is_mod _
  rcases Nat.mod_two_eq_zero_or_one h.toNat with h1 | h1
  · exact .inl (BitVec.eq_of_toNat_eq (by rw [e, h1]; rfl))
  · exact .inr (BitVec.eq_of_toNat_eq (by rw [e, h1]; rfl))
theorem g0_lt (h : BitVec 64) : g0 h < 2 := by unfold g0; split <;> omega
theorem pcheck2 (w : World) : Calls Tryz.prog 238 #[I 2] w fun e w' => e = .returned (I 0) ∧ w = w' := by
  go_enter Tryz.func238, Tryz.ntmps238
  go_wp2
  go_ret
  exact ⟨rfl, rfl⟩
theorem first2 (h : BitVec 64) (w : World) : Calls Tryz.prog 259 #[I 2, U h] w fun e w' => e = .returned (I (g0 h)) ∧ w = w' := by
  have h1 : BitVec.ofInt 64 1 = 1#64 := by decide
  go_enter Tryz.func259, Tryz.ntmps259
  rcases and_one h with e | e
  · have hg : g0 h = 0 := by unfold g0; rw [if_pos e]
    rw [hg]
    go_wp2
    go_ret
    exact ⟨by kernel_rfl, rfl⟩
  · have hg : g0 h = 1 := by unfold g0; rw [if_neg (by rw [e]; decide)]
    rw [hg]
    go_wp2
    go_ret
    exact ⟨by kernel_rfl, rfl⟩
theorem bits11 : bits .and .i64 1 1 = 1 := by kernel_rfl
theorem bits21 : bits .and .i64 2 1 = 0 := by kernel_rfl
theorem bits31 : bits .and .i64 3 1 = 1 := by kernel_rfl
attribute [local go_sem] bits11 bits21 bits31
end Go.Proofs.Hc
/- The references of layers 8 (the groups' order). -/
namespace Go.Proofs.Hc
open Go.RowKit
attribute [local go_sem] wrap_u64 wrap_u8 bits_xor64 bits_and64 bits_or64 bits_not64 bits_xor8 bits_and8 bits_or8 signed64 signed8 ofInt_N BitVec.ofInt_add BitVec.ofInt_mul ofInt_sub' ofInt8_N64 ofInt64_N8 wide8 eqN neN shr_pow shr1 shr7 shr56
attribute [local go_sem high] bits_com64 shl_wrap
attribute [local go_sem] cell_heap ice_heap cellAt_cells iceAt_cells setAt_cells rowAt_cells canLay_cells laidAt_cells size_onObj size_setCell rowRes_some layRes_true
attribute [local go_sem] load26 load73 load23 store26 build73
attribute [local go_sem ↓] lrow26 lrow73 lrow23 srow26 zero26 brow73 heap_alloc heap_drew heap_drewN heap_setCell heap_onObj
attribute [local go_sem] tcells_size hcells_size tcells_get hcells_get tcells_one hcells_one hcells_table tcells_table hcells_all hcells_ctrl tcells_ctrl
attribute [local go_sem] nn2 nm2 nn3 nm3 nn4 nm4 nn5 nm5 nn6 nm6 nn7 nm7 nn8 nm8
attribute [local go_sem] nn2 nm2 nn3 nm3 nn4 nm4 nn5 nm5 nn6 nm6 nn7 nm7 nn8 nm8
attribute [local go_sem] ofInt_N
/-- 0 + 1 + .. below j. -/
def tri : Nat → Nat
  | 0 => 0
  | j + 1 => tri j + j
theorem g0_mod (h : BitVec 64) : h.toNat % 2 = g0 h := by
  unfold g0
  have hb : h.toNat % 2 = (h &&& 1#64).toNat := by
    rw [BitVec.toNat_and]
    show h.toNat % 2 = h.toNat &&& (2 ^ 1 - 1)
    rw [Nat.and_two_pow_sub_one_eq_mod]
  by_cases hz : h &&& 1#64 = 0#64
  · rw [if_pos hz, hb, hz]; rfl
  · rw [if_neg hz]
    have : (h &&& 1#64).toNat ≠ 0 := fun e => hz (BitVec.eq_of_toNat_eq (by rw [e]; rfl))
    omega
theorem g0_rem (h : BitVec 64) : (N h).tmod 2 = (g0 h : Int) := by
  rw [Int.tmod_eq_emod_of_nonneg (N_nonneg h), ← g0_mod]
  unfold N
  rfl
theorem N_two : N 2#64 = 2 := rfl
attribute [local go_sem] N_two
theorem g0_lt2 (h : BitVec 64) : g0 h < 2 := by rw [← g0_mod]; omega
set_option maxHeartbeats 1000000 in
theorem rAt8_any (h : BitVec 64) (n : Nat) (hn : n < 2) (w : World) : Calls Tryz.prog 192 #[.int .i64 2, U h, I n] w fun e w' => e = .returned (I (((g0 h + n) % 2 : Nat) : Int)) ∧ w = w' := by
  have h1 := g0_rem h
  have h2 := g0_lt2 h
  have h3 : ((g0 h : Nat) : Int) < 2 := by omega
  generalize g0 h = g at *
  go_enter Tryz.func192, Tryz.ntmps192
  go_wp2
  go_loop [7, 16] (fun v i => ∃ j : Nat, j ≤ n + 1 ∧ i = .int .i64 j ∧ v = I ((g + tri j : Nat) : Int)) (fun _ i => n + 1 - (intOf i).toNat)
  case atStart => exact ⟨0, by omega, rfl, rfl⟩
  case round =>
    obtain ⟨j, hj, rfl, rfl⟩ := hrel
    by_cases hlt : j < n + 1
    · have HS : Hid (tri (j + 1) = tri j + j) := Lib.hid rfl
      have ht : tri j < 4 := by
        match j, hlt with
        | 0, _ => decide
        | 1, _ => decide
        | j + 2, h => omega
      generalize tri j = m at *
      go_wp2
      go_round
      case rel => exact ⟨j + 1, by omega, by go_num, by rw [HS.out]; go_num⟩
      case measure => simp [intOf]; omega
    · have hjn : j = n + 1 := by omega
      have ht : tri j = n := by
        subst hjn
        match n, hn with
        | 0, _ => rfl
        | 1, _ => rfl
      rw [ht]
      go_wp2
      go_ret
      exact ⟨rfl, rfl⟩
def icells (l : List Nat) : List Value := l.map fun (n : Nat) => I (n : Int)
/-- Both groups in a key's order, the first j of them. -/
def grp (g j : Nat) : List Nat := (List.range j).map fun i => (g + i) % 2
end Go.Proofs.Hc
/- Package probe: At. -/
namespace Go.Proofs.Hc
open Go.RowKit
attribute [local go_sem] wrap_u64 wrap_u8 bits_xor64 bits_and64 bits_or64 bits_not64 bits_xor8 bits_and8 bits_or8 signed64 signed8 ofInt_N BitVec.ofInt_add BitVec.ofInt_mul ofInt_sub' ofInt8_N64 ofInt64_N8 wide8 eqN neN shr_pow shr1 shr7 shr56
attribute [local go_sem high] bits_com64 shl_wrap
attribute [local go_sem] cell_heap ice_heap cellAt_cells iceAt_cells setAt_cells rowAt_cells canLay_cells laidAt_cells size_onObj size_setCell rowRes_some layRes_true
attribute [local go_sem] load26 load73 load23 store26 build73
attribute [local go_sem ↓] lrow26 lrow73 lrow23 srow26 zero26 brow73 heap_alloc heap_drew heap_drewN heap_setCell heap_onObj
attribute [local go_sem] tcells_size hcells_size tcells_get hcells_get tcells_one hcells_one hcells_table tcells_table hcells_all hcells_ctrl tcells_ctrl
attribute [local go_sem] nn2 nm2 nn3 nm3 nn4 nm4 nn5 nm5 nn6 nm6 nn7 nm7 nn8 nm8
attribute [local go_sem] nn2 nm2 nn3 nm3 nn4 nm4 nn5 nm5 nn6 nm6 nn7 nm7 nn8 nm8
attribute [local go_sem] ofInt_N
theorem jump_ret (l : Nat) (J : Act → World → Prop) (Q : Exit → Act → World → Prop) (a : Act) (w : World) : Exit.jump l J Q .ret a w = Q .ret a w := rfl
theorem and01 : bits .and .i64 0 1 = 0 := by kernel_rfl
theorem and11 : bits .and .i64 1 1 = 1 := by kernel_rfl
theorem and21 : bits .and .i64 2 1 = 0 := by kernel_rfl
attribute [local go_sem] and01 and11 and21
set_option maxHeartbeats 400000 in
set_option maxRecDepth 100000 in
theorem pAt0_any (h : BitVec 64) (w : World) : Calls Tryz.prog 254 #[.int .i64 2, U h, .int .i64 0] w fun e w' => e = .returned (.tuple #[I ((g0 h : Nat) : Int), I 0]) ∧ w = w' := by
  have hg := g0_lt h
  have F1 := fun w => first2 h w
  have C1 := fun w => pcheck2 w
  generalize g0 h = g at *
  rcases (show g = 0 ∨ g = 1 by omega) with rfl | rfl
  all_goals
    go_enter Tryz.func254, Tryz.ntmps254
    go_wp2
    go_step3
    go_wp2_with (first
      | (go_at_call 238; refine (C1 _).mono ?_; rintro e w' ⟨rfl, rfl⟩)
      | (go_at_call 259; refine (F1 _).mono ?_; rintro e w' ⟨rfl, rfl⟩))
    go_step3
    go_wp2
    rw [Exit.noGoto_ret]
    go_ret2
    exact ⟨rfl, rfl⟩
set_option maxHeartbeats 400000 in
set_option maxRecDepth 100000 in
theorem pAt1_any (h : BitVec 64) (w : World) : Calls Tryz.prog 254 #[.int .i64 2, U h, .int .i64 1] w fun e w' => e = .returned (.tuple #[I (((g0 h + 1) % 2 : Nat) : Int), I 0]) ∧ w = w' := by
  have hg := g0_lt h
  have F1 := fun w => first2 h w
  have C1 := fun w => pcheck2 w
  generalize g0 h = g at *
  rcases (show g = 0 ∨ g = 1 by omega) with rfl | rfl
  · go_enter Tryz.func254, Tryz.ntmps254
    go_wp2
    refine wp_scope_jumps 0 (fun a w' => a = ⟨#[.int .i64 2, U h, .int .i64 1, undef, undef, undef, .int .i64 0, .int .i64 0, .int .i64 1, .int .i64 1, .bool false, .int .i64 2, I 0, .bool false, .bool false, .int .i64 1, .bool false, .bool false, .int .i64 1, .int .i64 2, .bool false, .bool false, .int .i64 2, U h, I 0, .int .i64 0, .int .i64 1, .bool true, .int .i64 0, .int .i64 1, I 0, .int .i64 1, .int .i64 1, undef, undef, undef, undef], []⟩ ∧ w' = w) (fun _ _ => 0) rfl ?_ ?_
    · go_wp2_with (first
        | (go_at_call 238; refine (C1 _).mono ?_; rintro e w' ⟨rfl, rfl⟩)
        | (go_at_call 259; refine (F1 _).mono ?_; rintro e w' ⟨rfl, rfl⟩))
      go_step3
      go_wp2
      go_step3
      exact ⟨rfl, rfl, rfl⟩
    · rintro a0 w0 ⟨rfl, rfl⟩
      go_wp2
      rw [jump_ret]
      go_ret2
      exact ⟨rfl, rfl⟩
  · go_enter Tryz.func254, Tryz.ntmps254
    go_wp2
    refine wp_scope_jumps 0 (fun a w' => a = ⟨#[.int .i64 2, U h, .int .i64 1, undef, undef, undef, .int .i64 0, .int .i64 0, .int .i64 2, .int .i64 1, .bool false, .int .i64 2, I 0, .bool false, .bool false, .int .i64 1, .bool false, .bool false, .int .i64 1, .int .i64 2, .bool false, .bool false, .int .i64 2, U h, I 1, .int .i64 0, .int .i64 1, .bool true, .int .i64 0, .int .i64 1, I 1, .int .i64 1, .int .i64 2, undef, undef, undef, undef], []⟩ ∧ w' = w) (fun _ _ => 0) rfl ?_ ?_
    · go_wp2_with (first
        | (go_at_call 238; refine (C1 _).mono ?_; rintro e w' ⟨rfl, rfl⟩)
        | (go_at_call 259; refine (F1 _).mono ?_; rintro e w' ⟨rfl, rfl⟩))
      go_step3
      go_wp2
      go_step3
      exact ⟨rfl, rfl, rfl⟩
    · rintro a0 w0 ⟨rfl, rfl⟩
      go_wp2
      rw [jump_ret]
      go_ret2
      exact ⟨rfl, rfl⟩
end Go.Proofs.Hc
