/- The references of layers 8 (the groups' order). -/
import Derived.Test.YtaddieimkpijeaaGreatKHxeHxfHxg
import Derived.Test.YtaddieimkpijeaaGreatKHxaHxbHxcHxd
import Derived.Test.YtaddieimkpijeaaGreatKHp
import Derived.Test.YtaddieimkpijeaaGreatKHpaHpb
set_option linter.unusedSimpArgs false
set_option linter.unusedVariables false
namespace Go.Proofs.Hc
open Go.RowKit
attribute [local go_sem] wrap_u64 wrap_u8 bits_xor64 bits_and64 bits_or64 bits_not64 bits_xor8 bits_and8 bits_or8 signed64 signed8 ofInt_N BitVec.ofInt_add BitVec.ofInt_mul ofInt_sub' ofInt8_N64 ofInt64_N8 wide8 eqN neN shr_pow shr1 shr7 shr56
attribute [local go_sem high] bits_com64 shl_wrap
attribute [local go_sem] cell_heap ice_heap cellAt_cells iceAt_cells setAt_cells rowAt_cells canLay_cells laidAt_cells size_onObj size_setCell rowRes_some layRes_true
attribute [local go_sem] load26 load73 load23 store26 build73
attribute [local go_sem ↓] lrow26 lrow73 lrow23 srow26 zero26 brow73 heap_alloc heap_drew heap_drewN heap_setCell heap_onObj
attribute [local go_sem] tcells_size hcells_size tcells_get hcells_get tcells_one hcells_one hcells_table tcells_table hcells_all hcells_ctrl tcells_ctrl
attribute [local go_sem] nn2 nm2 nn3 nm3 nn4 nm4 nn5 nm5 nn6 nm6 nn7 nm7 nn8 nm8
attribute [local go_sem] nn2 nm2 nn3 nm3 nn4 nm4 nn5 nm5 nn6 nm6 nn7 nm7 nn8 nm8
attribute [local go_sem] ofInt_N
/-- 0 + 1 + .. below j. -/
def tri : Nat → Nat
  | 0 => 0
  | j + 1 => tri j + j
theorem g0_mod (h : BitVec 64) : h.toNat % 2 = g0 h := by
  unfold g0
  have hb : h.toNat % 2 = (h &&& 1#64).toNat := by
    rw [BitVec.toNat_and]
    show h.toNat % 2 = h.toNat &&& (2 ^ 1 - 1)
    rw [Nat.and_two_pow_sub_one_eq_mod]
  by_cases hz : h &&& 1#64 = 0#64
  · rw [if_pos hz, hb, hz]; rfl
  · rw [if_neg hz]
    have : (h &&& 1#64).toNat ≠ 0 := fun e => hz (BitVec.eq_of_toNat_eq (by rw [e]; rfl))
    omega
theorem g0_rem (h : BitVec 64) : (N h).tmod 2 = (g0 h : Int) := by
  rw [Int.tmod_eq_emod_of_nonneg (N_nonneg h), ← g0_mod]
  unfold N
  rfl
theorem N_two : N 2#64 = 2 := rfl
attribute [local go_sem] N_two
theorem g0_lt2 (h : BitVec 64) : g0 h < 2 := by rw [← g0_mod]; omega
set_option maxHeartbeats 1000000 in
theorem rAt8_any (h : BitVec 64) (n : Nat) (hn : n < 2) (w : World) : Calls Tryz.prog 121 #[.int .i64 2, U h, I n] w fun e w' => e = .returned (I (((g0 h + n) % 2 : Nat) : Int)) ∧ w = w' := by
  have h1 := g0_rem h
  have h2 := g0_lt2 h
  have h3 : ((g0 h : Nat) : Int) < 2 := by omega
  generalize g0 h = g at *
  go_enter Tryz.func121, Tryz.ntmps121
  go_wp2
  go_loop [7, 16] (fun v i => ∃ j : Nat, j ≤ n + 1 ∧ i = .int .i64 j ∧ v = I ((g + tri j : Nat) : Int)) (fun _ i => n + 1 - (intOf i).toNat)
  case atStart => exact ⟨0, by omega, rfl, rfl⟩
  case round =>
    obtain ⟨j, hj, rfl, rfl⟩ := hrel
    by_cases hlt : j < n + 1
    · have HS : Hid (tri (j + 1) = tri j + j) := Lib.hid rfl
      have ht : tri j < 4 := by
        match j, hlt with
        | 0, _ => decide
        | 1, _ => decide
        | j + 2, h => omega
      generalize tri j = m at *
      go_wp2
      go_round
      case rel => exact ⟨j + 1, by omega, by go_num, by rw [HS.out]; go_num⟩
      case measure => simp [intOf]; omega
    · have hjn : j = n + 1 := by omega
      have ht : tri j = n := by
        subst hjn
        match n, hn with
        | 0, _ => rfl
        | 1, _ => rfl
      rw [ht]
      go_wp2
      go_ret
      exact ⟨rfl, rfl⟩
def icells (l : List Nat) : List Value := l.map fun (n : Nat) => I (n : Int)
theorem icells_snoc (l : List Nat) (n : Nat) : icells (l ++ [n]) = icells l ++ [I (n : Int)] := by unfold icells; rw [List.map_append]; rfl
/-- Both groups in a key's order, the first j of them. -/
def grp (g j : Nat) : List Nat := (List.range j).map fun i => (g + i) % 2
theorem grp_succ (g j : Nat) : icells (grp g (j + 1)) = icells (grp g j) ++ [I (((g + j) % 2 : Nat) : Int)] := by
  unfold grp; rw [List.range_succ, List.map_append]; exact icells_snoc _ _
theorem grp_two (g : Nat) (hg : g < 2) : grp g 2 = [g, 1 - g] := by
  match g, hg with
  | 0, _ => rfl
  | 1, _ => rfl
set_option maxHeartbeats 1000000 in
set_option maxRecDepth 100000 in
theorem rRow8_any (h : BitVec 64) (w : World) : Calls Tryz.prog 89 #[.int .i64 2, U h] w fun e w' => ∃ a c, e = .returned (.slice a 2 c) ∧ w'.ownsRow w.heap.size 3 1 (.slice a 2 c) 2 (icells (grp (g0 h) 2)) ∧ Ch [] w w' := by
  obtain ⟨i0, hi, hz0, hz1, hz2⟩ := info_parts infoInt
  go_enter Tryz.func89, Tryz.ntmps89
  go_wp2
  go_loopw [5, 8] (fun v i wr => ∃ j : Nat, i = .int .i64 j ∧ j ≤ 2 ∧ wr.ownsRow w.heap.size 3 1 v j (icells (grp (g0 h) j)) ∧ Ch [] w wr) (fun _ i _ => 2 - (intOf i).toNat)
  case atStart => exact ⟨0, rfl, by omega, World.ownsRow_nil _ _ _ _, Ch.refl _ _⟩
  case round =>
    obtain ⟨j, hj, hj8, hown, hcr⟩ := hrel
    subst hj
    have hz := hcr.size
    by_cases hlt : j < 2
    · have A1 := fun w => rAt8_any h j hlt w
      have HS := Lib.hid (grp_succ (g0 h) j)
      have hob := own_block hown
      generalize icells (grp (g0 h) j) = ys at *
      generalize (g0 h + j) % 2 = gj at *
      go_wp2_with (first
        | (go_at_call 121; refine (A1 _).mono ?_; rintro e w' ⟨rfl, rfl⟩)
        | (at_builtin; refine wpList_append_own _ rfl _ _ 85 rfl w.heap.size 3 i0 (.int .i64 0) 1 8 Tryz.underlying85 hi hz0 hz1 hz2 rfl (by decide) _ _ _ rfl (hown.alloc _) ⟨wr.heap.size, 0, none⟩ 1 1 [I (gj : Int)] rfl rfl (cell_one_new _ _ _) (by simp [Value.oneCell']) (by unfold maxLen; omega) (by omega) (by simp; omega) ?_; intro v' w1 hown' hgrow _; have HO := Lib.hid hown'; have HG := Lib.hid hgrow; clear hown' hgrow))
      have hgr : (wr.alloc (.cells #[I (gj : Int)] 3)).grownBy w1 u5.ownBlock := HG.out
      have hW1 : Ch (u5.ownBlock.toList) wr w1 := (((Ch.refl [] wr).alloc (.cells #[I (gj : Int)] 3)).of_nil).trans2 (Ch.of_grown (S := u5.ownBlock.toList) hgr (fun k hk => by simp [hk])) (fun t ht => .inl ht)
      have hSS : ∀ s ∈ u5.ownBlock.toList, w.heap.size ≤ s := fun s hs => hob s (by simpa using hs)
      go_roundw
      case rel => exact ⟨j + 1, by go_num, hlt, by rw [HS.out]; exact HO.out, hcr.trans2 hW1 (fun t ht => .inr (hSS t ht))⟩
      case measure => simp [intOf]; omega
    · have hj8 : j = 2 := by omega
      subst hj8
      have HO := Lib.hid hown
      obtain ⟨a, c, rfl⟩ := own_form hown
      clear hown
      go_wp2
      go_ret
      exact ⟨a, c, rfl, HO.out, hcr⟩
end Go.Proofs.Hc
/- The references of layer 16: a hash's top bits, a table that is flat. -/
namespace Go.Proofs.Hc
open Go.RowKit
attribute [local go_sem] wrap_u64 wrap_u8 bits_xor64 bits_and64 bits_or64 bits_not64 bits_xor8 bits_and8 bits_or8 signed64 signed8 ofInt_N BitVec.ofInt_add BitVec.ofInt_mul ofInt_sub' ofInt8_N64 ofInt64_N8 wide8 eqN neN shr_pow shr1 shr7 shr56
attribute [local go_sem high] bits_com64 shl_wrap
attribute [local go_sem] cell_heap ice_heap cellAt_cells iceAt_cells setAt_cells rowAt_cells canLay_cells laidAt_cells size_onObj size_setCell rowRes_some layRes_true
attribute [local go_sem] load26 load73 load23 store26 build73
attribute [local go_sem ↓] lrow26 lrow73 lrow23 srow26 zero26 brow73 heap_alloc heap_drew heap_drewN heap_setCell heap_onObj
attribute [local go_sem] tcells_size hcells_size tcells_get hcells_get tcells_one hcells_one hcells_table tcells_table hcells_all hcells_ctrl tcells_ctrl
attribute [local go_sem] nn2 nm2 nn3 nm3 nn4 nm4 nn5 nm5 nn6 nm6 nn7 nm7 nn8 nm8
attribute [local go_sem] nn2 nm2 nn3 nm3 nn4 nm4 nn5 nm5 nn6 nm6 nn7 nm7 nn8 nm8
attribute [local go_sem] ofInt_N
theorem half_shr (h : BitVec 64) (j : Nat) : (N (h >>> j)).tdiv 2 = N (h >>> (j + 1)) := by
  rw [Int.tdiv_eq_ediv_of_nonneg (N_nonneg _)]
  unfold N
  rw [BitVec.toNat_ushiftRight, BitVec.toNat_ushiftRight, Nat.shiftRight_succ]
  simp
theorem topT_shr (h : BitVec 64) (d : Nat) (hd : d ≤ 5) : h >>> (64 - d) = topT h d := by
  unfold topT
  rw [← BitVec.shiftRight_add]
  congr 1
  omega
set_option maxHeartbeats 1000000 in
theorem rTop_any (h : BitVec 64) (d : Nat) (hd : d ≤ 5) (w : World) : Calls Tryz.prog 88 #[U h, I d] w fun e w' => e = .returned (U (topT h d)) ∧ w = w' := by
  have hT := topT_shr h d hd
  go_enter Tryz.func88, Tryz.ntmps88
  go_wp2
  go_loop [0, 7] (fun v i => ∃ j : Nat, j ≤ 64 - d ∧ i = .int .i64 j ∧ v = U (h >>> j)) (fun _ i => 64 - d - (intOf i).toNat)
  case atStart => exact ⟨0, by omega, rfl, by simp⟩
  case round =>
    obtain ⟨j, hj, rfl, rfl⟩ := hrel
    by_cases hlt : j < 64 - d
    · have HS := Lib.hid (half_shr h j)
      generalize h >>> j = m at *
      go_wp2
      go_round
      case rel => exact ⟨j + 1, by omega, by go_num, by rw [HS.out, ofInt_N]⟩
      case measure => simp [intOf]; omega
    · have hjn : j = 64 - d := by omega
      subst hjn
      rw [hT] at *
      go_wp2
      go_ret
      exact ⟨rfl, rfl⟩
end Go.Proofs.Hc
/- The reference of layer 16: a table that is flat. -/
namespace Go.Proofs.Hc
open Go.RowKit
attribute [local go_sem] wrap_u64 wrap_u8 bits_xor64 bits_and64 bits_or64 bits_not64 bits_xor8 bits_and8 bits_or8 signed64 signed8 ofInt_N BitVec.ofInt_add BitVec.ofInt_mul ofInt_sub' ofInt8_N64 ofInt64_N8 wide8 eqN neN shr_pow shr1 shr7 shr56
attribute [local go_sem high] bits_com64 shl_wrap
attribute [local go_sem] cell_heap ice_heap cellAt_cells iceAt_cells setAt_cells rowAt_cells canLay_cells laidAt_cells size_onObj size_setCell rowRes_some layRes_true
attribute [local go_sem] load26 load73 load23 store26 build73
attribute [local go_sem ↓] lrow26 lrow73 lrow23 srow26 zero26 brow73 heap_alloc heap_drew heap_drewN heap_setCell heap_onObj
attribute [local go_sem] tcells_size hcells_size tcells_get hcells_get tcells_one hcells_one hcells_table tcells_table hcells_all hcells_ctrl tcells_ctrl
attribute [local go_sem] nn2 nm2 nn3 nm3 nn4 nm4 nn5 nm5 nn6 nm6 nn7 nm7 nn8 nm8
attribute [local go_sem] nn2 nm2 nn3 nm3 nn4 nm4 nn5 nm5 nn6 nm6 nn7 nm7 nn8 nm8
attribute [local go_sem] ofInt_N
attribute [local go_sem] box26 tcells_idx cell0 cell1 cell2 cell3 cell4
theorem pre_pow (x : BitVec 64) (n : Nat) (hn : n < 64) : (N (x >>> n) == 0) = decide (N x < N (1#64 <<< n)) := by
  rw [Bool.eq_iff_iff, decide_eq_true_iff, beq_iff_eq]
  unfold N
  rw [shl_toNat n hn, BitVec.toNat_ushiftRight, Nat.shiftRight_eq_div_pow]
  have hp := Nat.two_pow_pos n
  have := Nat.div_eq_zero_iff (a := x.toNat) (b := 2 ^ n)
  constructor
  · intro h
    have h1 : x.toNat / 2 ^ n = 0 := by exact_mod_cast h
    have h2 : x.toNat < 2 ^ n := by rcases this.1 h1 with h | h <;> omega
    exact_mod_cast h2
  · intro h
    have h2 : x.toNat < 2 ^ n := by exact_mod_cast h
    have h1 : x.toNat / 2 ^ n = 0 := this.2 (.inr h2)
    exact_mod_cast h1
theorem flatT_eq (t : Tab) : flatT t = (decide (0 ≤ t.depth) && decide (t.depth ≤ 5) && decide (N t.pre < N (1#64 <<< t.depth.toNat)) && decide (0 ≤ t.can) && decide (t.can ≤ 14) && decide (0 ≤ t.live) && decide (t.live ≤ 14)) := by
  unfold flatT
  by_cases h : t.depth ≤ 5
  · rw [pre_pow t.pre t.depth.toNat (by omega)]
    simp only [Bool.and_assoc]
  · simp [h]
theorem rPower_int (d : Int) (h0 : 0 ≤ d) (h5 : d ≤ 5) (w : World) : Calls Tryz.prog 83 #[I d] w fun e w' => e = .returned (U (1#64 <<< d.toNat)) ∧ w = w' := by
  have h := rPower_any d.toNat (by omega) w
  rwa [show ((d.toNat : Nat) : Int) = d by omega] at h
set_option maxHeartbeats 4000000 in
set_option maxRecDepth 100000 in
theorem rTable_any (t : Tab) (w : World) : Calls Tryz.prog 48 #[.agg (tcells t)] w fun e w' => e = .returned (.bool (flatT t)) ∧ Ch [] w w' := by
  have P1 := rPower_int t.depth
  have HF := Lib.hid (flatT_eq t)
  generalize flatT t = ff at *
  go_enter Tryz.func48, Tryz.ntmps48
  go_wp2
  obtain ⟨W0, hW0⟩ : ∃ W0, w.alloc (.cells (tcells t) 26) = W0 := ⟨_, rfl⟩
  have hC0 : Ch [] w W0 := by rw [← hW0]; exact (Ch.refl [] w).alloc _
  have hg : ∀ g : Gar W0, (g.1).heap[w.heap.size]? = some (.cells (tcells t) 26 (0, 0)) := fun g => (g.2.block w.heap.size (by rw [← hW0]; simp) (by simp)).trans (by rw [← hW0]; simp [go_sem])
  rw [hW0]
  clear hW0
  by_cases h1 : 0 ≤ t.depth
  case neg =>
    have hff : ff = false := by rw [HF.out]; simp [h1]
    subst hff
    have d1 : decide (0 ≤ t.depth) = false := decide_eq_false h1
    refine wp_region_gar (by kernel_rfl) (by kernel_rfl) ?_
    repeat (go_big_quiet_step (fail))
    refine wpQuiet_nil ?_
    rintro w1 ⟨g1, hw1⟩
    have hc1 : Ch [] W0 w1 := by rw [hw1]; exact g1.2
    clear hw1 g1 hg
    go_wp2
    go_ret
    exact ⟨rfl, hC0.trans hc1⟩
  by_cases h2 : t.depth ≤ 5
  case neg =>
    have hff : ff = false := by rw [HF.out]; simp [h1, h2]
    subst hff
    have d2 : decide (t.depth ≤ 5) = false := decide_eq_false h2
    refine wp_region_gar (by kernel_rfl) (by kernel_rfl) ?_
    repeat (go_big_quiet_step (fail))
    refine wpQuiet_nil ?_
    rintro w1 ⟨g1, hw1⟩
    have hc1 : Ch [] W0 w1 := by rw [hw1]; exact g1.2
    clear hw1 g1 hg
    go_wp2
    go_ret
    exact ⟨rfl, hC0.trans hc1⟩
  by_cases h3 : N t.pre < N (1#64 <<< t.depth.toNat)
  case neg =>
    have hff : ff = false := by rw [HF.out]; simp [h1, h2, h3]
    subst hff
    have d3 : decide (N t.pre < N (1#64 <<< t.depth.toNat)) = false := decide_eq_false h3
    have P2 := fun w => P1 h1 h2 w
    refine wp_region_gar (by kernel_rfl) (by kernel_rfl) ?_
    repeat (go_big_quiet_step ((go_at_call 83; exact garL (P2 _))))
    refine wpQuiet_nil ?_
    rintro w1 ⟨g1, hw1⟩
    have hc1 : Ch [] W0 w1 := by rw [hw1]; exact g1.2
    clear hw1 g1 hg
    go_wp2
    go_ret
    exact ⟨rfl, hC0.trans hc1⟩
  by_cases h4 : 0 ≤ t.can
  case neg =>
    have hff : ff = false := by rw [HF.out]; simp [h1, h2, h3, h4]
    subst hff
    have d4 : decide (0 ≤ t.can) = false := decide_eq_false h4
    have P2 := fun w => P1 h1 h2 w
    refine wp_region_gar (by kernel_rfl) (by kernel_rfl) ?_
    repeat (go_big_quiet_step ((go_at_call 83; exact garL (P2 _))))
    refine wpQuiet_nil ?_
    rintro w1 ⟨g1, hw1⟩
    have hc1 : Ch [] W0 w1 := by rw [hw1]; exact g1.2
    clear hw1 g1 hg
    go_wp2
    go_ret
    exact ⟨rfl, hC0.trans hc1⟩
  by_cases h5 : t.can ≤ 14
  case neg =>
    have hff : ff = false := by rw [HF.out]; simp [h1, h2, h3, h4, h5]
    subst hff
    have d5 : decide (t.can ≤ 14) = false := decide_eq_false h5
    have P2 := fun w => P1 h1 h2 w
    refine wp_region_gar (by kernel_rfl) (by kernel_rfl) ?_
    repeat (go_big_quiet_step ((go_at_call 83; exact garL (P2 _))))
    refine wpQuiet_nil ?_
    rintro w1 ⟨g1, hw1⟩
    have hc1 : Ch [] W0 w1 := by rw [hw1]; exact g1.2
    clear hw1 g1 hg
    go_wp2
    go_ret
    exact ⟨rfl, hC0.trans hc1⟩
  by_cases h6 : 0 ≤ t.live
  case neg =>
    have hff : ff = false := by rw [HF.out]; simp [h1, h2, h3, h4, h5, h6]
    subst hff
    have d6 : decide (0 ≤ t.live) = false := decide_eq_false h6
    have P2 := fun w => P1 h1 h2 w
    refine wp_region_gar (by kernel_rfl) (by kernel_rfl) ?_
    repeat (go_big_quiet_step ((go_at_call 83; exact garL (P2 _))))
    refine wpQuiet_nil ?_
    rintro w1 ⟨g1, hw1⟩
    have hc1 : Ch [] W0 w1 := by rw [hw1]; exact g1.2
    clear hw1 g1 hg
    go_wp2
    go_ret
    exact ⟨rfl, hC0.trans hc1⟩
  by_cases h7 : t.live ≤ 14
  case neg =>
    have hff : ff = false := by rw [HF.out]; simp [h1, h2, h3, h4, h5, h6, h7]
    subst hff
    have d7 : decide (t.live ≤ 14) = false := decide_eq_false h7
    have P2 := fun w => P1 h1 h2 w
    refine wp_region_gar (by kernel_rfl) (by kernel_rfl) ?_
    repeat (go_big_quiet_step ((go_at_call 83; exact garL (P2 _))))
    refine wpQuiet_nil ?_
    rintro w1 ⟨g1, hw1⟩
    have hc1 : Ch [] W0 w1 := by rw [hw1]; exact g1.2
    clear hw1 g1 hg
    go_wp2
    go_ret
    exact ⟨rfl, hC0.trans hc1⟩
  have hff : ff = true := by rw [HF.out]; simp [h1, h2, h3, h4, h5, h6, h7]
  subst hff
  have P2 := fun w => P1 h1 h2 w
  refine wp_region_gar (by kernel_rfl) (by kernel_rfl) ?_
  repeat (go_big_quiet_step ((go_at_call 83; exact garL (P2 _))))
  refine wpQuiet_nil ?_
  rintro w1 ⟨g1, hw1⟩
  have hc1 : Ch [] W0 w1 := by rw [hw1]; exact g1.2
  clear hw1 g1 hg
  go_wp2
  go_ret
  exact ⟨rfl, hC0.trans hc1⟩
end Go.Proofs.Hc
/- The reference of layer 17: Full, h2, Goes. -/
namespace Go.Proofs.Hc
open Go.RowKit
attribute [local go_sem] wrap_u64 wrap_u8 bits_xor64 bits_and64 bits_or64 bits_not64 bits_xor8 bits_and8 bits_or8 signed64 signed8 ofInt_N BitVec.ofInt_add BitVec.ofInt_mul ofInt_sub' ofInt8_N64 ofInt64_N8 wide8 eqN neN shr_pow shr1 shr7 shr56
attribute [local go_sem high] bits_com64 shl_wrap
attribute [local go_sem] cell_heap ice_heap cellAt_cells iceAt_cells setAt_cells rowAt_cells canLay_cells laidAt_cells size_onObj size_setCell rowRes_some layRes_true
attribute [local go_sem] load26 load73 load23 store26 build73
attribute [local go_sem ↓] lrow26 lrow73 lrow23 srow26 zero26 brow73 heap_alloc heap_drew heap_drewN heap_setCell heap_onObj
attribute [local go_sem] tcells_size hcells_size tcells_get hcells_get tcells_one hcells_one hcells_table tcells_table hcells_all hcells_ctrl tcells_ctrl
attribute [local go_sem] nn2 nm2 nn3 nm3 nn4 nm4 nn5 nm5 nn6 nm6 nn7 nm7 nn8 nm8
attribute [local go_sem] nn2 nm2 nn3 nm3 nn4 nm4 nn5 nm5 nn6 nm6 nn7 nm7 nn8 nm8
attribute [local go_sem] ofInt_N
attribute [local go_sem] box26 tcells_idx cell0 cell1 cell2 cell3 cell4
theorem tcells_ctrl_at (t : Tab) (g : Nat) (h : g < 2) : (tcells t)[5 + g]? = some (U (t.c g)) := by
  rw [tcells_get, if_pos (by omega)]
  match g, h with
  | 0, _ => rfl
  | 1, _ => rfl
set_option maxRecDepth 100000 in
theorem rFull_any (t : Tab) (n : Nat) (hn : n < 16) (w : World) : Calls Tryz.prog 67 #[.agg (tcells t), I n] w fun e w' => e = .returned (.bool (fullJ t n)) ∧ Ch [] w w' := by
  have F1 := fun w => rFull9_any (t.c (n / 8)) (n % 8) (by omega) w
  have HJ : Hid (decide ((byteAt (t.c (n / 8)) (n % 8)).toNat < 128) = fullJ t n) := Lib.hid rfl
  have hd : (n : Int).tdiv 8 = ((n / 8 : Nat) : Int) := by rw [Int.tdiv_eq_ediv_of_nonneg (by omega)]; rfl
  have hm : (n : Int).tmod 8 = ((n % 8 : Nat) : Int) := by rw [Int.tmod_eq_emod_of_nonneg (by omega)]; rfl
  have hg : n / 8 < 2 := by omega
  have hc5 := tcells_ctrl_at t (n / 8) hg
  generalize fullJ t n = r at *
  rw [HJ.out] at F1
  generalize n / 8 = g at *
  generalize n % 8 = x at *
  go_enter Tryz.func67, Tryz.ntmps67
  go_wp2_with (go_at_call 105; refine (F1 _).mono ?_; rintro e w' ⟨rfl, rfl⟩)
  go_ret
  exact ⟨rfl, (Ch.refl [] w).alloc _⟩
theorem rh2_any (s k : BitVec 64) (w : World) : Calls Tryz.prog 51 #[U s, U k] w fun e w' => e = .returned (Y (hash2 (hashOf s k))) ∧ w = w' := by
  have H1 := fun w => rHash_any s k w
  have H2 := fun w => rH2_any (hashOf s k) w
  generalize hash2 (hashOf s k) = r at *
  generalize hashOf s k = h at *
  go_enter Tryz.func51, Tryz.ntmps51
  go_wp2_with (first
    | (go_at_call 87; refine (H1 _).mono ?_; rintro e w' ⟨rfl, rfl⟩)
    | (go_at_call 86; refine (H2 _).mono ?_; rintro e w' ⟨rfl, rfl⟩))
  go_ret
  exact ⟨rfl, rfl⟩
theorem rTop_int (h : BitVec 64) (d : Int) (h0 : 0 ≤ d) (h5 : d ≤ 5) (w : World) : Calls Tryz.prog 88 #[U h, I d] w fun e w' => e = .returned (U (topT h d)) ∧ w = w' := by
  have h := rTop_any h d.toNat (by omega) w
  rwa [show ((d.toNat : Nat) : Int) = d by omega] at h
set_option maxHeartbeats 1000000 in
set_option maxRecDepth 100000 in
theorem rGoes_any (t : Tab) (s k : BitVec 64) (hf : flatT t = true) (w : World) : Calls Tryz.prog 52 #[U s, .agg (tcells t), U k] w fun e w' => e = .returned (.bool (hasT t (hashOf s k))) ∧ Ch [] w w' := by
  have H1 := fun w => rHash_any s k w
  have T1 := fun w => rTop_int (hashOf s k) t.depth (flat_depth t hf).1 (flat_depth t hf).2 w
  have HJ : Hid ((topT (hashOf s k) t.depth == t.pre) = hasT t (hashOf s k)) := Lib.hid (by rw [hasT, hf, Bool.true_and])
  clear hf
  generalize hasT t (hashOf s k) = r at *
  generalize topT (hashOf s k) t.depth = x at *
  generalize hashOf s k = h at *
  go_enter Tryz.func52, Tryz.ntmps52
  go_wp2
  obtain ⟨W0, hW0⟩ : ∃ W0, w.alloc (.cells (tcells t) 26) = W0 := ⟨_, rfl⟩
  have hC0 : Ch [] w W0 := by rw [← hW0]; exact (Ch.refl [] w).alloc _
  have hg : ∀ g : Gar W0, (g.1).heap[w.heap.size]? = some (.cells (tcells t) 26 (0, 0)) := fun g => (g.2.block w.heap.size (by rw [← hW0]; simp) (by simp)).trans (by rw [← hW0]; simp [go_sem])
  rw [hW0]
  clear hW0
  refine wp_region_gar (by kernel_rfl) (by kernel_rfl) ?_
  repeat (go_big_quiet_step ((first | (go_at_call 87; exact garL (H1 _)) | (go_at_call 88; exact garL (T1 _)))))
  refine wpQuiet_nil ?_
  rintro w1 ⟨g1, hw1⟩
  have hc1 : Ch [] W0 w1 := by rw [hw1]; exact g1.2
  clear hw1 g1 hg
  go_wp2
  go_ret
  refine ⟨?_, hC0.trans hc1⟩
  rw [← HJ.out, ← eqN]
  rfl
end Go.Proofs.Hc
