/- Package table: New, Anew. -/
import Derived.Test.YtaddieimkpijeaaGreatKHtsHtw
set_option linter.unusedSimpArgs false
set_option linter.unusedVariables false
namespace Go.Proofs.Hc
open Go.RowKit
attribute [local go_sem] wrap_u64 wrap_u8 bits_xor64 bits_and64 bits_or64 bits_not64 bits_xor8 bits_and8 bits_or8 signed64 signed8 ofInt_N BitVec.ofInt_add BitVec.ofInt_mul ofInt_sub' ofInt8_N64 ofInt64_N8 wide8 eqN neN shr_pow shr1 shr7 shr56
attribute [local go_sem high] bits_com64 shl_wrap
attribute [local go_sem] cell_heap ice_heap cellAt_cells iceAt_cells setAt_cells rowAt_cells canLay_cells laidAt_cells size_onObj size_setCell rowRes_some layRes_true
attribute [local go_sem] load26 load73 load23 store26 build73
attribute [local go_sem ↓] lrow26 lrow73 lrow23 srow26 zero26 brow73 heap_alloc heap_drew heap_drewN heap_setCell heap_onObj
attribute [local go_sem] tcells_size hcells_size tcells_get hcells_get tcells_one hcells_one hcells_table tcells_table hcells_all hcells_ctrl tcells_ctrl
attribute [local go_sem] nn2 nm2 nn3 nm3 nn4 nm4 nn5 nm5 nn6 nm6 nn7 nm7 nn8 nm8
attribute [local go_sem] loadA loadT2 storeA storeT2 buildA_ts buildA_sm assert_errno make_func acells_size t2cells_size acells_get t2cells_get acells_one t2cells_one acells_table acells_all t2cells_all t2cells_l t2cells_r
attribute [local go_sem ↓] lrowA lrowT2 srowA srowT2 browA zeroA_run zeroT2_run
attribute [local go_sem] nn2 nm2 nn3 nm3 nn4 nm4 nn5 nm5 nn6 nm6 nn7 nm7 nn8 nm8
attribute [local go_sem] Oper.semAt_some make_func1 ofInt_pow8
attribute [local go_sem] box26 tcells_idx cell0 cell1 cell2 cell3 cell4 hcells_idx hcells_pop
attribute [local go_sem] cell5 cell6
attribute [local go_sem high] laidAt_t
/-- May a new table be such? -/
def newE (d : Int) (p : BitVec 64) : Except Int Tab := if decide (d < 0) || decide (5 < d) || (p >>> d.toNat != 0#64) then .error 2 else .ok (bareT 0#64 d p)
theorem shr_ge (d : Nat) (_hd : d ≤ 5) (p : BitVec 64) : (p >>> d != 0#64) = decide (2 ^ d ≤ N p) := by
  rw [Bool.eq_iff_iff, bne_iff_ne, decide_eq_true_iff, ne_eq]
  have h2 : ((2 : Int) ^ d) = ((2 ^ d : Nat) : Int) := by simp
  have hpos : 0 < 2 ^ d := Nat.two_pow_pos d
  rw [h2]
  unfold N
  rw [Int.ofNat_le]
  have e : (p >>> d).toNat = p.toNat / 2 ^ d := by rw [BitVec.toNat_ushiftRight, Nat.shiftRight_eq_div_pow]
  constructor
  · intro h
    rcases Nat.lt_or_ge p.toNat (2 ^ d) with h1 | h1
    · exact absurd (BitVec.eq_of_toNat_eq (by rw [e, Nat.div_eq_of_lt h1]; rfl)) h
    · exact h1
  · intro h hz
    have : (p >>> d).toNat = 0 := by rw [hz]; rfl
    rw [e] at this
    have := (Nat.div_eq_zero_iff).1 this
    omega
theorem build_zero (w : World) : (buildRow 26 #[]).run Tryz.prog w = .ok (.agg (tcells zeroT)) w := by kernel_rfl
attribute [local go_sem] build_zero
attribute [local go_sem ↓] brow26
set_option maxHeartbeats 1000000 in
set_option maxRecDepth 100000 in
theorem new_bad (d : Int) (p : BitVec 64) (w : World) (h : d < 0 ∨ 5 < d) :
    Calls Tryz.prog 33 #[I d, U p] w fun e w' => e = .returned (.tuple #[.agg (tcells zeroT), I 2]) ∧ Ch [] w w' := by
  rcases h with h | h
  all_goals
    first | (have h' : ¬ d < 0 := by omega) | skip
    go_enter Tryz.func33, Tryz.ntmps33
    go_wp2
    refine bodyPost_ret (v := .tuple #[.agg (tcells zeroT), I 2]) (results_c0t Tryz.results33 _ _ _ rfl rfl (run_loadVar_row _ _ 26 26 (tcells zeroT) (0, 0) _ ?_ Tryz.underlying26 rfl (by rw [tcells_size]; kernel_rfl))) rfl ⟨rfl, ?_⟩
    · simp [go_sem]
    · exact ((Ch.refl [] w).alloc _).onObj (.inr (Nat.le_refl _)) _
set_option maxHeartbeats 2000000 in
set_option maxRecDepth 100000 in
theorem new_at (d : Int) (p : BitVec 64) (w : World) (h : d = 0 ∨ d = 1 ∨ d = 2 ∨ d = 3 ∨ d = 4 ∨ d = 5) :
    Calls Tryz.prog 33 #[I d, U p] w fun e w' => e = .returned (tupOr (fun v => .agg (tcells v)) (.agg (tcells zeroT)) (if decide (2 ^ d.toNat ≤ N p) then .error 2 else .ok (bareT 0#64 d p))) ∧ Ch [] w w' := by
  have B1 := fun w => bare_any 0#64 d p w
  generalize bareT 0#64 d p = bt at *
  obtain ⟨W0, hW0⟩ : ∃ W0, w.alloc (.cells (tcells zeroT) 26) = W0 := ⟨_, rfl⟩
  have hC0 : Ch [] w W0 := by rw [← hW0]; exact (Ch.refl [] w).alloc _
  have b0 : W0.heap[w.heap.size]? = some (.cells (tcells zeroT) 26 (0, 0)) := by rw [← hW0]; simp [go_sem]
  obtain ⟨R, hR⟩ : ∃ R : Except Int Tab, (if decide (2 ^ d.toNat ≤ N p) = true then Except.error 2 else Except.ok bt) = R := ⟨_, rfl⟩
  rw [hR]
  have HR := Lib.hid hR
  clear hR
  rcases h with rfl | rfl | rfl | rfl | rfl | rfl
  all_goals
    go_enter Tryz.func33, Tryz.ntmps33
    go_wp2_with fail
    · have e8 := ‹N _ ≤ N p›
      have e : R = .error 2 := by rw [← HR.out]; exact if_pos (decide_eq_true (Int.le_trans (by decide) e8))
      rw [e]
      refine bodyPost_ret (v := .tuple #[.agg (tcells zeroT), I 2]) (results_c0t Tryz.results33 _ _ _ rfl rfl (run_loadVar_row _ _ 26 26 (tcells zeroT) (0, 0) _ ?_ Tryz.underlying26 rfl (by rw [tcells_size]; kernel_rfl))) rfl ⟨rfl, ?_⟩
      · simp only [heap_onObj, if_true, b0, Option.map_some, laidAt_t]
      · exact hC0.onObj (.inr (Nat.le_refl _)) _
    · refine (B1 _).mono ?_
      rintro e w1 ⟨rfl, hc1⟩
      have b1 := hkeep hc1 b0
      have e8 := ‹N p < N _›
      have e : R = .ok bt := by rw [← HR.out]; exact if_neg (by rw [decide_eq_true_iff]; exact Int.not_le.2 (Int.lt_of_lt_of_le e8 (by decide)))
      have HE := Lib.hid e
      clear e
      go_wp2
      refine bodyPost_ret (v := .tuple #[.agg (tcells bt), I 0]) (results_c0t Tryz.results33 _ _ _ rfl rfl (run_loadVar_row _ _ 26 26 (tcells bt) (0, 0) _ ?_ Tryz.underlying26 rfl (by rw [tcells_size]; kernel_rfl))) rfl ⟨by rw [HE.out]; rfl, ?_⟩
      · simp only [heap_onObj, if_true, b1, Option.map_some, laidAt_t]
      · exact (hC0.trans hc1).onObj (.inr (Nat.le_refl _)) _
theorem New_any (d : Int) (p : BitVec 64) (w : World) :
    Calls Tryz.prog 33 #[I d, U p] w fun e w' => e = .returned (tupOr (fun v => .agg (tcells v)) (.agg (tcells zeroT)) (newE d p)) ∧ Ch [] w w' := by
  by_cases h : d < 0 ∨ 5 < d
  · refine (new_bad d p w h).mono ?_
    rintro e w' ⟨rfl, hc⟩
    refine ⟨?_, hc⟩
    rw [newE, if_pos]
    · rfl
    · rcases h with h | h
      · rw [decide_eq_true h]; rfl
      · rw [decide_eq_true h, Bool.or_true]; rfl
  · refine (new_at d p w (by omega)).mono ?_
    rintro e w' ⟨rfl, hc⟩
    refine ⟨?_, hc⟩
    rw [newE, shr_ge d.toNat (by omega) p, decide_eq_false (show ¬ d < 0 by omega), decide_eq_false (show ¬ 5 < d by omega), Bool.false_or, Bool.false_or]
end Go.Proofs.Hc
