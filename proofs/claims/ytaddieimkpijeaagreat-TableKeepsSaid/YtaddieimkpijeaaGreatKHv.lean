/- Package layout: flat, top, Has. -/
import Derived.Test.YtaddieimkpijeaaGreatKHo
import Derived.Test.YtaddieimkpijeaaGreatKHmHtHu
import Derived.RegionTactic
set_option linter.unusedSimpArgs false
set_option linter.unusedVariables false
namespace Go.Proofs.Hc
open Go.RowKit
attribute [local go_sem] wrap_u64 wrap_u8 bits_xor64 bits_and64 bits_or64 bits_not64 bits_xor8 bits_and8 bits_or8 signed64 signed8 ofInt_N BitVec.ofInt_add BitVec.ofInt_mul ofInt_sub' ofInt8_N64 ofInt64_N8 wide8 eqN neN shr_pow shr1 shr7 shr56
attribute [local go_sem high] bits_com64 shl_wrap
attribute [local go_sem] cell_heap ice_heap cellAt_cells iceAt_cells setAt_cells rowAt_cells canLay_cells laidAt_cells size_onObj size_setCell rowRes_some layRes_true
attribute [local go_sem] load26 load73 load23 store26 build73
attribute [local go_sem ↓] lrow26 lrow73 lrow23 srow26 zero26 brow73 heap_alloc heap_drew heap_drewN heap_setCell heap_onObj
attribute [local go_sem] tcells_size hcells_size tcells_get hcells_get tcells_one hcells_one hcells_table tcells_table hcells_all hcells_ctrl tcells_ctrl
attribute [local go_sem] nn2 nm2 nn3 nm3 nn4 nm4 nn5 nm5 nn6 nm6 nn7 nm7 nn8 nm8
attribute [local go_sem] nn2 nm2 nn3 nm3 nn4 nm4 nn5 nm5 nn6 nm6 nn7 nm7 nn8 nm8

theorem box26 (t : Tab) (w : World) : (Instr.box 26 (.agg (tcells t))).run Tryz.prog w = .ok (.pointer (some ⟨w.heap.size, 0, none⟩)) (w.alloc (.cells (tcells t) 26)) := rfl
theorem tcells_idx (t : Tab) (i : Nat) (h : i < (tcells t).size) : (tcells t)[i] = t.cell i := by simp [tcells]
theorem cell0 (t : Tab) : t.cell 0 = U t.count := rfl
theorem cell1 (t : Tab) : t.cell 1 = I t.depth := rfl
theorem cell2 (t : Tab) : t.cell 2 = U t.pre := rfl
theorem cell3 (t : Tab) : t.cell 3 = I t.can := rfl
theorem cell4 (t : Tab) : t.cell 4 = I t.live := rfl
attribute [local go_sem] box26 tcells_idx cell0 cell1 cell2 cell3 cell4
/-- May a table's numbers be such? -/
def flatT (t : Tab) : Bool :=
  decide (0 ≤ t.depth) && decide (t.depth ≤ 5) && (N (t.pre >>> t.depth.toNat) == 0) && (decide (0 ≤ t.can) && decide (t.can ≤ 14)) && (decide (0 ≤ t.live) && decide (t.live ≤ 14))
set_option maxHeartbeats 2000000 in
theorem flat_any (t : Tab) (w : World) : Calls Tryz.prog 115 #[.agg (tcells t)] w fun e w' => e = .returned (.bool (flatT t)) ∧ Ch [] w w' := by
  go_enter Tryz.func115, Tryz.ntmps115
  go_wp2
  all_goals
    go_ret
    refine ⟨?_, (Ch.refl [] w).alloc _⟩
    unfold flatT
    simp_all
    try omega
/-- The top bits of a hash. -/
def topT (h : BitVec 64) (d : Int) : BitVec 64 := h >>> 1 >>> (63 - d).toNat
theorem top_any (h : BitVec 64) (d : Int) (hd : 0 ≤ d) (hd5 : d ≤ 5) (w : World) : Calls Tryz.prog 116 #[U h, I d] w fun e w' => e = .returned (U (topT h d)) ∧ w = w' := by
  have hm : 0 ≤ 63 - d := by omega
  go_enter Tryz.func116, Tryz.ntmps116
  go_wp2
  go_ret
  exact ⟨rfl, rfl⟩
/-- Does a hash go to a table? -/
def hasT (t : Tab) (h : BitVec 64) : Bool := flatT t && (topT h t.depth == t.pre)
theorem flat_depth (t : Tab) (h : flatT t = true) : 0 ≤ t.depth ∧ t.depth ≤ 5 := by
  unfold flatT at h; simp at h; omega
set_option maxRecDepth 100000 in
theorem has_any (t : Tab) (h : BitVec 64) (w : World) : Calls Tryz.prog 81 #[.agg (tcells t), U h] w fun e w' => e = .returned (.bool (hasT t h)) ∧ Ch [] w w' := by
  unfold hasT
  have F1 := fun w => flat_any t w
  have hd := flat_depth t
  have T1 := fun w (hf : flatT t = true) => top_any h t.depth (hd hf).1 (hd hf).2 w
  generalize topT h t.depth = x at *
  generalize flatT t = f at *
  clear hd
  go_enter Tryz.func81, Tryz.ntmps81
  go_wp2
  obtain ⟨W0, hW0⟩ : ∃ W0, w.alloc (.cells (tcells t) 26) = W0 := ⟨_, rfl⟩
  have hC0 : Ch [] w W0 := by rw [← hW0]; exact (Ch.refl [] w).alloc _
  have hg : ∀ g : Gar W0, (g.1).heap[w.heap.size]? = some (.cells (tcells t) 26 (0, 0)) := fun g => (g.2.block w.heap.size (by rw [← hW0]; simp) (by simp)).trans (by rw [← hW0]; simp [go_sem])
  rw [hW0]
  clear hW0
  cases f with
  | false =>
    refine wp_region_gar (by kernel_rfl) (by kernel_rfl) ?_
    repeat (go_big_quiet_step ((first | (go_at_call 115; exact garC (F1 _)) | (go_at_call 116; exact garL (T1 _ rfl)))))
    refine wpQuiet_nil ?_
    rintro w1 ⟨g1, hw1⟩
    have hc1 : Ch [] W0 w1 := by rw [hw1]; exact g1.2
    clear hw1 g1 hg
    go_wp2
    go_ret
    exact ⟨rfl, hC0.trans hc1⟩
  | true =>
    refine wp_region_gar (by kernel_rfl) (by kernel_rfl) ?_
    repeat (go_big_quiet_step ((first | (go_at_call 115; exact garC (F1 _)) | (go_at_call 116; exact garL (T1 _ rfl)))))
    refine wpQuiet_nil ?_
    rintro w1 ⟨g1, hw1⟩
    have hc1 : Ch [] W0 w1 := by rw [hw1]; exact g1.2
    clear hw1 g1 hg
    go_wp2
    go_ret
    exact ⟨by rw [← eqN]; rfl, hC0.trans hc1⟩
end Go.Proofs.Hc
