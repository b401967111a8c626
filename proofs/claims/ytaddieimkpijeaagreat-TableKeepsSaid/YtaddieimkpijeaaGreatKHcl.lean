/- slices.Clone at rows of pairs. -/
import Derived.Test.YtaddieimkpijeaaGreatKHap
set_option linter.unusedSimpArgs false
set_option linter.unusedVariables false
namespace Go.Proofs.Hc
open Go.RowKit
attribute [local go_sem] wrap_u64 wrap_u8 bits_xor64 bits_and64 bits_or64 bits_not64 bits_xor8 bits_and8 bits_or8 signed64 signed8 ofInt_N BitVec.ofInt_add BitVec.ofInt_mul ofInt_sub' ofInt8_N64 ofInt64_N8 wide8 eqN neN shr_pow shr1 shr7 shr56
attribute [local go_sem high] bits_com64 shl_wrap
attribute [local go_sem] cell_heap ice_heap cellAt_cells iceAt_cells setAt_cells rowAt_cells canLay_cells laidAt_cells size_onObj size_setCell rowRes_some layRes_true
attribute [local go_sem] load26 load73 load23 store26 build73
attribute [local go_sem ↓] lrow26 lrow73 lrow23 srow26 zero26 brow73 heap_alloc heap_drew heap_drewN heap_setCell heap_onObj
attribute [local go_sem] tcells_size hcells_size tcells_get hcells_get tcells_one hcells_one hcells_table tcells_table hcells_all hcells_ctrl tcells_ctrl
attribute [local go_sem] nn2 nm2 nn3 nm3 nn4 nm4 nn5 nm5 nn6 nm6 nn7 nm7 nn8 nm8
attribute [local go_sem] nn2 nm2 nn3 nm3 nn4 nm4 nn5 nm5 nn6 nm6 nn7 nm7 nn8 nm8
attribute [local go_sem] Oper.semAt_some make_func1
set_option maxHeartbeats 1000000 in
set_option maxRecDepth 100000 in
theorem clone_pairs (a : Option Addr) (n c base2 : Nat) (news : List Value) (w : World) (hx : w.ownsRow base2 31 2 (.slice a n c) n news) (h1 : ∀ u ∈ news, u.oneCell' = true) (hn : n ≤ 900000) :
    Calls Tryz.prog 10 #[.slice a n c] w fun e w' => ∃ a' c', e = .returned (.slice a' n c') ∧ w'.ownsRow w.heap.size 31 2 (.slice a' n c') n news ∧ Ch [] w w' := by
  have q22 : ∀ (w : World) (a : Option Addr) (n c n' c' : Nat), (binOp .eql 27 (.slice a n c) (.slice none n' c')).run Tryz.prog w = .ok (.bool a.isNone) w := fun w a n c n' c' => Lib.run_eql_slice_nil w _ _ a n c n' c' Tryz.underlying27
  cases a with
  | none =>
    have hn0 : n = 0 ∧ news = [] := by
      obtain ⟨hl, ⟨hv, h0⟩ | ⟨g, cap, cur, hv, _⟩⟩ := hx
      · subst h0; exact ⟨rfl, List.eq_nil_of_length_eq_zero (by rw [hl])⟩
      · cases hv
    obtain ⟨rfl, rfl⟩ := hn0
    clear hx
    go_enter Tryz.func10, Tryz.ntmps10
    go_wp2
    go_ret
    exact ⟨none, 0, rfl, World.ownsRow_nil _ _ _ _, Ch.refl _ _⟩
  | some x =>
    have hmade : (w.alloc (.cells #[] 31)).ownsRow w.heap.size 31 2 (.slice (some ⟨w.heap.size, 0, none⟩) 0 0) 0 [] := World.ownsRow_made w #[] 0 (Nat.le_refl _) (Nat.zero_le _) (by simp)
    have hcA : Ch [] w (w.alloc (.cells #[] 31)) := (Ch.refl [] w).alloc _
    obtain ⟨v', w1, hrun, hown, hgr⟩ := append_pairs (w.alloc (.cells #[] 31)) 27 w.heap.size base2 _ 0 [] hmade (some x) n c news (own_ch hx hcA (by simp)) h1 (by omega) (by simp)
    rw [Nat.zero_add, List.nil_append] at hown
    have hc1 : Ch [] w w1 := hcA.trans2 (Ch.of_grown (S := [w.heap.size]) hgr (fun k hk => by simp [Value.ownBlock] at hk; simp [hk])) (by simp)
    have bs : ∀ w : World, (Instr.buildSlice 27 0 #[]).run Tryz.prog w = .ok (.slice (some ⟨w.heap.size, 0, none⟩) 0 0) (w.alloc (.cells #[] 31)) := fun w => by kernel_rfl
    have HO := Lib.hid hown
    have HC := Lib.hid hc1
    clear hx hmade hcA hgr hown hc1
    go_enter Tryz.func10, Tryz.ntmps10
    go_wp2_with (at_builtin; refine Lib.wpList_append_run _ rfl _ _ 27 27 rfl _ _ rfl rfl _ _ hrun ?_)
    go_ret
    obtain ⟨a', c', rfl⟩ := own_form HO.out
    exact ⟨a', c', rfl, HO.out, HC.out⟩
end Go.Proofs.Hc
