/- All lanes of a mask, as a list. -/
import Derived.Test.YtaddieimkpijeaaGreatKHlHf
import Derived.Maps.AppendAt
import Derived.RangeFuncBox
import Derived.WalkSpells
set_option linter.unusedSimpArgs false
set_option linter.unusedVariables false
namespace Go.Proofs.Hc
open Go.RowKit
attribute [local go_sem] wrap_u64 wrap_u8 bits_xor64 bits_and64 bits_or64 bits_not64 bits_xor8 bits_and8 bits_or8 signed64 signed8 ofInt_N BitVec.ofInt_add BitVec.ofInt_mul ofInt_sub' ofInt8_N64 ofInt64_N8 wide8 eqN neN shr_pow shr1 shr7 shr56
attribute [local go_sem high] bits_com64 shl_wrap
attribute [local go_sem] Oper.semAt_some make_func1
attribute [local go_sem] cell_heap ice_heap cellAt_cells iceAt_cells setAt_cells size_setCell
attribute [local go_sem ↓] heap_alloc heap_drew heap_drewN heap_setCell

theorem infoInt : (Tryz.prog.info? 3).map (fun i => (i.zero, i.size, i.bytes)) = some (some (I 0), 1, 8) := by kernel_rfl
theorem lanes_le (m : BitVec 8) : (lanesOf m).length ≤ 8 := by
  unfold lanesOf; exact Nat.le_trans (List.length_filter_le _ _) (by simp)
set_option maxRecDepth 100000 in
theorem all_any (m : BitVec 8) (w : World) :
    Calls Tryz.prog 99 #[Y m] w fun e w' => ∃ v, e = .returned v ∧ w'.ownsRow w.heap.size 3 1 v (lanesOf m).length ((lanesOf m).map fun i : Nat => I i) ∧ Ch [] w w' := by
  obtain ⟨i0, hi, hz0, hz1, hz2⟩ := info_parts infoInt
  refine (callsIn_wide (n := 3)).1 ?_
  refine callsIn_of_wp_marks Tryz.func99 rfl trivial ?_
  simp only [Tryz.ntmps99, List.size_toArray, List.length_cons, List.length_nil, Nat.reduceAdd, Nat.reduceSub, Array.replicate_succ, Array.replicate_zero, List.push_toArray, List.append_toArray, List.nil_append, List.cons_append]
  gi_wp2_with (refine ⟨trivial, ?_⟩; gi_at_call 130; refine (callsIn_wide.2 (each_any _ _)).mono ?_; rintro e w' ⟨rfl, rfl⟩)
  obtain ⟨W0, hW0⟩ : ∃ W0, (w.alloc (.cells #[.slice none 0 0] 85)).alloc (.cells #[Y m] 128) = W0 := ⟨_, rfl⟩
  have hs0 : W0.heap.size = w.heap.size + 2 := by rw [← hW0]; simp
  have hC0 : Ch [] w W0 := by rw [← hW0]; exact ((Ch.refl [] w).alloc _).alloc _
  have b0 : W0.heap[w.heap.size]? = some (.cells #[.slice none 0 0] 85 (0, 0)) := by rw [← hW0]; simp [go_sem] <;> omega
  have b2 : W0.heap[w.heap.size + 1]? = some (.cells #[Y m] 128 (0, 0)) := by rw [← hW0]; simp [go_sem] <;> omega
  rw [hW0]
  clear hW0
  refine range_law (n := 1) (xs := lanesOf m) rfl enters_each (each_yields m _ W0 b2) (fun _ => rfl) (by simp <;> omega) (by simp <;> omega)
    (fun pre W => Ch [] w W ∧ ∃ v, W.heap[w.heap.size]? = some (.cells #[v] 85 (0, 0)) ∧ W.ownsRow (W0.heap.size + 2) 3 1 v pre.length (pre.map fun i : Nat => I i))
    (fun _ _ => False)
    ?hI (fun _ _ _ h _ => h.elim) ⟨hC0, _, b0, World.ownsRow_nil _ _ _ _⟩ ?a₁ ?assign ?body ?done (fun _ _ h _ => h.elim)
  case hI =>
    rintro pre A B ⟨hc, v, h1, h2⟩ hAB
    exact ⟨hc.trans2 hAB (by simp <;> omega), v, (hAB.block _ (Array.getElem?_eq_some_iff.1 h1).1 (by simp <;> omega)).trans h1, own_ch h2 hAB (by simp <;> omega)⟩
  case a₁ => exact fun x => { tmps := #[Y m, undef, .slice none 0 0, .pointer (some ⟨w.heap.size, 0, none⟩), I x, Y m, .func (.func 154) #[] #[.pointer (some ⟨w.heap.size + 1, 0, none⟩)], I x, undef, undef, undef, undef, undef], defers := [] }
  case assign =>
    intro x W K hK
    gi_wp2
    exact hK
  case body =>
    rintro pre x post W hx ⟨hc, v, h1, h2⟩ hsz
    have hlen : pre.length + 1 ≤ 8 := by have := lanes_le m; rw [hx] at this; simp at this; omega
    have HX := Lib.hid hx
    clear hx
    gi_wp2_with (gi_at_builtin; go_must (refine wpListIn_append_own _ rfl _ _ 85 rfl (W0.heap.size + 2) 3 i0 (I 0) 1 8 Tryz.underlying85 hi hz0 hz1 hz2 rfl (by decide) _ _ _ rfl (h2.alloc _) ⟨W.heap.size, 0, none⟩ 1 1 [I x] rfl rfl (cell_one_new _ _ _) (by simp [Value.oneCell']) (by unfold maxLen; omega) (by omega) (by simp; omega) ?_; intro v' w1 hown' hgrow _; obtain ⟨g', cap', rfl⟩ := ownsRow_succ hown'; have hgr : (W.alloc (.cells #[I x] 3)).grownBy w1 v.ownBlock := hgrow; clear hgrow; have h1' : w1.heap[w.heap.size]? = some (.cells #[v] 85 (0, 0)) := (hgr.block w.heap.size (by simp; omega) (fun e => by have := own_block h2 _ e.symm; omega)).trans (by rw [heap_alloc, if_neg (by omega)]; exact h1)))
    have hz := hc.size
    have hob := own_block h2
    have hW1 : Ch (v.ownBlock.toList) W w1 := ((Ch.refl [] W).alloc _).of_nil.trans2 (Ch.of_grown (S := v.ownBlock.toList) hgr (fun k hk => by simp [hk])) (fun t ht => .inl ht)
    have hS : ∀ s ∈ v.ownBlock.toList, W0.heap.size + 2 ≤ s := fun s hs => hob s (by simpa using hs)
    have hc1 : Ch [] w w1 := hc.trans2 hW1 (fun t ht => .inr (by have := hS t ht; omega))
    have hw1 := hW1.size
    refine ⟨⟨hc1.setCell (p := ⟨w.heap.size, 0, none⟩) (.inr (Nat.le_refl _)) _, .slice (some ⟨g', 0, none⟩) (pre.length + 1) cap', ?_, ?_⟩, by simp [World.setCell]; omega, ?_⟩
    · simp only [heap_setCell, h1']; simp [setAt_cells]
    · have := own_ch (S := [w.heap.size]) hown' ((Ch.refl _ w1).setCell (p := ⟨w.heap.size, 0, none⟩) (.inl (by simp)) (.slice (some ⟨g', 0, none⟩) (pre.length + 1) cap')) (by simp; omega)
      simpa using this
    · intro b hb
      have hb' : b ≠ w.heap.size ∧ b < W0.heap.size + 2 := by rcases hb with rfl | rfl | hb <;> simp at * <;> omega
      rw [heap_setCell, if_neg hb'.1]
      exact hW1.block b (by omega) (fun hs => by have := hS b hs; omega)
  case done =>
    rintro W ⟨hc, v, h1, h2⟩ hd
    gi_wp2
    refine marks_ret (v := v) hd (results_tmp Tryz.results99 _ _ _) ⟨v, rfl, ?_, hc.trans2 (ch_putObj _ _ _) (by simp <;> omega)⟩
    exact own_mono (own_ch h2 (ch_putObj _ _ _) (by simp <;> omega)) (by omega)
end Go.Proofs.Hc
