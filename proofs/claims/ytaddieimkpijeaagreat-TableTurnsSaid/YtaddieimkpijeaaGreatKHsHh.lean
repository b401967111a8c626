/- Package layout: TableWords. -/
import Derived.Test.YtaddieimkpijeaaGreatKHvHw
import Derived.Test.YtaddieimkpijeaaGreatKHq
import Derived.RegionTactic
set_option linter.unusedSimpArgs false
set_option linter.unusedVariables false
namespace Go.Proofs.Hc
open Go.RowKit
attribute [local go_sem] wrap_u64 wrap_u8 bits_xor64 bits_and64 bits_or64 bits_not64 bits_xor8 bits_and8 bits_or8 signed64 signed8 ofInt_N BitVec.ofInt_add BitVec.ofInt_mul ofInt_sub' ofInt8_N64 ofInt64_N8 wide8 eqN neN shr_pow shr1 shr7 shr56
attribute [local go_sem high] bits_com64 shl_wrap
attribute [local go_sem] cell_heap ice_heap cellAt_cells iceAt_cells setAt_cells rowAt_cells canLay_cells laidAt_cells size_onObj size_setCell rowRes_some layRes_true
attribute [local go_sem] load26 load73 load23 store26 build73
attribute [local go_sem ↓] lrow26 lrow73 lrow23 srow26 zero26 brow73 heap_alloc heap_drew heap_drewN heap_setCell heap_onObj
attribute [local go_sem] tcells_size hcells_size tcells_get hcells_get tcells_one hcells_one hcells_table tcells_table hcells_all hcells_ctrl tcells_ctrl
attribute [local go_sem] nn2 nm2 nn3 nm3 nn4 nm4 nn5 nm5 nn6 nm6 nn7 nm7 nn8 nm8
attribute [local go_sem] nn2 nm2 nn3 nm3 nn4 nm4 nn5 nm5 nn6 nm6 nn7 nm7 nn8 nm8
attribute [local go_sem] box26 tcells_idx cell0 cell1 cell2 cell3 cell4

theorem rowAt_part {w : World} {b o n : Nat} {cs : Array Value} {T : TypeId} {fr : Nat × Nat} (hb : w.heap[b]? = some (.cells cs T fr)) (h1 : allOne cs = true) : RowAt w b o (cs.extract o (o + n)).toList := by
  refine ⟨(Array.getElem?_eq_some_iff.1 hb).1, fun u hu => ?_, fun j u hj => ?_⟩
  · have hm : u ∈ cs := by
      have h2 : u ∈ cs.extract o (o + n) := Array.mem_toList_iff.1 hu
      obtain ⟨k, hk, rfl⟩ := Array.mem_iff_getElem.1 h2
      simp
    exact (Array.all_eq_true_iff_forall_mem.1 (show cs.all (·.oneCell') = true from h1)) u hm
  · rw [cell_heap, hb, Option.bind_some, cellAt_cells]
    have h2 : (cs.extract o (o + n))[j]? = some u := by rw [← Array.getElem?_toList]; exact hj
    rw [Array.getElem?_extract] at h2
    split at h2
    · exact h2
    · cases h2
theorem part_len (cs : Array Value) (o n : Nat) (h : o + n ≤ cs.size) : (cs.extract o (o + n)).toList.length = n := by simp; omega
set_option maxRecDepth 100000 in
theorem words_bad (t : Tab) (hf : flatT t = false) (w : World) : Calls Tryz.prog 108 #[.agg (tcells t)] w fun e w' => e = .returned (.tuple #[.slice none 0 0, I 260]) ∧ Ch [] w w' := by
  have F1 := fun w => flat_any t w
  rw [hf] at F1
  clear hf
  go_enter Tryz.func108, Tryz.ntmps108
  go_wp2_with (go_at_call 115; refine (F1 _).mono ?_; rintro e w1 ⟨rfl, hc1⟩)
  go_ret2
  exact ⟨rfl, ((Ch.refl [] w).alloc _).trans hc1⟩
set_option maxRecDepth 100000 in
theorem words_ok (t : Tab) (hf : flatT t = true) (w : World) : Calls Tryz.prog 108 #[.agg (tcells t)] w fun e w' => ∃ v, e = .returned (.tuple #[v, I 0]) ∧ Ch [] w w' := by
  have F1 := fun w => flat_any t w
  rw [hf] at F1
  clear hf
  go_enter Tryz.func108, Tryz.ntmps108
  go_wp2_with (go_at_call 115; refine (F1 _).mono ?_; rintro e w1 ⟨rfl, hc1⟩; have hb1 : w1.heap[w.heap.size]? = some (.cells (tcells t) 26 (0, 0)) := (hc1.block _ (by simp) (by simp)).trans (by simp [go_sem]))
  obtain ⟨x0, hx0⟩ : ∃ x, N (BitVec.ofInt 64 t.depth ||| t.pre * 256#64) = x := ⟨_, rfl⟩
  obtain ⟨x1, hx1⟩ : ∃ x, N (BitVec.ofInt 64 t.can) = x := ⟨_, rfl⟩
  obtain ⟨x2, hx2⟩ : ∃ x, N (BitVec.ofInt 64 t.live) = x := ⟨_, rfl⟩
  rw [hx0, hx1, hx2]
  clear hx0 hx1 hx2
  obtain ⟨W0, hW0⟩ : ∃ W0, w1.alloc (.cells #[U t.count, .int .u64 x0, .int .u64 x1, .int .u64 x2] 22) = W0 := ⟨_, rfl⟩
  have hsz := hc1.size
  simp only [World.size_alloc] at hsz
  have hC0 : Ch [] w W0 := by rw [← hW0]; exact (((Ch.refl [] w).alloc _).trans hc1).alloc _
  have b0 : W0.heap[w.heap.size]? = some (.cells (tcells t) 26 (0, 0)) := by rw [← hW0, heap_alloc, if_neg (by omega)]; exact hb1
  have b1 : W0.heap[w1.heap.size]? = some (.cells #[U t.count, .int .u64 x0, .int .u64 x1, .int .u64 x2] 22 (0, 0)) := by rw [← hW0]; simp [go_sem]
  have hn : w.heap.size < W0.heap.size ∧ w1.heap.size < W0.heap.size := by rw [← hW0]; simp; omega
  rw [hW0]
  clear hW0 hb1 hc1
  refine wp_region_gar_tail 7 (by kernel_rfl) (by kernel_rfl) ?_
  simp only [List.take_succ_cons, List.take_zero, List.drop_succ_cons, List.drop_zero]
  repeat (go_big_quiet_step (fail))
  refine wpQuiet_nil ?_
  rintro w2 ⟨g1, hw1⟩
  have hc1 : Ch [] W0 w2 := by rw [hw1]; exact g1.2
  clear hw1 g1
  have hz2 := hc1.size
  have d0 := (hc1.block _ hn.1 (by simp)).trans b0
  have d1 := (hc1.block _ hn.2 (by simp)).trans b1
  clear b0 b1
  go_wp2_with fail
  refine (concat4 w2.heap.size 4 2 16 16 w1.heap.size w.heap.size w.heap.size w.heap.size 0 5 7 23 ((#[U t.count, .int .u64 x0, .int .u64 x1, .int .u64 x2] : Array Value).extract 0 (0 + 4)).toList ((tcells t).extract 5 (5 + 2)).toList ((tcells t).extract 7 (7 + 16)).toList ((tcells t).extract 23 (23 + 16)).toList _ (by rw [heap_alloc, if_pos rfl])
         (part_len _ _ _ (by simp)) (part_len _ _ _ (by rw [tcells_size]; omega)) (part_len _ _ _ (by rw [tcells_size]; omega)) (part_len _ _ _ (by rw [tcells_size]; omega))
         ((rowAt_part d1 (by simp [allOne, Value.oneCell'])).ch ((Ch.refl [] w2).alloc _)) ((rowAt_part d0 (tcells_one t)).ch ((Ch.refl [] w2).alloc _)) ((rowAt_part d0 (tcells_one t)).ch ((Ch.refl [] w2).alloc _)) ((rowAt_part d0 (tcells_one t)).ch ((Ch.refl [] w2).alloc _))).mono ?_
  rintro e w3 ⟨v, rfl, hown, hc3⟩
  have hob := own_block hown
  have P1 := padded38 _ v _ w3 hown
  clear hown
  go_wp2_with (go_at_call 142; refine P1.mono ?_; rintro e w4 ⟨v', rfl, hc4⟩)
  go_ret2
  refine ⟨v', rfl, ?_⟩
  have hC3 : Ch [] w w3 := ((hC0.trans hc1).alloc _).trans hc3
  simp only [World.size_alloc] at hob
  exact hC3.trans2 hc4 (fun s hs => .inr (by have := hob s (by simpa using hs); omega))
end Go.Proofs.Hc
/- Package table: a key's byte, whether it goes, and its row of groups. -/
namespace Go.Proofs.Hc
open Go.RowKit
attribute [local go_sem] wrap_u64 wrap_u8 bits_xor64 bits_and64 bits_or64 bits_not64 bits_xor8 bits_and8 bits_or8 signed64 signed8 ofInt_N BitVec.ofInt_add BitVec.ofInt_mul ofInt_sub' ofInt8_N64 ofInt64_N8 wide8 eqN neN shr_pow shr1 shr7 shr56
attribute [local go_sem high] bits_com64 shl_wrap
attribute [local go_sem] cell_heap ice_heap cellAt_cells iceAt_cells setAt_cells rowAt_cells canLay_cells laidAt_cells size_onObj size_setCell rowRes_some layRes_true
attribute [local go_sem] load26 load73 load23 store26 build73
attribute [local go_sem ↓] lrow26 lrow73 lrow23 srow26 zero26 brow73 heap_alloc heap_drew heap_drewN heap_setCell heap_onObj
attribute [local go_sem] tcells_size hcells_size tcells_get hcells_get tcells_one hcells_one hcells_table tcells_table hcells_all hcells_ctrl tcells_ctrl
attribute [local go_sem] nn2 nm2 nn3 nm3 nn4 nm4 nn5 nm5 nn6 nm6 nn7 nm7 nn8 nm8
attribute [local go_sem] nn2 nm2 nn3 nm3 nn4 nm4 nn5 nm5 nn6 nm6 nn7 nm7 nn8 nm8
attribute [local go_sem] make_func1
attribute [local go_sem] box26 tcells_idx cell0 cell1 cell2 cell3 cell4

theorem hcells_idx (t : Tab) (s : BitVec 64) (i : Nat) (h : i < (hcells t s).size) : (hcells t s)[i] = if i = 39 then U s else t.cell i := by simp [hcells]
theorem hcells_pop (t : Tab) (s : BitVec 64) : (hcells t s).pop = tcells t := by
  rw [← hcells_table t s, Array.extract_eq_pop (by rw [hcells_size])]
attribute [local go_sem] hcells_idx hcells_pop
/-- The block of a table in hand. -/
def HandAt (w : World) (b : Nat) (t : Tab) (s : BitVec 64) : Prop := w.heap[b]? = some (.cells (hcells t s) 73 (0, 0))
theorem h2_any (b : Nat) (t : Tab) (s k : BitVec 64) (w : World) (hb : w.heap[b]? = some (.cells (hcells t s) 73 (0, 0))) :
    Calls Tryz.prog 98 #[.pointer (some ⟨b, 0, none⟩), U k] w fun e w' => e = .returned (Y (hash2 (hashOf s k))) ∧ w = w' := by
  have H1 := fun w => hashOf_any s k w
  generalize hashOf s k = h at *
  have H2 := fun w => hash2_any h w
  generalize hash2 h = h2 at *
  go_enter Tryz.func98, Tryz.ntmps98
  go_wp2_with (first
    | (go_at_call 82; refine (H1 _).mono ?_; rintro e w' ⟨rfl, rfl⟩)
    | (go_at_call 133; refine (H2 _).mono ?_; rintro e w' ⟨rfl, rfl⟩))
  go_ret
  exact ⟨rfl, rfl⟩
set_option maxRecDepth 100000 in
theorem goes_any (b : Nat) (t : Tab) (s k : BitVec 64) (w : World) (hb : w.heap[b]? = some (.cells (hcells t s) 73 (0, 0))) :
    Calls Tryz.prog 46 #[.pointer (some ⟨b, 0, none⟩), U k] w fun e w' => e = .returned (.bool (hasT t (hashOf s k))) ∧ Ch [] w w' := by
  have H1 := fun w => hashOf_any s k w
  generalize hashOf s k = h at *
  have H2 := fun w => has_any t h w
  generalize hasT t h = r at *
  have hl := (Array.getElem?_eq_some_iff.1 hb).1
  have hg : ∀ g : Gar w, (g.1).heap[b]? = some (.cells (hcells t s) 73 (0, 0)) := fun g => (g.2.block b hl (by simp)).trans hb
  clear hl hb
  go_enter Tryz.func46, Tryz.ntmps46
  go_wp2
  refine wp_region_gar (by kernel_rfl) (by kernel_rfl) ?_
  repeat (go_big_quiet_step ((first | (go_at_call 82; exact garL (H1 _)) | (go_at_call 81; exact garC (H2 _)))))
  refine wpQuiet_nil ?_
  rintro w1 ⟨g1, hw1⟩
  have hc1 : Ch [] w w1 := by rw [hw1]; exact g1.2
  clear hw1 g1 hg
  go_wp2
  go_ret
  exact ⟨rfl, hc1⟩
theorem row_make (b : Nat) (k : BitVec 64) (w : World) :
    Calls Tryz.prog 93 #[.pointer (some ⟨b, 0, none⟩), U k] w fun e w' => e = .returned (.func (.func 122) #[] #[.pointer (some ⟨w.heap.size, 0, none⟩), .pointer (some ⟨w.heap.size + 1, 0, none⟩)]) ∧
      w' = (w.alloc (.cells #[.pointer (some ⟨b, 0, none⟩)] 70)).alloc (.cells #[U k] 22) := by
  go_enter Tryz.func93, Tryz.ntmps93
  go_wp2
  go_ret
  exact ⟨rfl, rfl⟩
theorem slots_make (b : Nat) (w : World) :
    Calls Tryz.prog 79 #[.pointer (some ⟨b, 0, none⟩)] w fun e w' => e = .returned (.func (.func 114) #[] #[.pointer (some ⟨w.heap.size, 0, none⟩)]) ∧
      w' = w.alloc (.cells #[.pointer (some ⟨b, 0, none⟩)] 70) := by
  go_enter Tryz.func79, Tryz.ntmps79
  go_wp2
  go_ret
  exact ⟨rfl, rfl⟩
end Go.Proofs.Hc
