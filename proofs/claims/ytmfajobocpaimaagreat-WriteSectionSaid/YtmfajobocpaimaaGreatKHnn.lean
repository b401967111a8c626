/- Package write: the accesses, one by one. -/
import Derived.Test.YtmfajobocpaimaaGreatKHmet
import Derived.Test.YtmfajobocpaimaaGreatKHcc
import Derived.Test.YtmfajobocpaimaaGreatKHcs
import Derived.Test.YtmfajobocpaimaaGreatKHj
import Derived.Test.YtmfajobocpaimaaGreatKHm
import Derived.Test.YtmfajobocpaimaaGreatKHma
import Derived.Test.YtmfajobocpaimaaGreatKHnk
import Derived.Test.YtmfajobocpaimaaGreatKHnl
import Derived.Test.YtmfajobocpaimaaGreatKHnv
import Derived.Test.YtmfajobocpaimaaGreatKHni
import Derived.Test.YtmfajobocpaimaaGreatKHxh
import Derived.Below
import Derived.BigQuiet
import Derived.Deep.Draws
import Derived.Deep.Light
import Derived.Deep.QuietTactic
import Derived.Deep.RegionHeld
import Derived.Laws.CopyRow
import Derived.Laws.StructEq
import Derived.Laws.Tables
import Derived.Lib.AppendZerosOnto
import Derived.Lib.Hide
import Derived.Lib.Tables
import Derived.Lib.Walk
import Derived.LoopIn
import Derived.LoopN
import Derived.LoopNIn
import Derived.Maps.AppendAt
import Derived.Maps.Views
import Derived.OwnWalkIn
import Derived.RangeFuncBox
import Derived.RangeFuncCalls
import Derived.RangeFuncRecord
import Derived.RangeFuncSeq
import Derived.Recover
import Derived.RegionTactic
import Derived.ScopeJumps
import Derived.Shelf.Slices.Clone
import Derived.StillTail
import Derived.StillTailTactics
import Derived.TacticsInMore
import Derived.Test.YtmfajobocpaimaaGreatProg
import Derived.WalkKit
import Derived.WalkLawsBesides
import Derived.WalkMore
import Derived.WalkSpells
set_option linter.unusedSimpArgs false
set_option linter.unusedVariables false
namespace Go.Proofs.Hc
open Go.RowKit
attribute [local go_sem] wrap_u64 wrap_u8 bits_xor64 bits_and64 bits_or64 bits_not64 bits_xor8 bits_and8 bits_or8 signed64 signed8 ofInt_N BitVec.ofInt_add BitVec.ofInt_mul ofInt_sub' ofInt8_N64 ofInt64_N8 wide8 eqN neN shr_pow shr1 shr7 shr56
attribute [local go_sem high] bits_com64 shl_wrap
attribute [local go_sem] cell_heap ice_heap cellAt_cells iceAt_cells setAt_cells rowAt_cells canLay_cells laidAt_cells size_onObj size_setCell rowRes_some layRes_true
attribute [local go_sem] load26 load73 load23 store26 build73
attribute [local go_sem ↓] lrow26 lrow73 lrow23 srow26 zero26 brow73 heap_alloc heap_drew heap_drewN heap_setCell heap_onObj
attribute [local go_sem] tcells_size hcells_size tcells_get hcells_get tcells_one hcells_one hcells_table tcells_table hcells_all hcells_ctrl tcells_ctrl
attribute [local go_sem] nn2 nm2 nn3 nm3 nn4 nm4 nn5 nm5 nn6 nm6 nn7 nm7 nn8 nm8
attribute [local go_sem] nn2 nm2 nn3 nm3 nn4 nm4 nn5 nm5 nn6 nm6 nn7 nm7 nn8 nm8
attribute [local go_sem] ofInt_N ofInt_pow8
attribute [local go_sem] Oper.semAt_some make_func1
attribute [local go_sem] pen_g0 pen_g1 pen_g2 pen_g3 pen_g4 pen_g5 pen_g6 pen_g7 pen_g8 pen_g9 pen_g10 pen_g11 pen_g12 pen_g13 pen_g14 pen_g15 pen_g16 pen_g17 penC_size penC_one penC_all
attribute [local irreducible] penC
attribute [local go_sem] acc_g0 acc_g1 acc_g2 acc_g4 acc_s0 acc_s1 acc_s2 acc_s4 accC_size accC_one accC_all loadAcc storeAcc bacc0 bacc2 bacc3 bacc3u bacc4
attribute [local go_sem ↓] lrowAcc srowAcc browAcc zeroAcc_run
attribute [local go_sem high] laidAt_acc
attribute [local irreducible] accC
set_option maxRecDepth 100000 in
theorem wload_any (n : Int) (w : World) : Calls Tryz.prog 230 #[I n] w fun e w' => e = .returned (.agg (accC 0 1 n 0)) ∧ Ch [] w w' := by
  go_enter Tryz.func230, Tryz.ntmps230
  go_wp2
  refine bodyPost_ret (acc_result Tryz.results230 _ w.heap.size _ 0 1 n 0 rfl ?_) rfl ⟨rfl, ?_⟩
  · simp [go_sem]
  · exact ((Ch.refl [] w).alloc _).onObj (p := w.heap.size) (.inr (Nat.le_refl _)) _
set_option maxRecDepth 100000 in
theorem wstore_any (n x : Int) (w : World) : Calls Tryz.prog 231 #[I n, .int .u64 x] w fun e w' => e = .returned (.agg (accC 0 2 n x)) ∧ Ch [] w w' := by
  go_enter Tryz.func231, Tryz.ntmps231
  go_wp2
  refine bodyPost_ret (acc_result Tryz.results231 _ w.heap.size _ 0 2 n x rfl ?_) rfl ⟨rfl, ?_⟩
  · simp [go_sem]
  · exact ((Ch.refl [] w).alloc _).onObj (p := w.heap.size) (.inr (Nat.le_refl _)) _
set_option maxHeartbeats 1000000 in
set_option maxRecDepth 100000 in
theorem wa_count (p : PenT)  (g : Nat) (w : World) (hg : w.heap[g]? = some (.cells (penC p) 170 (0, 0))) : Calls Tryz.prog 171 #[.pointer (some ⟨g, 0, none⟩)] w fun e w' => e = .returned (.agg (accC 0 1 0 0)) ∧ Ch [] w w' := by
  have C0 : Ch [] w (w.alloc (.cells (accC 0 0 0 0) 96)) := (Ch.refl [] w).alloc _
  have b0 := hkeep C0 hg
  have z0 : (w.alloc (.cells (accC 0 0 0 0) 96)).heap[w.heap.size]? = some (.cells (accC 0 0 0 0) 96 (0, 0)) := by rw [heap_alloc, if_pos rfl]
  have hgn : ¬ g = w.heap.size := by have := (Array.getElem?_eq_some_iff.1 hg).1; omega
  go_enter Tryz.func171, Tryz.ntmps171
  go_wp2_with fail
  clear hg
  generalize w.alloc (.cells (accC 0 0 0 0) 96) = W0 at *
  refine (wload_any _ _).mono ?_
  rintro e W1 ⟨rfl, hc1⟩
  have z1 := hkeep hc1 z0
  have C1 := C0.trans hc1
  go_wp2
  refine bodyPost_ret (acc_result Tryz.results171 _ w.heap.size _ 0 1 0 0 rfl ?_) rfl ⟨rfl, ?_⟩
  · simp [go_sem, z1]
  · exact C1.onObj (p := w.heap.size) (.inr (Nat.le_refl _)) _
set_option maxHeartbeats 1000000 in
set_option maxRecDepth 100000 in
theorem wa_ctrl (p : PenT) (hgr : p.grp = 0 ∨ p.grp = 1) (g : Nat) (w : World) (hg : w.heap[g]? = some (.cells (penC p) 170 (0, 0))) : Calls Tryz.prog 172 #[.pointer (some ⟨g, 0, none⟩)] w fun e w' => e = .returned (.agg (accC 0 1 (4 + (groupP p : Int)) 0)) ∧ Ch [] w w' := by
  have G1 := fun w hg => wGroup_any p hgr g w hg
  have hg2 : (groupP p : Int) < 2 := by have := groupP_lt p; omega
  generalize groupP p = gp at *
  have C0 : Ch [] w (w.alloc (.cells (accC 0 0 0 0) 96)) := (Ch.refl [] w).alloc _
  have b0 := hkeep C0 hg
  have z0 : (w.alloc (.cells (accC 0 0 0 0) 96)).heap[w.heap.size]? = some (.cells (accC 0 0 0 0) 96 (0, 0)) := by rw [heap_alloc, if_pos rfl]
  have hgn : ¬ g = w.heap.size := by have := (Array.getElem?_eq_some_iff.1 hg).1; omega
  go_enter Tryz.func172, Tryz.ntmps172
  go_wp2_with fail
  clear hg
  generalize w.alloc (.cells (accC 0 0 0 0) 96) = W0 at *
  refine (G1 _ b0).mono ?_
  rintro e W1 ⟨rfl, hc1⟩
  have z1 := hkeep hc1 z0
  have b1 := hkeep hc1 b0
  have C1 := C0.trans hc1
  clear z0 b0 C0 hc1
  go_wp2_with fail
  refine (wload_any _ _).mono ?_
  rintro e W2 ⟨rfl, hc2⟩
  have z2 := hkeep hc2 z1
  have C2 := C1.trans hc2
  go_wp2
  refine bodyPost_ret (acc_result Tryz.results172 _ w.heap.size _ 0 1 (4 + (gp : Int)) 0 rfl ?_) rfl ⟨rfl, ?_⟩
  · simp [go_sem, z2]
  · exact C2.onObj (p := w.heap.size) (.inr (Nat.le_refl _)) _
set_option maxHeartbeats 1000000 in
set_option maxRecDepth 100000 in
theorem wa_key (p : PenT) (hgr : p.grp = 0 ∨ p.grp = 1) (g : Nat) (w : World) (hg : w.heap[g]? = some (.cells (penC p) 170 (0, 0))) : Calls Tryz.prog 173 #[.pointer (some ⟨g, 0, none⟩)] w fun e w' => e = .returned (.agg (accC 0 1 (6 + 8 * (groupP p : Int) + (laneP p.left : Int)) 0)) ∧ Ch [] w w' := by
  have G1 := fun w hg => wGroup_any p hgr g w hg
  have hg2 : (groupP p : Int) < 2 := by have := groupP_lt p; omega
  have L1 := fun w hg => wLane_any p g w hg
  have hl8 : (laneP p.left : Int) < 8 := by have := laneP_lt p.left; omega
  generalize groupP p = gp at *
  generalize laneP p.left = l at *
  have C0 : Ch [] w (w.alloc (.cells (accC 0 0 0 0) 96)) := (Ch.refl [] w).alloc _
  have b0 := hkeep C0 hg
  have z0 : (w.alloc (.cells (accC 0 0 0 0) 96)).heap[w.heap.size]? = some (.cells (accC 0 0 0 0) 96 (0, 0)) := by rw [heap_alloc, if_pos rfl]
  have hgn : ¬ g = w.heap.size := by have := (Array.getElem?_eq_some_iff.1 hg).1; omega
  go_enter Tryz.func173, Tryz.ntmps173
  go_wp2_with fail
  clear hg
  generalize w.alloc (.cells (accC 0 0 0 0) 96) = W0 at *
  refine (G1 _ b0).mono ?_
  rintro e W1 ⟨rfl, hc1⟩
  have z1 := hkeep hc1 z0
  have b1 := hkeep hc1 b0
  have C1 := C0.trans hc1
  clear z0 b0 C0 hc1
  go_wp2_with fail
  refine (L1 _ b1).mono ?_
  rintro e W2 ⟨rfl, hc2⟩
  have z2 := hkeep hc2 z1
  have b2 := hkeep hc2 b1
  have C2 := C1.trans hc2
  clear z1 b1 C1 hc2
  go_wp2_with fail
  refine (wload_any _ _).mono ?_
  rintro e W3 ⟨rfl, hc3⟩
  have z3 := hkeep hc3 z2
  have C3 := C2.trans hc3
  go_wp2
  refine bodyPost_ret (acc_result Tryz.results173 _ w.heap.size _ 0 1 (6 + 8 * (gp : Int) + (l : Int)) 0 rfl ?_) rfl ⟨rfl, ?_⟩
  · simp [go_sem, z3]
  · exact C3.onObj (p := w.heap.size) (.inr (Nat.le_refl _)) _
set_option maxHeartbeats 1000000 in
set_option maxRecDepth 100000 in
theorem wa_look (p : PenT) (h0 : 0 ≤ p.slot) (h1 : p.slot ≤ 15) (g : Nat) (w : World) (hg : w.heap[g]? = some (.cells (penC p) 170 (0, 0))) : Calls Tryz.prog 174 #[.pointer (some ⟨g, 0, none⟩)] w fun e w' => e = .returned (.agg (accC 0 1 (22 + p.slot) 0)) ∧ Ch [] w w' := by
  have C0 : Ch [] w (w.alloc (.cells (accC 0 0 0 0) 96)) := (Ch.refl [] w).alloc _
  have b0 := hkeep C0 hg
  have z0 : (w.alloc (.cells (accC 0 0 0 0) 96)).heap[w.heap.size]? = some (.cells (accC 0 0 0 0) 96 (0, 0)) := by rw [heap_alloc, if_pos rfl]
  have hgn : ¬ g = w.heap.size := by have := (Array.getElem?_eq_some_iff.1 hg).1; omega
  go_enter Tryz.func174, Tryz.ntmps174
  go_wp2_with fail
  clear hg
  generalize w.alloc (.cells (accC 0 0 0 0) 96) = W0 at *
  refine (wload_any _ _).mono ?_
  rintro e W1 ⟨rfl, hc1⟩
  have z1 := hkeep hc1 z0
  have C1 := C0.trans hc1
  go_wp2
  refine bodyPost_ret (acc_result Tryz.results174 _ w.heap.size _ 0 1 (22 + p.slot) 0 rfl ?_) rfl ⟨rfl, ?_⟩
  · simp [go_sem, z1]
  · exact C1.onObj (p := w.heap.size) (.inr (Nat.le_refl _)) _
set_option maxHeartbeats 1000000 in
set_option maxRecDepth 100000 in
theorem wa_can (p : PenT)  (g : Nat) (w : World) (hg : w.heap[g]? = some (.cells (penC p) 170 (0, 0))) : Calls Tryz.prog 175 #[.pointer (some ⟨g, 0, none⟩)] w fun e w' => e = .returned (.agg (accC 0 1 2 0)) ∧ Ch [] w w' := by
  have C0 : Ch [] w (w.alloc (.cells (accC 0 0 0 0) 96)) := (Ch.refl [] w).alloc _
  have b0 := hkeep C0 hg
  have z0 : (w.alloc (.cells (accC 0 0 0 0) 96)).heap[w.heap.size]? = some (.cells (accC 0 0 0 0) 96 (0, 0)) := by rw [heap_alloc, if_pos rfl]
  have hgn : ¬ g = w.heap.size := by have := (Array.getElem?_eq_some_iff.1 hg).1; omega
  go_enter Tryz.func175, Tryz.ntmps175
  go_wp2_with fail
  clear hg
  generalize w.alloc (.cells (accC 0 0 0 0) 96) = W0 at *
  refine (wload_any _ _).mono ?_
  rintro e W1 ⟨rfl, hc1⟩
  have z1 := hkeep hc1 z0
  have C1 := C0.trans hc1
  go_wp2
  refine bodyPost_ret (acc_result Tryz.results175 _ w.heap.size _ 0 1 2 0 rfl ?_) rfl ⟨rfl, ?_⟩
  · simp [go_sem, z1]
  · exact C1.onObj (p := w.heap.size) (.inr (Nat.le_refl _)) _
set_option maxHeartbeats 1000000 in
set_option maxRecDepth 100000 in
theorem wa_live (p : PenT)  (g : Nat) (w : World) (hg : w.heap[g]? = some (.cells (penC p) 170 (0, 0))) : Calls Tryz.prog 176 #[.pointer (some ⟨g, 0, none⟩)] w fun e w' => e = .returned (.agg (accC 0 1 3 0)) ∧ Ch [] w w' := by
  have C0 : Ch [] w (w.alloc (.cells (accC 0 0 0 0) 96)) := (Ch.refl [] w).alloc _
  have b0 := hkeep C0 hg
  have z0 : (w.alloc (.cells (accC 0 0 0 0) 96)).heap[w.heap.size]? = some (.cells (accC 0 0 0 0) 96 (0, 0)) := by rw [heap_alloc, if_pos rfl]
  have hgn : ¬ g = w.heap.size := by have := (Array.getElem?_eq_some_iff.1 hg).1; omega
  go_enter Tryz.func176, Tryz.ntmps176
  go_wp2_with fail
  clear hg
  generalize w.alloc (.cells (accC 0 0 0 0) 96) = W0 at *
  refine (wload_any _ _).mono ?_
  rintro e W1 ⟨rfl, hc1⟩
  have z1 := hkeep hc1 z0
  have C1 := C0.trans hc1
  go_wp2
  refine bodyPost_ret (acc_result Tryz.results176 _ w.heap.size _ 0 1 3 0 rfl ?_) rfl ⟨rfl, ?_⟩
  · simp [go_sem, z1]
  · exact C1.onObj (p := w.heap.size) (.inr (Nat.le_refl _)) _
set_option maxHeartbeats 1000000 in
set_option maxRecDepth 100000 in
theorem wa_open (p : PenT)  (g : Nat) (w : World) (hg : w.heap[g]? = some (.cells (penC p) 170 (0, 0))) : Calls Tryz.prog 177 #[.pointer (some ⟨g, 0, none⟩)] w fun e w' => e = .returned (.agg (accC 0 2 0 (N (p.count + 1#64)))) ∧ Ch [] w w' := by
  have C0 : Ch [] w (w.alloc (.cells (accC 0 0 0 0) 96)) := (Ch.refl [] w).alloc _
  have b0 := hkeep C0 hg
  have z0 : (w.alloc (.cells (accC 0 0 0 0) 96)).heap[w.heap.size]? = some (.cells (accC 0 0 0 0) 96 (0, 0)) := by rw [heap_alloc, if_pos rfl]
  have hgn : ¬ g = w.heap.size := by have := (Array.getElem?_eq_some_iff.1 hg).1; omega
  go_enter Tryz.func177, Tryz.ntmps177
  go_wp2_with fail
  clear hg
  generalize w.alloc (.cells (accC 0 0 0 0) 96) = W0 at *
  refine (wstore_any _ _ _).mono ?_
  rintro e W1 ⟨rfl, hc1⟩
  have z1 := hkeep hc1 z0
  have C1 := C0.trans hc1
  go_wp2
  refine bodyPost_ret (acc_result Tryz.results177 _ w.heap.size _ 0 2 0 (N (p.count + 1#64)) rfl ?_) rfl ⟨rfl, ?_⟩
  · simp [go_sem, z1]
  · exact C1.onObj (p := w.heap.size) (.inr (Nat.le_refl _)) _
set_option maxHeartbeats 1000000 in
set_option maxRecDepth 100000 in
theorem wa_puts (p : PenT) (hf0 : 0 ≤ p.free) (hf1 : p.free ≤ 16) (hs0 : 0 ≤ slotP p) (hs15 : slotP p ≤ 15) (g : Nat) (w : World) (hg : w.heap[g]? = some (.cells (penC p) 170 (0, 0))) : Calls Tryz.prog 178 #[.pointer (some ⟨g, 0, none⟩)] w fun e w' => e = .returned (.agg (accC 0 2 (6 + (slotP p)) (N p.key))) ∧ Ch [] w w' := by
  have S1 := fun w hg => wSlot_any p hf0 hf1 g w hg
  generalize slotP p = s at *
  have C0 : Ch [] w (w.alloc (.cells (accC 0 0 0 0) 96)) := (Ch.refl [] w).alloc _
  have b0 := hkeep C0 hg
  have z0 : (w.alloc (.cells (accC 0 0 0 0) 96)).heap[w.heap.size]? = some (.cells (accC 0 0 0 0) 96 (0, 0)) := by rw [heap_alloc, if_pos rfl]
  have hgn : ¬ g = w.heap.size := by have := (Array.getElem?_eq_some_iff.1 hg).1; omega
  go_enter Tryz.func178, Tryz.ntmps178
  go_wp2_with fail
  clear hg
  generalize w.alloc (.cells (accC 0 0 0 0) 96) = W0 at *
  have hgg : ∀ g1 : Gar W0, (g1.1).heap[g]? = some (.cells (penC p) 170 (0, 0)) := fun g1 => hkeep g1.2 b0
  refine wp_region_gar_tail 9 (by kernel_rfl) (by kernel_rfl) ?_
  simp only [List.take_succ_cons, List.take_zero, List.drop_succ_cons, List.drop_zero]
  repeat (go_big_quiet_step (exact garC (S1 _ (hgg _))))
  refine wpQuiet_nil ?_
  rintro W1 ⟨g1, hw1⟩
  have hc1 : Ch [] W0 W1 := by rw [hw1]; exact g1.2
  have z1 := hkeep hc1 z0
  have C1 := C0.trans hc1
  clear hw1 g1 hgg b0 z0 hc1 C0
  go_wp2_with fail
  refine (wstore_any _ _ _).mono ?_
  rintro e W2 ⟨rfl, hc2⟩
  have z2 := hkeep hc2 z1
  have C2 := C1.trans hc2
  go_wp2
  refine bodyPost_ret (acc_result Tryz.results178 _ w.heap.size _ 0 2 (6 + s) (N p.key) rfl ?_) rfl ⟨rfl, ?_⟩
  · simp [go_sem, z2]
  · exact C2.onObj (p := w.heap.size) (.inr (Nat.le_refl _)) _
set_option maxHeartbeats 1000000 in
set_option maxRecDepth 100000 in
theorem wa_sets (p : PenT) (hf0 : 0 ≤ p.free) (hf1 : p.free ≤ 16) (hs0 : 0 ≤ slotP p) (hs15 : slotP p ≤ 15) (g : Nat) (w : World) (hg : w.heap[g]? = some (.cells (penC p) 170 (0, 0))) : Calls Tryz.prog 179 #[.pointer (some ⟨g, 0, none⟩)] w fun e w' => e = .returned (.agg (accC 0 2 (22 + (slotP p)) (N (valP p)))) ∧ Ch [] w w' := by
  have S1 := fun w hg => wSlot_any p hf0 hf1 g w hg
  have V1 := fun w hg => wValue_any p g w hg
  generalize slotP p = s at *
  generalize valP p = v at *
  have C0 : Ch [] w (w.alloc (.cells (accC 0 0 0 0) 96)) := (Ch.refl [] w).alloc _
  have b0 := hkeep C0 hg
  have z0 : (w.alloc (.cells (accC 0 0 0 0) 96)).heap[w.heap.size]? = some (.cells (accC 0 0 0 0) 96 (0, 0)) := by rw [heap_alloc, if_pos rfl]
  have hgn : ¬ g = w.heap.size := by have := (Array.getElem?_eq_some_iff.1 hg).1; omega
  go_enter Tryz.func179, Tryz.ntmps179
  go_wp2_with fail
  clear hg
  generalize w.alloc (.cells (accC 0 0 0 0) 96) = W0 at *
  refine (S1 _ b0).mono ?_
  rintro e W1 ⟨rfl, hc1⟩
  have z1 := hkeep hc1 z0
  have b1 := hkeep hc1 b0
  have C1 := C0.trans hc1
  clear z0 b0 C0 hc1
  go_wp2_with fail
  refine (V1 _ b1).mono ?_
  rintro e w' ⟨rfl, rfl⟩
  go_wp2_with fail
  refine (wstore_any _ _ _).mono ?_
  rintro e W2 ⟨rfl, hc2⟩
  have z2 := hkeep hc2 z1
  have C2 := C1.trans hc2
  go_wp2
  refine bodyPost_ret (acc_result Tryz.results179 _ w.heap.size _ 0 2 (22 + s) (N v) rfl ?_) rfl ⟨rfl, ?_⟩
  · simp [go_sem, z2]
  · exact C2.onObj (p := w.heap.size) (.inr (Nat.le_refl _)) _
set_option maxHeartbeats 1000000 in
set_option maxRecDepth 100000 in
theorem wa_marks (p : PenT) (hf0 : 0 ≤ p.free) (hf1 : p.free ≤ 16) (hs0 : 0 ≤ slotP p) (hs15 : slotP p ≤ 15) (g : Nat) (w : World) (hg : w.heap[g]? = some (.cells (penC p) 170 (0, 0))) : Calls Tryz.prog 180 #[.pointer (some ⟨g, 0, none⟩)] w fun e w' => e = .returned (.agg (accC 0 2 (4 + (slotP p) / 8) (N (markP p)))) ∧ Ch [] w w' := by
  have S1 := fun w hg => wSlot_any p hf0 hf1 g w hg
  have M1 := fun w hg => wMark_any p hf0 hf1 hs0 hs15 g w hg
  generalize slotP p = s at *
  generalize markP p = v at *
  have C0 : Ch [] w (w.alloc (.cells (accC 0 0 0 0) 96)) := (Ch.refl [] w).alloc _
  have b0 := hkeep C0 hg
  have z0 : (w.alloc (.cells (accC 0 0 0 0) 96)).heap[w.heap.size]? = some (.cells (accC 0 0 0 0) 96 (0, 0)) := by rw [heap_alloc, if_pos rfl]
  have hgn : ¬ g = w.heap.size := by have := (Array.getElem?_eq_some_iff.1 hg).1; omega
  go_enter Tryz.func180, Tryz.ntmps180
  go_wp2_with fail
  clear hg
  generalize w.alloc (.cells (accC 0 0 0 0) 96) = W0 at *
  refine (S1 _ b0).mono ?_
  rintro e W1 ⟨rfl, hc1⟩
  have z1 := hkeep hc1 z0
  have b1 := hkeep hc1 b0
  have C1 := C0.trans hc1
  clear z0 b0 C0 hc1
  go_wp2_with fail
  refine (M1 _ b1).mono ?_
  rintro e W2 ⟨rfl, hc2⟩
  have z2 := hkeep hc2 z1
  have b2 := hkeep hc2 b1
  have C2 := C1.trans hc2
  clear z1 b1 C1 hc2
  go_wp2_with fail
  refine (wstore_any _ _ _).mono ?_
  rintro e W3 ⟨rfl, hc3⟩
  have z3 := hkeep hc3 z2
  have C3 := C2.trans hc3
  go_wp2
  refine bodyPost_ret (acc_result Tryz.results180 _ w.heap.size _ 0 2 (4 + s / 8) (N v) rfl ?_) rfl ⟨rfl, ?_⟩
  · simp [go_sem, z3]
  · exact C3.onObj (p := w.heap.size) (.inr (Nat.le_refl _)) _
set_option maxHeartbeats 1000000 in
set_option maxRecDepth 100000 in
theorem wa_lesser (p : PenT) (hf0 : 0 ≤ p.free) (hf1 : p.free ≤ 16) (hfr : wantsP p = 1 → 0 < p.free) (g : Nat) (w : World) (hg : w.heap[g]? = some (.cells (penC p) 170 (0, 0))) : Calls Tryz.prog 181 #[.pointer (some ⟨g, 0, none⟩)] w fun e w' => e = .returned (.agg (accC 0 2 2 (N (lessP p)))) ∧ Ch [] w w' := by
  have Q1 := fun w hg => wLess_any p hf0 hf1 hfr g w hg
  generalize lessP p = v at *
  have C0 : Ch [] w (w.alloc (.cells (accC 0 0 0 0) 96)) := (Ch.refl [] w).alloc _
  have b0 := hkeep C0 hg
  have z0 : (w.alloc (.cells (accC 0 0 0 0) 96)).heap[w.heap.size]? = some (.cells (accC 0 0 0 0) 96 (0, 0)) := by rw [heap_alloc, if_pos rfl]
  have hgn : ¬ g = w.heap.size := by have := (Array.getElem?_eq_some_iff.1 hg).1; omega
  go_enter Tryz.func181, Tryz.ntmps181
  go_wp2_with fail
  clear hg
  generalize w.alloc (.cells (accC 0 0 0 0) 96) = W0 at *
  refine (Q1 _ b0).mono ?_
  rintro e W1 ⟨rfl, hc1⟩
  have z1 := hkeep hc1 z0
  have b1 := hkeep hc1 b0
  have C1 := C0.trans hc1
  clear z0 b0 C0 hc1
  go_wp2_with fail
  refine (wstore_any _ _ _).mono ?_
  rintro e W2 ⟨rfl, hc2⟩
  have z2 := hkeep hc2 z1
  have C2 := C1.trans hc2
  go_wp2
  refine bodyPost_ret (acc_result Tryz.results181 _ w.heap.size _ 0 2 2 (N v) rfl ?_) rfl ⟨rfl, ?_⟩
  · simp [go_sem, z2]
  · exact C2.onObj (p := w.heap.size) (.inr (Nat.le_refl _)) _
set_option maxHeartbeats 1000000 in
set_option maxRecDepth 100000 in
theorem wa_more (p : PenT)  (g : Nat) (w : World) (hg : w.heap[g]? = some (.cells (penC p) 170 (0, 0))) : Calls Tryz.prog 182 #[.pointer (some ⟨g, 0, none⟩)] w fun e w' => e = .returned (.agg (accC 0 2 3 (N (p.live + (byP (wantsP p)))))) ∧ Ch [] w w' := by
  have B1 := fun w hg => wBy_any p g w hg
  generalize byP (wantsP p) = v at *
  have C0 : Ch [] w (w.alloc (.cells (accC 0 0 0 0) 96)) := (Ch.refl [] w).alloc _
  have b0 := hkeep C0 hg
  have z0 : (w.alloc (.cells (accC 0 0 0 0) 96)).heap[w.heap.size]? = some (.cells (accC 0 0 0 0) 96 (0, 0)) := by rw [heap_alloc, if_pos rfl]
  have hgn : ¬ g = w.heap.size := by have := (Array.getElem?_eq_some_iff.1 hg).1; omega
  go_enter Tryz.func182, Tryz.ntmps182
  go_wp2_with fail
  clear hg
  generalize w.alloc (.cells (accC 0 0 0 0) 96) = W0 at *
  have hgg : ∀ g1 : Gar W0, (g1.1).heap[g]? = some (.cells (penC p) 170 (0, 0)) := fun g1 => hkeep g1.2 b0
  refine wp_region_gar_tail 8 (by kernel_rfl) (by kernel_rfl) ?_
  simp only [List.take_succ_cons, List.take_zero, List.drop_succ_cons, List.drop_zero]
  repeat (go_big_quiet_step (exact garC (B1 _ (hgg _))))
  refine wpQuiet_nil ?_
  rintro W1 ⟨g1, hw1⟩
  have hc1 : Ch [] W0 W1 := by rw [hw1]; exact g1.2
  have z1 := hkeep hc1 z0
  have C1 := C0.trans hc1
  clear hw1 g1 hgg b0 z0 hc1 C0
  go_wp2_with fail
  refine (wstore_any _ _ _).mono ?_
  rintro e W2 ⟨rfl, hc2⟩
  have z2 := hkeep hc2 z1
  have C2 := C1.trans hc2
  go_wp2
  refine bodyPost_ret (acc_result Tryz.results182 _ w.heap.size _ 0 2 3 (N (p.live + v)) rfl ?_) rfl ⟨rfl, ?_⟩
  · simp [go_sem, z2]
  · exact C2.onObj (p := w.heap.size) (.inr (Nat.le_refl _)) _
set_option maxHeartbeats 1000000 in
set_option maxRecDepth 100000 in
theorem wa_size (p : PenT)  (g : Nat) (w : World) (hg : w.heap[g]? = some (.cells (penC p) 170 (0, 0))) : Calls Tryz.prog 183 #[.pointer (some ⟨g, 0, none⟩)] w fun e w' => e = .returned (.agg (accC 0 4 1 (N (byP (wantsP p))))) ∧ Ch [] w w' := by
  have B1 := fun w hg => wBy_any p g w hg
  generalize byP (wantsP p) = v at *
  have C0 : Ch [] w (w.alloc (.cells (accC 0 0 0 0) 96)) := (Ch.refl [] w).alloc _
  have b0 := hkeep C0 hg
  have z0 : (w.alloc (.cells (accC 0 0 0 0) 96)).heap[w.heap.size]? = some (.cells (accC 0 0 0 0) 96 (0, 0)) := by rw [heap_alloc, if_pos rfl]
  have hgn : ¬ g = w.heap.size := by have := (Array.getElem?_eq_some_iff.1 hg).1; omega
  go_enter Tryz.func183, Tryz.ntmps183
  go_wp2_with fail
  clear hg
  generalize w.alloc (.cells (accC 0 0 0 0) 96) = W0 at *
  refine (B1 _ b0).mono ?_
  rintro e W1 ⟨rfl, hc1⟩
  have z1 := hkeep hc1 z0
  have b1 := hkeep hc1 b0
  have C1 := C0.trans hc1
  clear z0 b0 C0 hc1
  go_wp2
  refine bodyPost_ret (acc_result Tryz.results183 _ w.heap.size _ 0 4 1 (N v) rfl ?_) rfl ⟨rfl, ?_⟩
  · simp [go_sem, z1]
  · exact C1.onObj (p := w.heap.size) (.inr (Nat.le_refl _)) _
set_option maxHeartbeats 1000000 in
set_option maxRecDepth 100000 in
theorem wa_close (p : PenT)  (g : Nat) (w : World) (hg : w.heap[g]? = some (.cells (penC p) 170 (0, 0))) : Calls Tryz.prog 184 #[.pointer (some ⟨g, 0, none⟩)] w fun e w' => e = .returned (.agg (accC 0 2 0 (N (p.count + 2#64)))) ∧ Ch [] w w' := by
  have C0 : Ch [] w (w.alloc (.cells (accC 0 0 0 0) 96)) := (Ch.refl [] w).alloc _
  have b0 := hkeep C0 hg
  have z0 : (w.alloc (.cells (accC 0 0 0 0) 96)).heap[w.heap.size]? = some (.cells (accC 0 0 0 0) 96 (0, 0)) := by rw [heap_alloc, if_pos rfl]
  have hgn : ¬ g = w.heap.size := by have := (Array.getElem?_eq_some_iff.1 hg).1; omega
  go_enter Tryz.func184, Tryz.ntmps184
  go_wp2_with fail
  clear hg
  generalize w.alloc (.cells (accC 0 0 0 0) 96) = W0 at *
  refine (wstore_any _ _ _).mono ?_
  rintro e W1 ⟨rfl, hc1⟩
  have z1 := hkeep hc1 z0
  have C1 := C0.trans hc1
  go_wp2
  refine bodyPost_ret (acc_result Tryz.results184 _ w.heap.size _ 0 2 0 (N (p.count + 2#64)) rfl ?_) rfl ⟨rfl, ?_⟩
  · simp [go_sem, z1]
  · exact C1.onObj (p := w.heap.size) (.inr (Nat.le_refl _)) _
end Go.Proofs.Hc
