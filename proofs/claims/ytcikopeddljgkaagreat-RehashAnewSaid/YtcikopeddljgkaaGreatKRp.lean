/- Package layout: Table. -/
import Derived.Test.YtcikopeddljgkaaGreatKHcb
import Derived.Test.YtcikopeddljgkaaGreatKSb
import Derived.Test.YtcikopeddljgkaaGreatKHdn
import Derived.Test.YtcikopeddljgkaaGreatKHma
import Derived.Test.YtcikopeddljgkaaGreatKHmet
import Derived.Test.YtcikopeddljgkaaGreatKHr
import Derived.Test.YtcikopeddljgkaaGreatKHtm
import Derived.Test.YtcikopeddljgkaaGreatKHtv
import Derived.Test.YtcikopeddljgkaaGreatKRb
import Derived.Test.YtcikopeddljgkaaGreatKRm
import Derived.Test.YtcikopeddljgkaaGreatKRo
import Derived.Below
import Derived.BigQuiet
import Derived.Deep.Draws
import Derived.Deep.Light
import Derived.Deep.OwnRows
import Derived.Deep.QuietTactic
import Derived.Deep.RegionHeld
import Derived.IntWalk
import Derived.Laws.CopyOwn
import Derived.Laws.CopyRow
import Derived.Laws.StructEq
import Derived.Laws.Tables
import Derived.Lib.AppendZerosOnto
import Derived.Lib.Hide
import Derived.Lib.Tables
import Derived.Lib.Walk
import Derived.LoopIn
import Derived.LoopN
import Derived.LoopNIn
import Derived.Maps.AppendAt
import Derived.Maps.Views
import Derived.OpenShut
import Derived.OwnWalkIn
import Derived.ProofKit
import Derived.RangeFuncBox
import Derived.RangeFuncCalls
import Derived.RangeFuncRecord
import Derived.RangeFuncSeq
import Derived.Recover
import Derived.RegionTactic
import Derived.ScopeJumps
import Derived.Shelf.Slices.Clone
import Derived.StillTail
import Derived.StillTailTactics
import Derived.TacticsInMore
import Derived.Test.YtcikopeddljgkaaGreatProg
import Derived.WalkKit
import Derived.WalkLawsBesides
import Derived.WalkMore
import Derived.WalkSpells
set_option linter.unusedSimpArgs false
set_option linter.unusedVariables false
namespace Go.Proofs.Hc
open Go.RowKit
attribute [local go_sem] wrap_u64 wrap_u8 bits_xor64 bits_and64 bits_or64 bits_not64 bits_xor8 bits_and8 bits_or8 signed64 signed8 ofInt_N BitVec.ofInt_add BitVec.ofInt_mul ofInt_sub' ofInt8_N64 ofInt64_N8 wide8 eqN neN shr_pow shr1 shr7 shr56
attribute [local go_sem high] bits_com64 shl_wrap
attribute [local go_sem] cell_heap ice_heap cellAt_cells iceAt_cells setAt_cells rowAt_cells canLay_cells laidAt_cells size_onObj size_setCell rowRes_some layRes_true
attribute [local go_sem] load26 load73 load23 store26 build73
attribute [local go_sem ↓] lrow26 lrow73 lrow23 srow26 zero26 brow73 heap_alloc heap_drew heap_drewN heap_setCell heap_onObj
attribute [local go_sem] tcells_size hcells_size tcells_get hcells_get tcells_one hcells_one hcells_table tcells_table hcells_all hcells_ctrl tcells_ctrl
attribute [local go_sem] nn2 nm2 nn3 nm3 nn4 nm4 nn5 nm5 nn6 nm6 nn7 nm7 nn8 nm8
attribute [local go_sem] loadA loadT2 storeA storeT2 buildA_ts buildA_sm assert_errno make_func acells_size t2cells_size acells_get t2cells_get acells_one t2cells_one acells_table acells_all t2cells_all t2cells_l t2cells_r
attribute [local go_sem ↓] lrowA lrowT2 srowA srowT2 browA zeroA_run zeroT2_run
attribute [local go_sem] nn2 nm2 nn3 nm3 nn4 nm4 nn5 nm5 nn6 nm6 nn7 nm7 nn8 nm8
attribute [local go_sem] Oper.semAt_some make_func1
attribute [local go_sem high] laidAt_t
attribute [local go_sem] build_zero
attribute [local go_sem ↓] brow26
/-- The table of words, or the error. -/
def readE (ws : Nat → BitVec 64) : Except Int Tab := if readOk ws then .ok (readTab ws) else .error 260
theorem readOk_parts {ws : Nat → BitVec 64} (h : readOk ws = true) : (ws 2).toNat ≤ 14 ∧ (ws 3).toNat ≤ 14 ∧ flatT (readTab ws) = true ∧ ws 38 = 0#64 ∧ ws 39 = 0#64 := by
  unfold readOk at h
  simp only [Bool.and_eq_true, decide_eq_true_eq, beq_iff_eq] at h
  exact ⟨h.1.1.1.1, h.1.1.1.2, h.1.1.2, h.1.2, h.2⟩
theorem enters_tbl1 (args : Array Value) (w : World) : (callFunc 105 args).run Tryz.prog w = .ok (.enter 105 args) w := Tryz.call105 args w
theorem tbl1_no (WB OB g o c : Nat) (cur : Array Value) (T : TypeId) (ws : Nat → BitVec 64) (hn : readOk ws = false) (hnc : 40 ≤ c) (hc : c ≤ 9223372036854775807) (w : World) (hW : w.heap[WB]? = some (.cells #[.slice (some ⟨g, o, none⟩) 40 c] 44 (0, 0))) (hO : w.heap[OB]? = some (.cells (tcells zeroT) 26 (0, 0))) (hg : w.heap[g]? = some (.cells cur T (0, 0))) (hw : AtW cur o ws) (hgo : ¬ g = OB) :
    Calls Tryz.prog 105 #[.pointer (some ⟨WB, 0, none⟩), .pointer (some ⟨OB, 0, none⟩)] w fun e w' => e = .panicked [{ v := .iface 244 (.agg #[]), recovered := false }] ∧ Ch [] w w' := by
  by_cases h2 : (ws 2).toNat ≤ 14
  · by_cases h3 : (ws 3).toNat ≤ 14
    · refine tbl1_rest WB OB g o c cur T ws h2 h3 ?_ hnc hc w hW hO hg hw hgo
      unfold readOk at hn
      rw [decide_eq_true h2, decide_eq_true h3, Bool.true_and, Bool.true_and] at hn
      exact hn
    · exact tbl1_num3 WB OB g o c cur T ws h2 (by omega) hnc hc w hW hO hg hw hgo
  · exact tbl1_num2 WB OB g o c cur T ws (by omega) hnc hc w hW hO hg hw hgo
set_option maxHeartbeats 1000000 in
set_option maxRecDepth 100000 in
theorem Table_err (a : Value) (w : World) (T1 : ∀ w1 : World, ∀ WB OB : Nat, Ch [] w w1 → w1.heap[WB]? = some (.cells #[a] 44 (0, 0)) → w1.heap[OB]? = some (.cells (tcells zeroT) 26 (0, 0)) → w.heap.size ≤ OB →
      Calls Tryz.prog 105 #[.pointer (some ⟨WB, 0, none⟩), .pointer (some ⟨OB, 0, none⟩)] w1 fun e w' => e = .panicked [{ v := .iface 244 (.agg #[]), recovered := false }] ∧ Ch [] w1 w') (ha : a.oneCell' = true) :
    Calls Tryz.prog 35 #[a] w fun e w' => e = .returned (.tuple #[.agg (tcells zeroT), I 260]) ∧ Ch [] w w' := by
  obtain ⟨W0, hW0⟩ : ∃ W, ((w.alloc (.cells #[a] 44)).alloc (.cells (tcells zeroT) 26)).alloc (.cells (tcells zeroT) 26) = W := ⟨_, rfl⟩
  have C0 : Ch [] w W0 := by rw [← hW0]; exact (((Ch.refl [] w).alloc _).alloc _).alloc _
  have a0 : W0.heap[w.heap.size]? = some (.cells #[a] 44 (0, 0)) := by rw [← hW0, heap_alloc, if_neg (by simp; omega), heap_alloc, if_neg (by simp), heap_alloc, if_pos rfl]
  have z0 : W0.heap[w.heap.size + 1]? = some (.cells (tcells zeroT) 26 (0, 0)) := by rw [← hW0, heap_alloc, if_neg (by simp), heap_alloc, if_pos (by simp)]
  have o0 : W0.heap[w.heap.size + 1 + 1]? = some (.cells (tcells zeroT) 26 (0, 0)) := by rw [← hW0, heap_alloc, if_pos (by simp)]
  have R1 := ltries_no 105 #[.pointer (some ⟨w.heap.size, 0, none⟩), .pointer (some ⟨w.heap.size + 1 + 1, 0, none⟩)] W0 enters_tbl1 (fun w1 c1 => T1 w1 _ _ (C0.trans c1) (hkeep c1 a0) (hkeep c1 o0) (by omega))
  go_enter Tryz.func35, Tryz.ntmps35
  go_wp2_with fail
  try rw [hW0]
  refine R1.mono ?_
  rintro e w1 ⟨rfl, hc1⟩
  have z1 := hkeep hc1 z0
  go_wp2
  refine bodyPost_ret (v := .tuple #[.agg (tcells zeroT), I 260]) (results_c0t Tryz.results35 _ _ _ rfl rfl (run_loadVar_row _ _ 26 26 (tcells zeroT) (0, 0) _ ?_ Tryz.underlying26 rfl (by rw [tcells_size]; kernel_rfl))) rfl ⟨rfl, ?_⟩
  · simp only [heap_onObj, if_true, z1, Option.map_some, laidAt_t]
  · exact (C0.trans hc1).onObj (.inr (by omega)) _
set_option maxHeartbeats 1000000 in
set_option maxRecDepth 100000 in
theorem Table_ok (g o c : Nat) (cur : Array Value) (T : TypeId) (ws : Nat → BitVec 64) (hok : readOk ws = true) (hnc : 40 ≤ c) (hc : c ≤ 9223372036854775807) (w : World) (hg : w.heap[g]? = some (.cells cur T (0, 0))) (hw : AtW cur o ws) :
    Calls Tryz.prog 35 #[.slice (some ⟨g, o, none⟩) 40 c] w fun e w' => e = .returned (.tuple #[.agg (tcells (readTab ws)), I 0]) ∧ Ch [] w w' := by
  obtain ⟨h2, h3, hf, h38, h39⟩ := readOk_parts hok
  obtain ⟨W0, hW0⟩ : ∃ W, ((w.alloc (.cells #[.slice (some ⟨g, o, none⟩) 40 c] 44)).alloc (.cells (tcells zeroT) 26)).alloc (.cells (tcells zeroT) 26) = W := ⟨_, rfl⟩
  have C0 : Ch [] w W0 := by rw [← hW0]; exact (((Ch.refl [] w).alloc _).alloc _).alloc _
  have a0 : W0.heap[w.heap.size]? = some (.cells #[.slice (some ⟨g, o, none⟩) 40 c] 44 (0, 0)) := by rw [← hW0, heap_alloc, if_neg (by simp; omega), heap_alloc, if_neg (by simp), heap_alloc, if_pos rfl]
  have z0 : W0.heap[w.heap.size + 1]? = some (.cells (tcells zeroT) 26 (0, 0)) := by rw [← hW0, heap_alloc, if_neg (by simp), heap_alloc, if_pos (by simp)]
  have o0 : W0.heap[w.heap.size + 1 + 1]? = some (.cells (tcells zeroT) 26 (0, 0)) := by rw [← hW0, heap_alloc, if_pos (by simp)]
  have hs0 : w.heap.size + 1 + 1 < W0.heap.size := (Array.getElem?_eq_some_iff.1 o0).1
  have hgl : g < w.heap.size := (Array.getElem?_eq_some_iff.1 hg).1
  have R1 := ltries_ok 105 #[.pointer (some ⟨w.heap.size, 0, none⟩), .pointer (some ⟨w.heap.size + 1 + 1, 0, none⟩)] (w.heap.size + 1 + 1) (.cells (tcells (readTab ws)) 26 (0, 0)) W0 hs0 enters_tbl1 (fun w1 c1 => tbl1_ok _ _ g o c cur T ws h2 h3 hf h38 h39 hnc hc w1 (hkeep c1 a0) (hkeep c1 o0) (hkeep (C0.trans c1) hg) hw (by omega))
  obtain ⟨tt, htt⟩ : ∃ t, readTab ws = t := ⟨_, rfl⟩
  rw [htt] at R1 ⊢
  clear htt hf hok hgl hs0 hg hw h2 h3 h38 h39
  go_enter Tryz.func35, Tryz.ntmps35
  go_wp2_with fail
  try rw [hW0]
  refine R1.mono ?_
  rintro e w1 ⟨rfl, hc1, o1⟩
  have z1 := (hc1.block (w.heap.size + 1) (Array.getElem?_eq_some_iff.1 z0).1 (by simp)).trans z0
  have C1 : Ch [] w w1 := C0.trans2 hc1 (by intro t ht; right; simp at ht; omega)
  go_wp2
  refine bodyPost_ret (v := .tuple #[.agg (tcells tt), I 0]) (results_c0t Tryz.results35 _ _ _ rfl rfl (run_loadVar_row _ _ 26 26 (tcells tt) (0, 0) _ ?_ Tryz.underlying26 rfl (by rw [tcells_size]; kernel_rfl))) rfl ⟨rfl, ?_⟩
  · simp only [heap_onObj, if_true, z1, Option.map_some, laidAt_t]
  · exact C1.onObj (.inr (by omega)) _
/-- The table of forty words. -/
theorem Table_any (g o c : Nat) (cur : Array Value) (T : TypeId) (ws : Nat → BitVec 64) (hnc : 40 ≤ c) (hc : c ≤ 9223372036854775807) (w : World) (hg : w.heap[g]? = some (.cells cur T (0, 0))) (hw : AtW cur o ws) :
    Calls Tryz.prog 35 #[.slice (some ⟨g, o, none⟩) 40 c] w fun e w' => e = .returned (tupOr (fun v => .agg (tcells v)) (.agg (tcells zeroT)) (readE ws)) ∧ Ch [] w w' := by
  unfold readE
  cases h : readOk ws with
  | true => rw [if_pos rfl]; exact Table_ok g o c cur T ws h hnc hc w hg hw
  | false =>
    rw [if_neg (by decide)]
    have hgl : g < w.heap.size := (Array.getElem?_eq_some_iff.1 hg).1
    exact Table_err _ w (fun w1 WB OB c1 hW hO hb => tbl1_no WB OB g o c cur T ws h hnc hc w1 hW hO (hkeep c1 hg) hw (by omega)) rfl
end Go.Proofs.Hc
