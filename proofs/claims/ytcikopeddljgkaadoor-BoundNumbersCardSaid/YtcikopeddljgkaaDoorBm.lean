import Derived.Test.YtcikopeddljgkaaDoorBl
/- bound.of. -/
namespace Go.Proofs.Hc
open Go.RowKit
set_option linter.unusedVariables false
attribute [local go_sem] wrap_u64 wrap_u8 bits_xor64 bits_and64 bits_or64 bits_not64 bits_xor8 bits_and8 bits_or8 signed64 signed8 ofInt_N BitVec.ofInt_add BitVec.ofInt_mul ofInt_sub' ofInt8_N64 ofInt64_N8 wide8 eqN neN shr_pow shr1 shr7 shr56
attribute [local go_sem high] bits_com64 shl_wrap
attribute [local go_sem] nn2 nm2 nn3 nm3 nn4 nm4 nn5 nm5 nn6 nm6 nn7 nm7 nn8 nm8
attribute [local go_sem] Oper.semAt_some make_func1 make_funcB
attribute [local go_sem] cell_heap ice_heap cellAt_cells iceAt_cells setAt_cells size_setCell rowAt_cells canLay_cells laidAt_cells size_onObj rowRes_some layRes_true
attribute [local go_sem ↓] heap_alloc heap_drew heap_drewN heap_setCell heap_putObj heap_onObj
attribute [local go_sem] loadS box_sc
attribute [local go_sem ↓] lrowS
def zeroSc : ScT := ⟨0, 0, 0#64, none, 0, [], none, 0, 0⟩
theorem lrowP5 (a : Addr) : loadVar 55 a = loadRow 55 a := rfl
theorem srowP5 (a : Addr) (v : Value) : storeVar 55 a v = storeRow 55 a v := rfl
theorem zeroP5 (w : World) : (zeroValue 55).run Tryd.prog w = .ok (.agg (scC zeroSc)) w := by kernel_rfl
theorem loadP5 (g o : Nat) (w : World) : (loadRow 55 ⟨g, o, none⟩).run Tryd.prog w = rowRes Tryd.prog 55 g o w ((w.heap[g]?).bind (rowAt o 5)) :=
  run_row Tryd.underlying55 rfl (by kernel_rfl) g o w
theorem storeP5 (g o : Nat) (vs : Array Value) (w : World) : (storeRow 55 ⟨g, o, none⟩ (.agg vs)).run Tryd.prog w = layRes Tryd.prog 55 g o vs w (((w.heap[g]?).map (canLay o 5 vs)).getD false) :=
  run_lay (by kernel_rfl) g o vs w
theorem scC_size (s : ScT) : (scC s).size = 5 := rfl
theorem scC_one (s : ScT) : allOne (scC s) = true := by simp [allOne, scC, Value.oneCell']
theorem browP5 (ps : Array (Nat × Value)) : Instr.build 55 ps = buildRow 55 ps := rfl
theorem buildP5 (s : ScT) (w : World) : (buildRow 55 #[(0, .agg (scC s))]).run Tryd.prog w = .ok (.agg (scC s)) w := by kernel_rfl
theorem scC_all (s : ScT) : (scC s).extract 0 5 = scC s := rfl
theorem box_pl (xs : Array Value) (w : World) : (Instr.box 55 (.agg xs)).run Tryd.prog w = .ok (.pointer (some ⟨w.heap.size, 0, none⟩)) (w.alloc (.cells xs 55)) := rfl
attribute [local go_sem] loadP5 storeP5 scC_size scC_one buildP5 scC_all
attribute [local go_sem ↓] lrowP5 srowP5 zeroP5 browP5
theorem of_world (s : ScT) (w : World) : ∃ W, (w.alloc (.cells (scC s) 36)).alloc (.cells (scC zeroSc) 55) = W ∧ Ch [] w W ∧ W.heap[w.heap.size]? = some (.cells (scC s) 36 (0, 0)) ∧ W.heap[w.heap.size + 1]? = some (.cells (scC zeroSc) 55 (0, 0)) :=
  ⟨_, rfl, ((Ch.refl [] w).alloc _).alloc _, by rw [heap_alloc, if_neg (by simp), heap_alloc, if_pos rfl], by rw [heap_alloc, if_pos (by simp)]⟩
set_option maxRecDepth 100000 in
theorem of_yes (s : ScT) (w : World) (R : RightSc w s) (hT : TakesAt w) : Calls Tryd.prog 30 #[.agg (scC s)] w fun e w' => e = .returned (.agg (scC s)) ∧ Ch [] w w' := by
  obtain ⟨W, hW, C, hB, hD⟩ := of_world s w
  have K1 := check_yes s W (R.ch C) (hT.ch C)
  clear R hT
  go_enter Tryd.func30, Tryd.ntmps30
  go_upto_region 1 with (fail)
  try rw [hW]
  clear hW
  go_wp2_with fail
  refine K1.mono ?_
  rintro e w2 ⟨rfl, hc2⟩
  have hB2 := bkeep hc2 hB
  have hD2 := bkeep hc2 hD
  have C2 := C.trans hc2
  clear hB hD C hc2 K1
  go_upto_region 2 with (go_at_call 28; refine (bneed_yes _ _).mono ?_; rintro e w' ⟨rfl, rfl⟩)
  go_wp2
  have hq : (World.onObj w2 (w.heap.size + 1) (laidAt 0 (scC s))).heap[w.heap.size + 1]? = some (.cells (scC s) 55 (0, 0)) := by
    rw [heap_onObj, if_pos rfl, hD2]; rfl
  exact bodyPost_ret (v := .agg (scC s)) (results_cellB1 Tryd.results30 _ _ _ rfl (run_loadVar_row _ _ 55 55 (scC s) (0, 0) _ hq Tryd.underlying55 rfl (by rw [scC_size]; kernel_rfl))) rfl ⟨rfl, C2.onObj (.inr (by simp)) _⟩
end Go.Proofs.Hc
