/- Package script: Check of a script that may be; bound's of. -/
import Derived.Test.YtfoicjijngfhbaaDoorKBk
set_option linter.unusedSimpArgs false
set_option linter.unusedVariables false
namespace Go.Proofs.Hc
open Go.RowKit
set_option linter.unusedVariables false
attribute [local go_sem] wrap_u64 wrap_u8 bits_xor64 bits_and64 bits_or64 bits_not64 bits_xor8 bits_and8 bits_or8 signed64 signed8 ofInt_N BitVec.ofInt_add BitVec.ofInt_mul ofInt_sub' ofInt8_N64 ofInt64_N8 wide8 eqN neN shr_pow shr1 shr7 shr56
attribute [local go_sem high] bits_com64 shl_wrap
attribute [local go_sem] nn2 nm2 nn3 nm3 nn4 nm4 nn5 nm5 nn6 nm6 nn7 nm7 nn8 nm8
attribute [local go_sem] Oper.semAt_some make_func1 make_funcB
attribute [local go_sem] cell_heap ice_heap cellAt_cells iceAt_cells setAt_cells size_setCell rowAt_cells canLay_cells laidAt_cells size_onObj rowRes_some layRes_true
attribute [local go_sem ↓] heap_alloc heap_drew heap_drewN heap_setCell heap_putObj heap_onObj
/-- A script as a value. -/
structure ScT where
  g : Int
  sl : Int
  sd : BitVec 64
  la : Option (Nat × Nat)
  lc : Nat
  ls : List ListT
  pa : Option Addr
  pn : Nat
  pc : Nat
def scC (s : ScT) : Array Value := #[I s.g, I s.sl, U s.sd, .slice (adr s.la) s.ls.length s.lc, .slice s.pa s.pn s.pc]
theorem lrowS (a : Addr) : loadVar 36 a = loadRow 36 a := rfl
theorem loadS (g o : Nat) (w : World) : (loadRow 36 ⟨g, o, none⟩).run Tryd.prog w = rowRes Tryd.prog 36 g o w ((w.heap[g]?).bind (rowAt o 5)) :=
  run_row Tryd.underlying36 rfl (by kernel_rfl) g o w
theorem box_sc (xs : Array Value) (w : World) : (Instr.box 36 (.agg xs)).run Tryd.prog w = .ok (.pointer (some ⟨w.heap.size, 0, none⟩)) (w.alloc (.cells xs 36)) := rfl
/-- A script that may be. -/
structure RightSc (w : World) (s : ScT) : Prop where
  g1 : 1 ≤ s.g
  g8 : s.g ≤ 8
  s2 : 2 ≤ s.sl
  s128 : s.sl ≤ 128
  len : (s.ls.length : Int) = s.g
  pn : s.pn ≤ 4096
  calls : (catL s.ls).length ≤ 64
  right : (catL s.ls).all CallT.right = true
  at_ : ∃ L o, s.la = some (L, o) ∧ ListsAt w L o s.ls
theorem RightSc.ch {w w' : World} {s : ScT} (R : RightSc w s) (c : Ch [] w w') : RightSc w' s := by
  obtain ⟨L, o, h1, h2⟩ := R.at_
  exact { R with at_ := ⟨L, o, h1, h2.ch c⟩ }
theorem scbox (s : ScT) (w : World) : ∃ W, w.alloc (.cells (scC s) 36) = W ∧ Ch [] w W ∧ W.heap[w.heap.size]? = some (.cells (scC s) 36 (0, 0)) :=
  ⟨_, rfl, (Ch.refl [] w).alloc _, by rw [heap_alloc, if_pos rfl]⟩
attribute [local go_sem] loadS box_sc
attribute [local go_sem ↓] lrowS
set_option maxRecDepth 100000 in
theorem check_yes (s : ScT) (w : World) (R : RightSc w s) (hT : TakesAt w) : Calls Tryd.prog 44 #[.agg (scC s)] w fun e w' => e = .returned (I 0) ∧ Ch [] w w' := by
  obtain ⟨W, hW, C, hB⟩ := scbox s w
  obtain ⟨L, o, hla, hls⟩ := R.at_
  have hT1 := hT.ch C
  have hL1 := hls.ch C
  have hc64 := R.calls
  have hal := R.right
  have g1 := R.g1
  have g8 := R.g8
  have s2 := R.s2
  have s128 := R.s128
  have hlen := R.len
  have pn := R.pn
  have hl8 : s.ls.length ≤ 8 := by omega
  have K1 := concat_any L o s.ls s.lc (by omega) (by omega) W hL1
  clear R hls hT hL1
  obtain ⟨g, sl, sd, la, lc, ls, pa, pn', pc⟩ := s
  dsimp only at *
  subst hla
  unfold scC at hB hW ⊢
  dsimp only [adr] at hB hW ⊢
  obtain ⟨n, hn⟩ : ∃ n, ls.length = n := ⟨_, rfl⟩
  rw [hn] at K1 hB hW hlen hl8 ⊢
  have A1 := fun v w hown hT => sallc_any W.heap.size v (catL ls) w (by omega) hown hT
  rw [hal] at A1
  obtain ⟨m, hm⟩ : ∃ m, (catL ls).length = m := ⟨_, rfl⟩
  rw [hm] at K1 A1 hc64
  obtain ⟨B, hBe⟩ : ∃ B, w.heap.size = B := ⟨_, rfl⟩
  rw [hBe] at hB
  clear hal hn hm
  go_enter Tryd.func44, Tryd.ntmps44
  go_upto_region 1 with (fail)
  try rw [hW]
  try rw [hBe]
  clear hW hBe
  go_wp2_with fail
  refine K1.mono ?_
  rintro e w2 ⟨v, rfl, hown, hc2⟩
  have hT2 := hT1.ch hc2
  have C2 := C.trans hc2
  have A2 := A1 v w2 hown hT2
  obtain ⟨a, c, rfl⟩ := own_val hown
  clear A1 hown hT1 hT2 C hc2 K1
  go_wp2_with fail
  refine A2.mono ?_
  rintro e w3 ⟨rfl, hc3⟩
  clear A2
  go_wp2
  go_ret
  exact ⟨rfl, C2.trans hc3⟩
end Go.Proofs.Hc
/- bound.of. -/
namespace Go.Proofs.Hc
open Go.RowKit
set_option linter.unusedVariables false
attribute [local go_sem] wrap_u64 wrap_u8 bits_xor64 bits_and64 bits_or64 bits_not64 bits_xor8 bits_and8 bits_or8 signed64 signed8 ofInt_N BitVec.ofInt_add BitVec.ofInt_mul ofInt_sub' ofInt8_N64 ofInt64_N8 wide8 eqN neN shr_pow shr1 shr7 shr56
attribute [local go_sem high] bits_com64 shl_wrap
attribute [local go_sem] nn2 nm2 nn3 nm3 nn4 nm4 nn5 nm5 nn6 nm6 nn7 nm7 nn8 nm8
attribute [local go_sem] Oper.semAt_some make_func1 make_funcB
attribute [local go_sem] cell_heap ice_heap cellAt_cells iceAt_cells setAt_cells size_setCell rowAt_cells canLay_cells laidAt_cells size_onObj rowRes_some layRes_true
attribute [local go_sem ↓] heap_alloc heap_drew heap_drewN heap_setCell heap_putObj heap_onObj
attribute [local go_sem] loadS box_sc
attribute [local go_sem ↓] lrowS
def zeroSc : ScT := ⟨0, 0, 0#64, none, 0, [], none, 0, 0⟩
theorem lrowP5 (a : Addr) : loadVar 55 a = loadRow 55 a := rfl
theorem srowP5 (a : Addr) (v : Value) : storeVar 55 a v = storeRow 55 a v := rfl
theorem zeroP5 (w : World) : (zeroValue 55).run Tryd.prog w = .ok (.agg (scC zeroSc)) w := by kernel_rfl
theorem loadP5 (g o : Nat) (w : World) : (loadRow 55 ⟨g, o, none⟩).run Tryd.prog w = rowRes Tryd.prog 55 g o w ((w.heap[g]?).bind (rowAt o 5)) :=
  run_row Tryd.underlying55 rfl (by kernel_rfl) g o w
theorem storeP5 (g o : Nat) (vs : Array Value) (w : World) : (storeRow 55 ⟨g, o, none⟩ (.agg vs)).run Tryd.prog w = layRes Tryd.prog 55 g o vs w (((w.heap[g]?).map (canLay o 5 vs)).getD false) :=
  run_lay (by kernel_rfl) g o vs w
theorem scC_size (s : ScT) : (scC s).size = 5 := rfl
theorem scC_one (s : ScT) : allOne (scC s) = true := by simp [allOne, scC, Value.oneCell']
theorem browP5 (ps : Array (Nat × Value)) : Instr.build 55 ps = buildRow 55 ps := rfl
theorem buildP5 (s : ScT) (w : World) : (buildRow 55 #[(0, .agg (scC s))]).run Tryd.prog w = .ok (.agg (scC s)) w := by kernel_rfl
theorem scC_all (s : ScT) : (scC s).extract 0 5 = scC s := rfl
theorem box_pl (xs : Array Value) (w : World) : (Instr.box 55 (.agg xs)).run Tryd.prog w = .ok (.pointer (some ⟨w.heap.size, 0, none⟩)) (w.alloc (.cells xs 55)) := rfl
attribute [local go_sem] loadP5 storeP5 scC_size scC_one buildP5 scC_all
attribute [local go_sem ↓] lrowP5 srowP5 zeroP5 browP5
theorem of_world (s : ScT) (w : World) : ∃ W, (w.alloc (.cells (scC s) 36)).alloc (.cells (scC zeroSc) 55) = W ∧ Ch [] w W ∧ W.heap[w.heap.size]? = some (.cells (scC s) 36 (0, 0)) ∧ W.heap[w.heap.size + 1]? = some (.cells (scC zeroSc) 55 (0, 0)) :=
  ⟨_, rfl, ((Ch.refl [] w).alloc _).alloc _, by rw [heap_alloc, if_neg (by simp), heap_alloc, if_pos rfl], by rw [heap_alloc, if_pos (by simp)]⟩
set_option maxRecDepth 100000 in
theorem of_yes (s : ScT) (w : World) (R : RightSc w s) (hT : TakesAt w) : Calls Tryd.prog 30 #[.agg (scC s)] w fun e w' => e = .returned (.agg (scC s)) ∧ Ch [] w w' := by
  obtain ⟨W, hW, C, hB, hD⟩ := of_world s w
  have K1 := check_yes s W (R.ch C) (hT.ch C)
  clear R hT
  go_enter Tryd.func30, Tryd.ntmps30
  go_upto_region 1 with (fail)
  try rw [hW]
  clear hW
  go_wp2_with fail
  refine K1.mono ?_
  rintro e w2 ⟨rfl, hc2⟩
  have hB2 := bkeep hc2 hB
  have hD2 := bkeep hc2 hD
  have C2 := C.trans hc2
  clear hB hD C hc2 K1
  go_upto_region 2 with (go_at_call 28; refine (bneed_yes _ _).mono ?_; rintro e w' ⟨rfl, rfl⟩)
  go_wp2
  have hq : (World.onObj w2 (w.heap.size + 1) (laidAt 0 (scC s))).heap[w.heap.size + 1]? = some (.cells (scC s) 55 (0, 0)) := by
    rw [heap_onObj, if_pos rfl, hD2]; rfl
  exact bodyPost_ret (v := .agg (scC s)) (results_cellB1 Tryd.results30 _ _ _ rfl (run_loadVar_row _ _ 55 55 (scC s) (0, 0) _ hq Tryd.underlying55 rfl (by rw [scC_size]; kernel_rfl))) rfl ⟨rfl, C2.onObj (.inr (by simp)) _⟩
end Go.Proofs.Hc
