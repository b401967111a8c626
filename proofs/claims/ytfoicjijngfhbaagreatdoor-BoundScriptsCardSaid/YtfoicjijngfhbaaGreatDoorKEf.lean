/- Package script: Check of a script that may be; bound's of. -/
import Derived.Test.YtfoicjijngfhbaaGreatDoorKBc
import Derived.Test.YtfoicjijngfhbaaGreatDoorKBd
import Derived.Test.YtfoicjijngfhbaaGreatDoorKBe
import Derived.Test.YtfoicjijngfhbaaGreatDoorKBf
import Derived.Test.YtfoicjijngfhbaaGreatDoorKBg
import Derived.Test.YtfoicjijngfhbaaGreatDoorKBk
import Derived.Test.YtfoicjijngfhbaaGreatDoorKDa
import Derived.Test.YtfoicjijngfhbaaGreatDoorKEk
import Derived.Test.YtfoicjijngfhbaaGreatDoorKHm
import Derived.Test.YtfoicjijngfhbaaGreatDoorKHr
import Derived.Below
import Derived.BigQuiet
import Derived.Deep.Cut
import Derived.Deep.Draws
import Derived.Deep.QuietTactic
import Derived.Deep.RegionHeld
import Derived.Laws.AppendOwn
import Derived.Laws.CopyRow
import Derived.Laws.EntriesVeiled
import Derived.Laws.Tables
import Derived.Lib.AppendZerosOnto
import Derived.Lib.Hide
import Derived.LoopIn
import Derived.LoopNIn
import Derived.OwnWalkIn
import Derived.RangeFuncCalls
import Derived.RangeFuncRecord
import Derived.RangeFuncSeq
import Derived.Recover
import Derived.TacticsInMore
import Derived.Test.YtfoicjijngfhbaaGreatDoorProg
import Derived.WalkKit
import Derived.WalkLawsBesides
set_option linter.unusedSimpArgs false
set_option linter.unusedVariables false
namespace Go.Proofs.Hc
open Go.RowKit
set_option linter.unusedVariables false
attribute [local go_sem] wrap_u64 wrap_u8 bits_xor64 bits_and64 bits_or64 bits_not64 bits_xor8 bits_and8 bits_or8 signed64 signed8 ofInt_N BitVec.ofInt_add BitVec.ofInt_mul ofInt_sub' ofInt8_N64 ofInt64_N8 wide8 eqN neN shr_pow shr1 shr7 shr56
attribute [local go_sem high] bits_com64 shl_wrap
attribute [local go_sem] nn2 nm2 nn3 nm3 nn4 nm4 nn5 nm5 nn6 nm6 nn7 nm7 nn8 nm8
attribute [local go_sem] Oper.semAt_some make_func1 make_funcB
attribute [local go_sem] cell_heap ice_heap cellAt_cells iceAt_cells setAt_cells size_setCell rowAt_cells canLay_cells laidAt_cells size_onObj rowRes_some layRes_true
attribute [local go_sem ↓] heap_alloc heap_drew heap_drewN heap_setCell heap_putObj heap_onObj
/-- A script as a value. -/
structure ScT where
  g : Int
  sl : Int
  sd : BitVec 64
  la : Option (Nat × Nat)
  lc : Nat
  ls : List ListT
  pa : Option Addr
  pn : Nat
  pc : Nat
def scC (s : ScT) : Array Value := #[I s.g, I s.sl, U s.sd, .slice (adr s.la) s.ls.length s.lc, .slice s.pa s.pn s.pc]
theorem lrowS (a : Addr) : loadVar 26 a = loadRow 26 a := rfl
theorem loadS (g o : Nat) (w : World) : (loadRow 26 ⟨g, o, none⟩).run Tryz.prog w = rowRes Tryz.prog 26 g o w ((w.heap[g]?).bind (rowAt o 5)) :=
  run_row Tryz.underlying26 rfl (by kernel_rfl) g o w
theorem box_sc (xs : Array Value) (w : World) : (Instr.box 26 (.agg xs)).run Tryz.prog w = .ok (.pointer (some ⟨w.heap.size, 0, none⟩)) (w.alloc (.cells xs 26)) := rfl
/-- A script that may be. -/
structure RightSc (w : World) (s : ScT) : Prop where
  g1 : 1 ≤ s.g
  g8 : s.g ≤ 8
  s2 : 2 ≤ s.sl
  s128 : s.sl ≤ 128
  len : (s.ls.length : Int) = s.g
  pn : s.pn ≤ 4096
  calls : (catL s.ls).length ≤ 64
  right : (catL s.ls).all CallT.right = true
  at_ : ∃ L o, s.la = some (L, o) ∧ ListsAt w L o s.ls
theorem RightSc.ch {w w' : World} {s : ScT} (R : RightSc w s) (c : Ch [] w w') : RightSc w' s := by
  obtain ⟨L, o, h1, h2⟩ := R.at_
  exact { R with at_ := ⟨L, o, h1, h2.ch c⟩ }
theorem scbox (s : ScT) (w : World) : ∃ W, w.alloc (.cells (scC s) 26) = W ∧ Ch [] w W ∧ W.heap[w.heap.size]? = some (.cells (scC s) 26 (0, 0)) :=
  ⟨_, rfl, (Ch.refl [] w).alloc _, by rw [heap_alloc, if_pos rfl]⟩
attribute [local go_sem] loadS box_sc
attribute [local go_sem ↓] lrowS
set_option maxRecDepth 100000 in
theorem check_yes (s : ScT) (w : World) (R : RightSc w s) (hT : TakesAt w) : Calls Tryz.prog 45 #[.agg (scC s)] w fun e w' => e = .returned (I 0) ∧ Ch [] w w' := by
  obtain ⟨W, hW, C, hB⟩ := scbox s w
  obtain ⟨L, o, hla, hls⟩ := R.at_
  have hT1 := hT.ch C
  have hL1 := hls.ch C
  have hc64 := R.calls
  have hal := R.right
  have g1 := R.g1
  have g8 := R.g8
  have s2 := R.s2
  have s128 := R.s128
  have hlen := R.len
  have pn := R.pn
  have hl8 : s.ls.length ≤ 8 := by omega
  have K1 := concat_any L o s.ls s.lc (by omega) (by omega) W hL1
  clear R hls hT hL1
  obtain ⟨g, sl, sd, la, lc, ls, pa, pn', pc⟩ := s
  dsimp only at *
  subst hla
  unfold scC at hB hW ⊢
  dsimp only [adr] at hB hW ⊢
  obtain ⟨n, hn⟩ : ∃ n, ls.length = n := ⟨_, rfl⟩
  rw [hn] at K1 hB hW hlen hl8 ⊢
  have A1 := fun v w hown hT => sallc_any W.heap.size v (catL ls) w (by omega) hown hT
  rw [hal] at A1
  obtain ⟨m, hm⟩ : ∃ m, (catL ls).length = m := ⟨_, rfl⟩
  rw [hm] at K1 A1 hc64
  obtain ⟨B, hBe⟩ : ∃ B, w.heap.size = B := ⟨_, rfl⟩
  rw [hBe] at hB
  clear hal hn hm
  go_enter Tryz.func45, Tryz.ntmps45
  go_upto_region 1 with (fail)
  try rw [hW]
  try rw [hBe]
  clear hW hBe
  go_wp2_with fail
  refine K1.mono ?_
  rintro e w2 ⟨v, rfl, hown, hc2⟩
  have hT2 := hT1.ch hc2
  have C2 := C.trans hc2
  have A2 := A1 v w2 hown hT2
  obtain ⟨a, c, rfl⟩ := own_val hown
  clear A1 hown hT1 hT2 C hc2 K1
  go_wp2_with fail
  refine A2.mono ?_
  rintro e w3 ⟨rfl, hc3⟩
  clear A2
  go_wp2
  go_ret
  exact ⟨rfl, C2.trans hc3⟩
end Go.Proofs.Hc
/- bound.of. -/
namespace Go.Proofs.Hc
open Go.RowKit
set_option linter.unusedVariables false
attribute [local go_sem] wrap_u64 wrap_u8 bits_xor64 bits_and64 bits_or64 bits_not64 bits_xor8 bits_and8 bits_or8 signed64 signed8 ofInt_N BitVec.ofInt_add BitVec.ofInt_mul ofInt_sub' ofInt8_N64 ofInt64_N8 wide8 eqN neN shr_pow shr1 shr7 shr56
attribute [local go_sem high] bits_com64 shl_wrap
attribute [local go_sem] nn2 nm2 nn3 nm3 nn4 nm4 nn5 nm5 nn6 nm6 nn7 nm7 nn8 nm8
attribute [local go_sem] Oper.semAt_some make_func1 make_funcB
attribute [local go_sem] cell_heap ice_heap cellAt_cells iceAt_cells setAt_cells size_setCell rowAt_cells canLay_cells laidAt_cells size_onObj rowRes_some layRes_true
attribute [local go_sem ↓] heap_alloc heap_drew heap_drewN heap_setCell heap_putObj heap_onObj
attribute [local go_sem] loadS box_sc
attribute [local go_sem ↓] lrowS
def zeroSc : ScT := ⟨0, 0, 0#64, none, 0, [], none, 0, 0⟩
theorem lrowP5 (a : Addr) : loadVar 50 a = loadRow 50 a := rfl
theorem srowP5 (a : Addr) (v : Value) : storeVar 50 a v = storeRow 50 a v := rfl
theorem zeroP5 (w : World) : (zeroValue 50).run Tryz.prog w = .ok (.agg (scC zeroSc)) w := by kernel_rfl
theorem loadP5 (g o : Nat) (w : World) : (loadRow 50 ⟨g, o, none⟩).run Tryz.prog w = rowRes Tryz.prog 50 g o w ((w.heap[g]?).bind (rowAt o 5)) :=
  run_row Tryz.underlying50 rfl (by kernel_rfl) g o w
theorem storeP5 (g o : Nat) (vs : Array Value) (w : World) : (storeRow 50 ⟨g, o, none⟩ (.agg vs)).run Tryz.prog w = layRes Tryz.prog 50 g o vs w (((w.heap[g]?).map (canLay o 5 vs)).getD false) :=
  run_lay (by kernel_rfl) g o vs w
theorem scC_size (s : ScT) : (scC s).size = 5 := rfl
theorem scC_one (s : ScT) : allOne (scC s) = true := by simp [allOne, scC, Value.oneCell']
theorem browP5 (ps : Array (Nat × Value)) : Instr.build 50 ps = buildRow 50 ps := rfl
theorem buildP5 (s : ScT) (w : World) : (buildRow 50 #[(0, .agg (scC s))]).run Tryz.prog w = .ok (.agg (scC s)) w := by kernel_rfl
theorem scC_all (s : ScT) : (scC s).extract 0 5 = scC s := rfl
theorem box_pl (xs : Array Value) (w : World) : (Instr.box 50 (.agg xs)).run Tryz.prog w = .ok (.pointer (some ⟨w.heap.size, 0, none⟩)) (w.alloc (.cells xs 50)) := rfl
attribute [local go_sem] loadP5 storeP5 scC_size scC_one buildP5 scC_all
attribute [local go_sem ↓] lrowP5 srowP5 zeroP5 browP5
theorem of_world (s : ScT) (w : World) : ∃ W, (w.alloc (.cells (scC s) 26)).alloc (.cells (scC zeroSc) 50) = W ∧ Ch [] w W ∧ W.heap[w.heap.size]? = some (.cells (scC s) 26 (0, 0)) ∧ W.heap[w.heap.size + 1]? = some (.cells (scC zeroSc) 50 (0, 0)) :=
  ⟨_, rfl, ((Ch.refl [] w).alloc _).alloc _, by rw [heap_alloc, if_neg (by simp), heap_alloc, if_pos rfl], by rw [heap_alloc, if_pos (by simp)]⟩
set_option maxRecDepth 100000 in
theorem of_yes (s : ScT) (w : World) (R : RightSc w s) (hT : TakesAt w) : Calls Tryz.prog 25 #[.agg (scC s)] w fun e w' => e = .returned (.agg (scC s)) ∧ Ch [] w w' := by
  obtain ⟨W, hW, C, hB, hD⟩ := of_world s w
  have K1 := check_yes s W (R.ch C) (hT.ch C)
  clear R hT
  go_enter Tryz.func25, Tryz.ntmps25
  go_upto_region 1 with (fail)
  try rw [hW]
  clear hW
  go_wp2_with fail
  refine K1.mono ?_
  rintro e w2 ⟨rfl, hc2⟩
  have hB2 := bkeep hc2 hB
  have hD2 := bkeep hc2 hD
  have C2 := C.trans hc2
  clear hB hD C hc2 K1
  go_upto_region 2 with (go_at_call 43; refine (bneed_yes _ _).mono ?_; rintro e w' ⟨rfl, rfl⟩)
  go_wp2
  have hq : (World.onObj w2 (w.heap.size + 1) (laidAt 0 (scC s))).heap[w.heap.size + 1]? = some (.cells (scC s) 50 (0, 0)) := by
    rw [heap_onObj, if_pos rfl, hD2]; rfl
  exact bodyPost_ret (v := .agg (scC s)) (results_cellB1 Tryz.results25 _ _ _ rfl (run_loadVar_row _ _ 50 50 (scC s) (0, 0) _ hq Tryz.underlying50 rfl (by rw [scC_size]; kernel_rfl))) rfl ⟨rfl, C2.onObj (.inr (by simp)) _⟩
end Go.Proofs.Hc
/- Package script: Check of any script; bound's of of one that may not be. -/
namespace Go.Proofs.Hc
open Go.RowKit
set_option linter.unusedVariables false
set_option linter.unusedSimpArgs false
attribute [local go_sem] wrap_u64 wrap_u8 bits_xor64 bits_and64 bits_or64 bits_not64 bits_xor8 bits_and8 bits_or8 signed64 signed8 ofInt_N BitVec.ofInt_add BitVec.ofInt_mul ofInt_sub' ofInt8_N64 ofInt64_N8 wide8 eqN neN shr_pow shr1 shr7 shr56
attribute [local go_sem high] bits_com64 shl_wrap
attribute [local go_sem] nn2 nm2 nn3 nm3 nn4 nm4 nn5 nm5 nn6 nm6 nn7 nm7 nn8 nm8
attribute [local go_sem] Oper.semAt_some make_func1 make_funcB
attribute [local go_sem] cell_heap ice_heap cellAt_cells iceAt_cells setAt_cells size_setCell rowAt_cells canLay_cells laidAt_cells size_onObj rowRes_some layRes_true
attribute [local go_sem ↓] heap_alloc heap_drew heap_drewN heap_setCell heap_putObj heap_onObj
attribute [local go_sem] loadS box_sc
attribute [local go_sem ↓] lrowS
/-- A script that lies somewhere, whatever it is. -/
structure AnySc (w : World) (s : ScT) : Prop where
  lists : (s.la = none ∧ s.ls = []) ∨ ∃ L o, s.la = some (L, o) ∧ ListsAt w L o s.ls
  few : (catL s.ls).length ≤ 1048576
theorem AnySc.ch {w w' : World} {s : ScT} (R : AnySc w s) (c : Ch [] w w') : AnySc w' s := by
  refine ⟨?_, R.few⟩
  rcases R.lists with h | ⟨L, o, h1, h2⟩
  · exact .inl h
  · exact .inr ⟨L, o, h1, h2.ch c⟩
def sizeSc (s : ScT) : Prop := 1 ≤ s.g ∧ s.g ≤ 8 ∧ 2 ≤ s.sl ∧ s.sl ≤ 128 ∧ (s.ls.length : Int) = s.g ∧ s.pn ≤ 4096
instance (s : ScT) : Decidable (sizeSc s) := by unfold sizeSc; infer_instance
/-- May the script be? -/
def checkB (s : ScT) : Bool := decide (sizeSc s) && decide ((catL s.ls).length ≤ 64) && (catL s.ls).all CallT.right
theorem AnySc.right {w : World} {s : ScT} (R : AnySc w s) (h : checkB s = true) : RightSc w s := by
  unfold checkB at h
  simp only [Bool.and_eq_true, decide_eq_true_eq] at h
  obtain ⟨⟨⟨g1, g8, s2, s128, hl, pn⟩, c64⟩, hr⟩ := h
  refine ⟨g1, g8, s2, s128, hl, pn, c64, hr, ?_⟩
  rcases R.lists with ⟨_, h0⟩ | h
  · rw [h0] at hl
    simp at hl
    omega
  · exact h
set_option maxRecDepth 100000 in
theorem check_size (s : ScT) (w : World) (h : ¬ sizeSc s) : Calls Tryz.prog 45 #[.agg (scC s)] w fun e w' => e = .returned (I 130) ∧ Ch [] w w' := by
  obtain ⟨W, hW, C, hB⟩ := scbox s w
  unfold sizeSc at h
  obtain ⟨g, sl, sd, la, lc, ls, pa, pn, pc⟩ := s
  dsimp only at h
  unfold scC at hB hW ⊢
  dsimp only at hB hW ⊢
  obtain ⟨n, hn⟩ : ∃ n, ls.length = n := ⟨_, rfl⟩
  obtain ⟨aa, haa⟩ : ∃ a, adr la = a := ⟨_, rfl⟩
  rw [hn, haa] at hB hW ⊢
  rw [hn] at h
  obtain ⟨B, hBe⟩ : ∃ B, w.heap.size = B := ⟨_, rfl⟩
  rw [hBe] at hB
  clear hn haa
  rcases (show g < 1 ∨ 1 ≤ g by omega) with h1 | h1
  · have e1 : ¬ 1 ≤ g := by omega
    clear h
    go_enter Tryz.func45, Tryz.ntmps45
    go_upto_region 1 with (fail)
    try rw [hW]
    try rw [hBe]
    clear hW hBe
    go_wp2
    go_ret
    exact ⟨rfl, C⟩
  rcases (show 8 < g ∨ g ≤ 8 by omega) with h2 | h2
  · have e1 : ¬ g ≤ 8 := by omega
    clear h
    go_enter Tryz.func45, Tryz.ntmps45
    go_upto_region 1 with (fail)
    try rw [hW]
    try rw [hBe]
    clear hW hBe
    go_wp2
    go_ret
    exact ⟨rfl, C⟩
  rcases (show sl < 2 ∨ 2 ≤ sl by omega) with h3 | h3
  · have e1 : ¬ 2 ≤ sl := by omega
    clear h
    go_enter Tryz.func45, Tryz.ntmps45
    go_upto_region 1 with (fail)
    try rw [hW]
    try rw [hBe]
    clear hW hBe
    go_wp2
    go_ret
    exact ⟨rfl, C⟩
  rcases (show 128 < sl ∨ sl ≤ 128 by omega) with h4 | h4
  · have e1 : ¬ sl ≤ 128 := by omega
    clear h
    go_enter Tryz.func45, Tryz.ntmps45
    go_upto_region 1 with (fail)
    try rw [hW]
    try rw [hBe]
    clear hW hBe
    go_wp2
    go_ret
    exact ⟨rfl, C⟩
  rcases (show ¬ (n : Int) = g ∨ (n : Int) = g by omega) with h5 | h5
  · have e1 : ((n : Int) != g) = true := by simpa using h5
    clear h
    go_enter Tryz.func45, Tryz.ntmps45
    go_upto_region 1 with (fail)
    try rw [hW]
    try rw [hBe]
    clear hW hBe
    go_wp2
    go_ret
    exact ⟨rfl, C⟩
  · have h6 : ¬ pn ≤ 4096 := fun h6 => h ⟨h1, h2, h3, h4, h5, h6⟩
    have e1 : (4096 : Int) < pn := by omega
    subst h5
    clear h
    go_enter Tryz.func45, Tryz.ntmps45
    go_upto_region 1 with (fail)
    try rw [hW]
    try rw [hBe]
    clear hW hBe
    go_wp2
    go_ret
    exact ⟨rfl, C⟩
set_option maxRecDepth 100000 in
theorem check_calls (s : ScT) (w : World) (R : AnySc w s) (hT : TakesAt w) (h : sizeSc s) (hno : ¬ ((catL s.ls).length ≤ 64 ∧ (catL s.ls).all CallT.right = true)) : Calls Tryz.prog 45 #[.agg (scC s)] w fun e w' => e = .returned (I 130) ∧ Ch [] w w' := by
  obtain ⟨W, hW, C, hB⟩ := scbox s w
  obtain ⟨g1, g8, s2, s128, hlen, pn⟩ := h
  obtain ⟨L, o, hla, hls⟩ : ∃ L o, s.la = some (L, o) ∧ ListsAt w L o s.ls := by
    rcases R.lists with ⟨_, h0⟩ | h
    · rw [h0] at hlen
      simp at hlen
      omega
    · exact h
  have hT1 := hT.ch C
  have hL1 := hls.ch C
  have hfew := R.few
  have hl8 : s.ls.length ≤ 8 := by omega
  have K1 := concat_any L o s.ls s.lc (by omega) (by omega) W hL1
  clear R hls hT hL1
  obtain ⟨g, sl, sd, la, lc, ls, pa, pn', pc⟩ := s
  dsimp only at *
  subst hla
  unfold scC at hB hW ⊢
  dsimp only [adr] at hB hW ⊢
  obtain ⟨n, hn⟩ : ∃ n, ls.length = n := ⟨_, rfl⟩
  rw [hn] at K1 hB hW hlen hl8 ⊢
  obtain ⟨m, hm⟩ : ∃ m, (catL ls).length = m := ⟨_, rfl⟩
  obtain ⟨B, hBe⟩ : ∃ B, w.heap.size = B := ⟨_, rfl⟩
  rw [hBe] at hB
  rcases (show 64 < m ∨ m ≤ 64 by omega) with hm64 | hm64
  · rw [hm] at K1
    have hmI : (64 : Int) < m := by omega
    clear hn hm hno
    go_enter Tryz.func45, Tryz.ntmps45
    go_upto_region 1 with (fail)
    try rw [hW]
    try rw [hBe]
    clear hW hBe
    go_wp2_with fail
    refine K1.mono ?_
    rintro e w2 ⟨v, rfl, hown, hc2⟩
    have C2 := C.trans hc2
    obtain ⟨a, c, rfl⟩ := own_val hown
    clear hown hT1 C hc2 K1
    go_wp2
    go_ret
    exact ⟨rfl, C2⟩
  · have hal : (catL ls).all CallT.right = false := by
      cases hh : (catL ls).all CallT.right with
      | false => rfl
      | true => exact absurd ⟨by rw [hm]; exact hm64, hh⟩ hno
    have A1 := fun v w hown hT => sallc_any W.heap.size v (catL ls) w (by omega) hown hT
    rw [hal] at A1
    rw [hm] at K1 A1
    clear hal hn hm hno
    go_enter Tryz.func45, Tryz.ntmps45
    go_upto_region 1 with (fail)
    try rw [hW]
    try rw [hBe]
    clear hW hBe
    go_wp2_with fail
    refine K1.mono ?_
    rintro e w2 ⟨v, rfl, hown, hc2⟩
    have hT2 := hT1.ch hc2
    have C2 := C.trans hc2
    have A2 := A1 v w2 hown hT2
    obtain ⟨a, c, rfl⟩ := own_val hown
    clear A1 hown hT1 hT2 C hc2 K1
    go_wp2_with fail
    refine A2.mono ?_
    rintro e w3 ⟨rfl, hc3⟩
    clear A2
    go_wp2
    go_ret
    exact ⟨rfl, C2.trans hc3⟩
theorem check_no (s : ScT) (w : World) (R : AnySc w s) (hT : TakesAt w) (h : checkB s = false) : Calls Tryz.prog 45 #[.agg (scC s)] w fun e w' => e = .returned (I 130) ∧ Ch [] w w' := by
  by_cases hs : sizeSc s
  · refine check_calls s w R hT hs ?_
    rintro ⟨h1, h2⟩
    unfold checkB at h
    rw [decide_eq_true hs, decide_eq_true h1, h2] at h
    cases h
  · exact check_size s w hs
attribute [local go_sem] loadP5 storeP5 scC_size scC_one buildP5 scC_all
attribute [local go_sem ↓] lrowP5 srowP5 zeroP5 browP5
set_option maxRecDepth 100000 in
theorem of_no (s : ScT) (w : World) (R : AnySc w s) (hT : TakesAt w) (h : checkB s = false) : Calls Tryz.prog 25 #[.agg (scC s)] w fun e w' => e = .panicked [{ v := .iface 29 (I 130), recovered := false }] ∧ Ch [] w w' := by
  obtain ⟨W, hW, C, hB, hD⟩ := of_world s w
  have K1 := check_no s W (R.ch C) (hT.ch C) h
  clear R hT
  go_enter Tryz.func25, Tryz.ntmps25
  go_upto_region 1 with (fail)
  try rw [hW]
  clear hW
  go_wp2_with fail
  refine K1.mono ?_
  rintro e w2 ⟨rfl, hc2⟩
  have C2 := C.trans hc2
  clear hB hD C hc2 K1
  go_wp2_with (go_at_call 43; refine (bneed_no _ _).mono ?_; rintro e w' ⟨rfl, rfl⟩)
  exact ⟨rfl, rfl, C2⟩
end Go.Proofs.Hc
