/- bound: least, Comes, Enough of a script of one key that comes. -/
import Derived.Test.YtfoicjijngfhbaaGreatDoorKBb
import Derived.Test.YtfoicjijngfhbaaGreatDoorKBc
import Derived.Test.YtfoicjijngfhbaaGreatDoorKBd
import Derived.Test.YtfoicjijngfhbaaGreatDoorKBe
import Derived.Test.YtfoicjijngfhbaaGreatDoorKBf
import Derived.Test.YtfoicjijngfhbaaGreatDoorKBk
import Derived.Test.YtfoicjijngfhbaaGreatDoorKBo
import Derived.Test.YtfoicjijngfhbaaGreatDoorKBu
import Derived.Test.YtfoicjijngfhbaaGreatDoorKDa
import Derived.Test.YtfoicjijngfhbaaGreatDoorKEf
import Derived.Test.YtfoicjijngfhbaaGreatDoorKEk
import Derived.Test.YtfoicjijngfhbaaGreatDoorKHm
import Derived.Test.YtfoicjijngfhbaaGreatDoorKHr
import Derived.Below
import Derived.BigQuiet
import Derived.Deep.Cut
import Derived.Deep.Draws
import Derived.Deep.OwnRows
import Derived.Deep.QuietTactic
import Derived.Deep.RegionHeld
import Derived.Laws.AppendOwn
import Derived.Laws.CopyOwn
import Derived.Laws.CopyRow
import Derived.Laws.EntriesVeiled
import Derived.Laws.Tables
import Derived.Lib.AppendZerosOnto
import Derived.Lib.Hide
import Derived.Lib.Tables
import Derived.LoopIn
import Derived.LoopNIn
import Derived.Maps.RangeWalk
import Derived.Maps.Views
import Derived.OwnWalkIn
import Derived.RangeFuncCalls
import Derived.RangeFuncRecord
import Derived.RangeFuncSeq
import Derived.Recover
import Derived.StillTail
import Derived.TacticsInMore
import Derived.Test.YtfoicjijngfhbaaGreatDoorProg
import Derived.WalkKit
import Derived.WalkLawsBesides
import Derived.ScopeJumps
set_option linter.unusedSimpArgs false
set_option linter.unusedVariables false
namespace Go.Proofs.Hc
open Go.RowKit
set_option linter.unusedVariables false
attribute [local go_sem] wrap_u64 wrap_u8 bits_xor64 bits_and64 bits_or64 bits_not64 bits_xor8 bits_and8 bits_or8 signed64 signed8 ofInt_N BitVec.ofInt_add BitVec.ofInt_mul ofInt_sub' ofInt8_N64 ofInt64_N8 wide8 eqN neN shr_pow shr1 shr7 shr56
attribute [local go_sem high] bits_com64 shl_wrap
attribute [local go_sem] nn2 nm2 nn3 nm3 nn4 nm4 nn5 nm5 nn6 nm6 nn7 nm7 nn8 nm8
attribute [local go_sem] Oper.semAt_some make_func1 make_funcB
attribute [local go_sem] cell_heap ice_heap cellAt_cells iceAt_cells setAt_cells size_setCell rowAt_cells canLay_cells laidAt_cells size_onObj rowRes_some layRes_true
attribute [local go_sem ↓] heap_alloc heap_drew heap_drewN heap_setCell heap_putObj heap_onObj
attribute [local go_sem] loadS box_sc loadP5 box_pl scC_size scC_all scC_seed
attribute [local go_sem ↓] lrowS lrowP5
theorem slabsB_one : slabsB 1 = 2 := by decide
set_option maxRecDepth 100000 in
theorem least_one (s : ScT) (k : BitVec 64) (w : World) (R : OneSc w s k) : Calls Tryz.prog 32 #[.agg (scC s)] w fun e w' => e = .returned (I 2) ∧ Ch [] w w' := by
  obtain ⟨W, hW, C, hB⟩ := plbox s w
  have P1 := parts_one s k W (R.ch C)
  have M1 := fun w R => comes_one s k w R
  have L1 := fun w => slabs_any 1 (by decide) (by decide) w
  rw [slabsB_one] at L1
  have R1 := R.ch C
  obtain ⟨B, hBe⟩ : ∃ B, w.heap.size = B := ⟨_, rfl⟩
  rw [hBe] at hB
  clear R
  go_enter Tryz.func32, Tryz.ntmps32
  go_upto_region 1 with (fail)
  try rw [hW]
  try rw [hBe]
  clear hW hBe
  go_wp2_with fail
  refine P1.mono ?_
  rintro e w2 ⟨rfl, hc2⟩
  have hB2 := bkeep hc2 hB
  have R2 := R1.ch hc2
  have C2 := C.trans hc2
  have M2 := M1 w2 R2
  clear C hB R1 P1 M1 hc2 R2
  go_wp2_with (go_at_call 43; refine (bneed_yes _ _).mono ?_; rintro e w' ⟨rfl, rfl⟩)
  refine M2.mono ?_
  rintro e w3 ⟨v, rfl, hown, hc3⟩
  obtain ⟨a, c, rfl⟩ := own_val hown
  have C3 := C2.trans hc3
  clear hown M2 hc3 C2 hB2
  go_wp2_with fail
  refine (L1 _).mono ?_
  rintro e w4 ⟨rfl, hc4⟩
  go_wp2
  go_ret
  exact ⟨rfl, C3.trans hc4⟩
set_option maxRecDepth 100000 in
theorem comes1_one (s : ScT) (k : BitVec 64) (b : Nat) (w : World) (R : OneSc w s k) (hb : w.heap[b]? = some (.cells (scC s) 26 (0, 0))) : Calls Tryz.prog 24 #[.pointer (some ⟨b, 0, none⟩)] w fun e w' => ∃ v, e = .returned v ∧ w'.ownsRow w.heap.size 22 1 v 1 [U k] ∧ Ch [] w w' := by
  have O1 := of_yes s w R.right R.tk
  have M1 := fun w R => comes_one s k w R
  go_enter Tryz.func24, Tryz.ntmps24
  go_wp2_with fail
  refine O1.mono ?_
  rintro e w2 ⟨rfl, hc2⟩
  have M2 := M1 w2 (R.ch hc2)
  clear O1 M1 R hb
  go_wp2_with fail
  refine M2.mono ?_
  rintro e w3 ⟨v, rfl, hown, hc3⟩
  have HO := Lib.hid (own_low hown hc2.size)
  obtain ⟨a, c, rfl⟩ := own_val hown
  clear hown M2
  go_wp2
  go_ret
  exact ⟨_, rfl, HO.out, hc2.trans hc3⟩
set_option maxRecDepth 100000 in
theorem comesP_one (s : ScT) (k : BitVec 64) (w : World) (R : OneSc w s k) : Calls Tryz.prog 6 #[.agg (scC s)] w fun e w' => ∃ v, e = .returned (.tuple #[v, I 0]) ∧ w'.ownsRow w.heap.size 22 1 v 1 [U k] ∧ Ch [] w w' := by
  obtain ⟨W, hW, C, hB⟩ := scbox s w
  have T1 : Calls Tryz.prog 23 #[.func (.func 24) #[] #[.pointer (some ⟨w.heap.size, 0, none⟩)]] W fun e w' => ∃ v, e = .returned (.tuple #[v, I 0]) ∧ w'.ownsRow w.heap.size 22 1 v 1 [U k] ∧ Ch [] W w' := by
    refine (triesBW_ok 24 _ W (fun x w' => w'.ownsRow (W.heap.size + 2) 22 1 (.slice x.1 x.2.1 x.2.2) 1 [U k]) (fun x A B h c => own_keep h c (by simp)) (fun _ _ => by kernel_rfl) (fun w1 hc hz => (comes1_one s k _ w1 (R.ch (C.trans hc)) (bkeep hc hB)).mono fun e w2 h => ?_)).mono ?_
    · obtain ⟨v, he, ho, hc2⟩ := h
      obtain ⟨a, c, rfl⟩ := own_val ho
      exact ⟨(a, 1, c), he, own_low ho hz, hc2⟩
    · rintro e w' ⟨x, rfl, ho, hc⟩
      exact ⟨_, rfl, own_low ho (by have := C.size; omega), hc⟩
  clear R hB
  go_enter Tryz.func6, Tryz.ntmps6
  go_upto_region 1 with (fail)
  try rw [hW]
  clear hW
  go_wp2_with fail
  refine T1.mono ?_
  rintro e w2 ⟨v, rfl, hown, hc⟩
  have HO := Lib.hid hown
  obtain ⟨a, c, rfl⟩ := own_val hown
  clear hown T1
  go_wp2
  go_ret2
  exact ⟨_, rfl, HO.out, C.trans hc⟩
set_option maxRecDepth 100000 in
theorem enough1_one (s : ScT) (k : BitVec 64) (b : Nat) (w : World) (R : OneSc w s k) (hb : w.heap[b]? = some (.cells (scC s) 26 (0, 0))) : Calls Tryz.prog 31 #[.pointer (some ⟨b, 0, none⟩)] w fun e w' => e = .returned (I 2) ∧ Ch [] w w' := by
  have O1 := of_yes s w R.right R.tk
  have M1 := fun w R => least_one s k w R
  go_enter Tryz.func31, Tryz.ntmps31
  go_wp2_with fail
  refine O1.mono ?_
  rintro e w2 ⟨rfl, hc2⟩
  have M2 := M1 w2 (R.ch hc2)
  clear O1 M1 R hb
  go_wp2_with fail
  refine M2.mono ?_
  rintro e w3 ⟨rfl, hc3⟩
  clear M2
  go_wp2
  go_ret
  exact ⟨rfl, hc2.trans hc3⟩
set_option maxRecDepth 100000 in
theorem enough_one (s : ScT) (k : BitVec 64) (w : World) (R : OneSc w s k) : Calls Tryz.prog 9 #[.agg (scC s)] w fun e w' => e = .returned (.bool true) ∧ Ch [] w w' := by
  obtain ⟨W, hW, C, hB⟩ := scbox s w
  have T1 : Calls Tryz.prog 27 #[.func (.func 31) #[] #[.pointer (some ⟨w.heap.size, 0, none⟩)]] W fun e w' => e = .returned (.tuple #[I 2, I 0]) ∧ Ch [] W w' := by
    refine (triesBI_ok 31 _ W (fun x _ => x = 2) (fun _ _ _ h _ => h) (fun _ _ => by kernel_rfl) (fun w1 hc hz => (enough1_one s k _ w1 (R.ch (C.trans hc)) (bkeep hc hB)).mono fun e w2 h => ⟨_, h.1, rfl, h.2⟩)).mono ?_
    rintro e w' ⟨x, rfl, rfl, hc⟩
    exact ⟨rfl, hc⟩
  have h2 := R.right.s2
  clear R
  obtain ⟨B, hBe⟩ : ∃ B, w.heap.size = B := ⟨_, rfl⟩
  rw [hBe] at hB T1
  have hc1 : (scC s)[1]? = some (I s.sl) := rfl
  go_enter Tryz.func9, Tryz.ntmps9
  go_upto_region 1 with (fail)
  try rw [hW]
  try rw [hBe]
  clear hW hBe
  go_wp2_with fail
  refine T1.mono ?_
  rintro e w2 ⟨rfl, hc⟩
  have hB2 := bkeep hc hB
  clear T1 hB
  go_wp2
  go_ret
  exact ⟨rfl, C.trans hc⟩
end Go.Proofs.Hc
/- bound: Least of two scripts of one key (printed by gen_bleast.py). -/
namespace Go.Proofs.Hc
open Go.RowKit
set_option linter.unusedVariables false
attribute [local go_sem] wrap_u64 wrap_u8 bits_xor64 bits_and64 bits_or64 bits_not64 bits_xor8 bits_and8 bits_or8 signed64 signed8 ofInt_N BitVec.ofInt_add BitVec.ofInt_mul ofInt_sub' ofInt8_N64 ofInt64_N8 wide8 eqN neN shr_pow shr1 shr7 shr56
attribute [local go_sem high] bits_com64 shl_wrap
attribute [local go_sem] nn2 nm2 nn3 nm3 nn4 nm4 nn5 nm5 nn6 nm6 nn7 nm7 nn8 nm8
attribute [local go_sem] Oper.semAt_some make_func1 make_funcB
attribute [local go_sem] cell_heap ice_heap cellAt_cells iceAt_cells setAt_cells size_setCell rowAt_cells canLay_cells laidAt_cells size_onObj rowRes_some layRes_true
attribute [local go_sem ↓] heap_alloc heap_drew heap_drewN heap_setCell heap_putObj heap_onObj
attribute [local go_sem] loadS box_sc loadP5 box_pl scC_size scC_all scC_seed
attribute [local go_sem ↓] lrowS lrowP5
theorem scope_jumpsB {P : Program} {a : Act} {w : World} {Q : Exit → Act → World → Prop} {c rest : Code} (l : Nat) (J : Act → World → Prop) (μ : Act → World → Nat) (hf : findLabel c l = some (Code.skip.seq rest))
    (pass : ∀ a w, J a w → rest.wp P (Exit.jump l (fun a' w' => J a' w' ∧ μ a' w' < μ a w) Q) a w)
    (first : (∀ a w, J a w → rest.wp P (Exit.jump l J Q) a w) → c.wp P (Exit.jump l J Q) a w) : (Code.scope c).wp P Q a w :=
  wp_scope_jumps l J μ hf (first fun a w h => wp_mono (pass a w h) (fun e a w h => by cases e <;> first | exact h | exact ⟨h.1, h.2.1⟩)) (fun a w h => wp_seq (wp_skip (pass a w h)))
/-- Two scripts side by side. -/
def twoSc (s : ScT) : Array Value := scC s ++ scC s
theorem twoSc_size (s : ScT) : (twoSc s).size = 10 := rfl
theorem twoSc_at (s : ScT) (j : Nat) (h : j < 2) : (twoSc s).extract (j * 5) (j * 5 + 5) = scC s := by
  rcases (show j = 0 ∨ j = 1 by omega) with rfl | rfl <;> rfl
theorem two_row {w : World} {Q : Nat} {s : ScT} (h : w.heap[Q]? = some (.cells (twoSc s) 26 (0, 0))) (j : Nat) (hj : j < 2) : (w.heap[Q]?).bind (rowAt (j * 5) 5) = some (scC s) := by
  rw [h, Option.bind_some, rowAt_cells, if_pos (by rw [twoSc_size]; omega), twoSc_at s j hj]
/-- Where Least stands at its second label. -/
def LeastJ (w : World) (b : Nat) (a : Act) (wr : World) : Prop :=
  ∃ (q4 q5 q6 q7 q8 q9 q10 q11 q12 q13 q14 q15 q16 q17 q18 q19 q20 q21 q22 q23 q24 q25 q26 q27 q28 q29 : Value) (j : Nat), a = { tmps := #[.pointer (some ⟨b, 0, none⟩), I 0, I j, I 2, q4, q5, q6, q7, q8, q9, q10, q11, q12, q13, q14, q15, q16, q17, q18, q19, q20, q21, q22, q23, q24, q25, q26, q27, q28, q29], defers := [] } ∧ j ≤ 2 ∧ Ch [] w wr
set_option maxHeartbeats 1000000 in
set_option maxRecDepth 100000 in
theorem least1_two (s : ScT) (k : BitVec 64) (b Q c : Nat) (w : World) (R : OneSc w s k) (hb : w.heap[b]? = some (.cells #[.slice (some ⟨Q, 0, none⟩) 2 c] 57 (0, 0))) (hQ : w.heap[Q]? = some (.cells (twoSc s) 26 (0, 0))) :
    Calls Tryz.prog 34 #[.pointer (some ⟨b, 0, none⟩)] w fun e w' => e = .returned (I 2) ∧ Ch [] w w' := by
  have HR := Lib.hid R
  have HB := Lib.hid hb
  have HQ := Lib.hid hQ
  clear R hb hQ
  go_enter Tryz.func34, Tryz.ntmps34
  go_wp2
  refine scope_jumpsB 1 (LeastJ w b) (fun a _ => 2 - (intOf (a.tmps.getD 2 undef)).toNat) rfl ?_ ?_
  · rintro a0 wr ⟨q4, q5, q6, q7, q8, q9, q10, q11, q12, q13, q14, q15, q16, q17, q18, q19, q20, q21, q22, q23, q24, q25, q26, q27, q28, q29, j, rfl, hj, hC⟩
    have hb1 := bkeep hC HB.out
    rcases (show j = 2 ∨ j < 2 by omega) with rfl | hlt
    · go_wp2
      show bodyPost Tryz.prog Tryz.f34 (fun e w' => e = Ending.returned (I 2) ∧ Ch [] w w') .ret _ wr
      go_ret
      exact ⟨rfl, hC⟩
    · have hjI : (j : Int) < 2 := by omega
      have hr := two_row (bkeep hC HQ.out) j hlt
      have R1 := HR.out.ch hC
      have O1 := of_yes s wr R1.right R1.tk
      go_wp2_with fail
      refine O1.mono ?_
      rintro e w2 ⟨rfl, hc2⟩
      have L1 := least_one s k w2 (R1.ch hc2)
      have C2 := hC.trans hc2
      clear O1 R1 hr hb1 hC hc2
      go_wp2_with fail
      refine L1.mono ?_
      rintro e w3 ⟨rfl, hc3⟩
      have C3 := C2.trans hc3
      clear L1 hc3 C2
      go_wp2
      go_step3
      refine ⟨rfl, ⟨_, _, _, _, _, _, _, _, _, _, _, _, _, _, _, _, _, _, _, _, _, _, _, _, _, _, j + 1, by go_num, by omega, C3⟩, ?_⟩
      simp [intOf]; omega
  · intro hpass
    go_wp2
    apply wp_label
    go_wp2
    go_loopw [2] (fun i wr => ∃ j : Nat, i = I j ∧ j ≤ 2 ∧ Ch [] w wr) (fun i _ => 2 - (intOf i).toNat)
    case atStart => exact ⟨0, rfl, by omega, Ch.refl _ _⟩
    case round =>
      obtain ⟨j, hi, hj, hC⟩ := hrel
      subst hi
      have hb1 := bkeep hC HB.out
      rcases (show j = 2 ∨ j < 2 by omega) with rfl | hlt
      · go_wp2
        refine wp_label ?_
        rename_i hK
        refine hK _ _ (hpass _ _ ?_)
        exact ⟨_, _, _, _, _, _, _, _, _, _, _, _, _, _, _, _, _, _, _, _, _, _, _, _, _, _, 0, rfl, by omega, hC⟩
      · have hjI : (j : Int) < 2 := by omega
        have hr := two_row (bkeep hC HQ.out) j hlt
        have R1 := HR.out.ch hC
        have O1 := of_yes s wr R1.right R1.tk
        go_wp2_with fail
        refine O1.mono ?_
        rintro e w2 ⟨rfl, hc2⟩
        have C2 := hC.trans hc2
        clear O1 R1 hr hb1 hC hc2
        go_wp2
        go_roundw
        case rel => exact ⟨j + 1, by go_num, by omega, C2⟩
        case measure => simp [intOf]; omega
end Go.Proofs.Hc
