/- Package script: right. -/
import Derived.Test.YtfoicjijngfhbaaGreatDoorKBc
import Derived.Test.YtfoicjijngfhbaaGreatDoorKBd
import Derived.Test.YtfoicjijngfhbaaGreatDoorKBf
import Derived.Test.YtfoicjijngfhbaaGreatDoorKBg
import Derived.Test.YtfoicjijngfhbaaGreatDoorKDa
import Derived.Test.YtfoicjijngfhbaaGreatDoorKHm
import Derived.Test.YtfoicjijngfhbaaGreatDoorKHr
import Derived.Below
import Derived.BigQuiet
import Derived.Deep.Cut
import Derived.Deep.Draws
import Derived.Deep.QuietTactic
import Derived.Deep.RegionHeld
import Derived.Laws.CopyRow
import Derived.Laws.EntriesVeiled
import Derived.Laws.Tables
import Derived.Lib.Hide
import Derived.LoopIn
import Derived.LoopNIn
import Derived.OwnWalkIn
import Derived.RangeFuncCalls
import Derived.RangeFuncRecord
import Derived.RangeFuncSeq
import Derived.Recover
import Derived.TacticsInMore
import Derived.Test.YtfoicjijngfhbaaGreatDoorProg
import Derived.WalkKit
import Derived.WalkLawsBesides
set_option linter.unusedSimpArgs false
set_option linter.unusedVariables false
namespace Go.Proofs.Hc
open Go.RowKit
set_option linter.unusedVariables false
attribute [local go_sem] wrap_u64 wrap_u8 bits_xor64 bits_and64 bits_or64 bits_not64 bits_xor8 bits_and8 bits_or8 signed64 signed8 ofInt_N BitVec.ofInt_add BitVec.ofInt_mul ofInt_sub' ofInt8_N64 ofInt64_N8 wide8 eqN neN shr_pow shr1 shr7 shr56
attribute [local go_sem high] bits_com64 shl_wrap
attribute [local go_sem] nn2 nm2 nn3 nm3 nn4 nm4 nn5 nm5 nn6 nm6 nn7 nm7 nn8 nm8
attribute [local go_sem] Oper.semAt_some make_func1 make_funcB
attribute [local go_sem] cell_heap ice_heap cellAt_cells iceAt_cells setAt_cells size_setCell rowAt_cells canLay_cells laidAt_cells size_onObj rowRes_some layRes_true
attribute [local go_sem ↓] heap_alloc heap_drew heap_drewN heap_setCell heap_putObj heap_onObj
attribute [local go_sem] store3p build3p one3p
attribute [local go_sem ↓] srow3p brow3p
theorem takesE_is (op : Int) : takesE op = -1 ∨ takesE op = 0 ∨ takesE op = 1 ∨ takesE op = 2 ∨ takesE op = 3 := by
  unfold takesE
  by_cases h : 0 ≤ op ∧ op < 8
  · rw [if_pos h]
    rcases (show op = 0 ∨ op = 1 ∨ op = 2 ∨ op = 3 ∨ op = 4 ∨ op = 5 ∨ op = 6 ∨ op = 7 by omega) with rfl | rfl | rfl | rfl | rfl | rfl | rfl | rfl <;> decide
  · rw [if_neg h]; exact .inl rfl
def wordC (k x y : BitVec 64) (i : Nat) : BitVec 64 := if i = 0 then k else if i = 1 then x else y
def rightC (op : Int) (k x y : BitVec 64) : Bool := decide (0 ≤ takesE op) && decide (∀ i, i < 3 - (takesE op).toNat → wordC k x y ((takesE op).toNat + i) = 0#64)
theorem callbox (op : Int) (k x y : BitVec 64) (w : World) : ∃ W, w.alloc (.cells #[I op, U k, U x, U y] 44) = W ∧ Ch [] w W ∧ W.heap[w.heap.size]? = some (.cells #[I op, U k, U x, U y] 44 (0, 0)) :=
  ⟨_, rfl, (Ch.refl [] w).alloc _, by rw [heap_alloc, if_pos rfl]⟩
theorem box_call (xs : Array Value) (w : World) : (Instr.box 44 (.agg xs)).run Tryz.prog w = .ok (.pointer (some ⟨w.heap.size, 0, none⟩)) (w.alloc (.cells xs 44)) := rfl
attribute [local go_sem] box_call
theorem wp3_ch (B : Nat) (w : World) : Ch [] w (World.onObj (w.alloc (.cells #[.pointer none, .pointer none, .pointer none] 81)) w.heap.size (laidAt 0 (wp3 B))) := ((Ch.refl [] w).alloc _).onObj (.inr (Nat.le_refl _)) _
theorem wp3_put (B : Nat) (w : World) : (World.onObj (w.alloc (.cells #[.pointer none, .pointer none, .pointer none] 81)) w.heap.size (laidAt 0 (wp3 B))).heap[w.heap.size]? = some (.cells (wp3 B) 81 (0, 0)) := by
  rw [heap_onObj, if_pos rfl, heap_alloc, if_pos rfl]; rfl
theorem wp3_size (B : Nat) : (wp3 B).size = 3 := rfl
theorem wp3_one (B : Nat) : allOne (wp3 B) = true := one3p _ _ _
attribute [local go_sem] wp3_size wp3_one
theorem wp3_cell {w : World} {V B : Nat} (h : w.heap[V]? = some (.cells (wp3 B) 81 (0, 0))) (j : Nat) (hj : j < 3) : w.cell? ⟨V, j, none⟩ = some (.pointer (some ⟨B, 1 + j, none⟩)) := by
  unfold World.cell?
  rw [h]
  rcases (show j = 0 ∨ j = 1 ∨ j = 2 by omega) with rfl | rfl | rfl <;> rfl
theorem call_cell {w : World} {B : Nat} {op : Int} {k x y : BitVec 64} (h : w.heap[B]? = some (.cells #[I op, U k, U x, U y] 44 (0, 0))) (j : Nat) (hj : j < 3) : w.cell? ⟨B, 1 + j, none⟩ = some (U (wordC k x y j)) := by
  unfold World.cell?
  rw [h]
  rcases (show j = 0 ∨ j = 1 ∨ j = 2 by omega) with rfl | rfl | rfl <;> rfl
/-- all of the words from m on. -/
theorem rest_any (m c : Nat) (hm : m ≤ 3) (V B : Nat) (op : Int) (k x y : BitVec 64) (w w3 : World) (C3 : Ch [] w w3) (hV : w3.heap[V]? = some (.cells (wp3 B) 81 (0, 0))) (hB : w3.heap[B]? = some (.cells #[I op, U k, U x, U y] 44 (0, 0))) :
    Calls Tryz.prog 68 #[.slice (some ⟨V, m, none⟩) (3 - m) c, .func (.func 69) #[] #[]] w3 fun e w' => e = .returned (.bool (decide (∀ i, i < 3 - m → wordC k x y (m + i) = 0#64))) ∧ Ch [] w w' := by
  refine (sallws_any V m (3 - m) c (fun i => (B, 1 + (m + i))) (fun i => wordC k x y (m + i)) w3 (by omega) (fun i hi => wp3_cell hV _ (by omega)) (fun i hi => call_cell hB _ (by omega)) (!(decide (∀ i, i < 3 - m → wordC k x y (m + i) = 0#64))) ?_ (Array.getElem?_eq_some_iff.1 hV).1 (fun _ _ => (Array.getElem?_eq_some_iff.1 hB).1)).mono ?_
  · rw [Bool.not_eq_true', decide_eq_false_iff_not]
    constructor
    · intro h
      refine Classical.byContradiction fun h2 => h fun i hi => Classical.byContradiction fun h3 => h2 ⟨i, hi, h3⟩
    · rintro ⟨i, hi, h3⟩ h
      exact h3 (h i hi)
  · rintro e w' ⟨rfl, hc⟩
    exact ⟨by rw [Bool.not_not], C3.trans hc⟩
theorem rest_none (c : Nat) (V B : Nat) (op : Int) (k x y : BitVec 64) (w w3 : World) (C3 : Ch [] w w3) (hV : w3.heap[V]? = some (.cells (wp3 B) 81 (0, 0))) (hB : w3.heap[B]? = some (.cells #[I op, U k, U x, U y] 44 (0, 0))) :
    Calls Tryz.prog 68 #[.slice (some ⟨V, 0, none⟩) 0 c, .func (.func 69) #[] #[]] w3 fun e w' => e = .returned (.bool (decide (∀ i, i < 3 - 3 → wordC k x y (3 + i) = 0#64))) ∧ Ch [] w w' := by
  refine (sallws_any V 0 0 c (fun i => (B, i)) (fun i => 0#64) w3 (by omega) (fun i hi => absurd hi (by omega)) (fun i hi => absurd hi (by omega)) false ⟨fun h => (by cases h), fun ⟨i, hi, _⟩ => absurd hi (by omega)⟩ (Array.getElem?_eq_some_iff.1 hV).1 (fun _ _ => (Array.getElem?_eq_some_iff.1 hB).1)).mono ?_
  rintro e w' ⟨rfl, hc⟩
  refine ⟨?_, C3.trans hc⟩
  rw [decide_eq_true (fun i hi => absurd hi (by omega))]
  rfl
set_option maxRecDepth 100000 in
theorem sright_any (op : Int) (k x y : BitVec 64) (w : World) (h : TakesAt w) :
    Calls Tryz.prog 54 #[.agg #[I op, U k, U x, U y]] w fun e w' => e = .returned (.bool (rightC op k x y)) ∧ Ch [] w w' := by
  obtain ⟨W, hW, C, hB⟩ := callbox op k x y w
  have hT := h.ch C
  have T1 := fun w h => stakes_any op w h
  obtain ⟨B, hBe⟩ : ∃ B, w.heap.size = B := ⟨_, rfl⟩
  rw [hBe] at hB
  rcases takesE_is op with e | e | e | e | e
  · have er : rightC op k x y = false := by unfold rightC; rw [e]; rfl
    rw [er]
    rw [e] at T1
    clear h er e
    go_enter Tryz.func54, Tryz.ntmps54
    go_upto_region 1 with (fail)
    try rw [hW]
    try rw [hBe]
    clear hW hBe
    go_wp2_with (go_at_call 66; refine (T1 _ hT).mono ?_; rintro e w' ⟨rfl, rfl⟩)
    go_ret
    exact ⟨rfl, C⟩
  · have er : rightC op k x y = decide (∀ i, i < 3 - 0 → wordC k x y (0 + i) = 0#64) := by unfold rightC; rw [e]; rfl
    have RA := fun V c w3 C3 hV hB => rest_any 0 c (by omega) V B op k x y w w3 C3 hV hB
    rw [er]
    rw [e] at T1
    obtain ⟨bb, hbb⟩ : ∃ b, decide (∀ i, i < 3 - 0 → wordC k x y (0 + i) = 0#64) = b := ⟨_, rfl⟩
    rw [hbb] at RA ⊢
    clear h er e hbb
    have W1 := fun w => swords_any B w
    go_enter Tryz.func54, Tryz.ntmps54
    go_upto_region 1 with (fail)
    try rw [hW]
    try rw [hBe]
    clear hW hBe
    go_wp2_with (go_at_call 66; refine (T1 _ hT).mono ?_; rintro e w' ⟨rfl, rfl⟩)
    refine (W1 _).mono ?_
    rintro e w2 ⟨rfl, hc2⟩
    have hB2 := bkeep hc2 hB
    have C2 := C.trans hc2
    clear hB C hc2 W1 T1 hT
    go_upto_region 5 with (fail)
    have hc3 := wp3_ch B w2
    have hV := wp3_put B w2
    have C3 := C2.trans hc3
    have hB3 := bkeep hc3 hB2
    clear C2 hc3 hB2
    obtain ⟨w3, hw3⟩ : ∃ W, World.onObj (w2.alloc (.cells #[.pointer none, .pointer none, .pointer none] 81)) w2.heap.size (laidAt 0 (wp3 B)) = W := ⟨_, rfl⟩
    rw [hw3] at hV C3 hB3 ⊢
    clear hw3
    obtain ⟨V, hVe⟩ : ∃ b, w2.heap.size = b := ⟨_, rfl⟩
    rw [hVe] at hV ⊢
    clear hVe
    go_wp2_with fail
    refine (RA V _ w3 C3 hV hB3).mono ?_
    rintro e w' ⟨rfl, hc⟩
    go_wp2
    go_ret
    exact ⟨rfl, hc⟩
  · have er : rightC op k x y = decide (∀ i, i < 3 - 1 → wordC k x y (1 + i) = 0#64) := by unfold rightC; rw [e]; rfl
    have RA := fun V c w3 C3 hV hB => rest_any 1 c (by omega) V B op k x y w w3 C3 hV hB
    rw [er]
    rw [e] at T1
    obtain ⟨bb, hbb⟩ : ∃ b, decide (∀ i, i < 3 - 1 → wordC k x y (1 + i) = 0#64) = b := ⟨_, rfl⟩
    rw [hbb] at RA ⊢
    clear h er e hbb
    have W1 := fun w => swords_any B w
    go_enter Tryz.func54, Tryz.ntmps54
    go_upto_region 1 with (fail)
    try rw [hW]
    try rw [hBe]
    clear hW hBe
    go_wp2_with (go_at_call 66; refine (T1 _ hT).mono ?_; rintro e w' ⟨rfl, rfl⟩)
    refine (W1 _).mono ?_
    rintro e w2 ⟨rfl, hc2⟩
    have hB2 := bkeep hc2 hB
    have C2 := C.trans hc2
    clear hB C hc2 W1 T1 hT
    go_upto_region 5 with (fail)
    have hc3 := wp3_ch B w2
    have hV := wp3_put B w2
    have C3 := C2.trans hc3
    have hB3 := bkeep hc3 hB2
    clear C2 hc3 hB2
    obtain ⟨w3, hw3⟩ : ∃ W, World.onObj (w2.alloc (.cells #[.pointer none, .pointer none, .pointer none] 81)) w2.heap.size (laidAt 0 (wp3 B)) = W := ⟨_, rfl⟩
    rw [hw3] at hV C3 hB3 ⊢
    clear hw3
    obtain ⟨V, hVe⟩ : ∃ b, w2.heap.size = b := ⟨_, rfl⟩
    rw [hVe] at hV ⊢
    clear hVe
    go_wp2_with fail
    refine (RA V _ w3 C3 hV hB3).mono ?_
    rintro e w' ⟨rfl, hc⟩
    go_wp2
    go_ret
    exact ⟨rfl, hc⟩
  · have er : rightC op k x y = decide (∀ i, i < 3 - 2 → wordC k x y (2 + i) = 0#64) := by unfold rightC; rw [e]; rfl
    have RA := fun V c w3 C3 hV hB => rest_any 2 c (by omega) V B op k x y w w3 C3 hV hB
    rw [er]
    rw [e] at T1
    obtain ⟨bb, hbb⟩ : ∃ b, decide (∀ i, i < 3 - 2 → wordC k x y (2 + i) = 0#64) = b := ⟨_, rfl⟩
    rw [hbb] at RA ⊢
    clear h er e hbb
    have W1 := fun w => swords_any B w
    go_enter Tryz.func54, Tryz.ntmps54
    go_upto_region 1 with (fail)
    try rw [hW]
    try rw [hBe]
    clear hW hBe
    go_wp2_with (go_at_call 66; refine (T1 _ hT).mono ?_; rintro e w' ⟨rfl, rfl⟩)
    refine (W1 _).mono ?_
    rintro e w2 ⟨rfl, hc2⟩
    have hB2 := bkeep hc2 hB
    have C2 := C.trans hc2
    clear hB C hc2 W1 T1 hT
    go_upto_region 5 with (fail)
    have hc3 := wp3_ch B w2
    have hV := wp3_put B w2
    have C3 := C2.trans hc3
    have hB3 := bkeep hc3 hB2
    clear C2 hc3 hB2
    obtain ⟨w3, hw3⟩ : ∃ W, World.onObj (w2.alloc (.cells #[.pointer none, .pointer none, .pointer none] 81)) w2.heap.size (laidAt 0 (wp3 B)) = W := ⟨_, rfl⟩
    rw [hw3] at hV C3 hB3 ⊢
    clear hw3
    obtain ⟨V, hVe⟩ : ∃ b, w2.heap.size = b := ⟨_, rfl⟩
    rw [hVe] at hV ⊢
    clear hVe
    go_wp2_with fail
    refine (RA V _ w3 C3 hV hB3).mono ?_
    rintro e w' ⟨rfl, hc⟩
    go_wp2
    go_ret
    exact ⟨rfl, hc⟩
  · have er : rightC op k x y = decide (∀ i, i < 3 - 3 → wordC k x y (3 + i) = 0#64) := by unfold rightC; rw [e]; rfl
    have RA := fun V c w3 C3 hV hB => rest_none c V B op k x y w w3 C3 hV hB
    rw [er]
    rw [e] at T1
    obtain ⟨bb, hbb⟩ : ∃ b, decide (∀ i, i < 3 - 3 → wordC k x y (3 + i) = 0#64) = b := ⟨_, rfl⟩
    rw [hbb] at RA ⊢
    clear h er e hbb
    have W1 := fun w => swords_any B w
    go_enter Tryz.func54, Tryz.ntmps54
    go_upto_region 1 with (fail)
    try rw [hW]
    try rw [hBe]
    clear hW hBe
    go_wp2_with (go_at_call 66; refine (T1 _ hT).mono ?_; rintro e w' ⟨rfl, rfl⟩)
    refine (W1 _).mono ?_
    rintro e w2 ⟨rfl, hc2⟩
    have hB2 := bkeep hc2 hB
    have C2 := C.trans hc2
    clear hB C hc2 W1 T1 hT
    go_upto_region 5 with (fail)
    have hc3 := wp3_ch B w2
    have hV := wp3_put B w2
    have C3 := C2.trans hc3
    have hB3 := bkeep hc3 hB2
    clear C2 hc3 hB2
    obtain ⟨w3, hw3⟩ : ∃ W, World.onObj (w2.alloc (.cells #[.pointer none, .pointer none, .pointer none] 81)) w2.heap.size (laidAt 0 (wp3 B)) = W := ⟨_, rfl⟩
    rw [hw3] at hV C3 hB3 ⊢
    clear hw3
    obtain ⟨V, hVe⟩ : ∃ b, w2.heap.size = b := ⟨_, rfl⟩
    rw [hVe] at hV ⊢
    clear hVe
    go_wp2_with fail
    refine (RA V _ w3 C3 hV hB3).mono ?_
    rintro e w' ⟨rfl, hc⟩
    go_wp2
    go_ret
    exact ⟨rfl, hc⟩
end Go.Proofs.Hc
