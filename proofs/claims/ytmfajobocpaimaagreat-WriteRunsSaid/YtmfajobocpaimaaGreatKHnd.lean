/- The references of layer 19: slot, word, what. -/
import Derived.Test.YtmfajobocpaimaaGreatKHxe
import Derived.Test.YtmfajobocpaimaaGreatKHnc
import Derived.Test.YtmfajobocpaimaaGreatKHni
import Derived.Test.YtmfajobocpaimaaGreatKHnl
import Derived.Test.YtmfajobocpaimaaGreatKHnq
import Derived.Test.YtmfajobocpaimaaGreatKHpa
import Derived.Test.YtmfajobocpaimaaGreatKHq
import Derived.Test.YtmfajobocpaimaaGreatKHr
import Derived.Test.YtmfajobocpaimaaGreatKHta
import Derived.Test.YtmfajobocpaimaaGreatKHop2
import Derived.Test.YtmfajobocpaimaaGreatKHxo
import Derived.Below
import Derived.BigQuiet
import Derived.Deep.Draws
import Derived.Deep.Light
import Derived.Deep.QuietTactic
import Derived.Deep.RegionHeld
import Derived.Laws.CopyRow
import Derived.Laws.StructEq
import Derived.Laws.Tables
import Derived.Lib.AppendZerosOnto
import Derived.Lib.Hide
import Derived.Lib.Tables
import Derived.Lib.Walk
import Derived.LoopIn
import Derived.LoopN
import Derived.LoopNIn
import Derived.Maps.AppendAt
import Derived.Maps.Views
import Derived.OwnWalkIn
import Derived.RangeFuncBox
import Derived.RangeFuncCalls
import Derived.RangeFuncRecord
import Derived.RangeFuncSeq
import Derived.Recover
import Derived.RegionTactic
import Derived.Shelf.Slices.Clone
import Derived.StillTail
import Derived.StillTailTactics
import Derived.TacticsInMore
import Derived.Test.YtmfajobocpaimaaGreatProg
import Derived.WalkKit
import Derived.WalkLawsBesides
import Derived.WalkMore
import Derived.WalkSpells
set_option linter.unusedSimpArgs false
set_option linter.unusedVariables false
namespace Go.Proofs.Hc
open Go.RowKit
attribute [local go_sem] wrap_u64 wrap_u8 bits_xor64 bits_and64 bits_or64 bits_not64 bits_xor8 bits_and8 bits_or8 signed64 signed8 ofInt_N BitVec.ofInt_add BitVec.ofInt_mul ofInt_sub' ofInt8_N64 ofInt64_N8 wide8 eqN neN shr_pow shr1 shr7 shr56
attribute [local go_sem high] bits_com64 shl_wrap
attribute [local go_sem] cell_heap ice_heap cellAt_cells iceAt_cells setAt_cells rowAt_cells canLay_cells laidAt_cells size_onObj size_setCell rowRes_some layRes_true
attribute [local go_sem] load26 load73 load23 store26 build73
attribute [local go_sem ↓] lrow26 lrow73 lrow23 srow26 zero26 brow73 heap_alloc heap_drew heap_drewN heap_setCell heap_onObj
attribute [local go_sem] tcells_size hcells_size tcells_get hcells_get tcells_one hcells_one hcells_table tcells_table hcells_all hcells_ctrl tcells_ctrl
attribute [local go_sem] nn2 nm2 nn3 nm3 nn4 nm4 nn5 nm5 nn6 nm6 nn7 nm7 nn8 nm8
attribute [local go_sem] nn2 nm2 nn3 nm3 nn4 nm4 nn5 nm5 nn6 nm6 nn7 nm7 nn8 nm8
attribute [local go_sem] ofInt_N
attribute [local go_sem] pen_g0 pen_g1 pen_g2 pen_g3 pen_g4 pen_g5 pen_g6 pen_g7 pen_g8 pen_g9 pen_g10 pen_g11 pen_g12 pen_g13 pen_g14 pen_g15 pen_g16 pen_g17 penC_size penC_one penC_all boxPen loadPen storePen
attribute [local go_sem ↓] lrowPen srowPen
attribute [local irreducible] penC
set_option maxHeartbeats 400000 in
set_option maxRecDepth 100000 in
theorem r19Slot_any (p : PenT) (h0 : 0 ≤ p.free) (h1 : p.free ≤ 16) (w : World) : Calls Tryz.prog 227 #[.agg (penC p)] w fun e w' => e = .returned (I (slotP p)) ∧ Ch [] w w' := by
  have W1 := fun w => rWants_any p w
  have HS : Hid (slotP p = if wantsP p == 1 then p.free - 1 else p.slot) := Lib.hid (by rw [slotP])
  have hw := wantsP_cases p
  generalize slotP p = s at *
  generalize wantsP p = n at *
  rcases hw with rfl | rfl | rfl | rfl
  all_goals
    go_enter Tryz.func227, Tryz.ntmps227
    go_wp2_with fail
    (have hC0 : Ch [] w (w.alloc (.cells (penC p) 71)) := (Ch.refl [] w).alloc _; have b0 := new_pen p w; have hlt0 : w.heap.size < (w.alloc (.cells (penC p) 71)).heap.size := (Array.getElem?_eq_some_iff.1 b0).1; generalize w.alloc (.cells (penC p) 71) = W0 at *)
    refine (W1 _).mono ?_
    rintro e w1 ⟨rfl, hc1⟩
    have b1 := hkeep hc1 b0
    go_wp2
    go_ret
    exact ⟨by rw [HS.out]; rfl, hC0.trans hc1⟩
set_option maxHeartbeats 1000000 in
set_option maxRecDepth 100000 in
theorem r19Word_any (p : PenT) (R : RightP p) (h13 : p.ph ≤ 13) (h12 : p.ph ≠ 12) (w : World) : Calls Tryz.prog 160 #[.agg (penC p)] w fun e w' => e = .returned (I (wordP p)) ∧ Ch [] w w' := by
  have S1 := fun w => r19Slot_any p R.free0 R.free1 w
  have G1 := fun w => r19Group_any p R.grp w
  have L1 := fun (h : p.ph = 2) w => r19Least_any p.left (R.left h) w
  have HW : Hid (wordP p = if p.ph = 0 ∨ p.ph = 6 ∨ p.ph = 13 then 0
  else if p.ph = 1 then ((4 + groupP p : Nat) : Int)
  else if p.ph = 2 then ((6 + 8 * groupP p + laneP p.left : Nat) : Int)
  else if p.ph = 3 then 22 + p.slot
  else if p.ph = 4 ∨ p.ph = 10 then 2
  else if p.ph = 5 ∨ p.ph = 11 then 3
  else if p.ph = 7 then 6 + slotP p
  else if p.ph = 8 then 22 + slotP p
  else 4 + slotP p / 8) := Lib.hid (by rw [wordP])
  have hg2 : (groupP p : Int) < 2 := by have := groupP_lt p; omega
  have hl8 : (laneP p.left : Int) < 8 := by have := laneP_lt p.left; omega
  have hsr := fun (h : 4 ≤ p.ph) => slotP_range R h h13
  have hslot0 := R.slot0
  have hslot1 := R.slot1
  have hcases : p.ph = 0 ∨ p.ph = 1 ∨ p.ph = 2 ∨ p.ph = 3 ∨ p.ph = 4 ∨ p.ph = 5 ∨ p.ph = 6 ∨ p.ph = 7 ∨ p.ph = 8 ∨ p.ph = 9 ∨ p.ph = 10 ∨ p.ph = 11 ∨ p.ph = 13 := by have := R.ph0; omega
  clear h13 h12 R
  generalize wordP p = r at *
  generalize groupP p = g at *
  generalize laneP p.left = l at *
  generalize slotP p = s at *
  rcases hcases with hph | hph | hph | hph | hph | hph | hph | hph | hph | hph | hph | hph | hph
  all_goals
    rw [hph] at HW hsr L1
    first
      | (have hs0 : 0 ≤ s := (hsr (by decide)).1; have hs1 : s ≤ 15 := (hsr (by decide)).2; clear hsr)
      | clear hsr
    first | (have L2 := L1 rfl; clear L1) | clear L1
    go_enter Tryz.func160, Tryz.ntmps160
    go_wp2_with fail
    (have hC0 : Ch [] w (w.alloc (.cells (penC p) 71)) := (Ch.refl [] w).alloc _; have b0 := new_pen p w; have hlt0 : w.heap.size < (w.alloc (.cells (penC p) 71)).heap.size := (Array.getElem?_eq_some_iff.1 b0).1; generalize w.alloc (.cells (penC p) 71) = W0 at *)
    refine (S1 _).mono ?_
    rintro e w1 ⟨rfl, hc1⟩
    have b1 := hkeep hc1 b0
    have hC1 := hC0.trans hc1
    clear b0 hc1 S1 hC0
    first
      | (go_wp2
         go_ret
         exact ⟨by rw [HW.out]; simp, hC1⟩)
      | (go_wp2_with fail
         refine (G1 _).mono ?_
         rintro e w2 ⟨rfl, hc2⟩
         go_wp2
         go_ret
         exact ⟨by rw [HW.out]; simp, hC1.trans hc2⟩)
      | (go_wp2
         have hg0 : ∀ g : Gar w1, (g.1).heap[w.heap.size]? = some (.cells (penC p) 71 (0, 0)) := fun g => hkeep g.2 b1
         refine wp_region_gar (by kernel_rfl) (by kernel_rfl) ?_
         repeat (go_big_quiet_step (first | (go_at_call 163; exact garC (G1 _)) | (go_at_call 165; exact garC (L2 _))))
         refine wpQuiet_nil ?_
         rintro W1 ⟨g1, hw1⟩
         have hc2 : Ch [] w1 W1 := by rw [hw1]; exact g1.2
         clear hw1 g1 hg0
         go_wp2
         go_ret
         exact ⟨by rw [HW.out]; simp, hC1.trans hc2⟩)
theorem what_cases {p : PenT} (R : RightP p) (h6 : 6 ≤ p.ph) (h13 : p.ph ≤ 13) (h12 : p.ph ≠ 12) : p.ph = 6 ∧ wantsP p = 1 ∨ p.ph = 6 ∧ wantsP p = 2 ∨ p.ph = 6 ∧ wantsP p = 3 ∨ p.ph = 13 ∧ wantsP p = 1 ∨ p.ph = 13 ∧ wantsP p = 2 ∨ p.ph = 13 ∧ wantsP p = 3 ∨ p.ph = 7 ∧ wantsP p = 1 ∨ p.ph = 8 ∧ wantsP p = 1 ∨ p.ph = 8 ∧ wantsP p = 2 ∨ p.ph = 9 ∧ wantsP p = 1 ∨ p.ph = 9 ∧ wantsP p = 3 ∨ p.ph = 10 ∧ wantsP p = 1 ∨ p.ph = 10 ∧ wantsP p = 3 ∨ p.ph = 11 ∧ wantsP p = 1 ∨ p.ph = 11 ∧ wantsP p = 3 := by
  have h := ((R.goes.resolve_left (by omega)).resolve_left (by omega)).1
  have hw := wantsP_cases p
  generalize wantsP p = n at *
  have hph : p.ph = 6 ∨ p.ph = 7 ∨ p.ph = 8 ∨ p.ph = 9 ∨ p.ph = 10 ∨ p.ph = 11 ∨ p.ph = 13 := by omega
  generalize p.ph = x at *
  clear h6 h13 h12 R
  rcases hph with rfl | rfl | rfl | rfl | rfl | rfl | rfl <;> rcases hw with rfl | rfl | rfl | rfl <;> first | (exfalso; revert h; decide) | (simp; done)
set_option maxHeartbeats 1000000 in
set_option maxRecDepth 100000 in
theorem r19What_any (p : PenT) (R : RightP p) (h6 : 6 ≤ p.ph) (h13 : p.ph ≤ 13) (h12 : p.ph ≠ 12) (w : World) : Calls Tryz.prog 161 #[.agg (penC p)] w fun e w' => e = .returned (U (whatP p)) ∧ Ch [] w w' := by
  obtain ⟨hs0, hs15⟩ := slotP_range R (by omega) h13
  obtain ⟨sn, hsn⟩ : ∃ n : Nat, slotP p = n := ⟨(slotP p).toNat, by omega⟩
  have hsn15 : (sn : Int) ≤ 15 := by omega
  have hsn0 : (0 : Int) ≤ sn := by omega
  have S1 := fun w => r19Slot_any p R.free0 R.free1 w
  have W1 := fun w => rWants_any p w
  have E1 := fun w => r19Empty_any p.ctrl w
  have A1 := fun (h : 0 < p.free) w => r19Was_any p h R.free1 w
  have H1 := fun w => rH2_any p.hash w
  have P1 : ∀ (x : BitVec 64) (b : BitVec 8) w, Calls Tryz.prog 94 #[U x, Y b, I ((sn : Int) % 8)] w fun e w' => e = .returned (U (withB x (sn % 8) b)) ∧ Ch [] w w' := fun x b w => by
    have := rPut_any x b (sn % 8) (Nat.mod_lt _ (by decide)) w
    rwa [show ((sn % 8 : Nat) : Int) = (sn : Int) % 8 by omega] at this
  have HW : Hid (whatP p = if p.ph = 6 then p.count + 1#64
  else if p.ph = 13 then p.count + 2#64
  else if p.ph = 7 then p.key
  else if p.ph = 8 then (if p.op = 4 then p.b else p.a)
  else if p.ph = 9 then (if wantsP p == 1 then withB p.fctrl (sn % 8) (hash2 p.hash) else withB p.ctrl (sn % 8) (if emptyM p.ctrl != 0#8 then 128#8 else 254#8))
  else if p.ph = 10 then (if wantsP p == 1 && wasP p then p.can - 1#64 else if wantsP p == 3 && emptyM p.ctrl != 0#8 then p.can + 1#64 else p.can)
  else p.live + byP (wantsP p)) := Lib.hid (by rw [whatP, markP, hsn]; rfl)
  have hcases := what_cases R h6 h13 h12
  have hfr : wantsP p = 1 → 0 < p.free := fun h => by have := ((R.goes.resolve_left (by omega)).resolve_left (by omega)).2; omega
  have hop : p.op = 2 ∨ p.op = 3 ∨ p.op = 4 ∨ p.op = 5 := by have := R.op0; have := R.op1; omega
  rw [hsn] at S1
  clear hop hsn hs0 hs15 h13 h6 h12 R
  generalize whatP p = r at *
  generalize slotP p = s at *
  generalize wasP p = ws at *
  generalize (emptyM p.ctrl != 0#8) = em at *
  generalize wantsP p = n at *
  have P2 : ∀ (x : BitVec 64) w, Calls Tryz.prog 94 #[U x, .int .u8 128, I ((sn : Int) % 8)] w fun e w' => e = .returned (U (withB x (sn % 8) 128#8)) ∧ Ch [] w w' := fun x w => P1 x 128#8 w
  have P3 : ∀ (x : BitVec 64) w, Calls Tryz.prog 94 #[U x, .int .u8 254, I ((sn : Int) % 8)] w fun e w' => e = .returned (U (withB x (sn % 8) 254#8)) ∧ Ch [] w w' := fun x w => P1 x 254#8 w
  have hws : ws = true ∨ ws = false := by cases ws <;> simp
  have hem : em = true ∨ em = false := by cases em <;> simp
  have h4 : p.op = 4 ∨ (p.op == 4) = false := eq_cases _ _
  rcases hcases with ⟨hph, rfl⟩ | ⟨hph, rfl⟩ | ⟨hph, rfl⟩ | ⟨hph, rfl⟩ | ⟨hph, rfl⟩ | ⟨hph, rfl⟩ | ⟨hph, rfl⟩ | ⟨hph, rfl⟩ | ⟨hph, rfl⟩ | ⟨hph, rfl⟩ | ⟨hph, rfl⟩ | ⟨hph, rfl⟩ | ⟨hph, rfl⟩ | ⟨hph, rfl⟩ | ⟨hph, rfl⟩
  · rw [hph] at HW
    go_enter Tryz.func161, Tryz.ntmps161
    go_wp2_with fail
    (have hC0 : Ch [] w (w.alloc (.cells (penC p) 71)) := (Ch.refl [] w).alloc _; have b0 := new_pen p w; have hlt0 : w.heap.size < (w.alloc (.cells (penC p) 71)).heap.size := (Array.getElem?_eq_some_iff.1 b0).1; generalize w.alloc (.cells (penC p) 71) = W0 at *)
    refine (S1 _).mono ?_
    rintro e w1 ⟨rfl, hc1⟩
    have b1 := hkeep hc1 b0
    have hC1 := hC0.trans hc1
    clear b0 hc1 S1 hC0
    go_wp2_with fail
    refine (W1 _).mono ?_
    rintro e w2 ⟨rfl, hc2⟩
    have b2 := hkeep hc2 b1
    have hC2 := hC1.trans hc2
    clear b1 hc2 W1 hC1
    go_wp2
    go_ret
    refine ⟨?_, hC2⟩
    rw [HW.out]
    rfl
  · rw [hph] at HW
    go_enter Tryz.func161, Tryz.ntmps161
    go_wp2_with fail
    (have hC0 : Ch [] w (w.alloc (.cells (penC p) 71)) := (Ch.refl [] w).alloc _; have b0 := new_pen p w; have hlt0 : w.heap.size < (w.alloc (.cells (penC p) 71)).heap.size := (Array.getElem?_eq_some_iff.1 b0).1; generalize w.alloc (.cells (penC p) 71) = W0 at *)
    refine (S1 _).mono ?_
    rintro e w1 ⟨rfl, hc1⟩
    have b1 := hkeep hc1 b0
    have hC1 := hC0.trans hc1
    clear b0 hc1 S1 hC0
    go_wp2_with fail
    refine (W1 _).mono ?_
    rintro e w2 ⟨rfl, hc2⟩
    have b2 := hkeep hc2 b1
    have hC2 := hC1.trans hc2
    clear b1 hc2 W1 hC1
    go_wp2
    go_ret
    refine ⟨?_, hC2⟩
    rw [HW.out]
    rfl
  · rw [hph] at HW
    go_enter Tryz.func161, Tryz.ntmps161
    go_wp2_with fail
    (have hC0 : Ch [] w (w.alloc (.cells (penC p) 71)) := (Ch.refl [] w).alloc _; have b0 := new_pen p w; have hlt0 : w.heap.size < (w.alloc (.cells (penC p) 71)).heap.size := (Array.getElem?_eq_some_iff.1 b0).1; generalize w.alloc (.cells (penC p) 71) = W0 at *)
    refine (S1 _).mono ?_
    rintro e w1 ⟨rfl, hc1⟩
    have b1 := hkeep hc1 b0
    have hC1 := hC0.trans hc1
    clear b0 hc1 S1 hC0
    go_wp2_with fail
    refine (W1 _).mono ?_
    rintro e w2 ⟨rfl, hc2⟩
    have b2 := hkeep hc2 b1
    have hC2 := hC1.trans hc2
    clear b1 hc2 W1 hC1
    go_wp2
    go_ret
    refine ⟨?_, hC2⟩
    rw [HW.out]
    rfl
  · rw [hph] at HW
    go_enter Tryz.func161, Tryz.ntmps161
    go_wp2_with fail
    (have hC0 : Ch [] w (w.alloc (.cells (penC p) 71)) := (Ch.refl [] w).alloc _; have b0 := new_pen p w; have hlt0 : w.heap.size < (w.alloc (.cells (penC p) 71)).heap.size := (Array.getElem?_eq_some_iff.1 b0).1; generalize w.alloc (.cells (penC p) 71) = W0 at *)
    refine (S1 _).mono ?_
    rintro e w1 ⟨rfl, hc1⟩
    have b1 := hkeep hc1 b0
    have hC1 := hC0.trans hc1
    clear b0 hc1 S1 hC0
    go_wp2_with fail
    refine (W1 _).mono ?_
    rintro e w2 ⟨rfl, hc2⟩
    have b2 := hkeep hc2 b1
    have hC2 := hC1.trans hc2
    clear b1 hc2 W1 hC1
    go_wp2
    go_ret
    refine ⟨?_, hC2⟩
    rw [HW.out]
    rfl
  · rw [hph] at HW
    go_enter Tryz.func161, Tryz.ntmps161
    go_wp2_with fail
    (have hC0 : Ch [] w (w.alloc (.cells (penC p) 71)) := (Ch.refl [] w).alloc _; have b0 := new_pen p w; have hlt0 : w.heap.size < (w.alloc (.cells (penC p) 71)).heap.size := (Array.getElem?_eq_some_iff.1 b0).1; generalize w.alloc (.cells (penC p) 71) = W0 at *)
    refine (S1 _).mono ?_
    rintro e w1 ⟨rfl, hc1⟩
    have b1 := hkeep hc1 b0
    have hC1 := hC0.trans hc1
    clear b0 hc1 S1 hC0
    go_wp2_with fail
    refine (W1 _).mono ?_
    rintro e w2 ⟨rfl, hc2⟩
    have b2 := hkeep hc2 b1
    have hC2 := hC1.trans hc2
    clear b1 hc2 W1 hC1
    go_wp2
    go_ret
    refine ⟨?_, hC2⟩
    rw [HW.out]
    rfl
  · rw [hph] at HW
    go_enter Tryz.func161, Tryz.ntmps161
    go_wp2_with fail
    (have hC0 : Ch [] w (w.alloc (.cells (penC p) 71)) := (Ch.refl [] w).alloc _; have b0 := new_pen p w; have hlt0 : w.heap.size < (w.alloc (.cells (penC p) 71)).heap.size := (Array.getElem?_eq_some_iff.1 b0).1; generalize w.alloc (.cells (penC p) 71) = W0 at *)
    refine (S1 _).mono ?_
    rintro e w1 ⟨rfl, hc1⟩
    have b1 := hkeep hc1 b0
    have hC1 := hC0.trans hc1
    clear b0 hc1 S1 hC0
    go_wp2_with fail
    refine (W1 _).mono ?_
    rintro e w2 ⟨rfl, hc2⟩
    have b2 := hkeep hc2 b1
    have hC2 := hC1.trans hc2
    clear b1 hc2 W1 hC1
    go_wp2
    go_ret
    refine ⟨?_, hC2⟩
    rw [HW.out]
    rfl
  · rw [hph] at HW
    go_enter Tryz.func161, Tryz.ntmps161
    go_wp2_with fail
    (have hC0 : Ch [] w (w.alloc (.cells (penC p) 71)) := (Ch.refl [] w).alloc _; have b0 := new_pen p w; have hlt0 : w.heap.size < (w.alloc (.cells (penC p) 71)).heap.size := (Array.getElem?_eq_some_iff.1 b0).1; generalize w.alloc (.cells (penC p) 71) = W0 at *)
    refine (S1 _).mono ?_
    rintro e w1 ⟨rfl, hc1⟩
    have b1 := hkeep hc1 b0
    have hC1 := hC0.trans hc1
    clear b0 hc1 S1 hC0
    go_wp2_with fail
    refine (W1 _).mono ?_
    rintro e w2 ⟨rfl, hc2⟩
    have b2 := hkeep hc2 b1
    have hC2 := hC1.trans hc2
    clear b1 hc2 W1 hC1
    go_wp2
    go_ret
    refine ⟨?_, hC2⟩
    rw [HW.out]
    rfl
  · rcases h4 with ho | ho
    · rw [hph] at HW
      have HO := Lib.hid ho
      go_enter Tryz.func161, Tryz.ntmps161
      go_wp2_with fail
      (have hC0 : Ch [] w (w.alloc (.cells (penC p) 71)) := (Ch.refl [] w).alloc _; have b0 := new_pen p w; have hlt0 : w.heap.size < (w.alloc (.cells (penC p) 71)).heap.size := (Array.getElem?_eq_some_iff.1 b0).1; generalize w.alloc (.cells (penC p) 71) = W0 at *)
      refine (S1 _).mono ?_
      rintro e w1 ⟨rfl, hc1⟩
      have b1 := hkeep hc1 b0
      have hC1 := hC0.trans hc1
      clear b0 hc1 S1 hC0
      go_wp2_with fail
      refine (W1 _).mono ?_
      rintro e w2 ⟨rfl, hc2⟩
      have b2 := hkeep hc2 b1
      have hC2 := hC1.trans hc2
      clear b1 hc2 W1 hC1
      go_wp2
      go_ret
      refine ⟨?_, hC2⟩
      rw [HW.out]
      simp only [HO.out, if_true, if_false, show ¬ ((8 : Int) = 6) by decide, show ¬ ((8 : Int) = 13) by decide, show ¬ ((8 : Int) = 7) by decide]
      rfl
    · rw [hph] at HW
      have HO : Hid (¬ p.op = 4) := Lib.hid (by simpa using ho)
      go_enter Tryz.func161, Tryz.ntmps161
      go_wp2_with fail
      (have hC0 : Ch [] w (w.alloc (.cells (penC p) 71)) := (Ch.refl [] w).alloc _; have b0 := new_pen p w; have hlt0 : w.heap.size < (w.alloc (.cells (penC p) 71)).heap.size := (Array.getElem?_eq_some_iff.1 b0).1; generalize w.alloc (.cells (penC p) 71) = W0 at *)
      refine (S1 _).mono ?_
      rintro e w1 ⟨rfl, hc1⟩
      have b1 := hkeep hc1 b0
      have hC1 := hC0.trans hc1
      clear b0 hc1 S1 hC0
      go_wp2_with fail
      refine (W1 _).mono ?_
      rintro e w2 ⟨rfl, hc2⟩
      have b2 := hkeep hc2 b1
      have hC2 := hC1.trans hc2
      clear b1 hc2 W1 hC1
      go_wp2
      go_ret
      refine ⟨?_, hC2⟩
      rw [HW.out]
      simp only [HO.out, if_true, if_false, show ¬ ((8 : Int) = 6) by decide, show ¬ ((8 : Int) = 13) by decide, show ¬ ((8 : Int) = 7) by decide]
      rfl
  · rcases h4 with ho | ho
    · rw [hph] at HW
      have HO := Lib.hid ho
      go_enter Tryz.func161, Tryz.ntmps161
      go_wp2_with fail
      (have hC0 : Ch [] w (w.alloc (.cells (penC p) 71)) := (Ch.refl [] w).alloc _; have b0 := new_pen p w; have hlt0 : w.heap.size < (w.alloc (.cells (penC p) 71)).heap.size := (Array.getElem?_eq_some_iff.1 b0).1; generalize w.alloc (.cells (penC p) 71) = W0 at *)
      refine (S1 _).mono ?_
      rintro e w1 ⟨rfl, hc1⟩
      have b1 := hkeep hc1 b0
      have hC1 := hC0.trans hc1
      clear b0 hc1 S1 hC0
      go_wp2_with fail
      refine (W1 _).mono ?_
      rintro e w2 ⟨rfl, hc2⟩
      have b2 := hkeep hc2 b1
      have hC2 := hC1.trans hc2
      clear b1 hc2 W1 hC1
      go_wp2
      go_ret
      refine ⟨?_, hC2⟩
      rw [HW.out]
      simp only [HO.out, if_true, if_false, show ¬ ((8 : Int) = 6) by decide, show ¬ ((8 : Int) = 13) by decide, show ¬ ((8 : Int) = 7) by decide]
      rfl
    · rw [hph] at HW
      have HO : Hid (¬ p.op = 4) := Lib.hid (by simpa using ho)
      go_enter Tryz.func161, Tryz.ntmps161
      go_wp2_with fail
      (have hC0 : Ch [] w (w.alloc (.cells (penC p) 71)) := (Ch.refl [] w).alloc _; have b0 := new_pen p w; have hlt0 : w.heap.size < (w.alloc (.cells (penC p) 71)).heap.size := (Array.getElem?_eq_some_iff.1 b0).1; generalize w.alloc (.cells (penC p) 71) = W0 at *)
      refine (S1 _).mono ?_
      rintro e w1 ⟨rfl, hc1⟩
      have b1 := hkeep hc1 b0
      have hC1 := hC0.trans hc1
      clear b0 hc1 S1 hC0
      go_wp2_with fail
      refine (W1 _).mono ?_
      rintro e w2 ⟨rfl, hc2⟩
      have b2 := hkeep hc2 b1
      have hC2 := hC1.trans hc2
      clear b1 hc2 W1 hC1
      go_wp2
      go_ret
      refine ⟨?_, hC2⟩
      rw [HW.out]
      simp only [HO.out, if_true, if_false, show ¬ ((8 : Int) = 6) by decide, show ¬ ((8 : Int) = 13) by decide, show ¬ ((8 : Int) = 7) by decide]
      rfl
  · rw [hph] at HW
    go_enter Tryz.func161, Tryz.ntmps161
    go_wp2_with fail
    (have hC0 : Ch [] w (w.alloc (.cells (penC p) 71)) := (Ch.refl [] w).alloc _; have b0 := new_pen p w; have hlt0 : w.heap.size < (w.alloc (.cells (penC p) 71)).heap.size := (Array.getElem?_eq_some_iff.1 b0).1; generalize w.alloc (.cells (penC p) 71) = W0 at *)
    refine (S1 _).mono ?_
    rintro e w1 ⟨rfl, hc1⟩
    have b1 := hkeep hc1 b0
    have hC1 := hC0.trans hc1
    clear b0 hc1 S1 hC0
    go_wp2_with fail
    refine (W1 _).mono ?_
    rintro e w2 ⟨rfl, hc2⟩
    have b2 := hkeep hc2 b1
    have hC2 := hC1.trans hc2
    clear b1 hc2 W1 hC1
    have hg0 : ∀ g : Gar w2, (g.1).heap[w.heap.size]? = some (.cells (penC p) 71 (0, 0)) := fun g => hkeep g.2 b2
    go_wp2
    refine wp_region_gar (by kernel_rfl) (by kernel_rfl) ?_
    repeat (go_big_quiet_step (first | (go_at_call 127; exact garL (H1 _)) | (go_at_call 94; exact garC (P1 _ _ _))))
    refine wpQuiet_nil ?_
    rintro W1 ⟨g1, hw1⟩
    have hc3 : Ch [] w2 W1 := by rw [hw1]; exact g1.2
    clear hw1 g1 hg0
    go_wp2
    go_ret
    refine ⟨?_, hC2.trans hc3⟩
    rw [HW.out]
    rfl
  · rcases hem with rfl | rfl
    · rw [hph] at HW
      go_enter Tryz.func161, Tryz.ntmps161
      go_wp2_with fail
      (have hC0 : Ch [] w (w.alloc (.cells (penC p) 71)) := (Ch.refl [] w).alloc _; have b0 := new_pen p w; have hlt0 : w.heap.size < (w.alloc (.cells (penC p) 71)).heap.size := (Array.getElem?_eq_some_iff.1 b0).1; generalize w.alloc (.cells (penC p) 71) = W0 at *)
      refine (S1 _).mono ?_
      rintro e w1 ⟨rfl, hc1⟩
      have b1 := hkeep hc1 b0
      have hC1 := hC0.trans hc1
      clear b0 hc1 S1 hC0
      go_wp2_with fail
      refine (W1 _).mono ?_
      rintro e w2 ⟨rfl, hc2⟩
      have b2 := hkeep hc2 b1
      have hC2 := hC1.trans hc2
      clear b1 hc2 W1 hC1
      go_wp2_with fail
      refine (E1 _).mono ?_
      rintro e w3 ⟨rfl, hc3⟩
      have b3 := hkeep hc3 b2
      have hC3 := hC2.trans hc3
      clear b2 hc3 hC2 E1
      go_wp2_with fail
      refine (P2 _ _).mono ?_
      rintro e w4 ⟨rfl, hc4⟩
      go_wp2
      go_ret
      refine ⟨?_, hC3.trans hc4⟩
      rw [HW.out]
      rfl
    · rw [hph] at HW
      go_enter Tryz.func161, Tryz.ntmps161
      go_wp2_with fail
      (have hC0 : Ch [] w (w.alloc (.cells (penC p) 71)) := (Ch.refl [] w).alloc _; have b0 := new_pen p w; have hlt0 : w.heap.size < (w.alloc (.cells (penC p) 71)).heap.size := (Array.getElem?_eq_some_iff.1 b0).1; generalize w.alloc (.cells (penC p) 71) = W0 at *)
      refine (S1 _).mono ?_
      rintro e w1 ⟨rfl, hc1⟩
      have b1 := hkeep hc1 b0
      have hC1 := hC0.trans hc1
      clear b0 hc1 S1 hC0
      go_wp2_with fail
      refine (W1 _).mono ?_
      rintro e w2 ⟨rfl, hc2⟩
      have b2 := hkeep hc2 b1
      have hC2 := hC1.trans hc2
      clear b1 hc2 W1 hC1
      go_wp2_with fail
      refine (E1 _).mono ?_
      rintro e w3 ⟨rfl, hc3⟩
      have b3 := hkeep hc3 b2
      have hC3 := hC2.trans hc3
      clear b2 hc3 hC2 E1
      go_wp2_with fail
      refine (P3 _ _).mono ?_
      rintro e w4 ⟨rfl, hc4⟩
      go_wp2
      go_ret
      refine ⟨?_, hC3.trans hc4⟩
      rw [HW.out]
      rfl
  · rcases hws with rfl | rfl
    · rw [hph] at HW
      have A2 := A1 (hfr rfl)
      go_enter Tryz.func161, Tryz.ntmps161
      go_wp2_with fail
      (have hC0 : Ch [] w (w.alloc (.cells (penC p) 71)) := (Ch.refl [] w).alloc _; have b0 := new_pen p w; have hlt0 : w.heap.size < (w.alloc (.cells (penC p) 71)).heap.size := (Array.getElem?_eq_some_iff.1 b0).1; generalize w.alloc (.cells (penC p) 71) = W0 at *)
      refine (S1 _).mono ?_
      rintro e w1 ⟨rfl, hc1⟩
      have b1 := hkeep hc1 b0
      have hC1 := hC0.trans hc1
      clear b0 hc1 S1 hC0
      go_wp2_with fail
      refine (W1 _).mono ?_
      rintro e w2 ⟨rfl, hc2⟩
      have b2 := hkeep hc2 b1
      have hC2 := hC1.trans hc2
      clear b1 hc2 W1 hC1
      go_wp2_with fail
      refine (A2 _).mono ?_
      rintro e w3 ⟨rfl, hc3⟩
      have b3 := hkeep hc3 b2
      have hC3 := hC2.trans hc3
      clear b2 hc3 hC2
      go_wp2
      go_ret
      refine ⟨?_, hC3⟩
      rw [HW.out]
      rfl
    · rw [hph] at HW
      have A2 := A1 (hfr rfl)
      go_enter Tryz.func161, Tryz.ntmps161
      go_wp2_with fail
      (have hC0 : Ch [] w (w.alloc (.cells (penC p) 71)) := (Ch.refl [] w).alloc _; have b0 := new_pen p w; have hlt0 : w.heap.size < (w.alloc (.cells (penC p) 71)).heap.size := (Array.getElem?_eq_some_iff.1 b0).1; generalize w.alloc (.cells (penC p) 71) = W0 at *)
      refine (S1 _).mono ?_
      rintro e w1 ⟨rfl, hc1⟩
      have b1 := hkeep hc1 b0
      have hC1 := hC0.trans hc1
      clear b0 hc1 S1 hC0
      go_wp2_with fail
      refine (W1 _).mono ?_
      rintro e w2 ⟨rfl, hc2⟩
      have b2 := hkeep hc2 b1
      have hC2 := hC1.trans hc2
      clear b1 hc2 W1 hC1
      go_wp2_with fail
      refine (A2 _).mono ?_
      rintro e w3 ⟨rfl, hc3⟩
      have b3 := hkeep hc3 b2
      have hC3 := hC2.trans hc3
      clear b2 hc3 hC2
      go_wp2
      go_ret
      refine ⟨?_, hC3⟩
      rw [HW.out]
      rfl
  · rcases hem with rfl | rfl
    · rw [hph] at HW
      go_enter Tryz.func161, Tryz.ntmps161
      go_wp2_with fail
      (have hC0 : Ch [] w (w.alloc (.cells (penC p) 71)) := (Ch.refl [] w).alloc _; have b0 := new_pen p w; have hlt0 : w.heap.size < (w.alloc (.cells (penC p) 71)).heap.size := (Array.getElem?_eq_some_iff.1 b0).1; generalize w.alloc (.cells (penC p) 71) = W0 at *)
      refine (S1 _).mono ?_
      rintro e w1 ⟨rfl, hc1⟩
      have b1 := hkeep hc1 b0
      have hC1 := hC0.trans hc1
      clear b0 hc1 S1 hC0
      go_wp2_with fail
      refine (W1 _).mono ?_
      rintro e w2 ⟨rfl, hc2⟩
      have b2 := hkeep hc2 b1
      have hC2 := hC1.trans hc2
      clear b1 hc2 W1 hC1
      go_wp2_with fail
      refine (E1 _).mono ?_
      rintro e w3 ⟨rfl, hc3⟩
      have b3 := hkeep hc3 b2
      have hC3 := hC2.trans hc3
      clear b2 hc3 hC2
      go_wp2
      go_ret
      refine ⟨?_, hC3⟩
      rw [HW.out]
      rfl
    · rw [hph] at HW
      go_enter Tryz.func161, Tryz.ntmps161
      go_wp2_with fail
      (have hC0 : Ch [] w (w.alloc (.cells (penC p) 71)) := (Ch.refl [] w).alloc _; have b0 := new_pen p w; have hlt0 : w.heap.size < (w.alloc (.cells (penC p) 71)).heap.size := (Array.getElem?_eq_some_iff.1 b0).1; generalize w.alloc (.cells (penC p) 71) = W0 at *)
      refine (S1 _).mono ?_
      rintro e w1 ⟨rfl, hc1⟩
      have b1 := hkeep hc1 b0
      have hC1 := hC0.trans hc1
      clear b0 hc1 S1 hC0
      go_wp2_with fail
      refine (W1 _).mono ?_
      rintro e w2 ⟨rfl, hc2⟩
      have b2 := hkeep hc2 b1
      have hC2 := hC1.trans hc2
      clear b1 hc2 W1 hC1
      go_wp2_with fail
      refine (E1 _).mono ?_
      rintro e w3 ⟨rfl, hc3⟩
      have b3 := hkeep hc3 b2
      have hC3 := hC2.trans hc3
      clear b2 hc3 hC2
      go_wp2
      go_ret
      refine ⟨?_, hC3⟩
      rw [HW.out]
      rfl
  · rw [hph] at HW
    go_enter Tryz.func161, Tryz.ntmps161
    go_wp2_with fail
    (have hC0 : Ch [] w (w.alloc (.cells (penC p) 71)) := (Ch.refl [] w).alloc _; have b0 := new_pen p w; have hlt0 : w.heap.size < (w.alloc (.cells (penC p) 71)).heap.size := (Array.getElem?_eq_some_iff.1 b0).1; generalize w.alloc (.cells (penC p) 71) = W0 at *)
    refine (S1 _).mono ?_
    rintro e w1 ⟨rfl, hc1⟩
    have b1 := hkeep hc1 b0
    have hC1 := hC0.trans hc1
    clear b0 hc1 S1 hC0
    go_wp2_with fail
    refine (W1 _).mono ?_
    rintro e w2 ⟨rfl, hc2⟩
    have b2 := hkeep hc2 b1
    have hC2 := hC1.trans hc2
    clear b1 hc2 W1 hC1
    go_wp2
    go_ret
    refine ⟨?_, hC2⟩
    rw [HW.out]
    rfl
  · rw [hph] at HW
    go_enter Tryz.func161, Tryz.ntmps161
    go_wp2_with fail
    (have hC0 : Ch [] w (w.alloc (.cells (penC p) 71)) := (Ch.refl [] w).alloc _; have b0 := new_pen p w; have hlt0 : w.heap.size < (w.alloc (.cells (penC p) 71)).heap.size := (Array.getElem?_eq_some_iff.1 b0).1; generalize w.alloc (.cells (penC p) 71) = W0 at *)
    refine (S1 _).mono ?_
    rintro e w1 ⟨rfl, hc1⟩
    have b1 := hkeep hc1 b0
    have hC1 := hC0.trans hc1
    clear b0 hc1 S1 hC0
    go_wp2_with fail
    refine (W1 _).mono ?_
    rintro e w2 ⟨rfl, hc2⟩
    have b2 := hkeep hc2 b1
    have hC2 := hC1.trans hc2
    clear b1 hc2 W1 hC1
    go_wp2
    go_ret
    refine ⟨?_, hC2⟩
    rw [HW.out]
    simp only [byP_drop 3 (by decide), add_minus]
    rfl
end Go.Proofs.Hc
