/- The references of layer 19: Right, Need. -/
import Derived.Test.YtmfajobocpaimaaGreatKHcr
import Derived.Test.YtmfajobocpaimaaGreatKHxe
import Derived.Test.YtmfajobocpaimaaGreatKHnc
import Derived.Test.YtmfajobocpaimaaGreatKHni
import Derived.Test.YtmfajobocpaimaaGreatKHnl
import Derived.Test.YtmfajobocpaimaaGreatKHnq
import Derived.Test.YtmfajobocpaimaaGreatKHpa
import Derived.Test.YtmfajobocpaimaaGreatKHq
import Derived.Test.YtmfajobocpaimaaGreatKHr
import Derived.Test.YtmfajobocpaimaaGreatKHop2
import Derived.Below
import Derived.BigQuiet
import Derived.Deep.Draws
import Derived.Deep.Light
import Derived.Deep.QuietTactic
import Derived.Deep.RegionHeld
import Derived.Laws.CopyRow
import Derived.Laws.StructEq
import Derived.Laws.Tables
import Derived.Lib.AppendZerosOnto
import Derived.Lib.Hide
import Derived.Lib.Tables
import Derived.Lib.Walk
import Derived.LoopIn
import Derived.LoopN
import Derived.LoopNIn
import Derived.Maps.AppendAt
import Derived.Maps.Views
import Derived.OwnWalkIn
import Derived.RangeFuncBox
import Derived.RangeFuncCalls
import Derived.RangeFuncRecord
import Derived.RangeFuncSeq
import Derived.Recover
import Derived.RegionTactic
import Derived.Shelf.Slices.Clone
import Derived.StillTail
import Derived.StillTailTactics
import Derived.TacticsInMore
import Derived.Test.YtmfajobocpaimaaGreatProg
import Derived.WalkKit
import Derived.WalkLawsBesides
import Derived.WalkMore
import Derived.WalkSpells
set_option linter.unusedSimpArgs false
set_option linter.unusedVariables false
namespace Go.Proofs.Hc
open Go.RowKit
attribute [local go_sem] wrap_u64 wrap_u8 bits_xor64 bits_and64 bits_or64 bits_not64 bits_xor8 bits_and8 bits_or8 signed64 signed8 ofInt_N BitVec.ofInt_add BitVec.ofInt_mul ofInt_sub' ofInt8_N64 ofInt64_N8 wide8 eqN neN shr_pow shr1 shr7 shr56
attribute [local go_sem high] bits_com64 shl_wrap
attribute [local go_sem] cell_heap ice_heap cellAt_cells iceAt_cells setAt_cells rowAt_cells canLay_cells laidAt_cells size_onObj size_setCell rowRes_some layRes_true
attribute [local go_sem] load26 load73 load23 store26 build73
attribute [local go_sem ↓] lrow26 lrow73 lrow23 srow26 zero26 brow73 heap_alloc heap_drew heap_drewN heap_setCell heap_onObj
attribute [local go_sem] tcells_size hcells_size tcells_get hcells_get tcells_one hcells_one hcells_table tcells_table hcells_all hcells_ctrl tcells_ctrl
attribute [local go_sem] nn2 nm2 nn3 nm3 nn4 nm4 nn5 nm5 nn6 nm6 nn7 nm7 nn8 nm8
attribute [local go_sem] nn2 nm2 nn3 nm3 nn4 nm4 nn5 nm5 nn6 nm6 nn7 nm7 nn8 nm8
attribute [local go_sem] ofInt_N
attribute [local go_sem] pen_g0 pen_g1 pen_g2 pen_g3 pen_g4 pen_g5 pen_g6 pen_g7 pen_g8 pen_g9 pen_g10 pen_g11 pen_g12 pen_g13 pen_g14 pen_g15 pen_g16 pen_g17 penC_size penC_one penC_all boxPen loadPen storePen
attribute [local go_sem ↓] lrowPen srowPen
attribute [local go_sem] pen_s0 pen_s1 pen_s2 pen_s3 pen_s4 pen_s5 pen_s6 pen_s7 pen_s8 pen_s9 pen_s10 pen_s11 pen_s12 pen_s13 pen_s14 pen_s15 pen_s16 pen_s17
attribute [local go_sem ↓] zeroPen_run
attribute [local go_sem high] laidAt_pen
attribute [local irreducible] penC
theorem tmod2_64 (x : BitVec 64) : (N x).tmod 2 = N (x &&& 1#64) := by
  rw [Int.tmod_eq_emod_of_nonneg (N_nonneg x)]
  unfold N
  rw [BitVec.toNat_and]
  show ((x.toNat : Int) % 2) = ((x.toNat &&& (2 ^ 1 - 1) : Nat) : Int)
  rw [Nat.and_two_pow_sub_one_eq_mod]; rfl
theorem bit64 (x : BitVec 64) : (N (x &&& 1#64) == 1) = oddB x := by
  have h : (N (x &&& 1#64) == N (1#64)) = ((x &&& 1#64) == 1#64) := eqN _ _
  exact h
theorem bit64z (x : BitVec 64) : (N (x &&& 1#64) == 0) = !oddB x := by
  rw [← bit64]
  have h : N (x &&& 1#64) = 0 ∨ N (x &&& 1#64) = 1 := by rw [← tmod2_64, Int.tmod_eq_emod_of_nonneg (N_nonneg x)]; omega
  rcases h with h | h <;> rw [h] <;> rfl
attribute [local go_sem high] tmod2_64 bit64 bit64z
theorem not_right {p : PenT} (h : ¬ RightP p) : rightP p = false := by
  cases e : rightP p with
  | false => rfl
  | true => exact absurd ((rightP_iff p).1 e) h
theorem right_split (p : PenT) : p.ph < 0 ∨ (0 ≤ p.ph ∧ 16 < p.ph) ∨ (0 ≤ p.ph ∧ p.ph ≤ 16) ∧ ((decide (0 ≤ p.sl) && decide (p.sl < 128)) = false ∨ (decide (0 ≤ p.sl) && decide (p.sl < 128)) = true ∧ (p.op < 2 ∨ (2 ≤ p.op ∧ 5 < p.op) ∨ (2 ≤ p.op ∧ p.op ≤ 5) ∧ (oddB p.count = true ∨ oddB p.count = false ∧
    (p.grp < 0 ∨ (0 ≤ p.grp ∧ 1 < p.grp) ∨ (0 ≤ p.grp ∧ p.grp ≤ 1) ∧ (p.slot < 0 ∨ (0 ≤ p.slot ∧ 15 < p.slot) ∨ (0 ≤ p.slot ∧ p.slot ≤ 15) ∧ (p.free < 0 ∨ (0 ≤ p.free ∧ 16 < p.free) ∨ (0 ≤ p.free ∧ p.free ≤ 16)))))))  := by
  have h1 : (decide (0 ≤ p.sl) && decide (p.sl < 128)) = false ∨ (decide (0 ≤ p.sl) && decide (p.sl < 128)) = true := by cases (decide (0 ≤ p.sl) && decide (p.sl < 128)) <;> simp
  have h2 : oddB p.count = true ∨ oddB p.count = false := by cases oddB p.count <;> simp
  rcases h1 with h1 | h1 <;> rcases h2 with h2 | h2 <;> simp only [h1, h2, true_and, and_true, true_or, or_true, false_or, or_false, reduceCtorEq, false_and, and_false] <;> omega
set_option maxHeartbeats 2000000 in
set_option maxRecDepth 100000 in
theorem r19Right_mid (p : PenT) (c0 : 0 ≤ p.ph) (c1 : p.ph ≤ 16) (cs : (decide (0 ≤ p.sl) && decide (p.sl < 128)) = true) (o0 : 2 ≤ p.op) (o1 : p.op ≤ 5) (cn : oddB p.count = false) (g0 : 0 ≤ p.grp) (g1 : p.grp ≤ 1) (s0 : 0 ≤ p.slot) (s1 : p.slot ≤ 15) (f0 : 0 ≤ p.free) (f1 : p.free ≤ 16) (hn2 : ¬ p.ph = 2) (c : 4 ≤ p.ph) (d : p.ph ≤ 13) (w : World) : Calls Tryz.prog 44 #[.agg (penC p)] w fun e w' => e = .returned (.bool (rightP p)) ∧ Ch [] w w' := by
  have S1 := fun w => rSlab_any p.sl w
  have hR := rightP_iff p
  have hsl : 0 ≤ p.sl ∧ p.sl < 128 := by simpa using cs
  have hgr : p.grp = 0 ∨ p.grp = 1 := by omega
  have e2 : (p.ph == 2) = false := by simpa using hn2
  have T1 := fun w => rThrough_any (wantsP p) (wantsP_le p) p.ph c d w
  have W1 := fun w => rWants_any p w
  have HF : Hid (rightP p = (throughP (wantsP p) p.ph && (wantsP p != 1 || decide (0 < p.free)))) := Lib.hid (by
    rw [Bool.eq_iff_iff, hR]
    constructor
    · intro R
      have := (R.goes.resolve_left (by omega)).resolve_left (by omega)
      simpa using this
    · intro h
      have h' : throughP (wantsP p) p.ph = true ∧ (wantsP p ≠ 1 ∨ 0 < p.free) := by simpa using h
      exact ⟨c0, c1, hsl.1, hsl.2, o0, o1, cn, hgr, s0, s1, f0, f1, fun h => absurd h hn2, .inr (.inr h')⟩)
  have hfr : 0 < p.free ∨ p.free = 0 := by omega
  clear hR hsl hgr hn2
  generalize rightP p = r at *
  generalize throughP (wantsP p) p.ph = b at *
  generalize wantsP p = n at *
  have hcs : b = false ∨ b = true ∧ ((n : Int) != 1) = true ∨ b = true ∧ n = 1 ∧ 0 < p.free ∨ b = true ∧ n = 1 ∧ p.free = 0 := by
    rcases (show n = 1 ∨ n ≠ 1 by omega) with h | h
    · rcases hfr with h2 | h2 <;> cases b <;> simp [h, h2]
    · cases b
      · exact .inl rfl
      · exact .inr (.inl ⟨rfl, by simp; omega⟩)
  clear hfr
  rcases hcs with rfl | ⟨rfl, hn⟩ | ⟨rfl, rfl, hf⟩ | ⟨rfl, rfl, hf⟩
  all_goals
    go_enter Tryz.func44, Tryz.ntmps44
    go_wp2_with (go_at_call 107; refine (S1 _).mono ?_; rintro e w' ⟨rfl, rfl⟩)
    (have hC0 : Ch [] w (w.alloc (.cells (penC p) 71)) := (Ch.refl [] w).alloc _; have b0 := new_pen p w; have hlt0 : w.heap.size < (w.alloc (.cells (penC p) 71)).heap.size := (Array.getElem?_eq_some_iff.1 b0).1; generalize w.alloc (.cells (penC p) 71) = W0 at *)
    refine (W1 _).mono ?_
    rintro e w1 ⟨rfl, hc1⟩
    have b1 := hkeep hc1 b0
    have hC1 := hC0.trans hc1
    clear b0 hc1 hC0 W1
    go_wp2_with (go_at_call 109; refine (T1 _).mono ?_; rintro e w' ⟨rfl, rfl⟩)
    go_ret
    refine ⟨?_, hC1⟩
    rw [HF.out]
    first | rfl | (simp [hf]; done) | (simp at hn; simp; exact .inl (by omega))
set_option maxHeartbeats 2000000 in
set_option maxRecDepth 100000 in
theorem r19Right_low (p : PenT) (c0 : 0 ≤ p.ph) (c1 : p.ph ≤ 16) (cs : (decide (0 ≤ p.sl) && decide (p.sl < 128)) = true) (o0 : 2 ≤ p.op) (o1 : p.op ≤ 5) (cn : oddB p.count = false) (g0 : 0 ≤ p.grp) (g1 : p.grp ≤ 1) (s0 : 0 ≤ p.slot) (s1 : p.slot ≤ 15) (f0 : 0 ≤ p.free) (f1 : p.free ≤ 16) (w : World) (hmid : ¬ p.ph = 2 → 4 ≤ p.ph → p.ph ≤ 13 → Calls Tryz.prog 44 #[.agg (penC p)] w fun e w' => e = .returned (.bool (rightP p)) ∧ Ch [] w w') : Calls Tryz.prog 44 #[.agg (penC p)] w fun e w' => e = .returned (.bool (rightP p)) ∧ Ch [] w w' := by
  have S1 := fun w => rSlab_any p.sl w
  have hR := rightP_iff p
  have hW := wantsP_cases p
  have hsl : 0 ≤ p.sl ∧ p.sl < 128 := by simpa using cs
  have hgr : p.grp = 0 ∨ p.grp = 1 := by omega
  rcases eq_cases p.ph 2 with e2 | e2
  · rcases left_cases p.left with ⟨hl, l1, l2⟩ | ⟨hl, l1, l2⟩
    · clear hmid
      have HF : Hid (rightP p = true) := Lib.hid (hR.2 ⟨c0, c1, hsl.1, hsl.2, o0, o1, cn, hgr, s0, s1, f0, f1, fun _ => hl, .inl (by omega)⟩)
      clear hR hW hl hsl hgr
      generalize rightP p = r at *
      go_enter Tryz.func44, Tryz.ntmps44
      go_wp2_with (go_at_call 107; refine (S1 _).mono ?_; rintro e w' ⟨rfl, rfl⟩)
      go_ret
      exact ⟨by rw [HF.out]; rfl, (Ch.refl [] w).alloc _⟩
    · clear hmid
      have HF : Hid (rightP p = false) := Lib.hid (not_right fun R => R.left e2 hl)
      clear hR hW hl hsl hgr
      generalize rightP p = r at *
      go_enter Tryz.func44, Tryz.ntmps44
      go_wp2_with (go_at_call 107; refine (S1 _).mono ?_; rintro e w' ⟨rfl, rfl⟩)
      go_ret
      exact ⟨by rw [HF.out]; rfl, (Ch.refl [] w).alloc _⟩
  · have hn2 : ¬ p.ph = 2 := by simpa using e2
    rcases (show p.ph < 4 ∨ 13 < p.ph ∨ (4 ≤ p.ph ∧ p.ph ≤ 13) by omega) with c | c | ⟨c, d⟩
    rotate_right
    · exact hmid hn2 c d
    all_goals clear hmid
    · have HF : Hid (rightP p = true) := Lib.hid (hR.2 ⟨c0, c1, hsl.1, hsl.2, o0, o1, cn, hgr, s0, s1, f0, f1, fun h => absurd h hn2, .inl c⟩)
      clear hR hW hsl hgr hn2
      generalize rightP p = r at *
      go_enter Tryz.func44, Tryz.ntmps44
      go_wp2_with (go_at_call 107; refine (S1 _).mono ?_; rintro e w' ⟨rfl, rfl⟩)
      go_ret
      exact ⟨by rw [HF.out]; rfl, (Ch.refl [] w).alloc _⟩
    · have HF : Hid (rightP p = true) := Lib.hid (hR.2 ⟨c0, c1, hsl.1, hsl.2, o0, o1, cn, hgr, s0, s1, f0, f1, fun h => absurd h hn2, .inr (.inl c)⟩)
      clear hR hW hsl hgr hn2
      generalize rightP p = r at *
      go_enter Tryz.func44, Tryz.ntmps44
      go_wp2_with (go_at_call 107; refine (S1 _).mono ?_; rintro e w' ⟨rfl, rfl⟩)
      go_ret
      exact ⟨by rw [HF.out]; rfl, (Ch.refl [] w).alloc _⟩
set_option maxHeartbeats 2000000 in
set_option maxRecDepth 100000 in
theorem r19Right_any (p : PenT) (w : World) : Calls Tryz.prog 44 #[.agg (penC p)] w fun e w' => e = .returned (.bool (rightP p)) ∧ Ch [] w w' := by
  have S1 := fun w => rSlab_any p.sl w
  have hR := rightP_iff p
  have hW := wantsP_cases p
  rcases right_split p with c | ⟨c, d⟩ | ⟨⟨c0, c1⟩, c | ⟨cs, c | ⟨c, d⟩ | ⟨⟨o0, o1⟩, c | ⟨cn, c | ⟨c, d⟩ | ⟨⟨g0, g1⟩, c | ⟨c, d⟩ | ⟨⟨s0, s1⟩, c | ⟨c, d⟩ | ⟨f0, f1⟩⟩⟩⟩⟩⟩⟩
  all_goals first
    | (have HF : Hid (rightP p = false) := Lib.hid (not_right fun R => by
         have r1 := R.ph0; have r2 := R.ph1; have r3 := R.sl0; have r4 := R.sl1; have r5 := R.op0; have r6 := R.op1; have r7 := R.cnt; have r8 := R.grp; have r9 := R.slot0; have r10 := R.slot1; have r11 := R.free0; have r12 := R.free1
         first | omega | (rw [r7] at c; cases c) | (simp only [Bool.and_eq_false_iff, decide_eq_false_iff_not] at c; omega))
       clear hR hW
       generalize rightP p = r at *
       go_enter Tryz.func44, Tryz.ntmps44
       go_wp2_with (go_at_call 107; refine (S1 _).mono ?_; rintro e w' ⟨rfl, rfl⟩)
       go_ret
       exact ⟨by rw [HF.out]; rfl, (Ch.refl [] w).alloc _⟩)
    | skip
  exact r19Right_low p c0 c1 cs o0 o1 cn g0 g1 s0 s1 f0 f1 w (fun h2 h4 h13 => r19Right_mid p c0 c1 cs o0 o1 cn g0 g1 s0 s1 f0 f1 h2 h4 h13 w)
end Go.Proofs.Hc
