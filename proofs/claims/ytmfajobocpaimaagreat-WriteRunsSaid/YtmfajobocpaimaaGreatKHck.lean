/- The reference of layer 19: Take, behind a store; and what a control word told. -/
import Derived.Test.YtmfajobocpaimaaGreatKHcr
import Derived.Test.YtmfajobocpaimaaGreatKHxe
import Derived.Test.YtmfajobocpaimaaGreatKHnc
import Derived.Test.YtmfajobocpaimaaGreatKHnl
import Derived.Test.YtmfajobocpaimaaGreatKHnq
import Derived.Test.YtmfajobocpaimaaGreatKHns
import Derived.Test.YtmfajobocpaimaaGreatKHny
import Derived.Test.YtmfajobocpaimaaGreatKHpa
import Derived.Test.YtmfajobocpaimaaGreatKHq
import Derived.Test.YtmfajobocpaimaaGreatKHr
import Derived.Test.YtmfajobocpaimaaGreatKHop2
import Derived.Below
import Derived.BigQuiet
import Derived.Deep.Draws
import Derived.Deep.Light
import Derived.Deep.QuietTactic
import Derived.Deep.RegionHeld
import Derived.Laws.CopyRow
import Derived.Laws.StructEq
import Derived.Laws.Tables
import Derived.Lib.AppendZerosOnto
import Derived.Lib.Hide
import Derived.Lib.Tables
import Derived.Lib.Walk
import Derived.LoopIn
import Derived.LoopN
import Derived.LoopNIn
import Derived.Maps.AppendAt
import Derived.Maps.Views
import Derived.OwnWalkIn
import Derived.RangeFuncBox
import Derived.RangeFuncCalls
import Derived.RangeFuncRecord
import Derived.RangeFuncSeq
import Derived.Recover
import Derived.RegionTactic
import Derived.ScopeJumps
import Derived.Shelf.Slices.Clone
import Derived.StillTail
import Derived.StillTailTactics
import Derived.TacticsInMore
import Derived.Test.YtmfajobocpaimaaGreatProg
import Derived.WalkKit
import Derived.WalkLawsBesides
import Derived.WalkMore
import Derived.WalkSpells
set_option linter.unusedSimpArgs false
set_option linter.unusedVariables false
namespace Go.Proofs.Hc
open Go.RowKit
attribute [local go_sem] wrap_u64 wrap_u8 bits_xor64 bits_and64 bits_or64 bits_not64 bits_xor8 bits_and8 bits_or8 signed64 signed8 ofInt_N BitVec.ofInt_add BitVec.ofInt_mul ofInt_sub' ofInt8_N64 ofInt64_N8 wide8 eqN neN shr_pow shr1 shr7 shr56
attribute [local go_sem high] bits_com64 shl_wrap
attribute [local go_sem] cell_heap ice_heap cellAt_cells iceAt_cells setAt_cells rowAt_cells canLay_cells laidAt_cells size_onObj size_setCell rowRes_some layRes_true
attribute [local go_sem] load26 load73 load23 store26 build73
attribute [local go_sem ↓] lrow26 lrow73 lrow23 srow26 zero26 brow73 heap_alloc heap_drew heap_drewN heap_setCell heap_onObj
attribute [local go_sem] tcells_size hcells_size tcells_get hcells_get tcells_one hcells_one hcells_table tcells_table hcells_all hcells_ctrl tcells_ctrl
attribute [local go_sem] nn2 nm2 nn3 nm3 nn4 nm4 nn5 nm5 nn6 nm6 nn7 nm7 nn8 nm8
attribute [local go_sem] nn2 nm2 nn3 nm3 nn4 nm4 nn5 nm5 nn6 nm6 nn7 nm7 nn8 nm8
attribute [local go_sem] ofInt_N
attribute [local go_sem] pen_g0 pen_g1 pen_g2 pen_g3 pen_g4 pen_g5 pen_g6 pen_g7 pen_g8 pen_g9 pen_g10 pen_g11 pen_g12 pen_g13 pen_g14 pen_g15 pen_g16 pen_g17 penC_size penC_one penC_all boxPen loadPen storePen
attribute [local go_sem ↓] lrowPen srowPen
attribute [local go_sem] pen_s0 pen_s1 pen_s2 pen_s3 pen_s4 pen_s5 pen_s6 pen_s7 pen_s8 pen_s9 pen_s10 pen_s11 pen_s12 pen_s13 pen_s14 pen_s15 pen_s16 pen_s17
attribute [local go_sem ↓] zeroPen_run
attribute [local go_sem high] laidAt_pen
attribute [local irreducible] penC
attribute [local go_sem high] tmod2_64w bit64w bit64zw
set_option maxHeartbeats 2000000 in
set_option maxRecDepth 100000 in
theorem r19Take_6 (p : PenT) (h6 : 6 ≤ p.ph) (h13 : p.ph ≤ 13) (x : BitVec 64) (w : World) : Calls Tryz.prog 111 #[.agg (penC p), U x] w fun e w' => e = .returned (.agg (penC (takeP p x))) ∧ Ch [] w w' := by
  have HT := Lib.hid (takeP_6 h6 x)
  have N1 : ∀ w, Calls Tryz.prog 170 #[I (wantsP p : Nat), I p.ph] w fun e w' => e = .returned (I (nextP (wantsP p) p.ph)) ∧ Ch [] w w' := fun w => (r19Next_any (wantsP p) (wantsP_le p) p.ph h6 h13 w).mono (fun e w' h => ⟨h.1, h.2 ▸ Ch.refl _ _⟩)
  have W1 := fun w => rWants_any p w
  generalize takeP p x = d at *
  generalize nextP (wantsP p) p.ph = np at *
  generalize wantsP p = n at *
  have e0 : (p.ph == 0) = false := by simp; omega
  have e1 : (p.ph == 1) = false := by simp; omega
  have e2 : (p.ph == 2) = false := by simp; omega
  have e3 : (p.ph == 3) = false := by simp; omega
  have e4 : (p.ph == 4) = false := by simp; omega
  have e5 : (p.ph == 5) = false := by simp; omega
  clear h6 h13
  go_enter Tryz.func111, Tryz.ntmps111
  go_wp2_with fail
  (have hC0 : Ch [] w ((w.alloc (.cells (penC p) 71)).alloc (.cells (penC zeroPen) 71)) := ((Ch.refl [] w).alloc _).alloc _; have b0 := new_pen2 p w; have z0 := new_penz p w; have hs0 := new_pens p w; generalize (w.alloc (.cells (penC p) 71)).alloc (.cells (penC zeroPen) 71) = W0 at *)
  have hgg : ∀ g1 : Gar W0, (g1.1).heap[w.heap.size]? = some (.cells (penC p) 71 (0, 0)) := fun g1 => hkeep g1.2 b0
  refine wp_region_gar_tail 5 (by kernel_rfl) (by kernel_rfl) ?_
  simp only [List.take_succ_cons, List.take_zero, List.drop_succ_cons, List.drop_zero]
  repeat (go_big_quiet_step (first | with_reducible exact garC (W1 _) | with_reducible exact garC (N1 _)))
  refine wpQuiet_nil ?_
  rintro w1 ⟨g1, hw1⟩
  have hc1 : Ch [] W0 w1 := by rw [hw1]; exact g1.2
  have b1 := hkeep hc1 b0
  have z1 := hkeep hc1 z0
  have C1 := hC0.trans hc1
  clear hw1 g1 hgg b0 z0 hc1 hC0 N1 W1
  go_wp2
  refine bodyPost_ret (pen_result Tryz.results111 _ (w.heap.size + 1) _ d rfl ?_) rfl ⟨rfl, (C1.setCell (p := ⟨w.heap.size, 0, none⟩) (.inr (Nat.le_refl _)) _).onObj (p := w.heap.size + 1) (.inr (by omega)) _⟩
  rw [HT.out]
  simp [go_sem, z1]
theorem mk_zero (x : BitVec 64) : ((N x == 0) = true ∧ (x == 0#64) = true) ∨ ((N x == 0) = false ∧ (x == 0#64) = false) := by
  have : (N x == 0) = (x == 0#64) := by rw [← eqN]; rfl
  rw [this]; cases (x == 0#64) <;> simp
set_option maxHeartbeats 2000000 in
set_option maxRecDepth 100000 in
theorem r19Take_4 (p : PenT) (R : RightP p) (hph : p.ph = 4) (x : BitVec 64) (w : World) : Calls Tryz.prog 111 #[.agg (penC p), U x] w fun e w' => e = .returned (.agg (penC (takeP p x))) ∧ Ch [] w w' := by
  have HT := Lib.hid (takeP_4 hph x)
  have hf0 := R.free0
  have hf1 := R.free1
  have hfr : wantsP p = 1 → 0 < p.free := fun h => by have := ((R.goes.resolve_left (by omega)).resolve_left (by omega)).2; omega
  clear R
  have hn : wantsP p = 1 ∨ ((wantsP p : Int) == 1) = false ∧ (wantsP p == 1) = false := by
    rcases (show wantsP p = 1 ∨ wantsP p ≠ 1 by omega) with h | h
    · exact .inl h
    · exact .inr ⟨by simp; omega, by simpa using h⟩
  have hx0 := mk_zero x
  obtain ⟨_, sl, op, ky, pa, pb, ph, cn, cc, lv, gr, ct, lf, fr, fc, st, vl, fd⟩ := p
  dsimp only at hph hf0 hf1 hfr
  subst hph
  have W1 := fun w => rWants_any ⟨5, sl, op, ky, pa, pb, ph, cn, x, lv, gr, ct, lf, fr, fc, st, vl, fd⟩ w
  have S1 : 0 < fr → ∀ w, Calls Tryz.prog 169 #[.agg (penC ⟨5, sl, op, ky, pa, pb, ph, cn, x, lv, gr, ct, lf, fr, fc, st, vl, fd⟩)] w fun e w' => e = .returned (.bool (wasP ⟨4, sl, op, ky, pa, pb, ph, cn, cc, lv, gr, ct, lf, fr, fc, st, vl, fd⟩)) ∧ Ch [] w w' := fun h w => r19Was_any ⟨5, sl, op, ky, pa, pb, ph, cn, x, lv, gr, ct, lf, fr, fc, st, vl, fd⟩ h hf1 w
  have hwq : wantsP ⟨5, sl, op, ky, pa, pb, ph, cn, x, lv, gr, ct, lf, fr, fc, st, vl, fd⟩ = wantsP ⟨4, sl, op, ky, pa, pb, ph, cn, cc, lv, gr, ct, lf, fr, fc, st, vl, fd⟩ := rfl
  rw [hwq] at W1
  clear hwq
  have C0 : Ch [] w ((w.alloc (.cells (penC ⟨5, sl, op, ky, pa, pb, ph, cn, x, lv, gr, ct, lf, fr, fc, st, vl, fd⟩) 71)).alloc (.cells (penC zeroPen) 71)) := ((Ch.refl [] w).alloc _).alloc _
  have b0 := new_pen2 ⟨5, sl, op, ky, pa, pb, ph, cn, x, lv, gr, ct, lf, fr, fc, st, vl, fd⟩ w
  have z0 := new_penz ⟨5, sl, op, ky, pa, pb, ph, cn, x, lv, gr, ct, lf, fr, fc, st, vl, fd⟩ w
  generalize takeP ⟨4, sl, op, ky, pa, pb, ph, cn, cc, lv, gr, ct, lf, fr, fc, st, vl, fd⟩ x = d at *
  generalize wasP ⟨4, sl, op, ky, pa, pb, ph, cn, cc, lv, gr, ct, lf, fr, fc, st, vl, fd⟩ = ws at *
  generalize wantsP ⟨4, sl, op, ky, pa, pb, ph, cn, cc, lv, gr, ct, lf, fr, fc, st, vl, fd⟩ = n at *
  dsimp only at HT
  rcases hn with rfl | ⟨hn, hnb⟩
  · have T1 := S1 (hfr rfl)
    clear S1 hfr hf0 hf1
    cases ws <;> rcases hx0 with ⟨y1, y2⟩ | ⟨y1, y2⟩
    all_goals
      rw [y2] at HT
      clear y2
      go_enter Tryz.func111, Tryz.ntmps111
      go_wp2_with fail
      generalize (w.alloc (.cells (penC ⟨5, sl, op, ky, pa, pb, ph, cn, x, lv, gr, ct, lf, fr, fc, st, vl, fd⟩) 71)).alloc (.cells (penC zeroPen) 71) = W0 at *
      refine (W1 _).mono ?_
      rintro e w1 ⟨rfl, hc1⟩
      have b1 := hkeep hc1 b0
      have z1 := hkeep hc1 z0
      have C1 := C0.trans hc1
      clear b0 z0 C0 hc1 W1
      go_wp2_with fail
      refine (T1 _).mono ?_
      rintro e w2 ⟨rfl, hc2⟩
      have b2 := hkeep hc2 b1
      have z2 := hkeep hc2 z1
      have C2 := C1.trans hc2
      clear b1 z1 C1 hc2 T1
      go_wp2
      refine bodyPost_ret (pen_result Tryz.results111 _ (w.heap.size + 1) _ d rfl ?_) rfl ⟨rfl, ?_⟩
      · rw [HT.out]
        simp [go_sem, z2]
      · first
          | exact C2.onObj (p := w.heap.size + 1) (.inr (by omega)) _
          | exact (C2.setCell (p := ⟨w.heap.size, 0, none⟩) (.inr (Nat.le_refl _)) _).onObj (p := w.heap.size + 1) (.inr (by omega)) _
  · clear S1 hfr hf0 hf1 hx0
    rw [hnb] at HT
    clear hnb
    go_enter Tryz.func111, Tryz.ntmps111
    go_wp2_with fail
    generalize (w.alloc (.cells (penC ⟨5, sl, op, ky, pa, pb, ph, cn, x, lv, gr, ct, lf, fr, fc, st, vl, fd⟩) 71)).alloc (.cells (penC zeroPen) 71) = W0 at *
    refine (W1 _).mono ?_
    rintro e w1 ⟨rfl, hc1⟩
    have b1 := hkeep hc1 b0
    have z1 := hkeep hc1 z0
    have C1 := C0.trans hc1
    clear b0 z0 C0 hc1 W1
    go_wp2
    refine bodyPost_ret (pen_result Tryz.results111 _ (w.heap.size + 1) _ d rfl ?_) rfl ⟨rfl, C1.onObj (p := w.heap.size + 1) (.inr (by omega)) _⟩
    rw [HT.out]
    simp [go_sem, z1]
end Go.Proofs.Hc
