/- The reference of layer 19: Take, where a phase calls at most once. -/
import Derived.Test.YtmfajobocpaimaaGreatKHcr
import Derived.Test.YtmfajobocpaimaaGreatKHde
import Derived.Test.YtmfajobocpaimaaGreatKHm
import Derived.Test.YtmfajobocpaimaaGreatKHxg
import Derived.Test.YtmfajobocpaimaaGreatKHnac
import Derived.Test.YtmfajobocpaimaaGreatKHnc
import Derived.Test.YtmfajobocpaimaaGreatKHni
import Derived.Test.YtmfajobocpaimaaGreatKHnl
import Derived.Test.YtmfajobocpaimaaGreatKHns
import Derived.Test.YtmfajobocpaimaaGreatKHny
import Derived.Test.YtmfajobocpaimaaGreatKHq
import Derived.Test.YtmfajobocpaimaaGreatKHop2
import Derived.Below
import Derived.BigQuiet
import Derived.Deep.Draws
import Derived.Deep.Light
import Derived.Deep.QuietTactic
import Derived.Deep.RegionHeld
import Derived.Laws.CopyRow
import Derived.Laws.StructEq
import Derived.Laws.Tables
import Derived.Lib.AppendZerosOnto
import Derived.Lib.Hide
import Derived.Lib.Tables
import Derived.Lib.Walk
import Derived.LoopIn
import Derived.LoopN
import Derived.LoopNIn
import Derived.Maps.AppendAt
import Derived.Maps.Views
import Derived.OwnWalkIn
import Derived.RangeFuncBox
import Derived.RangeFuncCalls
import Derived.RangeFuncRecord
import Derived.RangeFuncSeq
import Derived.Recover
import Derived.RegionTactic
import Derived.ScopeJumps
import Derived.Shelf.Slices.Clone
import Derived.StillTail
import Derived.StillTailTactics
import Derived.TacticsInMore
import Derived.Test.YtmfajobocpaimaaGreatProg
import Derived.WalkKit
import Derived.WalkLawsBesides
import Derived.WalkMore
import Derived.WalkSpells
set_option linter.unusedSimpArgs false
set_option linter.unusedVariables false
namespace Go.Proofs.Hc
open Go.RowKit
attribute [local go_sem] wrap_u64 wrap_u8 bits_xor64 bits_and64 bits_or64 bits_not64 bits_xor8 bits_and8 bits_or8 signed64 signed8 ofInt_N BitVec.ofInt_add BitVec.ofInt_mul ofInt_sub' ofInt8_N64 ofInt64_N8 wide8 eqN neN shr_pow shr1 shr7 shr56
attribute [local go_sem high] bits_com64 shl_wrap
attribute [local go_sem] cell_heap ice_heap cellAt_cells iceAt_cells setAt_cells rowAt_cells canLay_cells laidAt_cells size_onObj size_setCell rowRes_some layRes_true
attribute [local go_sem] load26 load73 load23 store26 build73
attribute [local go_sem ↓] lrow26 lrow73 lrow23 srow26 zero26 brow73 heap_alloc heap_drew heap_drewN heap_setCell heap_onObj
attribute [local go_sem] tcells_size hcells_size tcells_get hcells_get tcells_one hcells_one hcells_table tcells_table hcells_all hcells_ctrl tcells_ctrl
attribute [local go_sem] nn2 nm2 nn3 nm3 nn4 nm4 nn5 nm5 nn6 nm6 nn7 nm7 nn8 nm8
attribute [local go_sem] nn2 nm2 nn3 nm3 nn4 nm4 nn5 nm5 nn6 nm6 nn7 nm7 nn8 nm8
attribute [local go_sem] ofInt_N
attribute [local go_sem] pen_g0 pen_g1 pen_g2 pen_g3 pen_g4 pen_g5 pen_g6 pen_g7 pen_g8 pen_g9 pen_g10 pen_g11 pen_g12 pen_g13 pen_g14 pen_g15 pen_g16 pen_g17 penC_size penC_one penC_all boxPen loadPen storePen
attribute [local go_sem ↓] lrowPen srowPen
attribute [local go_sem] pen_s0 pen_s1 pen_s2 pen_s3 pen_s4 pen_s5 pen_s6 pen_s7 pen_s8 pen_s9 pen_s10 pen_s11 pen_s12 pen_s13 pen_s14 pen_s15 pen_s16 pen_s17
attribute [local go_sem ↓] zeroPen_run
attribute [local go_sem high] laidAt_pen
attribute [local irreducible] penC
attribute [local go_sem high] tmod2_64w bit64w bit64zw
set_option maxHeartbeats 2000000 in
set_option maxRecDepth 100000 in
theorem r19Take_0 (p : PenT) (hph : p.ph = 0) (x : BitVec 64) (w : World) : Calls Tryz.prog 111 #[.agg (penC p), U x] w fun e w' => e = .returned (.agg (penC (takeP p x))) ∧ Ch [] w w' := by
  have HT := Lib.hid (takeP_0 hph x)
  have ho : oddB x = true ∨ oddB x = false := by cases oddB x <;> simp
  generalize takeP p x = d at *
  rcases ho with ho | ho
  all_goals
    rw [ho] at HT
    go_enter Tryz.func111, Tryz.ntmps111
    go_wp2
    refine bodyPost_ret (pen_result Tryz.results111 _ (w.heap.size + 1) _ d rfl ?_) rfl ⟨rfl, (((Ch.refl [] w).alloc _).alloc _).onObj (p := w.heap.size + 1) (.inr (by omega)) _⟩
    rw [HT.out]
    simp [go_sem]
set_option maxHeartbeats 2000000 in
set_option maxRecDepth 100000 in
theorem r19Take_5 (p : PenT) (hph : p.ph = 5) (x : BitVec 64) (w : World) : Calls Tryz.prog 111 #[.agg (penC p), U x] w fun e w' => e = .returned (.agg (penC (takeP p x))) ∧ Ch [] w w' := by
  have HT := Lib.hid (takeP_5 hph x)
  generalize takeP p x = d at *
  go_enter Tryz.func111, Tryz.ntmps111
  go_wp2
  refine bodyPost_ret (pen_result Tryz.results111 _ (w.heap.size + 1) _ d rfl ?_) rfl ⟨rfl, (((Ch.refl [] w).alloc _).alloc _).onObj (p := w.heap.size + 1) (.inr (by omega)) _⟩
  rw [HT.out]
  simp [go_sem]
set_option maxHeartbeats 2000000 in
set_option maxRecDepth 100000 in
theorem r19Take_3 (p : PenT) (hph : p.ph = 3) (x : BitVec 64) (w : World) : Calls Tryz.prog 111 #[.agg (penC p), U x] w fun e w' => e = .returned (.agg (penC (takeP p x))) ∧ Ch [] w w' := by
  rw [takeP_3 hph x]
  obtain ⟨_, sl, op, ky, pa, pb, ph, cn, cc, lv, gr, ct, lf, fr, fc, st, vl, fd⟩ := p
  dsimp only at hph
  subst hph
  dsimp only
  have D1 := fun w => r19Decided_any ⟨3, sl, op, ky, pa, pb, ph, cn, cc, lv, gr, ct, lf, fr, fc, st, x, true⟩ w
  have C0 : Ch [] w ((w.alloc (.cells (penC ⟨3, sl, op, ky, pa, pb, ph, cn, cc, lv, gr, ct, lf, fr, fc, st, x, true⟩) 71)).alloc (.cells (penC zeroPen) 71)) := ((Ch.refl [] w).alloc _).alloc _
  have z0 := new_penz ⟨3, sl, op, ky, pa, pb, ph, cn, cc, lv, gr, ct, lf, fr, fc, st, x, true⟩ w
  generalize decidedP ⟨3, sl, op, ky, pa, pb, ph, cn, cc, lv, gr, ct, lf, fr, fc, st, x, true⟩ = d at *
  go_enter Tryz.func111, Tryz.ntmps111
  go_wp2_with fail
  generalize (w.alloc (.cells (penC ⟨3, sl, op, ky, pa, pb, ph, cn, cc, lv, gr, ct, lf, fr, fc, st, x, true⟩) 71)).alloc (.cells (penC zeroPen) 71) = W0 at *
  refine (D1 _).mono ?_
  rintro e w1 ⟨rfl, hc1⟩
  have z1 := hkeep hc1 z0
  have C1 := C0.trans hc1
  clear z0 C0 hc1
  go_wp2
  refine bodyPost_ret (pen_result Tryz.results111 _ (w.heap.size + 1) _ d rfl ?_) rfl ⟨rfl, C1.onObj (p := w.heap.size + 1) (.inr (by omega)) _⟩
  simp [go_sem, z1]
end Go.Proofs.Hc
/- The reference of layer 19: Take, what a key told. -/
namespace Go.Proofs.Hc
open Go.RowKit
attribute [local go_sem] wrap_u64 wrap_u8 bits_xor64 bits_and64 bits_or64 bits_not64 bits_xor8 bits_and8 bits_or8 signed64 signed8 ofInt_N BitVec.ofInt_add BitVec.ofInt_mul ofInt_sub' ofInt8_N64 ofInt64_N8 wide8 eqN neN shr_pow shr1 shr7 shr56
attribute [local go_sem high] bits_com64 shl_wrap
attribute [local go_sem] cell_heap ice_heap cellAt_cells iceAt_cells setAt_cells rowAt_cells canLay_cells laidAt_cells size_onObj size_setCell rowRes_some layRes_true
attribute [local go_sem] load26 load73 load23 store26 build73
attribute [local go_sem ↓] lrow26 lrow73 lrow23 srow26 zero26 brow73 heap_alloc heap_drew heap_drewN heap_setCell heap_onObj
attribute [local go_sem] tcells_size hcells_size tcells_get hcells_get tcells_one hcells_one hcells_table tcells_table hcells_all hcells_ctrl tcells_ctrl
attribute [local go_sem] nn2 nm2 nn3 nm3 nn4 nm4 nn5 nm5 nn6 nm6 nn7 nm7 nn8 nm8
attribute [local go_sem] nn2 nm2 nn3 nm3 nn4 nm4 nn5 nm5 nn6 nm6 nn7 nm7 nn8 nm8
attribute [local go_sem] ofInt_N
attribute [local go_sem] pen_g0 pen_g1 pen_g2 pen_g3 pen_g4 pen_g5 pen_g6 pen_g7 pen_g8 pen_g9 pen_g10 pen_g11 pen_g12 pen_g13 pen_g14 pen_g15 pen_g16 pen_g17 penC_size penC_one penC_all boxPen loadPen storePen
attribute [local go_sem ↓] lrowPen srowPen
attribute [local go_sem] pen_s0 pen_s1 pen_s2 pen_s3 pen_s4 pen_s5 pen_s6 pen_s7 pen_s8 pen_s9 pen_s10 pen_s11 pen_s12 pen_s13 pen_s14 pen_s15 pen_s16 pen_s17
attribute [local go_sem ↓] zeroPen_run
attribute [local go_sem high] laidAt_pen
attribute [local irreducible] penC
set_option maxHeartbeats 2000000 in
set_option maxRecDepth 100000 in
theorem r19Take_2y (p : PenT) (R : RightP p) (hph : p.ph = 2) (x : BitVec 64) (hx : (x == p.key) = true) (w : World) : Calls Tryz.prog 111 #[.agg (penC p), U x] w fun e w' => e = .returned (.agg (penC (takeP p x))) ∧ Ch [] w w' := by
  have HT := Lib.hid (takeP_2 hph x)
  have hl0 := R.left hph
  have L1 := fun w => r19Least_any p.left hl0 w
  have G1 := fun w => r19Group_any p R.grp w
  have hg2 : (groupP p : Int) < 2 := by have := groupP_lt p; omega
  have hl8 : (laneP p.left : Int) < 8 := by have := laneP_lt p.left; omega
  generalize takeP p x = d at *
  generalize groupP p = gp at *
  generalize laneP p.left = l at *
  clear R hl0
  rw [hx] at HT
  go_enter Tryz.func111, Tryz.ntmps111
  go_wp2_with fail
  (have hC0 : Ch [] w ((w.alloc (.cells (penC p) 71)).alloc (.cells (penC zeroPen) 71)) := ((Ch.refl [] w).alloc _).alloc _; have b0 := new_pen2 p w; have z0 := new_penz p w; have hs0 := new_pens p w; generalize (w.alloc (.cells (penC p) 71)).alloc (.cells (penC zeroPen) 71) = W0 at *)
  refine (L1 _).mono ?_
  rintro e w1 ⟨rfl, hc1⟩
  have b1 := hkeep hc1 b0
  have z1 := hkeep hc1 z0
  have C1 := hC0.trans hc1
  clear b0 z0 hC0 hc1 L1
  go_wp2_with fail
  refine (G1 _).mono ?_
  rintro e w2 ⟨rfl, hc2⟩
  have b2 := hkeep hc2 b1
  have z2 := hkeep hc2 z1
  have C2 := C1.trans hc2
  clear b1 z1 C1 hc2 G1
  go_wp2
  refine bodyPost_ret (pen_result Tryz.results111 _ (w.heap.size + 1) _ d rfl ?_) rfl ⟨rfl, ((C2.setCell (p := ⟨w.heap.size, 15, none⟩) (.inr (Nat.le_refl _)) _).setCell (p := ⟨w.heap.size, 0, none⟩) (.inr (Nat.le_refl _)) _).onObj (p := w.heap.size + 1) (.inr (by omega)) _⟩
  rw [HT.out]
  simp [go_sem, z2]
end Go.Proofs.Hc
