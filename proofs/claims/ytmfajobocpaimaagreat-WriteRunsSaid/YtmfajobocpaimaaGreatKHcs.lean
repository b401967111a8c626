/- The reference of layer 19: Take, where a phase calls at most once. -/
import Derived.Test.YtmfajobocpaimaaGreatKHck
import Derived.Test.YtmfajobocpaimaaGreatKHcr
import Derived.Test.YtmfajobocpaimaaGreatKHxe
import Derived.Test.YtmfajobocpaimaaGreatKHnc
import Derived.Test.YtmfajobocpaimaaGreatKHni
import Derived.Test.YtmfajobocpaimaaGreatKHnl
import Derived.Test.YtmfajobocpaimaaGreatKHnq
import Derived.Test.YtmfajobocpaimaaGreatKHns
import Derived.Test.YtmfajobocpaimaaGreatKHny
import Derived.Test.YtmfajobocpaimaaGreatKHpa
import Derived.Test.YtmfajobocpaimaaGreatKHq
import Derived.Test.YtmfajobocpaimaaGreatKHr
import Derived.Test.YtmfajobocpaimaaGreatKHde
import Derived.Test.YtmfajobocpaimaaGreatKHop2
import Derived.Below
import Derived.BigQuiet
import Derived.Deep.Draws
import Derived.Deep.Light
import Derived.Deep.QuietTactic
import Derived.Deep.RegionHeld
import Derived.Laws.CopyRow
import Derived.Laws.StructEq
import Derived.Laws.Tables
import Derived.Lib.AppendZerosOnto
import Derived.Lib.Hide
import Derived.Lib.Tables
import Derived.Lib.Walk
import Derived.LoopIn
import Derived.LoopN
import Derived.LoopNIn
import Derived.Maps.AppendAt
import Derived.Maps.Views
import Derived.OwnWalkIn
import Derived.RangeFuncBox
import Derived.RangeFuncCalls
import Derived.RangeFuncRecord
import Derived.RangeFuncSeq
import Derived.Recover
import Derived.RegionTactic
import Derived.ScopeJumps
import Derived.Shelf.Slices.Clone
import Derived.StillTail
import Derived.StillTailTactics
import Derived.TacticsInMore
import Derived.Test.YtmfajobocpaimaaGreatProg
import Derived.WalkKit
import Derived.WalkLawsBesides
import Derived.WalkMore
import Derived.WalkSpells
set_option linter.unusedSimpArgs false
set_option linter.unusedVariables false
namespace Go.Proofs.Hc
open Go.RowKit
attribute [local go_sem] wrap_u64 wrap_u8 bits_xor64 bits_and64 bits_or64 bits_not64 bits_xor8 bits_and8 bits_or8 signed64 signed8 ofInt_N BitVec.ofInt_add BitVec.ofInt_mul ofInt_sub' ofInt8_N64 ofInt64_N8 wide8 eqN neN shr_pow shr1 shr7 shr56
attribute [local go_sem high] bits_com64 shl_wrap
attribute [local go_sem] cell_heap ice_heap cellAt_cells iceAt_cells setAt_cells rowAt_cells canLay_cells laidAt_cells size_onObj size_setCell rowRes_some layRes_true
attribute [local go_sem] load26 load73 load23 store26 build73
attribute [local go_sem ↓] lrow26 lrow73 lrow23 srow26 zero26 brow73 heap_alloc heap_drew heap_drewN heap_setCell heap_onObj
attribute [local go_sem] tcells_size hcells_size tcells_get hcells_get tcells_one hcells_one hcells_table tcells_table hcells_all hcells_ctrl tcells_ctrl
attribute [local go_sem] nn2 nm2 nn3 nm3 nn4 nm4 nn5 nm5 nn6 nm6 nn7 nm7 nn8 nm8
attribute [local go_sem] nn2 nm2 nn3 nm3 nn4 nm4 nn5 nm5 nn6 nm6 nn7 nm7 nn8 nm8
attribute [local go_sem] ofInt_N
attribute [local go_sem] pen_g0 pen_g1 pen_g2 pen_g3 pen_g4 pen_g5 pen_g6 pen_g7 pen_g8 pen_g9 pen_g10 pen_g11 pen_g12 pen_g13 pen_g14 pen_g15 pen_g16 pen_g17 penC_size penC_one penC_all boxPen loadPen storePen
attribute [local go_sem ↓] lrowPen srowPen
attribute [local go_sem] pen_s0 pen_s1 pen_s2 pen_s3 pen_s4 pen_s5 pen_s6 pen_s7 pen_s8 pen_s9 pen_s10 pen_s11 pen_s12 pen_s13 pen_s14 pen_s15 pen_s16 pen_s17
attribute [local go_sem ↓] zeroPen_run
attribute [local go_sem high] laidAt_pen
attribute [local irreducible] penC
attribute [local go_sem high] tmod2_64w bit64w bit64zw
set_option maxHeartbeats 2000000 in
set_option maxRecDepth 100000 in
theorem r19Take_0 (p : PenT) (hph : p.ph = 0) (x : BitVec 64) (w : World) : Calls Tryz.prog 111 #[.agg (penC p), U x] w fun e w' => e = .returned (.agg (penC (takeP p x))) ∧ Ch [] w w' := by
  have HT := Lib.hid (takeP_0 hph x)
  have ho : oddB x = true ∨ oddB x = false := by cases oddB x <;> simp
  generalize takeP p x = d at *
  rcases ho with ho | ho
  all_goals
    rw [ho] at HT
    go_enter Tryz.func111, Tryz.ntmps111
    go_wp2
    refine bodyPost_ret (pen_result Tryz.results111 _ (w.heap.size + 1) _ d rfl ?_) rfl ⟨rfl, (((Ch.refl [] w).alloc _).alloc _).onObj (p := w.heap.size + 1) (.inr (by omega)) _⟩
    rw [HT.out]
    simp [go_sem]
set_option maxHeartbeats 2000000 in
set_option maxRecDepth 100000 in
theorem r19Take_5 (p : PenT) (hph : p.ph = 5) (x : BitVec 64) (w : World) : Calls Tryz.prog 111 #[.agg (penC p), U x] w fun e w' => e = .returned (.agg (penC (takeP p x))) ∧ Ch [] w w' := by
  have HT := Lib.hid (takeP_5 hph x)
  generalize takeP p x = d at *
  go_enter Tryz.func111, Tryz.ntmps111
  go_wp2
  refine bodyPost_ret (pen_result Tryz.results111 _ (w.heap.size + 1) _ d rfl ?_) rfl ⟨rfl, (((Ch.refl [] w).alloc _).alloc _).onObj (p := w.heap.size + 1) (.inr (by omega)) _⟩
  rw [HT.out]
  simp [go_sem]
set_option maxHeartbeats 2000000 in
set_option maxRecDepth 100000 in
theorem r19Take_3 (p : PenT) (hph : p.ph = 3) (x : BitVec 64) (w : World) : Calls Tryz.prog 111 #[.agg (penC p), U x] w fun e w' => e = .returned (.agg (penC (takeP p x))) ∧ Ch [] w w' := by
  rw [takeP_3 hph x]
  obtain ⟨_, sl, op, ky, pa, pb, ph, cn, cc, lv, gr, ct, lf, fr, fc, st, vl, fd⟩ := p
  dsimp only at hph
  subst hph
  dsimp only
  have D1 := fun w => r19Decided_any ⟨3, sl, op, ky, pa, pb, ph, cn, cc, lv, gr, ct, lf, fr, fc, st, x, true⟩ w
  have C0 : Ch [] w ((w.alloc (.cells (penC ⟨3, sl, op, ky, pa, pb, ph, cn, cc, lv, gr, ct, lf, fr, fc, st, x, true⟩) 71)).alloc (.cells (penC zeroPen) 71)) := ((Ch.refl [] w).alloc _).alloc _
  have z0 := new_penz ⟨3, sl, op, ky, pa, pb, ph, cn, cc, lv, gr, ct, lf, fr, fc, st, x, true⟩ w
  generalize decidedP ⟨3, sl, op, ky, pa, pb, ph, cn, cc, lv, gr, ct, lf, fr, fc, st, x, true⟩ = d at *
  go_enter Tryz.func111, Tryz.ntmps111
  go_wp2_with fail
  generalize (w.alloc (.cells (penC ⟨3, sl, op, ky, pa, pb, ph, cn, cc, lv, gr, ct, lf, fr, fc, st, x, true⟩) 71)).alloc (.cells (penC zeroPen) 71) = W0 at *
  refine (D1 _).mono ?_
  rintro e w1 ⟨rfl, hc1⟩
  have z1 := hkeep hc1 z0
  have C1 := C0.trans hc1
  clear z0 C0 hc1
  go_wp2
  refine bodyPost_ret (pen_result Tryz.results111 _ (w.heap.size + 1) _ d rfl ?_) rfl ⟨rfl, C1.onObj (p := w.heap.size + 1) (.inr (by omega)) _⟩
  simp [go_sem, z1]
end Go.Proofs.Hc
/- The reference of layer 19: Take, what a key told. -/
namespace Go.Proofs.Hc
open Go.RowKit
attribute [local go_sem] wrap_u64 wrap_u8 bits_xor64 bits_and64 bits_or64 bits_not64 bits_xor8 bits_and8 bits_or8 signed64 signed8 ofInt_N BitVec.ofInt_add BitVec.ofInt_mul ofInt_sub' ofInt8_N64 ofInt64_N8 wide8 eqN neN shr_pow shr1 shr7 shr56
attribute [local go_sem high] bits_com64 shl_wrap
attribute [local go_sem] cell_heap ice_heap cellAt_cells iceAt_cells setAt_cells rowAt_cells canLay_cells laidAt_cells size_onObj size_setCell rowRes_some layRes_true
attribute [local go_sem] load26 load73 load23 store26 build73
attribute [local go_sem ↓] lrow26 lrow73 lrow23 srow26 zero26 brow73 heap_alloc heap_drew heap_drewN heap_setCell heap_onObj
attribute [local go_sem] tcells_size hcells_size tcells_get hcells_get tcells_one hcells_one hcells_table tcells_table hcells_all hcells_ctrl tcells_ctrl
attribute [local go_sem] nn2 nm2 nn3 nm3 nn4 nm4 nn5 nm5 nn6 nm6 nn7 nm7 nn8 nm8
attribute [local go_sem] nn2 nm2 nn3 nm3 nn4 nm4 nn5 nm5 nn6 nm6 nn7 nm7 nn8 nm8
attribute [local go_sem] ofInt_N
attribute [local go_sem] pen_g0 pen_g1 pen_g2 pen_g3 pen_g4 pen_g5 pen_g6 pen_g7 pen_g8 pen_g9 pen_g10 pen_g11 pen_g12 pen_g13 pen_g14 pen_g15 pen_g16 pen_g17 penC_size penC_one penC_all boxPen loadPen storePen
attribute [local go_sem ↓] lrowPen srowPen
attribute [local go_sem] pen_s0 pen_s1 pen_s2 pen_s3 pen_s4 pen_s5 pen_s6 pen_s7 pen_s8 pen_s9 pen_s10 pen_s11 pen_s12 pen_s13 pen_s14 pen_s15 pen_s16 pen_s17
attribute [local go_sem ↓] zeroPen_run
attribute [local go_sem high] laidAt_pen
attribute [local irreducible] penC
set_option maxHeartbeats 2000000 in
set_option maxRecDepth 100000 in
theorem r19Take_2y (p : PenT) (R : RightP p) (hph : p.ph = 2) (x : BitVec 64) (hx : (x == p.key) = true) (w : World) : Calls Tryz.prog 111 #[.agg (penC p), U x] w fun e w' => e = .returned (.agg (penC (takeP p x))) ∧ Ch [] w w' := by
  have HT := Lib.hid (takeP_2 hph x)
  have hl0 := R.left hph
  have L1 := fun w => r19Least_any p.left hl0 w
  have G1 := fun w => r19Group_any p R.grp w
  have hg2 : (groupP p : Int) < 2 := by have := groupP_lt p; omega
  have hl8 : (laneP p.left : Int) < 8 := by have := laneP_lt p.left; omega
  generalize takeP p x = d at *
  generalize groupP p = gp at *
  generalize laneP p.left = l at *
  clear R hl0
  rw [hx] at HT
  go_enter Tryz.func111, Tryz.ntmps111
  go_wp2_with fail
  (have hC0 : Ch [] w ((w.alloc (.cells (penC p) 71)).alloc (.cells (penC zeroPen) 71)) := ((Ch.refl [] w).alloc _).alloc _; have b0 := new_pen2 p w; have z0 := new_penz p w; have hs0 := new_pens p w; generalize (w.alloc (.cells (penC p) 71)).alloc (.cells (penC zeroPen) 71) = W0 at *)
  refine (L1 _).mono ?_
  rintro e w1 ⟨rfl, hc1⟩
  have b1 := hkeep hc1 b0
  have z1 := hkeep hc1 z0
  have C1 := hC0.trans hc1
  clear b0 z0 hC0 hc1 L1
  go_wp2_with fail
  refine (G1 _).mono ?_
  rintro e w2 ⟨rfl, hc2⟩
  have b2 := hkeep hc2 b1
  have z2 := hkeep hc2 z1
  have C2 := C1.trans hc2
  clear b1 z1 C1 hc2 G1
  go_wp2
  refine bodyPost_ret (pen_result Tryz.results111 _ (w.heap.size + 1) _ d rfl ?_) rfl ⟨rfl, ((C2.setCell (p := ⟨w.heap.size, 15, none⟩) (.inr (Nat.le_refl _)) _).setCell (p := ⟨w.heap.size, 0, none⟩) (.inr (Nat.le_refl _)) _).onObj (p := w.heap.size + 1) (.inr (by omega)) _⟩
  rw [HT.out]
  simp [go_sem, z2]
end Go.Proofs.Hc
/- The reference of layer 19: Take, a control word. -/
namespace Go.Proofs.Hc
open Go.RowKit
attribute [local go_sem] wrap_u64 wrap_u8 bits_xor64 bits_and64 bits_or64 bits_not64 bits_xor8 bits_and8 bits_or8 signed64 signed8 ofInt_N BitVec.ofInt_add BitVec.ofInt_mul ofInt_sub' ofInt8_N64 ofInt64_N8 wide8 eqN neN shr_pow shr1 shr7 shr56
attribute [local go_sem high] bits_com64 shl_wrap
attribute [local go_sem] cell_heap ice_heap cellAt_cells iceAt_cells setAt_cells rowAt_cells canLay_cells laidAt_cells size_onObj size_setCell rowRes_some layRes_true
attribute [local go_sem] load26 load73 load23 store26 build73
attribute [local go_sem ↓] lrow26 lrow73 lrow23 srow26 zero26 brow73 heap_alloc heap_drew heap_drewN heap_setCell heap_onObj
attribute [local go_sem] tcells_size hcells_size tcells_get hcells_get tcells_one hcells_one hcells_table tcells_table hcells_all hcells_ctrl tcells_ctrl
attribute [local go_sem] nn2 nm2 nn3 nm3 nn4 nm4 nn5 nm5 nn6 nm6 nn7 nm7 nn8 nm8
attribute [local go_sem] nn2 nm2 nn3 nm3 nn4 nm4 nn5 nm5 nn6 nm6 nn7 nm7 nn8 nm8
attribute [local go_sem] ofInt_N
attribute [local go_sem] pen_g0 pen_g1 pen_g2 pen_g3 pen_g4 pen_g5 pen_g6 pen_g7 pen_g8 pen_g9 pen_g10 pen_g11 pen_g12 pen_g13 pen_g14 pen_g15 pen_g16 pen_g17 penC_size penC_one penC_all boxPen loadPen storePen
attribute [local go_sem ↓] lrowPen srowPen
attribute [local go_sem] pen_s0 pen_s1 pen_s2 pen_s3 pen_s4 pen_s5 pen_s6 pen_s7 pen_s8 pen_s9 pen_s10 pen_s11 pen_s12 pen_s13 pen_s14 pen_s15 pen_s16 pen_s17
attribute [local go_sem ↓] zeroPen_run
attribute [local go_sem high] laidAt_pen
attribute [local irreducible] penC
theorem N8_128 (b : BitVec 8) : (N b == 128) = (b == 128#8) := by rw [← eqN]; rfl
theorem N8_254 (b : BitVec 8) : (N b == 254) = (b == 254#8) := by rw [← eqN]; rfl
/-- No lane is free before the first. -/
theorem head_before {m : BitVec 8} {z : Nat} (h : (lanesOf m).head? = some z) : ∀ j, j < z → m.getLsbD j = false := by
  have h8 := (head_mem h).1
  have key : ∀ m : BitVec 8, ∀ z : Fin 8, ((lanesOf m).head? == some z.val) = true → ∀ j : Fin 8, j.val < z.val → m.getLsbD j.val = false := by decide +kernel
  intro j hj
  exact key m ⟨z, h8⟩ (by simp [h]) ⟨j, by omega⟩ hj
theorem head_none {m : BitVec 8} (h : (lanesOf m).head? = none) : ∀ j, j < 8 → m.getLsbD j = false := by
  intro j hj
  cases hb : m.getLsbD j with
  | false => rfl
  | true =>
    have : j ∈ lanesOf m := by unfold lanesOf; simp [hj, hb]
    cases hl : lanesOf m with
    | nil => rw [hl] at this; cases this
    | cons a t => rw [hl] at h; cases h
theorem free_miss {c : BitVec 64} {j : Nat} (hj : j < 8) (h : (freeM c).getLsbD j = false) : (N (byteAt c j) == 128) = false ∧ (N (byteAt c j) == 254) = false := by
  rw [free_byte c j hj] at h
  rw [N8_128, N8_254]
  simpa using h
theorem free_hit {c : BitVec 64} {j : Nat} (hj : j < 8) (h : (freeM c).getLsbD j = true) : (N (byteAt c j) == 128) = true ∨ (N (byteAt c j) == 128) = false ∧ (N (byteAt c j) == 254) = true := by
  rw [free_byte c j hj] at h
  rw [N8_128, N8_254]
  cases h1 : (byteAt c j == 128#8) with
  | true => exact .inl rfl
  | false => rw [h1] at h; exact .inr ⟨rfl, by simpa using h⟩
theorem freeP_kept (p : PenT) (w : BitVec 64) (o : Option Nat) (h : p.free ≠ 0) : freeP p w o = p := by
  cases o with
  | none => rfl
  | some x => exact if_neg h
theorem freeP_put (p : PenT) (w : BitVec 64) (x : Nat) (h : p.free = 0) : freeP p w (some x) = { p with free := ((8 * groupP p + x + 1 : Nat) : Int), fctrl := w } := if_pos h
set_option maxHeartbeats 4000000 in
set_option maxRecDepth 100000 in
theorem r19Take_1 (p : PenT) (R : RightP p) (hph : p.ph = 1) (x : BitVec 64) (w : World) : Calls Tryz.prog 111 #[.agg (penC p), U x] w fun e w' => e = .returned (.agg (penC (takeP p x))) ∧ Ch [] w w' := by
  rw [takeP_1 hph, lookedP]
  have hg := R.grp
  clear R
  obtain ⟨_, sl, op, ky, pa, pb, ph, cn, cc, lv, gr, ct, lf, fr, fc, st, vl, fd⟩ := p
  dsimp only at hph hg
  subst hph
  unfold seenP
  dsimp only
  have H1 := fun w => rH2_any ph w
  have E1 := fun w => r1Equal_any x (hash2 ph) w
  generalize equalM x (hash2 ph) = eq at *
  generalize hash2 ph = h2 at *
  have O1 := fun (q : PenT) (h : q.grp = 0 ∨ q.grp = 1) w => r19On_any q h w
  generalize hD : onP (freeP ⟨1, sl, op, ky, pa, pb, ph, cn, cc, lv, gr, x, eq, fr, fc, st, vl, fd⟩ x (lanesOf (freeM x)).head?) = d
  have HD := Lib.hid hD
  clear hD
  have hC0 : Ch [] w ((w.alloc (.cells (penC ⟨1, sl, op, ky, pa, pb, ph, cn, cc, lv, gr, ct, lf, fr, fc, st, vl, fd⟩) 71)).alloc (.cells (penC zeroPen) 71)) := ((Ch.refl [] w).alloc _).alloc _
  have b0 := new_pen2 ⟨1, sl, op, ky, pa, pb, ph, cn, cc, lv, gr, ct, lf, fr, fc, st, vl, fd⟩ w
  have z0 := new_penz ⟨1, sl, op, ky, pa, pb, ph, cn, cc, lv, gr, ct, lf, fr, fc, st, vl, fd⟩ w
  go_enter Tryz.func111, Tryz.ntmps111
  go_wp2_with fail
  generalize (w.alloc (.cells (penC ⟨1, sl, op, ky, pa, pb, ph, cn, cc, lv, gr, ct, lf, fr, fc, st, vl, fd⟩) 71)).alloc (.cells (penC zeroPen) 71) = W0 at *
  refine (H1 _).mono ?_
  rintro e w' ⟨rfl, rfl⟩
  go_wp2_with fail
  refine (E1 _).mono ?_
  rintro e w1 ⟨rfl, hc1⟩
  have b1 := hkeep hc1 b0
  have z1 := hkeep hc1 z0
  have C1 := hC0.trans hc1
  clear b0 z0 hC0 hc1 H1 E1
  go_wp2
  have b2 : ((w1.setCell ⟨w.heap.size, 11, none⟩ (U x)).setCell ⟨w.heap.size, 12, none⟩ (Y eq)).heap[w.heap.size]? = some (.cells (penC ⟨1, sl, op, ky, pa, pb, ph, cn, cc, lv, gr, x, eq, fr, fc, st, vl, fd⟩) 71 (0, 0)) := by simp [go_sem, b1]
  have z2 : ((w1.setCell ⟨w.heap.size, 11, none⟩ (U x)).setCell ⟨w.heap.size, 12, none⟩ (Y eq)).heap[w.heap.size + 1]? = some (.cells (penC zeroPen) 71 (0, 0)) := by simp [go_sem, z1]
  have C2 : Ch [] w ((w1.setCell ⟨w.heap.size, 11, none⟩ (U x)).setCell ⟨w.heap.size, 12, none⟩ (Y eq)) := (C1.setCell (p := ⟨w.heap.size, 11, none⟩) (.inr (Nat.le_refl _)) _).setCell (p := ⟨w.heap.size, 12, none⟩) (.inr (Nat.le_refl _)) _
  generalize (w1.setCell ⟨w.heap.size, 11, none⟩ (U x)).setCell ⟨w.heap.size, 12, none⟩ (Y eq) = w2 at *
  clear b1 z1 C1
  rcases (show fr = 0 ∨ (fr == 0) = false ∧ fr ≠ 0 by by_cases h : fr = 0 <;> simp [h]) with rfl | ⟨hfb, hfr⟩
  · cases hh : (lanesOf (freeM x)).head? with
    | none =>
      have hmiss := head_none hh
      have O2 : ∀ w, Calls Tryz.prog 164 #[.agg (penC ⟨1, sl, op, ky, pa, pb, ph, cn, cc, lv, gr, x, eq, 0, fc, st, vl, fd⟩)] w fun e w' => e = .returned (.agg (penC d)) ∧ Ch [] w w' := fun w => by
        have h := HD.out
        rw [hh] at h
        have := O1 ⟨1, sl, op, ky, pa, pb, ph, cn, cc, lv, gr, x, eq, 0, fc, st, vl, fd⟩ hg w
        rw [← h]
        exact this
      clear O1 HD hh
      go_loop [5] (fun i => i = .int .i64 (-1) ∨ ∃ m : Nat, m ≤ 7 ∧ i = .int .i64 m) (fun i => (intOf i + 1).toNat)
      case atStart => exact .inr ⟨7, by omega, rfl⟩
      case round =>
        rcases hrel with rfl | ⟨m, hm, rfl⟩
        · go_wp2_with fail
          refine (O2 _).mono ?_
          rintro e w5 ⟨rfl, hc5⟩
          have z5 := hkeep hc5 z2
          have C5 := C2.trans hc5
          clear hc5
          go_wp2
          refine bodyPost_ret (pen_result Tryz.results111 _ (w.heap.size + 1) _ d rfl ?_) rfl ⟨rfl, C5.onObj (p := w.heap.size + 1) (.inr (by omega)) _⟩
          simp [go_sem, z5]
        · have hm0 : (0 : Int) ≤ m := by omega
          have hm7 : (m : Int) ≤ 7 := by omega
          go_wp2_with fail
          go_loop [52] (fun i => ∃ n : Nat, n ≤ m + 1 ∧ i = .int .i64 n) (fun i => m + 1 - (intOf i).toNat)
          case atStart => exact ⟨0, by omega, rfl⟩
          case round =>
            obtain ⟨n, hn, rfl⟩ := hrel
            by_cases hlt : n < m + 1
            · obtain ⟨m1, m2⟩ := free_miss (c := x) (by omega) (hmiss n (by omega))
              have A1 := fun w => rAt_any x n (by omega) w
              clear hmiss
              generalize byteAt x n = b at *
              go_wp2_with (go_at_call 76; refine (A1 _).mono ?_; rintro e w' ⟨rfl, rfl⟩)
              go_round
              case rel => exact ⟨n + 1, by omega, by go_num⟩
              case measure => simp [intOf]; omega
            · have hnm : n = m + 1 := by omega
              subst hnm
              clear hmiss
              go_wp2
              go_round
              case rel =>
                rcases Nat.eq_zero_or_pos m with h0 | h0
                · subst h0; exact .inl rfl
                · exact .inr ⟨m - 1, by omega, by go_num⟩
              case measure => simp [intOf] <;> omega
    | some z =>
      have hz8 : z < 8 := (head_mem hh).1
      have hbit := (head_mem hh).2
      have hbef := head_before hh
      have hit := free_hit hz8 hbit
      have G1 := fun w => r19Group_any ⟨1, sl, op, ky, pa, pb, ph, cn, cc, lv, gr, x, eq, 0, fc, st, vl, fd⟩ hg w
      have hgl := groupP_lt ⟨1, sl, op, ky, pa, pb, ph, cn, cc, lv, gr, x, eq, 0, fc, st, vl, fd⟩
      have hf := HD.out
      rw [hh] at hf
      have hfx : freeP ⟨1, sl, op, ky, pa, pb, ph, cn, cc, lv, gr, x, eq, 0, fc, st, vl, fd⟩ x (some z) = ⟨1, sl, op, ky, pa, pb, ph, cn, cc, lv, gr, x, eq, 8 * (groupP ⟨1, sl, op, ky, pa, pb, ph, cn, cc, lv, gr, x, eq, 0, fc, st, vl, fd⟩ : Int) + (z : Int) + 1, x, st, vl, fd⟩ := by
        have : freeP ⟨1, sl, op, ky, pa, pb, ph, cn, cc, lv, gr, x, eq, 0, fc, st, vl, fd⟩ x (some z) = ⟨1, sl, op, ky, pa, pb, ph, cn, cc, lv, gr, x, eq, ((8 * groupP ⟨1, sl, op, ky, pa, pb, ph, cn, cc, lv, gr, x, eq, 0, fc, st, vl, fd⟩ + z + 1 : Nat) : Int), x, st, vl, fd⟩ := freeP_put _ _ _ rfl
        rw [this]; congr 1
      rw [hfx] at hf
      clear hfx HD hh hbit
      generalize groupP ⟨1, sl, op, ky, pa, pb, ph, cn, cc, lv, gr, x, eq, 0, fc, st, vl, fd⟩ = gp at *
      have O2 : ∀ w, Calls Tryz.prog 164 #[.agg (penC ⟨1, sl, op, ky, pa, pb, ph, cn, cc, lv, gr, x, eq, 8 * (gp : Int) + (z : Int) + 1, x, st, vl, fd⟩)] w fun e w' => e = .returned (.agg (penC d)) ∧ Ch [] w w' := fun w => by
        have := O1 ⟨1, sl, op, ky, pa, pb, ph, cn, cc, lv, gr, x, eq, 8 * (gp : Int) + (z : Int) + 1, x, st, vl, fd⟩ hg w
        rw [hf] at this
        exact this
      clear O1 hf
      have hfb : (8 * (gp : Int) + (z : Int) + 1 == 0) = false := by simp; omega
      have hgp0 : (0 : Int) ≤ gp := by omega
      have hgp2 : (gp : Int) < 2 := by omega
      have hzz0 : (0 : Int) ≤ z := by omega
      have hzz8 : (z : Int) < 8 := by omega
      go_loopw [5] (fun i wr => (i = .int .i64 7 ∧ wr = w2) ∨ (i = .int .i64 6 ∧ wr.heap[w.heap.size]? = some (.cells (penC ⟨1, sl, op, ky, pa, pb, ph, cn, cc, lv, gr, x, eq, 8 * (gp : Int) + (z : Int) + 1, x, st, vl, fd⟩) 71 (0, 0)) ∧ wr.heap[w.heap.size + 1]? = some (.cells (penC zeroPen) 71 (0, 0)) ∧ Ch [] w wr)) (fun i _ => (intOf i).toNat)
      case atStart => exact .inl ⟨rfl, rfl⟩
      case round =>
        rcases hrel with ⟨rfl, rfl⟩ | ⟨rfl, bq, zq, Cq⟩
        · go_wp2_with fail
          go_loop [52] (fun i => ∃ n : Nat, n ≤ z ∧ i = .int .i64 n) (fun i => z - (intOf i).toNat)
          case atStart => exact ⟨0, by omega, rfl⟩
          case round =>
            obtain ⟨n, hn, rfl⟩ := hrel
            by_cases hlt : n < z
            · obtain ⟨m1, m2⟩ := free_miss (c := x) (by omega) (hbef n hlt)
              have A1 := fun w => rAt_any x n (by omega) w
              clear hbef hit
              generalize byteAt x n = b at *
              go_wp2_with (go_at_call 76; refine (A1 _).mono ?_; rintro e w' ⟨rfl, rfl⟩)
              go_round
              case rel => exact ⟨n + 1, by omega, by go_num⟩
              case measure => simp [intOf]; omega
            · have hnm : n = z := by omega
              subst hnm
              have A1 := fun w => rAt_any x n (by omega) w
              clear hbef
              generalize byteAt x n = b at *
              rcases hit with m1 | ⟨m1, m2⟩
              all_goals
                go_wp2_with fail
                refine (A1 _).mono ?_
                rintro e w' ⟨rfl, rfl⟩
                go_wp2_with fail
                refine (G1 _).mono ?_
                rintro e w3 ⟨rfl, hc3⟩
                have b3 := hkeep hc3 b2
                have z3 := hkeep hc3 z2
                have C3 := C2.trans hc3
                clear hc3 A1 G1
                go_wp2
                go_roundw
                case rel => exact .inr ⟨rfl, by simp [go_sem, b3], by simp [go_sem, z3], (C3.setCell (p := ⟨w.heap.size, 13, none⟩) (.inr (Nat.le_refl _)) _).setCell (p := ⟨w.heap.size, 14, none⟩) (.inr (Nat.le_refl _)) _⟩
                case measure => simp [intOf]
        · clear hit hbef
          go_wp2_with fail
          refine (O2 _).mono ?_
          rintro e w5 ⟨rfl, hc5⟩
          have z5 := hkeep hc5 zq
          have C5 := Cq.trans hc5
          clear hc5
          go_wp2
          refine bodyPost_ret (pen_result Tryz.results111 _ (w.heap.size + 1) _ d rfl ?_) rfl ⟨rfl, C5.onObj (p := w.heap.size + 1) (.inr (by omega)) _⟩
          simp [go_sem, z5]
  · have O2 : ∀ w, Calls Tryz.prog 164 #[.agg (penC ⟨1, sl, op, ky, pa, pb, ph, cn, cc, lv, gr, x, eq, fr, fc, st, vl, fd⟩)] w fun e w' => e = .returned (.agg (penC d)) ∧ Ch [] w w' := fun w => by
      have h := HD.out
      rw [freeP_kept _ _ _ hfr] at h
      have := O1 ⟨1, sl, op, ky, pa, pb, ph, cn, cc, lv, gr, x, eq, fr, fc, st, vl, fd⟩ hg w
      rw [h] at this
      exact this
    clear O1 HD
    go_loop [5] (fun i => i = .int .i64 7) (fun _ => 0)
    case atStart => rfl
    case round =>
      subst hrel
      go_wp2_with fail
      refine (O2 _).mono ?_
      rintro e w5 ⟨rfl, hc5⟩
      have z5 := hkeep hc5 z2
      have C5 := C2.trans hc5
      clear hc5
      go_wp2
      refine bodyPost_ret (pen_result Tryz.results111 _ (w.heap.size + 1) _ d rfl ?_) rfl ⟨rfl, C5.onObj (p := w.heap.size + 1) (.inr (by omega)) _⟩
      simp [go_sem, z5]
theorem r19Take_any (p : PenT) (R : RightP p) (h13 : p.ph ≤ 13) (x : BitVec 64) (w : World) : Calls Tryz.prog 111 #[.agg (penC p), U x] w fun e w' => e = .returned (.agg (penC (takeP p x))) ∧ Ch [] w w' := by
  have h0 := R.ph0
  rcases (show p.ph = 0 ∨ p.ph = 1 ∨ p.ph = 2 ∨ p.ph = 3 ∨ p.ph = 4 ∨ p.ph = 5 ∨ 6 ≤ p.ph by omega) with e | e | e | e | e | e | e
  · exact r19Take_0 p e x w
  · exact r19Take_1 p R e x w
  · cases hx : (x == p.key) with
    | true => exact r19Take_2y p R e x hx w
    | false => exact r19Take_2n p R e x hx w
  · exact r19Take_3 p e x w
  · exact r19Take_4 p R e x w
  · exact r19Take_5 p e x w
  · exact r19Take_6 p e h13 x w
end Go.Proofs.Hc
