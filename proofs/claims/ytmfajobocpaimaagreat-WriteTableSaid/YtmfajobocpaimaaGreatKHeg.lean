/- Law 19, WriteTable: the walk, call by call (printed by gen_table19.py). -/
import Derived.Test.YtmfajobocpaimaaGreatKHm
import Derived.Test.YtmfajobocpaimaaGreatKHcs
import Derived.Test.YtmfajobocpaimaaGreatKHcg
import Derived.Test.YtmfajobocpaimaaGreatKHpk
import Derived.Test.YtmfajobocpaimaaGreatKHdk
import Derived.Test.YtmfajobocpaimaaGreatKHdo
import Derived.Test.YtmfajobocpaimaaGreatKHdp
import Derived.Test.YtmfajobocpaimaaGreatKHds
import Derived.Test.YtmfajobocpaimaaGreatKHdt
import Derived.Test.YtmfajobocpaimaaGreatKHea
import Derived.Test.YtmfajobocpaimaaGreatKHed
import Derived.Test.YtmfajobocpaimaaGreatKHee
import Derived.Test.YtmfajobocpaimaaGreatKHj
import Derived.Test.YtmfajobocpaimaaGreatKHma
import Derived.Test.YtmfajobocpaimaaGreatKHnl
import Derived.Test.YtmfajobocpaimaaGreatKHns
import Derived.Test.YtmfajobocpaimaaGreatKHye
import Derived.Test.YtmfajobocpaimaaGreatKHpa
import Derived.Test.YtmfajobocpaimaaGreatKHh
import Derived.Test.YtmfajobocpaimaaGreatKHxo
import Derived.Test.YtmfajobocpaimaaGreatKHtr
import Derived.Test.YtmfajobocpaimaaGreatKHxc
import Derived.Below
import Derived.BigQuiet
import Derived.ChangeKeysEq
import Derived.Deep.Draws
import Derived.Deep.Light
import Derived.Deep.OwnRows
import Derived.Deep.QuietTactic
import Derived.Deep.RegionHeld
import Derived.Deep.Slices
import Derived.IntWalk
import Derived.Laws.CopyOwn
import Derived.Laws.CopyRow
import Derived.Laws.StructEq
import Derived.Laws.Tables
import Derived.Lib.AppendZerosOnto
import Derived.Lib.Hide
import Derived.Lib.Tables
import Derived.Lib.Walk
import Derived.LoopIn
import Derived.LoopN
import Derived.LoopNIn
import Derived.Maps.AppendAt
import Derived.Maps.Views
import Derived.OpenShut
import Derived.OwnWalkIn
import Derived.ProofKit
import Derived.RangeFuncBox
import Derived.RangeFuncCalls
import Derived.RangeFuncRecord
import Derived.RangeFuncSeq
import Derived.Recover
import Derived.RegionTactic
import Derived.ScopeJumps
import Derived.Shelf.Slices.Clone
import Derived.StillTail
import Derived.StillTailTactics
import Derived.TacticsInMore
import Derived.Test.YtmfajobocpaimaaGreatProg
import Derived.WalkKit
import Derived.WalkLawsBesides
import Derived.WalkMore
import Derived.WalkSpells
set_option linter.unusedSimpArgs false
set_option linter.unusedVariables false
namespace Go.Proofs.Hc
open Go.RowKit
attribute [local go_sem] wrap_u64 wrap_u8 bits_xor64 bits_and64 bits_or64 bits_not64 bits_xor8 bits_and8 bits_or8 signed64 signed8 ofInt_N BitVec.ofInt_add BitVec.ofInt_mul ofInt_sub' ofInt8_N64 ofInt64_N8 wide8 eqN neN shr_pow shr1 shr7 shr56
attribute [local go_sem high] bits_com64 shl_wrap
attribute [local go_sem] cell_heap ice_heap cellAt_cells iceAt_cells setAt_cells rowAt_cells canLay_cells laidAt_cells size_onObj size_setCell rowRes_some layRes_true
attribute [local go_sem] load26 load73 load23 store26 build73
attribute [local go_sem ↓] lrow26 lrow73 lrow23 srow26 zero26 brow73 heap_alloc heap_drew heap_drewN heap_setCell heap_onObj
attribute [local go_sem] tcells_size hcells_size tcells_get hcells_get tcells_one hcells_one hcells_table tcells_table hcells_all hcells_ctrl tcells_ctrl
attribute [local go_sem] nn2 nm2 nn3 nm3 nn4 nm4 nn5 nm5 nn6 nm6 nn7 nm7 nn8 nm8
attribute [local go_sem] nn2 nm2 nn3 nm3 nn4 nm4 nn5 nm5 nn6 nm6 nn7 nm7 nn8 nm8
attribute [local go_sem] ofInt_N ofInt_pow8
attribute [local go_sem] Oper.semAt_some make_func1
attribute [local go_sem] pen_g0 pen_g1 pen_g2 pen_g3 pen_g4 pen_g5 pen_g6 pen_g7 pen_g8 pen_g9 pen_g10 pen_g11 pen_g12 pen_g13 pen_g14 pen_g15 pen_g16 pen_g17 penC_size penC_one penC_all
attribute [local irreducible] penC
attribute [local go_sem] pen_s0 pen_s1 pen_s2 pen_s3 pen_s4 pen_s5 pen_s6 pen_s7 pen_s8 pen_s9 pen_s10 pen_s11 pen_s12 pen_s13 pen_s14 pen_s15 pen_s16 pen_s17
attribute [local go_sem] boxPen loadPen storePen buildPen0
attribute [local go_sem ↓] lrowPen srowPen wzeroPen_run browPen
attribute [local go_sem high] wlaidAt_pen laidAt_t
attribute [local go_sem] workC_size workC_one workC_all workC_tab workC_g0 workC_g1 workC_g2 workC_i0 workC_i1 workC_i2 boxWork loadWork
attribute [local go_sem ↓] lrowWork
attribute [local go_sem] callC_size callC_one callC_all boxCall loadCall callC_i0 callC_i1 callC_i2 callC_i3 callC_j0 callC_j1 callC_j2 callC_j3
attribute [local go_sem ↓] lrowCall
attribute [local irreducible] callC workC tcells
set_option maxHeartbeats 3000000 in
set_option maxRecDepth 100000 in
theorem table_op3 (s : BitVec 64) (sl : Int) (t : Tab) (key a b : BitVec 64) (w : World) (hok : workOk s sl t = true) (hgo : hasT t (hashOf s key) = true) :
    Calls Tryz.prog 13 #[.agg (workC s sl t), .agg (callC 3 key a b)] w fun e w' => e = .returned (.bool true) ∧ Ch [] w w' := by
  obtain ⟨hm, hev, s0, s2⟩ := work_ok hok
  have m := (may_iff t s).1 hm
  obtain ⟨B, hB⟩ : ∃ B : Nat, (16 + 40 * sl).toNat = B := ⟨_, rfl⟩
  have hWL := workL_is t hB
  have hBn : B + 40 ≤ 136 := by omega
  have hBI : 16 + 40 * sl + 0 = (B : Int) := by omega
  have hBI2 : (B : Int) ≤ 136 := by omega
  have hB0 : (0 : Int) ≤ B := by omega
  have hB1 : 1 < B := by omega
  have hBc : B + 40 ≤ (idxL 136).length := by rw [idxL_len]; exact hBn
  have hr := first_right key a b (hashOf s key) s0 (by omega : sl < 128) (by omega : (2 : Int) ≤ 3) (by omega : (3 : Int) ≤ 5)
  have hL0' : (workL sl t).length = 136 := by rw [hWL, laidW_len t hBc, idxL_len]
  obtain ⟨mk, lE, pE, hmk, hrun, hlE⟩ := runs_any (meas (firstP sl 3 key a b (hashOf s key))) (workL sl t) (firstP sl 3 key a b (hashOf s key)) (Nat.le_refl _) hr (by show 56 + 40 * sl ≤ _; rw [hL0']; omega)
  have hmk2 : mk ≤ 100000 := by have : meas (firstP sl 3 key a b (hashOf s key)) = 10000 := rfl; omega
  have hRI : RunIs (idxL 136) B t s 1#64 3 key a b lE pE := table_run m hgo hBc hB1 idxL_one s0 hB.symm hev (by rw [← hWL]; exact hrun)
  have S1 : ∀ R w, w.heap[R]? = some (.cells (wcells (workL sl t)) 22 (0, 0)) → Calls Tryz.prog 48 #[.slice (some ⟨R, 0, none⟩) 136 136, I sl, .agg (callC 3 key a b), U (hashOf s key)] w fun e w' => ∃ R, e = .returned (.tuple #[.slice (some ⟨R, 0, none⟩) 136 136, .agg (penC pE), I (mk : Nat), I 0]) ∧ lE.length = 136 ∧ w.heap.size ≤ R ∧ w'.heap[R]? = some (.cells (wcells lE) 22 (0, 0)) ∧ Ch [] w w' := fun R w hb => by
    have := wRun_go (workL sl t) lE R 136 (wcells (workL sl t)) sl 3 key a b (hashOf s key) w (by omega) (by omega) hb (wcells_at _) hr (by rw [hL0']; omega) pE mk hrun hmk2
    rw [hL0'] at this
    exact this
  have W1 := fun w => wakes19_any w
  have CY := fun w => cells_yes s sl t w hok
  have H1 := fun w => hashOf_any s key w
  have G1 := fun w => has_any t (hashOf s key) w
  rw [hgo] at G1
  have L1 := fun w => cell_ok sl 0 s0 (by omega) (by omega) (by omega) w
  rw [hBI] at L1
  obtain ⟨L0, hL0e⟩ : ∃ L, workL sl t = L := ⟨_, rfl⟩
  rw [hL0e] at hWL hL0' S1 CY
  have hL0 : L0.length = 136 := hL0'
  have hL01 : L0[1]? = some 1#64 := by rw [hWL, laidW_get t hBc, if_neg (by omega)]; exact idxL_one
  have HF := Lib.hid (fun (X : Tab) => laidW_over (c := (idxL 136)) t X hBc)
  have HF1 := Lib.hid (fun (X : Tab) y => laidW_over (c := (idxL 136).set 1 y) (B := B) t X (by rw [List.length_set]; exact hBc))
  have HS1 := Lib.hid (fun y => laidW_one (c := idxL 136) t y hBc hB1)
  obtain ⟨hh, hhe⟩ : ∃ h, hashOf s key = h := ⟨_, rfl⟩
  rw [hhe] at S1 H1 G1
  clear hok hm hgo hr hmk hmk2 hrun hlE hL0' hL0e hhe hBc hBI hev
  have y0 : ((w.alloc (.cells (workC s sl t) 88)).alloc (.cells (callC 3 key a b) 68)).heap[w.heap.size + 1]? = some (.cells (callC 3 key a b) 68 (0, 0)) := by simp [go_sem]
  have k0 : ((w.alloc (.cells (workC s sl t) 88)).alloc (.cells (callC 3 key a b) 68)).heap[w.heap.size]? = some (.cells (workC s sl t) 88 (0, 0)) := by simp [go_sem]
  have C0 : Ch [] w ((w.alloc (.cells (workC s sl t) 88)).alloc (.cells (callC 3 key a b) 68)) := ((Ch.refl [] w).alloc _).alloc _
  go_enter Tryz.func13, Tryz.ntmps13
  go_wp2_with fail
  obtain ⟨w0, hw0⟩ : ∃ W, (w.alloc (.cells (workC s sl t) 88)).alloc (.cells (callC 3 key a b) 68) = W := ⟨_, rfl⟩
  rw [hw0] at y0 k0 C0 ⊢
  clear hw0
  obtain ⟨A, hA⟩ : ∃ b, w.heap.size = b := ⟨_, rfl⟩
  rw [hA] at y0 k0 ⊢
  obtain ⟨A1, hA1⟩ : ∃ b, A + 1 = b := ⟨_, rfl⟩
  rw [hA1] at y0 ⊢
  refine (W1 _).mono ?_
  rintro e w1 ⟨rfl, hc1⟩
  have k1 := hkeep (hc1) k0
  have y1 := hkeep (hc1) y0
  have C1 := C0.trans (hc1)
  clear k0 y0 C0 hc1 
  go_wp2_with fail
  refine (CY _).mono ?_
  rintro e w2 ⟨R, rfl, hRw, r2, hc2⟩
  have k2 := hkeep (hc2) k1
  have y2 := hkeep (hc2) y1
  have C2 := C1.trans (hc2)
  clear k1 y1 C1 hc2 
  go_wp2_with fail
  refine (H1 _).mono ?_
  rintro e w' ⟨rfl, rfl⟩
  go_wp2_with fail
  refine (G1 _).mono ?_
  rintro e w3 ⟨rfl, hc3⟩
  have k3 := hkeep (hc3) k2
  have y3 := hkeep (hc3) y2
  have r3 := hkeep (hc3) r2
  have C3 := C2.trans (hc3)
  clear k2 y2 r2 C2 hc3 
  go_wp2_with fail
  refine (S1 _ _ r3).mono ?_
  rintro e w4 ⟨R8, rfl, hlE2, hR8, n4, hc4⟩
  have k4 := hkeep (hc4) k3
  have y4 := hkeep (hc4) y3
  have r4 := hkeep (hc4) r3
  have C4 := C3.trans (hc4)
  clear k3 y3 r3 C3 hc4 
  have nk : ¬ A = w4.heap.size := by have := blk_lt19 k4; omega
  have ny : ¬ A1 = w4.heap.size := by have := blk_lt19 y4; omega
  have nr : ¬ R = w4.heap.size := by have := blk_lt19 r4; omega
  have nn : ¬ R8 = w4.heap.size := by have := blk_lt19 n4; omega
  go_wp2_with fail
  clear nk ny nr nn
  have k5 := hkeep (pen_put_ch pE w4) k4
  have y5 := hkeep (pen_put_ch pE w4) y4
  have r5 := hkeep (pen_put_ch pE w4) r4
  have n5 := hkeep (pen_put_ch pE w4) n4
  have C5 := C4.trans (pen_put_ch pE w4)
  have q5 := pen_put pE w4
  have hlA9 := C4.size
  have lkA9 := blk_lt19 k4
  have lyA9 := blk_lt19 y4
  have lrA9 := blk_lt19 r4
  have lnA9 := blk_lt19 n4
  clear k4 y4 r4 n4 C4 
  obtain ⟨w5, hw5⟩ : ∃ W, World.onObj (w4.alloc (.cells (penC zeroPen) 71)) w4.heap.size (laidAt 0 (penC pE)) = W := ⟨_, rfl⟩
  rw [hw5] at k5 y5 r5 n5 q5 C5  ⊢
  clear hw5
  obtain ⟨A9, hbA9⟩ : ∃ b, w4.heap.size = b := ⟨_, rfl⟩
  rw [hbA9] at q5 hlA9 lkA9 lyA9 lrA9 lnA9 ⊢
  clear hbA9
  rcases hRI with ⟨j, nf, hfo, hj, -, -, -, hvv, hph, hif⟩ | ⟨hfo, hnk, -, -, -, hif⟩
  · rw [if_neg (by omega), if_pos rfl] at hif
    refine (find_hit m hfo _).mono ?_
    rintro e w6 ⟨rfl, hc6⟩
    have k6 := hkeep (hc6) k5
    have y6 := hkeep (hc6) y5
    have r6 := hkeep (hc6) r5
    have n6 := hkeep (hc6) n5
    have q6 := hkeep (hc6) q5
    have C6 := C5.trans (hc6)
    clear k5 y5 r5 n5 q5 C5 hc6 
    have nk : ¬ A = w6.heap.size := by have := blk_lt19 k6; omega
    have ny : ¬ A1 = w6.heap.size := by have := blk_lt19 y6; omega
    have nr : ¬ R = w6.heap.size := by have := blk_lt19 r6; omega
    have nn : ¬ R8 = w6.heap.size := by have := blk_lt19 n6; omega
    have nq : ¬ A9 = w6.heap.size := by have := blk_lt19 q6; omega
    go_wp2_with fail
    clear nk ny nr nn nq
    have k7 := hkeep (tab_put_ch (t) w6) k6
    have y7 := hkeep (tab_put_ch (t) w6) y6
    have r7 := hkeep (tab_put_ch (t) w6) r6
    have n7 := hkeep (tab_put_ch (t) w6) n6
    have q7 := hkeep (tab_put_ch (t) w6) q6
    have C7 := C6.trans (tab_put_ch (t) w6)
    have v7 := tab_put (t) w6
    have hlA15 := C6.size
    have lkA15 := blk_lt19 k6
    have lyA15 := blk_lt19 y6
    have lrA15 := blk_lt19 r6
    have lnA15 := blk_lt19 n6
    have lqA15 := blk_lt19 q6
    clear k6 y6 r6 n6 q6 C6 
    obtain ⟨w7, hw7⟩ : ∃ W, World.onObj (w6.alloc (.cells (tcells zeroT) 26)) w6.heap.size (laidAt 0 (tcells (t))) = W := ⟨_, rfl⟩
    rw [hw7] at k7 y7 r7 n7 q7 v7 C7  ⊢
    clear hw7
    obtain ⟨A15, hbA15⟩ : ∃ b, w6.heap.size = b := ⟨_, rfl⟩
    rw [hbA15] at v7 hlA15 lkA15 lyA15 lrA15 lnA15 lqA15 ⊢
    clear hbA15
    go_wp2
    have ggk : ∀ g : Gar w7, (g.1).heap[A]? = _ := fun g => hkeep g.2 k7
    have ggy : ∀ g : Gar w7, (g.1).heap[A1]? = _ := fun g => hkeep g.2 y7
    have ggv : ∀ g : Gar w7, (g.1).heap[A15]? = _ := fun g => hkeep g.2 v7
    refine wp_region_gar (by kernel_rfl) (by kernel_rfl) ?_
    repeat (go_big_quiet_step (fail))
    refine wpQuiet_nil ?_
    rintro w8 ⟨g1, hw1⟩
    have hc8 : Ch [] w7 w8 := by rw [hw1]; exact g1.2
    clear hw1 g1 ggk ggy ggv
    have k8 := hkeep (hc8) k7
    have y8 := hkeep (hc8) y7
    have r8 := hkeep (hc8) r7
    have n8 := hkeep (hc8) n7
    have q8 := hkeep (hc8) q7
    have v8 := hkeep (hc8) v7
    have C8 := C7.trans (hc8)
    clear k7 y7 r7 n7 q7 v7 C7 hc8
    go_wp2_with fail
    refine (drop_hit m hfo _).mono ?_
    rintro e w9 ⟨rfl, hc9⟩
    have k9 := hkeep (hc9) k8
    have y9 := hkeep (hc9) y8
    have r9 := hkeep (hc9) r8
    have n9 := hkeep (hc9) n8
    have q9 := hkeep (hc9) q8
    have v9 := hkeep (hc9) v8
    have C9 := C8.trans (hc9)
    clear k8 y8 r8 n8 q8 v8 C8 hc9 
    go_upto_region 27 with (fail)
    have k10 := (onObj_other (w := w9) (F := A15) (laidAt 0 (tcells (dropT t j))) (show ¬ A = A15 by first | omega | exact block_ne k9 v9 (by decide))).trans k9
    have y10 := (onObj_other (w := w9) (F := A15) (laidAt 0 (tcells (dropT t j))) (show ¬ A1 = A15 by first | omega | exact block_ne y9 v9 (by decide))).trans y9
    have r10 := (onObj_other (w := w9) (F := A15) (laidAt 0 (tcells (dropT t j))) (show ¬ R = A15 by first | omega | exact block_ne r9 v9 (by decide))).trans r9
    have n10 := (onObj_other (w := w9) (F := A15) (laidAt 0 (tcells (dropT t j))) (show ¬ R8 = A15 by first | omega | exact block_ne n9 v9 (by decide))).trans n9
    have q10 := (onObj_other (w := w9) (F := A15) (laidAt 0 (tcells (dropT t j))) (show ¬ A9 = A15 by first | omega | exact block_ne q9 v9 (by decide))).trans q9
    have v10 : (World.onObj w9 A15 (laidAt 0 (tcells (dropT t j)))).heap[A15]? = some (.cells (tcells (dropT t j)) 26 (0, 0)) := by rw [heap_onObj, if_pos rfl, v9, Option.map_some, laidAt_t]
    have C10 : Ch [] w (World.onObj w9 A15 (laidAt 0 (tcells (dropT t j)))) := C9.onObj (.inr (by omega)) _
    clear k9 y9 r9 n9 q9 v9 C9 
    obtain ⟨w10, hw10⟩ : ∃ W, (World.onObj w9 A15 (laidAt 0 (tcells (dropT t j)))) = W := ⟨_, rfl⟩
    rw [hw10] at k10 y10 r10 n10 q10 v10 C10  ⊢
    clear hw10
    go_upto_region 28 with (fail)
    have k11 := (setCell_other (w := w10) A15 0 (.int .u64 (N (t.count + 2#64))) (show A ≠ A15 by first | omega | exact block_ne k10 v10 (by decide))).trans k10
    have y11 := (setCell_other (w := w10) A15 0 (.int .u64 (N (t.count + 2#64))) (show A1 ≠ A15 by first | omega | exact block_ne y10 v10 (by decide))).trans y10
    have r11 := (setCell_other (w := w10) A15 0 (.int .u64 (N (t.count + 2#64))) (show R ≠ A15 by first | omega | exact block_ne r10 v10 (by decide))).trans r10
    have n11 := (setCell_other (w := w10) A15 0 (.int .u64 (N (t.count + 2#64))) (show R8 ≠ A15 by first | omega | exact block_ne n10 v10 (by decide))).trans n10
    have q11 := (setCell_other (w := w10) A15 0 (.int .u64 (N (t.count + 2#64))) (show A9 ≠ A15 by first | omega | exact block_ne q10 v10 (by decide))).trans q10
    have v11 : (w10.setCell ⟨A15, 0, none⟩ (.int .u64 (N (t.count + 2#64)))).heap[A15]? = some (.cells (tcells { dropT t j with count := t.count + 2#64 }) 26 (0, 0)) := by rw [heap_setCell, if_pos rfl, v10, Option.map_some, setAt_cells]; exact congrArg some (congrArg (fun c => Obj.cells c 26 (0, 0)) (tset_count _ _))
    have C11 : Ch [] w (w10.setCell ⟨A15, 0, none⟩ (.int .u64 (N (t.count + 2#64)))) := C10.setCell (p := ⟨A15, 0, none⟩) (.inr (by omega)) _
    clear k10 y10 r10 n10 q10 v10 C10 
    obtain ⟨w11, hw11⟩ : ∃ W, (w10.setCell ⟨A15, 0, none⟩ (.int .u64 (N (t.count + 2#64)))) = W := ⟨_, rfl⟩
    rw [hw11] at k11 y11 r11 n11 q11 v11 C11  ⊢
    clear hw11
    go_wp2_with fail
    refine (words_row { dropT t j with count := t.count + 2#64 } ((m.drop hj (found_is hfo).2.1).flat) _).mono ?_
    rintro e w12 ⟨Rw, cw, curw, rfl, -, hWw, z12, hc12⟩
    have k12 := hkeep (hc12) k11
    have y12 := hkeep (hc12) y11
    have r12 := hkeep (hc12) r11
    have n12 := hkeep (hc12) n11
    have q12 := hkeep (hc12) q11
    have v12 := hkeep (hc12) v11
    have C12 := C11.trans (hc12)
    clear k11 y11 r11 n11 q11 v11 C11 hc12 
    go_wp2_with fail
    refine (L1 _).mono ?_
    rintro e w' ⟨rfl, rfl⟩
    go_wp2_with fail
    have hnR := blk_lt19 n12
    have hzR := blk_lt19 z12
    have hCw := C12.size
    refine (clone_rows2 (l := L0) (n := 136) (by omega) (by omega) hL0 R 136 _ (wcells_at L0) _ r12).mono ?_
    rintro e w13 ⟨rd, cd, curd, rfl, hcd, hrd, hWd, d13, hc13⟩
    have k13 := hkeep (hc13) k12
    have y13 := hkeep (hc13) y12
    have r13 := hkeep (hc13) r12
    have n13 := hkeep (hc13) n12
    have q13 := hkeep (hc13) q12
    have v13 := hkeep (hc13) v12
    have z13 := hkeep (hc13) z12
    have C13 := C12.trans (hc13)
    clear k12 y12 r12 n12 q12 v12 z12 C12 hc13 
    have h1d : curd[1]? = some (.int .u64 1) := hWd 1 1#64 hL01
    have hcB : (B : Int) ≤ cd := by omega
    have hcBn : ¬ (cd - B = 0) := by omega
    have hcd2 : (136 : Int) ≤ cd := by omega
    have hRd : R8 < rd := by omega
    have hZd : Rw < rd := by omega
    have hdw : w.heap.size ≤ rd := by omega
    go_upto_region 32 with (fail)
    have n14 := (setCell_other (w := w13) rd 1 (.int .u64 (N 0#64)) (show R8 ≠ rd by first | omega | exact block_ne n13 d13 (by decide))).trans n13
    have q14 := (setCell_other (w := w13) rd 1 (.int .u64 (N 0#64)) (show A9 ≠ rd by first | omega | exact block_ne q13 d13 (by decide))).trans q13
    have z14 := (setCell_other (w := w13) rd 1 (.int .u64 (N 0#64)) (show Rw ≠ rd by first | omega | exact block_ne z13 d13 (by decide))).trans z13
    have d14 : (w13.setCell ⟨rd, 1, none⟩ (.int .u64 (N 0#64))).heap[rd]? = some (.cells (curd.setIfInBounds 1 (.int .u64 (N 0#64))) 22 (0, 0)) := by rw [heap_setCell, if_pos rfl, d13, Option.map_some, setAt_cells]
    have C14 : Ch [] w (w13.setCell ⟨rd, 1, none⟩ (.int .u64 (N 0#64))) := C13.setCell (p := ⟨rd, 1, none⟩) (.inr (by omega)) _
    clear n13 q13 z13 d13 C13 
    obtain ⟨w14, hw14⟩ : ∃ W, (w13.setCell ⟨rd, 1, none⟩ (.int .u64 (N 0#64))) = W := ⟨_, rfl⟩
    rw [hw14] at n14 q14 z14 d14 C14  ⊢
    clear hw14
    have hWs : WordsAt (curd.setIfInBounds 1 (.int .u64 (N 0#64))) (L0.set 1 0#64) := words_set hWd 1 0#64
    obtain ⟨cu3, w15, hcp, d15, hW3, hc15⟩ := copy_row2 rd B (136 - B) (twords { dropT t j with count := t.count + 2#64 }) (L0.set 1 0#64) Rw cw curw _ w14 d14 hWs z14 hWw (twords_len _) (by rw [List.length_set, hL0]; omega) (by omega) (cd - B)
    have n15 := (hc15.block _ (blk_lt19 n14) (by simp; first | omega | exact block_ne n14 d14 (by decide))).trans n14
    have q15 := (hc15.block _ (blk_lt19 q14) (by simp; first | omega | exact block_ne q14 d14 (by decide))).trans q14
    have C15 : Ch [] w w15 := C14.trans2 hc15 (by intro t ht; right; simp at ht; omega)
    clear n14 q14 d14 z14 C14 hc15
    go_wp2_with fail
    have hLL : (L0.set 1 0#64).take B ++ (twords { dropT t j with count := t.count + 2#64 } ++ (L0.set 1 0#64).drop (B + 40)) = lE := by
        rw [hif, hWL, HS1.out]; exact HF1.out { dropT t j with count := t.count + 2#64 } _
    rw [hLL] at hW3
    refine (eq_rows (l := lE) (by omega) hlE2 R8 rd 136 cd _ _ (wcells_at lE) hW3 _ n15 d15).mono ?_
    rintro e wz ⟨rfl, hcz⟩
    go_wp2
    go_ret
    exact ⟨rfl, C15.trans hcz⟩
  · rw [if_neg (by omega)] at hif
    obtain ⟨hph, hif⟩ := hif
    rw [← hWL] at hif
    refine (find_miss m hfo _).mono ?_
    rintro e w6 ⟨rfl, hc6⟩
    have k6 := hkeep (hc6) k5
    have y6 := hkeep (hc6) y5
    have r6 := hkeep (hc6) r5
    have n6 := hkeep (hc6) n5
    have q6 := hkeep (hc6) q5
    have C6 := C5.trans (hc6)
    clear k5 y5 r5 n5 q5 C5 hc6 
    have nk : ¬ A = w6.heap.size := by have := blk_lt19 k6; omega
    have ny : ¬ A1 = w6.heap.size := by have := blk_lt19 y6; omega
    have nr : ¬ R = w6.heap.size := by have := blk_lt19 r6; omega
    have nn : ¬ R8 = w6.heap.size := by have := blk_lt19 n6; omega
    have nq : ¬ A9 = w6.heap.size := by have := blk_lt19 q6; omega
    go_wp2_with fail
    clear nk ny nr nn nq
    have k7 := hkeep (tab_put_ch (t) w6) k6
    have y7 := hkeep (tab_put_ch (t) w6) y6
    have r7 := hkeep (tab_put_ch (t) w6) r6
    have n7 := hkeep (tab_put_ch (t) w6) n6
    have q7 := hkeep (tab_put_ch (t) w6) q6
    have C7 := C6.trans (tab_put_ch (t) w6)
    have v7 := tab_put (t) w6
    have hlA15 := C6.size
    have lkA15 := blk_lt19 k6
    have lyA15 := blk_lt19 y6
    have lrA15 := blk_lt19 r6
    have lnA15 := blk_lt19 n6
    have lqA15 := blk_lt19 q6
    clear k6 y6 r6 n6 q6 C6 
    obtain ⟨w7, hw7⟩ : ∃ W, World.onObj (w6.alloc (.cells (tcells zeroT) 26)) w6.heap.size (laidAt 0 (tcells (t))) = W := ⟨_, rfl⟩
    rw [hw7] at k7 y7 r7 n7 q7 v7 C7  ⊢
    clear hw7
    obtain ⟨A15, hbA15⟩ : ∃ b, w6.heap.size = b := ⟨_, rfl⟩
    rw [hbA15] at v7 hlA15 lkA15 lyA15 lrA15 lnA15 lqA15 ⊢
    clear hbA15
    go_wp2
    have ggk : ∀ g : Gar w7, (g.1).heap[A]? = _ := fun g => hkeep g.2 k7
    have ggy : ∀ g : Gar w7, (g.1).heap[A1]? = _ := fun g => hkeep g.2 y7
    have ggv : ∀ g : Gar w7, (g.1).heap[A15]? = _ := fun g => hkeep g.2 v7
    refine wp_region_gar (by kernel_rfl) (by kernel_rfl) ?_
    repeat (go_big_quiet_step (fail))
    refine wpQuiet_nil ?_
    rintro w8 ⟨g1, hw1⟩
    have hc8 : Ch [] w7 w8 := by rw [hw1]; exact g1.2
    clear hw1 g1 ggk ggy ggv
    have k8 := hkeep (hc8) k7
    have y8 := hkeep (hc8) y7
    have r8 := hkeep (hc8) r7
    have n8 := hkeep (hc8) n7
    have q8 := hkeep (hc8) q7
    have v8 := hkeep (hc8) v7
    have C8 := C7.trans (hc8)
    clear k7 y7 r7 n7 q7 v7 C7 hc8
    go_wp2_with fail
    have hLL : lE = L0 := hif
    refine (eq_rows (l := L0) (by omega) hL0 R8 R 136 136 _ _ (hLL ▸ wcells_at lE) (wcells_at L0) _ n8 r8).mono ?_
    rintro e wz ⟨rfl, hcz⟩
    go_wp2
    go_ret
    exact ⟨rfl, C8.trans hcz⟩
end Go.Proofs.Hc
