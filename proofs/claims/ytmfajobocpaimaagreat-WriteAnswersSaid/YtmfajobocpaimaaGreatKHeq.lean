/- Law 19, WriteTable: the walk, call by call (printed by gen_answers19.py). -/
import Derived.Test.YtmfajobocpaimaaGreatKHmet
import Derived.Test.YtmfajobocpaimaaGreatKHcg
import Derived.Test.YtmfajobocpaimaaGreatKHcs
import Derived.Test.YtmfajobocpaimaaGreatKHdh
import Derived.Test.YtmfajobocpaimaaGreatKHdk
import Derived.Test.YtmfajobocpaimaaGreatKHdo
import Derived.Test.YtmfajobocpaimaaGreatKHds
import Derived.Test.YtmfajobocpaimaaGreatKHdt
import Derived.Test.YtmfajobocpaimaaGreatKHdv
import Derived.Test.YtmfajobocpaimaaGreatKHec
import Derived.Test.YtmfajobocpaimaaGreatKHed
import Derived.Test.YtmfajobocpaimaaGreatKHej
import Derived.Test.YtmfajobocpaimaaGreatKHem
import Derived.Test.YtmfajobocpaimaaGreatKHen
import Derived.Test.YtmfajobocpaimaaGreatKHep
import Derived.Test.YtmfajobocpaimaaGreatKHm
import Derived.Test.YtmfajobocpaimaaGreatKHma
import Derived.Test.YtmfajobocpaimaaGreatKHnl
import Derived.Test.YtmfajobocpaimaaGreatKHns
import Derived.Test.YtmfajobocpaimaaGreatKHpb
import Derived.Test.YtmfajobocpaimaaGreatKHh
import Derived.Test.YtmfajobocpaimaaGreatKHtc
import Derived.Test.YtmfajobocpaimaaGreatKHtm
import Derived.Test.YtmfajobocpaimaaGreatKHni
import Derived.Test.YtmfajobocpaimaaGreatKHxh
import Derived.Test.YtmfajobocpaimaaGreatKHxo
import Derived.Below
import Derived.BigQuiet
import Derived.ChangeKeysEq
import Derived.Deep.Draws
import Derived.Deep.Light
import Derived.Deep.OwnRows
import Derived.Deep.QuietTactic
import Derived.Deep.RegionHeld
import Derived.Deep.Slices
import Derived.IntWalk
import Derived.Laws.CopyOwn
import Derived.Laws.CopyRow
import Derived.Laws.StructEq
import Derived.Laws.Tables
import Derived.Lib.AppendZerosOnto
import Derived.Lib.Hide
import Derived.Lib.Tables
import Derived.Lib.Walk
import Derived.LoopIn
import Derived.LoopN
import Derived.LoopNIn
import Derived.Maps.AppendAt
import Derived.Maps.Views
import Derived.OpenShut
import Derived.OwnWalkIn
import Derived.ProofKit
import Derived.RangeFuncBox
import Derived.RangeFuncCalls
import Derived.RangeFuncRecord
import Derived.RangeFuncSeq
import Derived.Recover
import Derived.RegionTactic
import Derived.ScopeJumps
import Derived.Shelf.Slices.Clone
import Derived.StillTail
import Derived.StillTailTactics
import Derived.TacticsInMore
import Derived.Test.YtmfajobocpaimaaGreatProg
import Derived.WalkKit
import Derived.WalkLawsBesides
import Derived.WalkMore
import Derived.WalkSpells
set_option linter.unusedSimpArgs false
set_option linter.unusedVariables false
namespace Go.Proofs.Hc
open Go.RowKit
attribute [local go_sem] wrap_u64 wrap_u8 bits_xor64 bits_and64 bits_or64 bits_not64 bits_xor8 bits_and8 bits_or8 signed64 signed8 ofInt_N BitVec.ofInt_add BitVec.ofInt_mul ofInt_sub' ofInt8_N64 ofInt64_N8 wide8 eqN neN shr_pow shr1 shr7 shr56
attribute [local go_sem high] bits_com64 shl_wrap
attribute [local go_sem] cell_heap ice_heap cellAt_cells iceAt_cells setAt_cells rowAt_cells canLay_cells laidAt_cells size_onObj size_setCell rowRes_some layRes_true
attribute [local go_sem] load26 load73 load23 store26 build73
attribute [local go_sem ↓] lrow26 lrow73 lrow23 srow26 zero26 brow73 heap_alloc heap_drew heap_drewN heap_setCell heap_onObj
attribute [local go_sem] tcells_size hcells_size tcells_get hcells_get tcells_one hcells_one hcells_table tcells_table hcells_all hcells_ctrl tcells_ctrl
attribute [local go_sem] nn2 nm2 nn3 nm3 nn4 nm4 nn5 nm5 nn6 nm6 nn7 nm7 nn8 nm8
attribute [local go_sem] nn2 nm2 nn3 nm3 nn4 nm4 nn5 nm5 nn6 nm6 nn7 nm7 nn8 nm8
attribute [local go_sem] ofInt_N ofInt_pow8
attribute [local go_sem] Oper.semAt_some make_func1
attribute [local go_sem] pen_g0 pen_g1 pen_g2 pen_g3 pen_g4 pen_g5 pen_g6 pen_g7 pen_g8 pen_g9 pen_g10 pen_g11 pen_g12 pen_g13 pen_g14 pen_g15 pen_g16 pen_g17 penC_size penC_one penC_all
attribute [local irreducible] penC
attribute [local go_sem] pen_s0 pen_s1 pen_s2 pen_s3 pen_s4 pen_s5 pen_s6 pen_s7 pen_s8 pen_s9 pen_s10 pen_s11 pen_s12 pen_s13 pen_s14 pen_s15 pen_s16 pen_s17
attribute [local go_sem] boxPen loadPen storePen buildPen0
attribute [local go_sem ↓] lrowPen srowPen wzeroPen_run browPen
attribute [local go_sem high] wlaidAt_pen laidAt_t
attribute [local go_sem] workC_size workC_one workC_all workC_tab workC_g0 workC_g1 workC_g2 workC_i0 workC_i1 workC_i2 boxWork loadWork
attribute [local go_sem ↓] lrowWork
attribute [local go_sem] callC_size callC_one callC_all boxCall loadCall callC_i0 callC_i1 callC_i2 callC_i3 callC_j0 callC_j1 callC_j2 callC_j3
attribute [local go_sem ↓] lrowCall
attribute [local irreducible] callC workC tcells
attribute [local go_sem] ansC_size ansC_one ansC_all ansC_g0 ansC_g1 ansC_g2 ansC_i0 ansC_i1 ansC_i2 loadAns storeAns
attribute [local go_sem ↓] lrowAns srowAns zeroAns_run
attribute [local go_sem high] laidAtAns
attribute [local irreducible] ansC
attribute [local go_sem] Oper.semAt_some make_func1
set_option maxHeartbeats 3000000 in
set_option maxRecDepth 100000 in
theorem answers_op3 (s : BitVec 64) (sl : Int) (t : Tab) (key a b : BitVec 64) (w : World) (hok : workOk s sl t = true) (hgo : hasT t (hashOf s key) = true) :
    Calls Tryz.prog 12 #[.agg (workC s sl t), .agg (callC 3 key a b)] w fun e w' => e = .returned (.bool true) ∧ Ch [] w w' := by
  obtain ⟨hm, hev, s0, s2⟩ := work_ok hok
  have m := (may_iff t s).1 hm
  obtain ⟨B, hB⟩ : ∃ B : Nat, (16 + 40 * sl).toNat = B := ⟨_, rfl⟩
  have hWL := workL_is t hB
  have hBn : B + 40 ≤ 136 := by omega
  have hBI : 16 + 40 * sl + 0 = (B : Int) := by omega
  have hBI2 : (B : Int) ≤ 136 := by omega
  have hB0 : (0 : Int) ≤ B := by omega
  have hB1 : 1 < B := by omega
  have hBc : B + 40 ≤ (idxL 136).length := by rw [idxL_len]; exact hBn
  have hr := first_right key a b (hashOf s key) s0 (by omega : sl < 128) (by omega : (2 : Int) ≤ 3) (by omega : (3 : Int) ≤ 5)
  have hL0' : (workL sl t).length = 136 := by rw [hWL, laidW_len t hBc, idxL_len]
  obtain ⟨mk, lE, pE, hmk, hrun, hlE⟩ := runs_any (meas (firstP sl 3 key a b (hashOf s key))) (workL sl t) (firstP sl 3 key a b (hashOf s key)) (Nat.le_refl _) hr (by show 56 + 40 * sl ≤ _; rw [hL0']; omega)
  have hmk2 : mk ≤ 100000 := by have : meas (firstP sl 3 key a b (hashOf s key)) = 10000 := rfl; omega
  have hRI : RunIs (idxL 136) B t s 1#64 3 key a b lE pE := table_run m hgo hBc hB1 idxL_one s0 hB.symm hev (by rw [← hWL]; exact hrun)
  have S1 : ∀ R w, w.heap[R]? = some (.cells (wcells (workL sl t)) 22 (0, 0)) → Calls Tryz.prog 48 #[.slice (some ⟨R, 0, none⟩) 136 136, I sl, .agg (callC 3 key a b), U (hashOf s key)] w fun e w' => ∃ R, e = .returned (.tuple #[.slice (some ⟨R, 0, none⟩) 136 136, .agg (penC pE), I (mk : Nat), I 0]) ∧ lE.length = 136 ∧ w.heap.size ≤ R ∧ w'.heap[R]? = some (.cells (wcells lE) 22 (0, 0)) ∧ Ch [] w w' := fun R w hb => by
    have := wRun_go (workL sl t) lE R 136 (wcells (workL sl t)) sl 3 key a b (hashOf s key) w (by omega) (by omega) hb (wcells_at _) hr (by rw [hL0']; omega) pE mk hrun hmk2
    rw [hL0'] at this
    exact this
  have hrE := hrun.right hr
  have W1 := fun w => wakes19_any w
  have CY := fun w => cells_yes s sl t w hok
  have H1 := fun w => hashOf_any s key w
  have G1 := fun w => has_any t (hashOf s key) w
  rw [hgo] at G1
  have L1 := fun w => cell_ok sl 0 s0 (by omega) (by omega) (by omega) w
  rw [hBI] at L1
  obtain ⟨L0, hL0e⟩ : ∃ L, workL sl t = L := ⟨_, rfl⟩
  rw [hL0e] at hWL hL0' S1 CY
  have hL0 : L0.length = 136 := hL0'
  have hL01 : L0[1]? = some 1#64 := by rw [hWL, laidW_get t hBc, if_neg (by omega)]; exact idxL_one
  have HF := Lib.hid (fun (X : Tab) => laidW_over (c := (idxL 136)) t X hBc)
  have HF1 := Lib.hid (fun (X : Tab) y => laidW_over (c := (idxL 136).set 1 y) (B := B) t X (by rw [List.length_set]; exact hBc))
  have HS1 := Lib.hid (fun y => laidW_one (c := idxL 136) t y hBc hB1)
  obtain ⟨hh, hhe⟩ : ∃ h, hashOf s key = h := ⟨_, rfl⟩
  rw [hhe] at S1 H1 G1
  clear hok hgo hr hmk hmk2 hrun hlE hL0' hL0e hhe hBc hBI hev
  have y0 : ((w.alloc (.cells (workC s sl t) 88)).alloc (.cells (callC 3 key a b) 68)).heap[w.heap.size + 1]? = some (.cells (callC 3 key a b) 68 (0, 0)) := by simp [go_sem]
  have k0 : ((w.alloc (.cells (workC s sl t) 88)).alloc (.cells (callC 3 key a b) 68)).heap[w.heap.size]? = some (.cells (workC s sl t) 88 (0, 0)) := by simp [go_sem]
  have C0 : Ch [] w ((w.alloc (.cells (workC s sl t) 88)).alloc (.cells (callC 3 key a b) 68)) := ((Ch.refl [] w).alloc _).alloc _
  go_enter Tryz.func12, Tryz.ntmps12
  go_wp2_with fail
  obtain ⟨w0, hw0⟩ : ∃ W, (w.alloc (.cells (workC s sl t) 88)).alloc (.cells (callC 3 key a b) 68) = W := ⟨_, rfl⟩
  rw [hw0] at y0 k0 C0 ⊢
  clear hw0
  obtain ⟨A, hA⟩ : ∃ b, w.heap.size = b := ⟨_, rfl⟩
  rw [hA] at y0 k0 ⊢
  obtain ⟨A1, hA1⟩ : ∃ b, A + 1 = b := ⟨_, rfl⟩
  rw [hA1] at y0 ⊢
  refine (W1 _).mono ?_
  rintro e w1 ⟨rfl, hc1⟩
  have k1 := hkeep (hc1) k0
  have y1 := hkeep (hc1) y0
  have C1 := C0.trans (hc1)
  clear k0 y0 C0 hc1 
  go_wp2_with fail
  refine (CY _).mono ?_
  rintro e w2 ⟨R, rfl, hRw, r2, hc2⟩
  have k2 := hkeep (hc2) k1
  have y2 := hkeep (hc2) y1
  have C2 := C1.trans (hc2)
  clear k1 y1 C1 hc2 
  go_wp2_with fail
  refine (H1 _).mono ?_
  rintro e w' ⟨rfl, rfl⟩
  go_wp2_with fail
  refine (G1 _).mono ?_
  rintro e w3 ⟨rfl, hc3⟩
  have k3 := hkeep (hc3) k2
  have y3 := hkeep (hc3) y2
  have r3 := hkeep (hc3) r2
  have C3 := C2.trans (hc3)
  clear k2 y2 r2 C2 hc3 
  go_wp2_with fail
  refine (S1 _ _ r3).mono ?_
  rintro e w4 ⟨R8, rfl, hlE2, hR8, n4, hc4⟩
  have k4 := hkeep (hc4) k3
  have y4 := hkeep (hc4) y3
  have r4 := hkeep (hc4) r3
  have C4 := C3.trans (hc4)
  clear k3 y3 r3 C3 hc4 
  have nk : ¬ A = w4.heap.size := by have := blk_lt19 k4; omega
  have ny : ¬ A1 = w4.heap.size := by have := blk_lt19 y4; omega
  have nr : ¬ R = w4.heap.size := by have := blk_lt19 r4; omega
  have nn : ¬ R8 = w4.heap.size := by have := blk_lt19 n4; omega
  go_wp2_with fail
  clear nk ny nr nn
  have k5 := hkeep (pen_put_ch pE w4) k4
  have y5 := hkeep (pen_put_ch pE w4) y4
  have r5 := hkeep (pen_put_ch pE w4) r4
  have n5 := hkeep (pen_put_ch pE w4) n4
  have C5 := C4.trans (pen_put_ch pE w4)
  have q5 := pen_put pE w4
  have hlA9 := C4.size
  have lkA9 := blk_lt19 k4
  have lyA9 := blk_lt19 y4
  have lrA9 := blk_lt19 r4
  have lnA9 := blk_lt19 n4
  clear k4 y4 r4 n4 C4 
  obtain ⟨w5, hw5⟩ : ∃ W, World.onObj (w4.alloc (.cells (penC zeroPen) 71)) w4.heap.size (laidAt 0 (penC pE)) = W := ⟨_, rfl⟩
  rw [hw5] at k5 y5 r5 n5 q5 C5  ⊢
  clear hw5
  obtain ⟨A9, hbA9⟩ : ∃ b, w4.heap.size = b := ⟨_, rfl⟩
  rw [hbA9] at q5 hlA9 lkA9 lyA9 lrA9 lnA9 ⊢
  clear hbA9
  have P1 := fun w => Pairs_yes t s w hm
  have hlp : (pairsT t).length ≤ 14 := by have := live_le m; omega
  rcases hRI with ⟨j, nf, hfo, hj, hpo, hpa, hpf, hvv, hph, hif⟩ | ⟨hfo, hnk, hpo, hpa, hpf, hif⟩
  · have hans : answP pE = (t.v j, true) := by unfold answP; rw [hpf, if_pos rfl, hpo, hvv]; rw [if_neg (by decide)]
    have AN := fun w => answer_yes pE hrE hph w
    rw [hans] at AN
    refine (AN _).mono ?_
    rintro e w6 ⟨rfl, hc6⟩
    have k6 := hkeep (hc6) k5
    have y6 := hkeep (hc6) y5
    have r6 := hkeep (hc6) r5
    have n6 := hkeep (hc6) n5
    have q6 := hkeep (hc6) q5
    have C6 := C5.trans (hc6)
    clear k5 y5 r5 n5 q5 C5 hc6 
    have nk : ¬ A = w6.heap.size := by have := blk_lt19 k6; omega
    have ny : ¬ A1 = w6.heap.size := by have := blk_lt19 y6; omega
    have nr : ¬ R = w6.heap.size := by have := blk_lt19 r6; omega
    have nn : ¬ R8 = w6.heap.size := by have := blk_lt19 n6; omega
    have nq : ¬ A9 = w6.heap.size := by have := blk_lt19 q6; omega
    go_wp2_with fail
    clear nk ny nr nn nq
    have k7 := hkeep (ans_put_ch (t.v j) true w6) k6
    have y7 := hkeep (ans_put_ch (t.v j) true w6) y6
    have r7 := hkeep (ans_put_ch (t.v j) true w6) r6
    have n7 := hkeep (ans_put_ch (t.v j) true w6) n6
    have q7 := hkeep (ans_put_ch (t.v j) true w6) q6
    have C7 := C6.trans (ans_put_ch (t.v j) true w6)
    have e7 := ans_put (t.v j) true w6
    have hlA12 := C6.size
    clear k6 y6 r6 n6 q6 C6 
    obtain ⟨w7, hw7⟩ : ∃ W, World.onObj (w6.alloc (.cells (ansC 0#64 false) 102)) w6.heap.size (laidAt 0 (ansC (t.v j) true)) = W := ⟨_, rfl⟩
    rw [hw7] at k7 y7 r7 n7 q7 e7 C7  ⊢
    clear hw7
    obtain ⟨A12, hbA12⟩ : ∃ b, w6.heap.size = b := ⟨_, rfl⟩
    rw [hbA12] at e7 hlA12 ⊢
    clear hbA12
    go_wp2_with fail
    refine (P1 _).mono ?_
    rintro e w8 ⟨ap, cp, rfl, hop, hc8⟩
    have k8 := hkeep (hc8) k7
    have y8 := hkeep (hc8) y7
    have r8 := hkeep (hc8) r7
    have n8 := hkeep (hc8) n7
    have q8 := hkeep (hc8) q7
    have e8 := hkeep (hc8) e7
    have C8 := C7.trans (hc8)
    clear k7 y7 r7 n7 q7 e7 C7 hc8 
    go_wp2_with fail
    refine (index_own (pairsT t) 3 key a b A1 ap cp _ _ (by omega) hop y8).mono ?_
    rintro e w9 hidx
    obtain ⟨i, rfl, hi, hc9⟩ := idx_found m hfo hidx
    have hil := (List.getElem?_eq_some_iff.1 hi).1
    have k9 := hkeep (hc9) k8
    have y9 := hkeep (hc9) y8
    have r9 := hkeep (hc9) r8
    have n9 := hkeep (hc9) n8
    have q9 := hkeep (hc9) q8
    have e9 := hkeep (hc9) e8
    have C9 := C8.trans (hc9)
    clear k8 y8 r8 n8 q8 e8 C8 hc9 hidx
    have hi0 : ¬ ((i : Int) < 0) := by omega
    have hI0 : (0 : Int) ≤ i := by omega
    have hIl : (i : Int) < ((pairsT t).length : Int) := by omega
    have hIs : (i : Int) ≤ 14 := by omega
    go_wp2_with fail
    refine (P1 _).mono ?_
    rintro e w10 ⟨ap2, cp2, rfl, hop2, hc10⟩
    have k10 := hkeep (hc10) k9
    have y10 := hkeep (hc10) y9
    have r10 := hkeep (hc10) r9
    have n10 := hkeep (hc10) n9
    have q10 := hkeep (hc10) q9
    have e10 := hkeep (hc10) e9
    have C10 := C9.trans (hc10)
    clear k9 y9 r9 n9 q9 e9 C9 hc10 
    obtain ⟨rp, curp, rfl, hWp, hcell⟩ := pair_val hop2 hi
    obtain ⟨np, hnp⟩ : ∃ n, (pairsT t).length = n := ⟨_, rfl⟩
    rw [hnp] at hil hIl ⊢
    clear hop hop2 hlp P1 hi
    go_wp2_with fail
    go_ret
    exact ⟨rfl, C10⟩
  · rw [if_neg (by omega)] at hif
    obtain ⟨hph, hif⟩ := hif
    have hans : answP pE = (0#64, false) := by unfold answP; rw [hpf, if_neg (by decide), hpo]; rw [if_neg (by decide)]
    have AN := fun w => answer_yes pE hrE hph w
    rw [hans] at AN
    refine (AN _).mono ?_
    rintro e w6 ⟨rfl, hc6⟩
    have k6 := hkeep (hc6) k5
    have y6 := hkeep (hc6) y5
    have r6 := hkeep (hc6) r5
    have n6 := hkeep (hc6) n5
    have q6 := hkeep (hc6) q5
    have C6 := C5.trans (hc6)
    clear k5 y5 r5 n5 q5 C5 hc6 
    have nk : ¬ A = w6.heap.size := by have := blk_lt19 k6; omega
    have ny : ¬ A1 = w6.heap.size := by have := blk_lt19 y6; omega
    have nr : ¬ R = w6.heap.size := by have := blk_lt19 r6; omega
    have nn : ¬ R8 = w6.heap.size := by have := blk_lt19 n6; omega
    have nq : ¬ A9 = w6.heap.size := by have := blk_lt19 q6; omega
    go_wp2_with fail
    clear nk ny nr nn nq
    have k7 := hkeep (ans_put_ch (0#64) false w6) k6
    have y7 := hkeep (ans_put_ch (0#64) false w6) y6
    have r7 := hkeep (ans_put_ch (0#64) false w6) r6
    have n7 := hkeep (ans_put_ch (0#64) false w6) n6
    have q7 := hkeep (ans_put_ch (0#64) false w6) q6
    have C7 := C6.trans (ans_put_ch (0#64) false w6)
    have e7 := ans_put (0#64) false w6
    have hlA12 := C6.size
    clear k6 y6 r6 n6 q6 C6 
    obtain ⟨w7, hw7⟩ : ∃ W, World.onObj (w6.alloc (.cells (ansC 0#64 false) 102)) w6.heap.size (laidAt 0 (ansC (0#64) false)) = W := ⟨_, rfl⟩
    rw [hw7] at k7 y7 r7 n7 q7 e7 C7  ⊢
    clear hw7
    obtain ⟨A12, hbA12⟩ : ∃ b, w6.heap.size = b := ⟨_, rfl⟩
    rw [hbA12] at e7 hlA12 ⊢
    clear hbA12
    go_wp2_with fail
    refine (P1 _).mono ?_
    rintro e w8 ⟨ap, cp, rfl, hop, hc8⟩
    have k8 := hkeep (hc8) k7
    have y8 := hkeep (hc8) y7
    have r8 := hkeep (hc8) r7
    have n8 := hkeep (hc8) n7
    have q8 := hkeep (hc8) q7
    have e8 := hkeep (hc8) e7
    have C8 := C7.trans (hc8)
    clear k7 y7 r7 n7 q7 e7 C7 hc8 
    go_wp2_with fail
    refine (index_own (pairsT t) 3 key a b A1 ap cp _ _ (by omega) hop y8).mono ?_
    rintro e w9 hidx
    obtain ⟨rfl, hc9⟩ := idx_not m hnk hidx
    have k9 := hkeep (hc9) k8
    have y9 := hkeep (hc9) y8
    have r9 := hkeep (hc9) r8
    have n9 := hkeep (hc9) n8
    have q9 := hkeep (hc9) q8
    have e9 := hkeep (hc9) e8
    have C9 := C8.trans (hc9)
    clear k8 y8 r8 n8 q8 e8 C8 hc9 hidx
    clear hop
    go_wp2_with fail
    go_ret
    exact ⟨rfl, C9⟩
end Go.Proofs.Hc
/- Law 19, WriteAnswers: the walk, call by call . -/
namespace Go.Proofs.Hc
open Go.RowKit
attribute [local go_sem] wrap_u64 wrap_u8 bits_xor64 bits_and64 bits_or64 bits_not64 bits_xor8 bits_and8 bits_or8 signed64 signed8 ofInt_N BitVec.ofInt_add BitVec.ofInt_mul ofInt_sub' ofInt8_N64 ofInt64_N8 wide8 eqN neN shr_pow shr1 shr7 shr56
attribute [local go_sem high] bits_com64 shl_wrap
attribute [local go_sem] cell_heap ice_heap cellAt_cells iceAt_cells setAt_cells rowAt_cells canLay_cells laidAt_cells size_onObj size_setCell rowRes_some layRes_true
attribute [local go_sem] load26 load73 load23 store26 build73
attribute [local go_sem ↓] lrow26 lrow73 lrow23 srow26 zero26 brow73 heap_alloc heap_drew heap_drewN heap_setCell heap_onObj
attribute [local go_sem] tcells_size hcells_size tcells_get hcells_get tcells_one hcells_one hcells_table tcells_table hcells_all hcells_ctrl tcells_ctrl
attribute [local go_sem] nn2 nm2 nn3 nm3 nn4 nm4 nn5 nm5 nn6 nm6 nn7 nm7 nn8 nm8
attribute [local go_sem] nn2 nm2 nn3 nm3 nn4 nm4 nn5 nm5 nn6 nm6 nn7 nm7 nn8 nm8
attribute [local go_sem] ofInt_N ofInt_pow8
attribute [local go_sem] Oper.semAt_some make_func1
attribute [local go_sem] pen_g0 pen_g1 pen_g2 pen_g3 pen_g4 pen_g5 pen_g6 pen_g7 pen_g8 pen_g9 pen_g10 pen_g11 pen_g12 pen_g13 pen_g14 pen_g15 pen_g16 pen_g17 penC_size penC_one penC_all
attribute [local irreducible] penC
attribute [local go_sem] pen_s0 pen_s1 pen_s2 pen_s3 pen_s4 pen_s5 pen_s6 pen_s7 pen_s8 pen_s9 pen_s10 pen_s11 pen_s12 pen_s13 pen_s14 pen_s15 pen_s16 pen_s17
attribute [local go_sem] boxPen loadPen storePen buildPen0
attribute [local go_sem ↓] lrowPen srowPen wzeroPen_run browPen
attribute [local go_sem high] wlaidAt_pen laidAt_t
attribute [local go_sem] workC_size workC_one workC_all workC_tab workC_g0 workC_g1 workC_g2 workC_i0 workC_i1 workC_i2 boxWork loadWork
attribute [local go_sem ↓] lrowWork
attribute [local go_sem] callC_size callC_one callC_all boxCall loadCall callC_i0 callC_i1 callC_i2 callC_i3 callC_j0 callC_j1 callC_j2 callC_j3
attribute [local go_sem ↓] lrowCall
attribute [local irreducible] callC workC tcells
set_option maxHeartbeats 2000000 in
set_option maxRecDepth 100000 in
theorem answers_none (s : BitVec 64) (sl op : Int) (t : Tab) (key a b : BitVec 64) (w : World) (hok : workOk s sl t = false) : Calls Tryz.prog 12 #[.agg (workC s sl t), .agg (callC op key a b)] w fun e w' => e = .returned (.bool true) ∧ Ch [] w w' := by
  have y0 : ((w.alloc (.cells (workC s sl t) 88)).alloc (.cells (callC op key a b) 68)).heap[w.heap.size + 1]? = some (.cells (callC op key a b) 68 (0, 0)) := by simp [go_sem]
  have k0 : ((w.alloc (.cells (workC s sl t) 88)).alloc (.cells (callC op key a b) 68)).heap[w.heap.size]? = some (.cells (workC s sl t) 88 (0, 0)) := by simp [go_sem]
  have C0 : Ch [] w ((w.alloc (.cells (workC s sl t) 88)).alloc (.cells (callC op key a b) 68)) := ((Ch.refl [] w).alloc _).alloc _
  have W1 := fun w => wakes19_any w
  have H1 := fun w => hashOf_any s key w
  obtain ⟨hh, hhe⟩ : ∃ h, hashOf s key = h := ⟨_, rfl⟩
  rw [hhe] at H1
  have CY := fun w => cells_no s sl t w hok
  clear hok hhe
  go_enter Tryz.func12, Tryz.ntmps12
  go_wp2_with fail
  obtain ⟨w0, hw0⟩ : ∃ W, (w.alloc (.cells (workC s sl t) 88)).alloc (.cells (callC op key a b) 68) = W := ⟨_, rfl⟩
  rw [hw0] at y0 k0 C0 ⊢
  clear hw0
  refine (W1 _).mono ?_
  rintro e w1 ⟨rfl, hc1⟩
  have y1 := hkeep hc1 y0
  have k1 := hkeep hc1 k0
  have C1 := C0.trans hc1
  go_wp2_with fail
  refine (CY _).mono ?_
  rintro e w2 ⟨rfl, hc2⟩
  have y2 := hkeep hc2 y1
  have k2 := hkeep hc2 k1
  have C2 := C1.trans hc2
  go_wp2_with fail
  refine (H1 _).mono ?_
  rintro e w' ⟨rfl, rfl⟩
  go_wp2
  go_ret
  exact ⟨rfl, C2⟩
set_option maxHeartbeats 2000000 in
set_option maxRecDepth 100000 in
theorem answers_ops (s : BitVec 64) (sl op : Int) (t : Tab) (key a b : BitVec 64) (w : World) (hok : workOk s sl t = true) (hop : op < 2 ∨ 5 < op) : Calls Tryz.prog 12 #[.agg (workC s sl t), .agg (callC op key a b)] w fun e w' => e = .returned (.bool true) ∧ Ch [] w w' := by
  have y0 : ((w.alloc (.cells (workC s sl t) 88)).alloc (.cells (callC op key a b) 68)).heap[w.heap.size + 1]? = some (.cells (callC op key a b) 68 (0, 0)) := by simp [go_sem]
  have k0 : ((w.alloc (.cells (workC s sl t) 88)).alloc (.cells (callC op key a b) 68)).heap[w.heap.size]? = some (.cells (workC s sl t) 88 (0, 0)) := by simp [go_sem]
  have C0 : Ch [] w ((w.alloc (.cells (workC s sl t) 88)).alloc (.cells (callC op key a b) 68)) := ((Ch.refl [] w).alloc _).alloc _
  have W1 := fun w => wakes19_any w
  have H1 := fun w => hashOf_any s key w
  obtain ⟨hh, hhe⟩ : ∃ h, hashOf s key = h := ⟨_, rfl⟩
  rw [hhe] at H1
  have CY := fun w => cells_yes s sl t w hok
  clear hok hhe
  rcases hop with hop | hop
  · have hd : decide (op < 2) = true := by simpa using hop
    go_enter Tryz.func12, Tryz.ntmps12
    go_wp2_with fail
    obtain ⟨w0, hw0⟩ : ∃ W, (w.alloc (.cells (workC s sl t) 88)).alloc (.cells (callC op key a b) 68) = W := ⟨_, rfl⟩
    rw [hw0] at y0 k0 C0 ⊢
    clear hw0
    refine (W1 _).mono ?_
    rintro e w1 ⟨rfl, hc1⟩
    have y1 := hkeep hc1 y0
    have k1 := hkeep hc1 k0
    have C1 := C0.trans hc1
    go_wp2_with fail
    refine (CY _).mono ?_
    rintro e w2 ⟨R, rfl, -, -, hc2⟩
    have y2 := hkeep hc2 y1
    have k2 := hkeep hc2 k1
    have C2 := C1.trans hc2
    go_wp2_with fail
    refine (H1 _).mono ?_
    rintro e w' ⟨rfl, rfl⟩
    go_wp2
    go_ret
    exact ⟨rfl, C2⟩
  · have hd : decide (op < 2) = false := by simp; omega
    have hd2 : decide (5 < op) = true := by simpa using hop
    go_enter Tryz.func12, Tryz.ntmps12
    go_wp2_with fail
    obtain ⟨w0, hw0⟩ : ∃ W, (w.alloc (.cells (workC s sl t) 88)).alloc (.cells (callC op key a b) 68) = W := ⟨_, rfl⟩
    rw [hw0] at y0 k0 C0 ⊢
    clear hw0
    refine (W1 _).mono ?_
    rintro e w1 ⟨rfl, hc1⟩
    have y1 := hkeep hc1 y0
    have k1 := hkeep hc1 k0
    have C1 := C0.trans hc1
    go_wp2_with fail
    refine (CY _).mono ?_
    rintro e w2 ⟨R, rfl, -, -, hc2⟩
    have y2 := hkeep hc2 y1
    have k2 := hkeep hc2 k1
    have C2 := C1.trans hc2
    go_wp2_with fail
    refine (H1 _).mono ?_
    rintro e w' ⟨rfl, rfl⟩
    go_wp2
    go_ret
    exact ⟨rfl, C2⟩
set_option maxHeartbeats 2000000 in
set_option maxRecDepth 100000 in
theorem answers_not (s : BitVec 64) (sl op : Int) (t : Tab) (key a b : BitVec 64) (w : World) (hok : workOk s sl t = true) (h2 : 2 ≤ op) (h5 : op ≤ 5) (hgo : hasT t (hashOf s key) = false) : Calls Tryz.prog 12 #[.agg (workC s sl t), .agg (callC op key a b)] w fun e w' => e = .returned (.bool true) ∧ Ch [] w w' := by
  have y0 : ((w.alloc (.cells (workC s sl t) 88)).alloc (.cells (callC op key a b) 68)).heap[w.heap.size + 1]? = some (.cells (callC op key a b) 68 (0, 0)) := by simp [go_sem]
  have k0 : ((w.alloc (.cells (workC s sl t) 88)).alloc (.cells (callC op key a b) 68)).heap[w.heap.size]? = some (.cells (workC s sl t) 88 (0, 0)) := by simp [go_sem]
  have C0 : Ch [] w ((w.alloc (.cells (workC s sl t) 88)).alloc (.cells (callC op key a b) 68)) := ((Ch.refl [] w).alloc _).alloc _
  have W1 := fun w => wakes19_any w
  have H1 := fun w => hashOf_any s key w
  obtain ⟨hh, hhe⟩ : ∃ h, hashOf s key = h := ⟨_, rfl⟩
  have CY := fun w => cells_yes s sl t w hok
  have G1 := fun w => has_any t (hashOf s key) w
  rw [hgo, hhe] at G1
  rw [hhe] at H1
  have hd : decide (op < 2) = false := by simp; omega
  have hd2 : decide (5 < op) = false := by simp; omega
  clear hok hhe hgo h2 h5
  go_enter Tryz.func12, Tryz.ntmps12
  go_wp2_with fail
  obtain ⟨w0, hw0⟩ : ∃ W, (w.alloc (.cells (workC s sl t) 88)).alloc (.cells (callC op key a b) 68) = W := ⟨_, rfl⟩
  rw [hw0] at y0 k0 C0 ⊢
  clear hw0
  refine (W1 _).mono ?_
  rintro e w1 ⟨rfl, hc1⟩
  have y1 := hkeep hc1 y0
  have k1 := hkeep hc1 k0
  have C1 := C0.trans hc1
  go_wp2_with fail
  refine (CY _).mono ?_
  rintro e w2 ⟨R, rfl, -, -, hc2⟩
  have y2 := hkeep hc2 y1
  have k2 := hkeep hc2 k1
  have C2 := C1.trans hc2
  go_wp2_with fail
  refine (H1 _).mono ?_
  rintro e w' ⟨rfl, rfl⟩
  go_wp2_with fail
  refine (G1 _).mono ?_
  rintro e w3 ⟨rfl, hc3⟩
  go_wp2
  go_ret
  exact ⟨rfl, C2.trans hc3⟩
theorem answersLaw (s : BitVec 64) (sl op : Int) (t : Tab) (key a b : BitVec 64) (w : World) : Calls Tryz.prog 12 #[.agg (workC s sl t), .agg (callC op key a b)] w fun e w' => e = .returned (.bool true) ∧ Ch [] w w' := by
  cases hok : workOk s sl t with
  | false => exact answers_none s sl op t key a b w hok
  | true =>
    by_cases hop : op < 2 ∨ 5 < op
    · exact answers_ops s sl op t key a b w hok hop
    · cases hgo : hasT t (hashOf s key) with
      | false => exact answers_not s sl op t key a b w hok (by omega) (by omega) hgo
      | true =>
        rcases (show op = 2 ∨ op = 3 ∨ op = 4 ∨ op = 5 by omega) with rfl | rfl | rfl | rfl
        · exact answers_op2 s sl t key a b w hok hgo
        · exact answers_op3 s sl t key a b w hok hgo
        · exact answers_op4 s sl t key a b w hok hgo
        · exact answers_op5 s sl t key a b w hok hgo
end Go.Proofs.Hc
