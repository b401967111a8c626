/- Law 19: WriteRuns, the walk (printed by gen_runs19.py). -/
import Derived.Test.YtmfajobocpaimaaGreatKHcg
import Derived.Test.YtmfajobocpaimaaGreatKHdc
import Derived.Test.YtmfajobocpaimaaGreatKHdk
import Derived.Test.YtmfajobocpaimaaGreatKHdo
import Derived.Test.YtmfajobocpaimaaGreatKHdp
import Derived.Test.YtmfajobocpaimaaGreatKHdv
import Derived.Test.YtmfajobocpaimaaGreatKHxe
import Derived.Test.YtmfajobocpaimaaGreatKHnf
import Derived.Test.YtmfajobocpaimaaGreatKHnl
import Derived.Test.YtmfajobocpaimaaGreatKHnq
import Derived.Test.YtmfajobocpaimaaGreatKHpa
import Derived.Test.YtmfajobocpaimaaGreatKHdj
import Derived.Test.YtmfajobocpaimaaGreatKHq
import Derived.Test.YtmfajobocpaimaaGreatKHr
import Derived.Test.YtmfajobocpaimaaGreatKHdh
import Derived.Test.YtmfajobocpaimaaGreatKHde
import Derived.Test.YtmfajobocpaimaaGreatKHop2
import Derived.Below
import Derived.BigQuiet
import Derived.ChangeKeysEq
import Derived.Deep.Draws
import Derived.Deep.Light
import Derived.Deep.OwnRows
import Derived.Deep.QuietTactic
import Derived.Deep.RegionHeld
import Derived.Deep.Slices
import Derived.IntWalk
import Derived.Laws.CopyOwn
import Derived.Laws.CopyRow
import Derived.Laws.StructEq
import Derived.Laws.Tables
import Derived.Lib.AppendZerosOnto
import Derived.Lib.Hide
import Derived.Lib.Tables
import Derived.Lib.Walk
import Derived.LoopIn
import Derived.LoopN
import Derived.LoopNIn
import Derived.Maps.AppendAt
import Derived.Maps.Views
import Derived.OpenShut
import Derived.OwnWalkIn
import Derived.ProofKit
import Derived.RangeFuncBox
import Derived.RangeFuncCalls
import Derived.RangeFuncRecord
import Derived.RangeFuncSeq
import Derived.Recover
import Derived.RegionTactic
import Derived.ScopeJumps
import Derived.Shelf.Slices.Clone
import Derived.StillTail
import Derived.StillTailTactics
import Derived.TacticsInMore
import Derived.Test.YtmfajobocpaimaaGreatProg
import Derived.WalkKit
import Derived.WalkLawsBesides
import Derived.WalkMore
import Derived.WalkSpells
set_option linter.unusedSimpArgs false
set_option linter.unusedVariables false
namespace Go.Proofs.Hc
open Go.RowKit
attribute [local go_sem] wrap_u64 wrap_u8 bits_xor64 bits_and64 bits_or64 bits_not64 bits_xor8 bits_and8 bits_or8 signed64 signed8 ofInt_N BitVec.ofInt_add BitVec.ofInt_mul ofInt_sub' ofInt8_N64 ofInt64_N8 wide8 eqN neN shr_pow shr1 shr7 shr56
attribute [local go_sem high] bits_com64 shl_wrap
attribute [local go_sem] cell_heap ice_heap cellAt_cells iceAt_cells setAt_cells rowAt_cells canLay_cells laidAt_cells size_onObj size_setCell rowRes_some layRes_true
attribute [local go_sem] load26 load73 load23 store26 build73
attribute [local go_sem ↓] lrow26 lrow73 lrow23 srow26 zero26 brow73 heap_alloc heap_drew heap_drewN heap_setCell heap_onObj
attribute [local go_sem] tcells_size hcells_size tcells_get hcells_get tcells_one hcells_one hcells_table tcells_table hcells_all hcells_ctrl tcells_ctrl
attribute [local go_sem] nn2 nm2 nn3 nm3 nn4 nm4 nn5 nm5 nn6 nm6 nn7 nm7 nn8 nm8
attribute [local go_sem] nn2 nm2 nn3 nm3 nn4 nm4 nn5 nm5 nn6 nm6 nn7 nm7 nn8 nm8
attribute [local go_sem] ofInt_N ofInt_pow8
attribute [local go_sem] Oper.semAt_some make_func1
attribute [local go_sem] pen_g0 pen_g1 pen_g2 pen_g3 pen_g4 pen_g5 pen_g6 pen_g7 pen_g8 pen_g9 pen_g10 pen_g11 pen_g12 pen_g13 pen_g14 pen_g15 pen_g16 pen_g17 penC_size penC_one penC_all
attribute [local irreducible] penC
attribute [local go_sem] pen_s0 pen_s1 pen_s2 pen_s3 pen_s4 pen_s5 pen_s6 pen_s7 pen_s8 pen_s9 pen_s10 pen_s11 pen_s12 pen_s13 pen_s14 pen_s15 pen_s16 pen_s17
attribute [local go_sem] boxPen loadPen storePen buildPen0
attribute [local go_sem ↓] lrowPen srowPen wzeroPen_run browPen
attribute [local go_sem high] wlaidAt_pen
attribute [local go_sem] guardPen
attribute [local go_sem ↓] eqin_pen eql_pen neq_pen
theorem pen_call (p : PenT) : (penC p).extract 2 6 = callC p.op p.key p.a p.b := by unfold penC callC; rfl
theorem build_first (sl op : Int) (k a b h : BitVec 64) (w : World) : (buildRow 71 #[(1, I sl), (2, .agg (callC op k a b)), (3, U h)]).run Tryz.prog w = .ok (.agg (penC (firstP sl op k a b h))) w := by unfold callC; kernel_rfl
attribute [local go_sem] callC_size callC_one callC_all boxCall loadCall pen_call build_first
attribute [local go_sem ↓] lrowCall
attribute [local irreducible] callC
set_option maxHeartbeats 1000000 in
set_option maxRecDepth 100000 in
theorem eq_empty (a b : Option Addr) (c d : Nat) (w : World) : Calls Tryz.prog 46 #[.slice a 0 c, .slice b 0 d] w fun e w' => e = .returned (.bool true) ∧ Ch [] w w' := by
  go_enter Tryz.func46, Tryz.ntmps46
  go_wp2
  refine wp_loop_rounds 1 ?_
  rw [rounds_succ]
  go_wp2
  go_ret
  exact ⟨rfl, Ch.refl _ _⟩
set_option maxHeartbeats 4000000 in
set_option maxRecDepth 100000 in
theorem runsLaw (a : Option Addr) (n0 c0 : Nat) (ks : Nat → BitVec 64) (p : PenT) (w : World) (hn : n0 ≤ c0) (hc : c0 ≤ 9223372036854775807) (ha : a = none → n0 = 0 ∧ c0 = 0) (hk : KeysIn w a n0 ks) :
    Calls Tryz.prog 9 #[.slice a n0 c0, .agg (penC p)] w fun e w' => e = .returned (.bool true) ∧ Ch [] w w' := by
  have W1 := fun w => wakes19_any w
  have O1 := fun w' (c : Ch [] w w') => own_words a n0 c0 ks w' hn hc ha (hk.ch c (Nat.le_refl _))
  obtain ⟨n, hn'⟩ : ∃ n, min n0 200 = n := ⟨_, rfl⟩
  have hn2 : n ≤ 200 := by omega
  have hn9 : n ≤ 900000 := by omega
  rw [hn'] at O1
  obtain ⟨L, hL⟩ : ∃ L, frontW ks n = L := ⟨_, rfl⟩
  have hLl : L.length = n := by rw [← hL, frontW_len]
  rw [hL] at O1
  have b0 : (w.alloc (.cells (penC p) 71)).heap[w.heap.size]? = some (.cells (penC p) 71 (0, 0)) := by rw [heap_alloc, if_pos rfl]
  have C0 : Ch [] w (w.alloc (.cells (penC p) 71)) := (Ch.refl [] w).alloc _
  clear hn hc ha hk hn' hL
  go_enter Tryz.func9, Tryz.ntmps9
  go_wp2_with fail
  obtain ⟨W0, hW0⟩ : ∃ W, w.alloc (.cells (penC p) 71) = W := ⟨_, rfl⟩
  rw [hW0] at b0 C0 ⊢
  clear hW0
  obtain ⟨B, hB⟩ : ∃ b, w.heap.size = b := ⟨_, rfl⟩
  rw [hB] at b0 ⊢
  have hBw : w.heap.size ≤ B := by omega
  refine (W1 _).mono ?_
  rintro e wa ⟨rfl, hca⟩
  have ba := hkeep hca b0
  have Ca := C0.trans hca
  clear b0 C0 hca W1
  go_wp2_with fail
  refine (O1 _ Ca).mono ?_
  rintro e wb ⟨a', c', rfl, ho, hcb⟩
  have t1 := hkeep hcb ba
  have C1 := Ca.trans hcb
  clear ba hcb Ca
  rcases Nat.eq_zero_or_pos n with h0 | h1
  · subst h0
    have S1 := fun w => wRun_empty a' c' p.sl p.op p.key p.a p.b p.hash w
    clear ho
    obtain ⟨w1, hw1⟩ : ∃ W, wb = W := ⟨_, rfl⟩
    rw [hw1] at t1 C1 ⊢
    clear hw1
    go_wp2_with fail
    refine (S1 _).mono ?_
    rintro e w2 ⟨rfl, hc2⟩
    have t2 := hkeep (hc2) t1
    have C2 := C1.trans (hc2)
    clear t1 C1 hc2 
    have nt : ¬ B = w2.heap.size := by have := blk_lt19 t2; omega
    go_upto_region 5 with (fail)
    clear nt
    have t3 := hkeep (pen_put_ch zeroPen w2) t2
    have C3 := C2.trans (pen_put_ch zeroPen w2)
    have q3 := pen_put zeroPen w2
    have hlA7 := C2.size
    have ltA7 := blk_lt19 t2
    clear t2 C2 
    obtain ⟨w3, hw3⟩ : ∃ W, World.onObj (w2.alloc (.cells (penC zeroPen) 71)) w2.heap.size (laidAt 0 (penC zeroPen)) = W := ⟨_, rfl⟩
    rw [hw3] at t3 q3 C3  ⊢
    clear hw3
    obtain ⟨A7, hbA7⟩ : ∃ b, w2.heap.size = b := ⟨_, rfl⟩
    rw [hbA7] at q3 hlA7 ltA7 ⊢
    clear hbA7
    have nt : ¬ B = w3.heap.size := by have := blk_lt19 t3; omega
    have nq : ¬ A7 = w3.heap.size := by have := blk_lt19 q3; omega
    go_wp2_with fail
    clear nt nq
    have t4 := hkeep (zput_ch w3) t3
    have q4 := hkeep (zput_ch w3) q3
    have C4 := C3.trans (zput_ch w3)
    have ltA11 := blk_lt19 t3
    have lqA11 := blk_lt19 q3
    have x4 := zput w3
    have hlA11 := C3.size
    clear t3 q3 C3 
    obtain ⟨w4, hw4⟩ : ∃ W, w3.alloc (.cells (penC zeroPen) 71) = W := ⟨_, rfl⟩
    rw [hw4] at t4 q4 x4 C4  ⊢
    clear hw4
    obtain ⟨A11, hbA11⟩ : ∃ b, w3.heap.size = b := ⟨_, rfl⟩
    rw [hbA11] at x4 hlA11 ltA11 lqA11 ⊢
    clear hbA11
    refine (eq_nil _).mono ?_
    rintro e w5 ⟨rfl, hc5⟩
    have t5 := hkeep (hc5) t4
    have q5 := hkeep (hc5) q4
    have x5 := hkeep (hc5) x4
    have C5 := C4.trans (hc5)
    clear t4 q4 x4 C4 
    go_wp2
    refine wp_loop_rounds 1 ?_
    rw [rounds_succ]
    go_wp2_with fail
    refine (O1 _ C5).mono ?_
    rintro e wf ⟨a2, c2f, rfl, of, hcf⟩
    have Cf := C5.trans hcf
    go_wp2_with fail
    refine (eq_empty a' a2 c' c2f _).mono ?_
    rintro e wg ⟨rfl, hcg⟩
    go_wp2
    go_ret
    exact ⟨rfl, Cf.trans hcg⟩
  · obtain ⟨r0, c0', cur0, hv, -, -, hA0, c1⟩ := own_row ho h1
    simp only [Value.slice.injEq] at hv
    obtain ⟨rfl, _, rfl⟩ := hv
    have hn8 : n ≤ 8192 := by omega
    have hnI : (n : Int) ≤ 200 := by omega
    have hn1 : (1 : Int) ≤ n := by omega
    have hrb := blk_lt19 c1
    clear ho
    obtain ⟨w1, hw1⟩ : ∃ W, wb = W := ⟨_, rfl⟩
    rw [hw1] at t1 C1 c1 hrb ⊢
    clear hw1
    have RT := fun w => r19Right_any (firstP p.sl p.op p.key p.a p.b p.hash) w
    cases hr : rightP (firstP p.sl p.op p.key p.a p.b p.hash) with
    | false =>
      rw [hr] at RT
      have S1 : ∀ w, w.heap[r0]? = some (.cells cur0 22 (0, 0)) → Calls Tryz.prog 48 #[.slice (some ⟨r0, 0, none⟩) n c', I p.sl, .agg (callC p.op p.key p.a p.b), U p.hash] w fun e w' => e = .returned (.tuple #[.slice none 0 0, .agg (penC zeroPen), I 0, I 2]) ∧ Ch [] w w' := fun w hb => by
        have := wRun_bad L r0 c' cur0 p.sl p.op p.key p.a p.b p.hash w (by omega) (by omega) hb hA0 hr
        rw [hLl] at this
        exact this
      clear hr
      go_wp2_with fail
      refine (S1 _ c1).mono ?_
      rintro e w2 ⟨rfl, hc2⟩
      have t2 := hkeep (hc2) t1
      have c2 := hkeep (hc2) c1
      have C2 := C1.trans (hc2)
      clear t1 c1 C1 hc2 
      have nt : ¬ B = w2.heap.size := by have := blk_lt19 t2; omega
      have nc : ¬ r0 = w2.heap.size := by have := blk_lt19 c2; omega
      go_upto_region 5 with (fail)
      clear nt nc
      have t3 := hkeep (pen_put_ch zeroPen w2) t2
      have c3 := hkeep (pen_put_ch zeroPen w2) c2
      have C3 := C2.trans (pen_put_ch zeroPen w2)
      have q3 := pen_put zeroPen w2
      have hlA7 := C2.size
      have ltA7 := blk_lt19 t2
      have lcA7 := blk_lt19 c2
      clear t2 c2 C2 
      obtain ⟨w3, hw3⟩ : ∃ W, World.onObj (w2.alloc (.cells (penC zeroPen) 71)) w2.heap.size (laidAt 0 (penC zeroPen)) = W := ⟨_, rfl⟩
      rw [hw3] at t3 c3 q3 C3  ⊢
      clear hw3
      obtain ⟨A7, hbA7⟩ : ∃ b, w2.heap.size = b := ⟨_, rfl⟩
      rw [hbA7] at q3 hlA7 ltA7 lcA7 ⊢
      clear hbA7
      have nt : ¬ B = w3.heap.size := by have := blk_lt19 t3; omega
      have nc : ¬ r0 = w3.heap.size := by have := blk_lt19 c3; omega
      have nq : ¬ A7 = w3.heap.size := by have := blk_lt19 q3; omega
      go_upto_region 7 with (fail)
      clear nt nc nq
      have t4 := hkeep (zput_ch w3) t3
      have c4 := hkeep (zput_ch w3) c3
      have q4 := hkeep (zput_ch w3) q3
      have C4 := C3.trans (zput_ch w3)
      have ltA11 := blk_lt19 t3
      have lcA11 := blk_lt19 c3
      have lqA11 := blk_lt19 q3
      have x4 := zput w3
      have hlA11 := C3.size
      clear t3 c3 q3 C3 
      obtain ⟨w4, hw4⟩ : ∃ W, w3.alloc (.cells (penC zeroPen) 71) = W := ⟨_, rfl⟩
      rw [hw4] at t4 c4 q4 x4 C4  ⊢
      clear hw4
      obtain ⟨A11, hbA11⟩ : ∃ b, w3.heap.size = b := ⟨_, rfl⟩
      rw [hbA11] at x4 hlA11 ltA11 lcA11 lqA11 ⊢
      clear hbA11
      have nt : ¬ B = w4.heap.size := by have := blk_lt19 t4; omega
      have nc : ¬ r0 = w4.heap.size := by have := blk_lt19 c4; omega
      have nq : ¬ A7 = w4.heap.size := by have := blk_lt19 q4; omega
      have nx : ¬ A11 = w4.heap.size := by have := blk_lt19 x4; omega
      go_wp2_with fail
      clear nt nc nq nx
      have t5 := hkeep (pen_put_ch (firstP p.sl p.op p.key p.a p.b p.hash) w4) t4
      have c5 := hkeep (pen_put_ch (firstP p.sl p.op p.key p.a p.b p.hash) w4) c4
      have q5 := hkeep (pen_put_ch (firstP p.sl p.op p.key p.a p.b p.hash) w4) q4
      have x5 := hkeep (pen_put_ch (firstP p.sl p.op p.key p.a p.b p.hash) w4) x4
      have C5 := C4.trans (pen_put_ch (firstP p.sl p.op p.key p.a p.b p.hash) w4)
      have o5 := pen_put (firstP p.sl p.op p.key p.a p.b p.hash) w4
      have hlA14 := C4.size
      have ltA14 := blk_lt19 t4
      have lcA14 := blk_lt19 c4
      have lqA14 := blk_lt19 q4
      have lxA14 := blk_lt19 x4
      clear t4 c4 q4 x4 C4 
      obtain ⟨w5, hw5⟩ : ∃ W, World.onObj (w4.alloc (.cells (penC zeroPen) 71)) w4.heap.size (laidAt 0 (penC (firstP p.sl p.op p.key p.a p.b p.hash))) = W := ⟨_, rfl⟩
      rw [hw5] at t5 c5 q5 x5 o5 C5  ⊢
      clear hw5
      obtain ⟨A14, hbA14⟩ : ∃ b, w4.heap.size = b := ⟨_, rfl⟩
      rw [hbA14] at o5 hlA14 ltA14 lcA14 lqA14 lxA14 ⊢
      clear hbA14
      refine (RT _).mono ?_
      rintro e w6 ⟨rfl, hc6⟩
      have t6 := hkeep (hc6) t5
      have c6 := hkeep (hc6) c5
      have q6 := hkeep (hc6) q5
      have x6 := hkeep (hc6) x5
      have o6 := hkeep (hc6) o5
      have C6 := C5.trans (hc6)
      clear t5 c5 q5 x5 o5 C5 hc6 
      go_wp2_with fail
      refine (eq_nil _).mono ?_
      rintro e w7 ⟨rfl, hc7⟩
      have t7 := hkeep (hc7) t6
      have c7 := hkeep (hc7) c6
      have q7 := hkeep (hc7) q6
      have x7 := hkeep (hc7) x6
      have o7 := hkeep (hc7) o6
      have C7 := C6.trans (hc7)
      clear t6 c6 q6 x6 o6 C6 
      go_wp2
      refine wp_loop_rounds 1 ?_
      rw [rounds_succ]
      go_wp2_with fail
      refine (O1 _ C7).mono ?_
      rintro e wf ⟨a2, c2f, rfl, of, hcf⟩
      have Cf := C7.trans hcf
      have cf := hkeep hcf c7
      go_wp2_with fail
      obtain ⟨rf, cf2, curf, hvf, -, -, hAf, hWf⟩ := own_row of h1
      simp only [Value.slice.injEq] at hvf
      obtain ⟨rfl, _, rfl⟩ := hvf
      refine (eq_rows hn9 hLl r0 rf c' c2f _ _ hA0 hAf _ cf hWf).mono ?_
      rintro e wg ⟨rfl, hcg⟩
      go_wp2
      go_ret
      exact ⟨rfl, Cf.trans hcg⟩
    | true =>
      rw [hr] at RT
      have RR := (rightP_iff _).1 hr
      have s0 : 0 ≤ p.sl := RR.sl0
      have s1 : p.sl < 128 := RR.sl1
      have K1 := fun w => rCell_any p.sl 40 s0 s1 (by omega) (by omega) w
      obtain ⟨zc, hzc⟩ : ∃ z, 16 + 40 * p.sl + 40 = z := ⟨_, rfl⟩
      rw [hzc] at K1
      by_cases hfit : 56 + 40 * p.sl ≤ (n : Int)
      · obtain ⟨mk, lE, pE, hmk, hrun, hlE⟩ := runs_any (meas (firstP p.sl p.op p.key p.a p.b p.hash)) L (firstP p.sl p.op p.key p.a p.b p.hash) (Nat.le_refl _) hr (by rw [hLl]; exact hfit)
        have hmk2 : mk ≤ 100000 := by have : meas (firstP p.sl p.op p.key p.a p.b p.hash) = 10000 := rfl; omega
        have hmkI : (mk : Int) ≤ 100000 := by omega
        have hzl : lE.length = n := hlE.trans hLl
        have S1 : ∀ w, w.heap[r0]? = some (.cells cur0 22 (0, 0)) → Calls Tryz.prog 48 #[.slice (some ⟨r0, 0, none⟩) n c', I p.sl, .agg (callC p.op p.key p.a p.b), U p.hash] w fun e w' => ∃ R, e = .returned (.tuple #[.slice (some ⟨R, 0, none⟩) n n, .agg (penC pE), I (mk : Nat), I 0]) ∧ lE.length = n ∧ w.heap.size ≤ R ∧ w'.heap[R]? = some (.cells (wcells lE) 22 (0, 0)) ∧ Ch [] w w' := fun w hb => by
          have := wRun_go L lE r0 c' cur0 p.sl p.op p.key p.a p.b p.hash w (by omega) (by omega) hb hA0 hr (by rw [hLl]; exact hfit) pE mk hrun hmk2
          rw [hLl] at this
          exact this
        have S2 := fun w hv => r19Run_any (.slice (some ⟨r0, 0, none⟩) n c') n L lE (firstP p.sl p.op p.key p.a p.b p.hash) pE mk h1 hn8 hrun hmk2 w hv
        have hWz := wcells_at lE
        have hzn : zc ≤ (n : Int) := by omega
        have hC1s := C1.size
        clear hr RR hmk hrun hlE hzc hfit
        go_wp2_with fail
        refine (S1 _ c1).mono ?_
        rintro e w2 ⟨R, rfl, hzl, hR, m2, hc2⟩
        have t2 := hkeep (hc2) t1
        have c2 := hkeep (hc2) c1
        have C2 := C1.trans (hc2)
        clear t1 c1 C1 hc2 
        have nt : ¬ B = w2.heap.size := by have := blk_lt19 t2; omega
        have nc : ¬ r0 = w2.heap.size := by have := blk_lt19 c2; omega
        have nm : ¬ R = w2.heap.size := by have := blk_lt19 m2; omega
        go_upto_region 5 with (fail)
        clear nt nc nm
        have t3 := hkeep (pen_put_ch pE w2) t2
        have c3 := hkeep (pen_put_ch pE w2) c2
        have m3 := hkeep (pen_put_ch pE w2) m2
        have C3 := C2.trans (pen_put_ch pE w2)
        have q3 := pen_put pE w2
        have hlA7 := C2.size
        have ltA7 := blk_lt19 t2
        have lcA7 := blk_lt19 c2
        have lmA7 := blk_lt19 m2
        clear t2 c2 m2 C2 
        obtain ⟨w3, hw3⟩ : ∃ W, World.onObj (w2.alloc (.cells (penC zeroPen) 71)) w2.heap.size (laidAt 0 (penC pE)) = W := ⟨_, rfl⟩
        rw [hw3] at t3 c3 m3 q3 C3  ⊢
        clear hw3
        obtain ⟨A7, hbA7⟩ : ∃ b, w2.heap.size = b := ⟨_, rfl⟩
        rw [hbA7] at q3 hlA7 ltA7 lcA7 lmA7 ⊢
        clear hbA7
        have nt : ¬ B = w3.heap.size := by have := blk_lt19 t3; omega
        have nc : ¬ r0 = w3.heap.size := by have := blk_lt19 c3; omega
        have nm : ¬ R = w3.heap.size := by have := blk_lt19 m3; omega
        have nq : ¬ A7 = w3.heap.size := by have := blk_lt19 q3; omega
        go_upto_region 7 with (fail)
        clear nt nc nm nq
        have t4 := hkeep (zput_ch w3) t3
        have c4 := hkeep (zput_ch w3) c3
        have m4 := hkeep (zput_ch w3) m3
        have q4 := hkeep (zput_ch w3) q3
        have C4 := C3.trans (zput_ch w3)
        have ltA11 := blk_lt19 t3
        have lcA11 := blk_lt19 c3
        have lmA11 := blk_lt19 m3
        have lqA11 := blk_lt19 q3
        have x4 := zput w3
        have hlA11 := C3.size
        clear t3 c3 m3 q3 C3 
        obtain ⟨w4, hw4⟩ : ∃ W, w3.alloc (.cells (penC zeroPen) 71) = W := ⟨_, rfl⟩
        rw [hw4] at t4 c4 m4 q4 x4 C4  ⊢
        clear hw4
        obtain ⟨A11, hbA11⟩ : ∃ b, w3.heap.size = b := ⟨_, rfl⟩
        rw [hbA11] at x4 hlA11 ltA11 lcA11 lmA11 lqA11 ⊢
        clear hbA11
        have nt : ¬ B = w4.heap.size := by have := blk_lt19 t4; omega
        have nc : ¬ r0 = w4.heap.size := by have := blk_lt19 c4; omega
        have nm : ¬ R = w4.heap.size := by have := blk_lt19 m4; omega
        have nq : ¬ A7 = w4.heap.size := by have := blk_lt19 q4; omega
        have nx : ¬ A11 = w4.heap.size := by have := blk_lt19 x4; omega
        go_wp2_with fail
        clear nt nc nm nq nx
        have t5 := hkeep (pen_put_ch (firstP p.sl p.op p.key p.a p.b p.hash) w4) t4
        have c5 := hkeep (pen_put_ch (firstP p.sl p.op p.key p.a p.b p.hash) w4) c4
        have m5 := hkeep (pen_put_ch (firstP p.sl p.op p.key p.a p.b p.hash) w4) m4
        have q5 := hkeep (pen_put_ch (firstP p.sl p.op p.key p.a p.b p.hash) w4) q4
        have x5 := hkeep (pen_put_ch (firstP p.sl p.op p.key p.a p.b p.hash) w4) x4
        have C5 := C4.trans (pen_put_ch (firstP p.sl p.op p.key p.a p.b p.hash) w4)
        have o5 := pen_put (firstP p.sl p.op p.key p.a p.b p.hash) w4
        have hlA14 := C4.size
        have ltA14 := blk_lt19 t4
        have lcA14 := blk_lt19 c4
        have lmA14 := blk_lt19 m4
        have lqA14 := blk_lt19 q4
        have lxA14 := blk_lt19 x4
        clear t4 c4 m4 q4 x4 C4 
        obtain ⟨w5, hw5⟩ : ∃ W, World.onObj (w4.alloc (.cells (penC zeroPen) 71)) w4.heap.size (laidAt 0 (penC (firstP p.sl p.op p.key p.a p.b p.hash))) = W := ⟨_, rfl⟩
        rw [hw5] at t5 c5 m5 q5 x5 o5 C5  ⊢
        clear hw5
        obtain ⟨A14, hbA14⟩ : ∃ b, w4.heap.size = b := ⟨_, rfl⟩
        rw [hbA14] at o5 hlA14 ltA14 lcA14 lmA14 lqA14 lxA14 ⊢
        clear hbA14
        refine (RT _).mono ?_
        rintro e w6 ⟨rfl, hc6⟩
        have t6 := hkeep (hc6) t5
        have c6 := hkeep (hc6) c5
        have m6 := hkeep (hc6) m5
        have q6 := hkeep (hc6) q5
        have x6 := hkeep (hc6) x5
        have o6 := hkeep (hc6) o5
        have C6 := C5.trans (hc6)
        clear t5 c5 m5 q5 x5 o5 C5 hc6 
        go_wp2_with fail
        refine (K1 _).mono ?_
        rintro e w' ⟨rfl, rfl⟩
        go_wp2_with fail
        have hv6 : RowIn w6 (.slice (some ⟨r0, 0, none⟩) n c') n L := ⟨r0, c', cur0, rfl, hLl, c6, hA0⟩
        refine (S2 _ hv6).mono ?_
        rintro e w7 ⟨v9, rfl, hv9, hc7⟩
        have t7 := hkeep (hc7) t6
        have c7 := hkeep (hc7) c6
        have m7 := hkeep (hc7) m6
        have q7 := hkeep (hc7) q6
        have x7 := hkeep (hc7) x6
        have o7 := hkeep (hc7) o6
        have C7 := C6.trans (hc7)
        clear t6 c6 m6 q6 x6 o6 C6 hc7 
        obtain ⟨R2, c2, cur2, rfl, -, y7, hW2⟩ := hv9
        have h7A : ¬ A7 = A11 := by omega
        go_wp2_with fail
        have t8 := (onObj_other (w := w7) (F := A11) (laidAt 0 (penC pE)) (show ¬ B = A11 by omega)).trans t7
        have c8 := (onObj_other (w := w7) (F := A11) (laidAt 0 (penC pE)) (block_ne c7 x7 (by decide))).trans c7
        have m8 := (onObj_other (w := w7) (F := A11) (laidAt 0 (penC pE)) (block_ne m7 x7 (by decide))).trans m7
        have q8 := (onObj_other (w := w7) (F := A11) (laidAt 0 (penC pE)) h7A).trans q7
        have x8 : (World.onObj w7 A11 (laidAt 0 (penC pE))).heap[A11]? = some (.cells (penC pE) 71 (0, 0)) := by rw [heap_onObj, if_pos rfl, x7, Option.map_some, wlaidAt_pen]
        have o8 := (onObj_other (w := w7) (F := A11) (laidAt 0 (penC pE)) (show ¬ A14 = A11 by omega)).trans o7
        have y8 := (onObj_other (w := w7) (F := A11) (laidAt 0 (penC pE)) (block_ne y7 x7 (by decide))).trans y7
        have C8 : Ch [] w (World.onObj w7 A11 (laidAt 0 (penC pE))) := C7.onObj (.inr (by omega)) _
        clear t7 c7 m7 q7 x7 o7 y7 C7 
        obtain ⟨w8, hw8⟩ : ∃ W, (World.onObj w7 A11 (laidAt 0 (penC pE))) = W := ⟨_, rfl⟩
        rw [hw8] at t8 c8 m8 q8 x8 o8 y8 C8  ⊢
        clear hw8
        refine (eq_rows hn9 hzl R R2 n c2 _ _ hWz hW2 _ m8 y8).mono ?_
        rintro e w9 ⟨rfl, hc9⟩
        have t9 := hkeep (hc9) t8
        have c9 := hkeep (hc9) c8
        have m9 := hkeep (hc9) m8
        have q9 := hkeep (hc9) q8
        have x9 := hkeep (hc9) x8
        have o9 := hkeep (hc9) o8
        have y9 := hkeep (hc9) y8
        have C9 := C8.trans (hc9)
        clear t8 c8 m8 q8 x8 o8 y8 C8 hc9 
        go_wp2
        go_loopw [81] (fun i wr => ∃ (k : Nat) (cs : Array Value), i = .int .i64 k ∧ k ≤ n ∧ wr.heap[R]? = some (.cells cs 22 (0, 0)) ∧ (∀ i, i < n → ∃ x : BitVec 64, cs[i]? = some (U x)) ∧ Ch [R] w9 wr) (fun i _ => n - (intOf i).toNat)
        case atStart => exact ⟨0, wcells lE, rfl, by omega, m9, fun i hi => ⟨lE[i]'(by omega), hWz i _ (List.getElem?_eq_getElem (by omega))⟩, Ch.refl _ _⟩
        case round =>
          obtain ⟨k, cs, hk, hkn, mr, hel, cr⟩ := hrel
          subst hk
          have dr := (cr.block r0 (blk_lt19 c9) (by simp; omega)).trans c9
          have Cr := C9.trans2 cr (by intro t ht; right; simp at ht; omega)
          clear c9 m9 C9
          by_cases hlk : k < n
          · obtain ⟨x, hx⟩ := hel k hlk
            have hkI : (k : Int) < n := by omega
            have HE := Lib.hid hel
            clear hel dr
            go_wp2
            go_roundw
            case rel => exact ⟨k + 1, cs.setIfInBounds k (U (x + 1#64)), by go_num, hlk, by simp [go_sem, mr], fun i hi => by
              rw [Array.getElem?_setIfInBounds]
              by_cases he : k = i
              · subst he; rw [if_pos rfl, if_pos (by have := (Array.getElem?_eq_some_iff.1 hx).1; exact this)]; exact ⟨_, rfl⟩
              · rw [if_neg he]; exact HE.out i hi, cr.setCell (p := ⟨R, k, none⟩) (.inl (by simp)) _⟩
            case measure => simp [intOf]; omega
          · have hkI : ¬ (k : Int) < n := by omega
            clear hel mr
            have c10 := dr
            have C10 := Cr
            clear dr Cr cr
            obtain ⟨w10, hw10⟩ : ∃ W, wr = W := ⟨_, rfl⟩
            rw [hw10] at c10 C10 ⊢
            clear hw10
            go_wp2_with fail
            refine (O1 _ C10).mono ?_
            rintro e wf ⟨a2, c2f, rfl, of, hcf⟩
            have Cf := C10.trans hcf
            have cf := hkeep hcf c10
            go_wp2_with fail
            obtain ⟨rf, cf2, curf, hvf, -, -, hAf, hWf⟩ := own_row of h1
            simp only [Value.slice.injEq] at hvf
            obtain ⟨rfl, _, rfl⟩ := hvf
            refine (eq_rows hn9 hLl r0 rf c' c2f _ _ hA0 hAf _ cf hWf).mono ?_
            rintro e wg ⟨rfl, hcg⟩
            go_wp2
            go_ret
            exact ⟨rfl, Cf.trans hcg⟩
      · have S1 : ∀ w, w.heap[r0]? = some (.cells cur0 22 (0, 0)) → Calls Tryz.prog 48 #[.slice (some ⟨r0, 0, none⟩) n c', I p.sl, .agg (callC p.op p.key p.a p.b), U p.hash] w fun e w' => e = .returned (.tuple #[.slice none 0 0, .agg (penC zeroPen), I 0, I 2]) ∧ Ch [] w w' := fun w hb => by
          have := wRun_short L r0 c' cur0 p.sl p.op p.key p.a p.b p.hash w (by omega) (by omega) hb hA0 hr (by omega)
          rw [hLl] at this
          exact this
        have hzn : ¬ zc ≤ (n : Int) := by omega
        clear hr RR hzc hfit
        go_wp2_with fail
        refine (S1 _ c1).mono ?_
        rintro e w2 ⟨rfl, hc2⟩
        have t2 := hkeep (hc2) t1
        have c2 := hkeep (hc2) c1
        have C2 := C1.trans (hc2)
        clear t1 c1 C1 hc2 
        have nt : ¬ B = w2.heap.size := by have := blk_lt19 t2; omega
        have nc : ¬ r0 = w2.heap.size := by have := blk_lt19 c2; omega
        go_upto_region 5 with (fail)
        clear nt nc
        have t3 := hkeep (pen_put_ch zeroPen w2) t2
        have c3 := hkeep (pen_put_ch zeroPen w2) c2
        have C3 := C2.trans (pen_put_ch zeroPen w2)
        have q3 := pen_put zeroPen w2
        have hlA7 := C2.size
        have ltA7 := blk_lt19 t2
        have lcA7 := blk_lt19 c2
        clear t2 c2 C2 
        obtain ⟨w3, hw3⟩ : ∃ W, World.onObj (w2.alloc (.cells (penC zeroPen) 71)) w2.heap.size (laidAt 0 (penC zeroPen)) = W := ⟨_, rfl⟩
        rw [hw3] at t3 c3 q3 C3  ⊢
        clear hw3
        obtain ⟨A7, hbA7⟩ : ∃ b, w2.heap.size = b := ⟨_, rfl⟩
        rw [hbA7] at q3 hlA7 ltA7 lcA7 ⊢
        clear hbA7
        have nt : ¬ B = w3.heap.size := by have := blk_lt19 t3; omega
        have nc : ¬ r0 = w3.heap.size := by have := blk_lt19 c3; omega
        have nq : ¬ A7 = w3.heap.size := by have := blk_lt19 q3; omega
        go_upto_region 7 with (fail)
        clear nt nc nq
        have t4 := hkeep (zput_ch w3) t3
        have c4 := hkeep (zput_ch w3) c3
        have q4 := hkeep (zput_ch w3) q3
        have C4 := C3.trans (zput_ch w3)
        have ltA11 := blk_lt19 t3
        have lcA11 := blk_lt19 c3
        have lqA11 := blk_lt19 q3
        have x4 := zput w3
        have hlA11 := C3.size
        clear t3 c3 q3 C3 
        obtain ⟨w4, hw4⟩ : ∃ W, w3.alloc (.cells (penC zeroPen) 71) = W := ⟨_, rfl⟩
        rw [hw4] at t4 c4 q4 x4 C4  ⊢
        clear hw4
        obtain ⟨A11, hbA11⟩ : ∃ b, w3.heap.size = b := ⟨_, rfl⟩
        rw [hbA11] at x4 hlA11 ltA11 lcA11 lqA11 ⊢
        clear hbA11
        have nt : ¬ B = w4.heap.size := by have := blk_lt19 t4; omega
        have nc : ¬ r0 = w4.heap.size := by have := blk_lt19 c4; omega
        have nq : ¬ A7 = w4.heap.size := by have := blk_lt19 q4; omega
        have nx : ¬ A11 = w4.heap.size := by have := blk_lt19 x4; omega
        go_wp2_with fail
        clear nt nc nq nx
        have t5 := hkeep (pen_put_ch (firstP p.sl p.op p.key p.a p.b p.hash) w4) t4
        have c5 := hkeep (pen_put_ch (firstP p.sl p.op p.key p.a p.b p.hash) w4) c4
        have q5 := hkeep (pen_put_ch (firstP p.sl p.op p.key p.a p.b p.hash) w4) q4
        have x5 := hkeep (pen_put_ch (firstP p.sl p.op p.key p.a p.b p.hash) w4) x4
        have C5 := C4.trans (pen_put_ch (firstP p.sl p.op p.key p.a p.b p.hash) w4)
        have o5 := pen_put (firstP p.sl p.op p.key p.a p.b p.hash) w4
        have hlA14 := C4.size
        have ltA14 := blk_lt19 t4
        have lcA14 := blk_lt19 c4
        have lqA14 := blk_lt19 q4
        have lxA14 := blk_lt19 x4
        clear t4 c4 q4 x4 C4 
        obtain ⟨w5, hw5⟩ : ∃ W, World.onObj (w4.alloc (.cells (penC zeroPen) 71)) w4.heap.size (laidAt 0 (penC (firstP p.sl p.op p.key p.a p.b p.hash))) = W := ⟨_, rfl⟩
        rw [hw5] at t5 c5 q5 x5 o5 C5  ⊢
        clear hw5
        obtain ⟨A14, hbA14⟩ : ∃ b, w4.heap.size = b := ⟨_, rfl⟩
        rw [hbA14] at o5 hlA14 ltA14 lcA14 lqA14 lxA14 ⊢
        clear hbA14
        refine (RT _).mono ?_
        rintro e w6 ⟨rfl, hc6⟩
        have t6 := hkeep (hc6) t5
        have c6 := hkeep (hc6) c5
        have q6 := hkeep (hc6) q5
        have x6 := hkeep (hc6) x5
        have o6 := hkeep (hc6) o5
        have C6 := C5.trans (hc6)
        clear t5 c5 q5 x5 o5 C5 hc6 
        go_wp2_with fail
        refine (K1 _).mono ?_
        rintro e w' ⟨rfl, rfl⟩
        go_wp2_with fail
        refine (eq_nil _).mono ?_
        rintro e w7 ⟨rfl, hc7⟩
        have t7 := hkeep (hc7) t6
        have c7 := hkeep (hc7) c6
        have q7 := hkeep (hc7) q6
        have x7 := hkeep (hc7) x6
        have o7 := hkeep (hc7) o6
        have C7 := C6.trans (hc7)
        clear t6 c6 q6 x6 o6 C6 
        go_wp2
        refine wp_loop_rounds 1 ?_
        rw [rounds_succ]
        go_wp2_with fail
        refine (O1 _ C7).mono ?_
        rintro e wf ⟨a2, c2f, rfl, of, hcf⟩
        have Cf := C7.trans hcf
        have cf := hkeep hcf c7
        go_wp2_with fail
        obtain ⟨rf, cf2, curf, hvf, -, -, hAf, hWf⟩ := own_row of h1
        simp only [Value.slice.injEq] at hvf
        obtain ⟨rfl, _, rfl⟩ := hvf
        refine (eq_rows hn9 hLl r0 rf c' c2f _ _ hA0 hAf _ cf hWf).mono ?_
        rintro e wg ⟨rfl, hcg⟩
        go_wp2
        go_ret
        exact ⟨rfl, Cf.trans hcg⟩
end Go.Proofs.Hc
