/- Law 19, WriteTable: the walk, call by call (printed by gen_section19.py). -/
import Derived.Test.YtmfajobocpaimaaGreatKHmet
import Derived.Test.YtmfajobocpaimaaGreatKHcc
import Derived.Test.YtmfajobocpaimaaGreatKHcg
import Derived.Test.YtmfajobocpaimaaGreatKHcs
import Derived.Test.YtmfajobocpaimaaGreatKHdh
import Derived.Test.YtmfajobocpaimaaGreatKHdk
import Derived.Test.YtmfajobocpaimaaGreatKHdo
import Derived.Test.YtmfajobocpaimaaGreatKHds
import Derived.Test.YtmfajobocpaimaaGreatKHdt
import Derived.Test.YtmfajobocpaimaaGreatKHdv
import Derived.Test.YtmfajobocpaimaaGreatKHec
import Derived.Test.YtmfajobocpaimaaGreatKHed
import Derived.Test.YtmfajobocpaimaaGreatKHej
import Derived.Test.YtmfajobocpaimaaGreatKHes
import Derived.Test.YtmfajobocpaimaaGreatKHm
import Derived.Test.YtmfajobocpaimaaGreatKHma
import Derived.Test.YtmfajobocpaimaaGreatKHns
import Derived.Test.YtmfajobocpaimaaGreatKHpb
import Derived.Test.YtmfajobocpaimaaGreatKHni
import Derived.Test.YtmfajobocpaimaaGreatKHxh
import Derived.Test.YtmfajobocpaimaaGreatKHxo
import Derived.Below
import Derived.BigQuiet
import Derived.ChangeKeysEq
import Derived.Deep.Draws
import Derived.Deep.Light
import Derived.Deep.OwnRows
import Derived.Deep.QuietTactic
import Derived.Deep.RegionHeld
import Derived.Deep.Slices
import Derived.IntWalk
import Derived.Laws.CopyOwn
import Derived.Laws.CopyRow
import Derived.Laws.StructEq
import Derived.Laws.Tables
import Derived.Lib.AppendZerosOnto
import Derived.Lib.Hide
import Derived.Lib.Tables
import Derived.Lib.Walk
import Derived.LoopIn
import Derived.LoopN
import Derived.LoopNIn
import Derived.Maps.AppendAt
import Derived.Maps.Views
import Derived.OpenShut
import Derived.OwnWalkIn
import Derived.ProofKit
import Derived.RangeFuncBox
import Derived.RangeFuncCalls
import Derived.RangeFuncRecord
import Derived.RangeFuncSeq
import Derived.Recover
import Derived.RegionTactic
import Derived.ScopeJumps
import Derived.Shelf.Slices.Clone
import Derived.StillTail
import Derived.StillTailTactics
import Derived.TacticsInMore
import Derived.Test.YtmfajobocpaimaaGreatProg
import Derived.WalkKit
import Derived.WalkLawsBesides
import Derived.WalkMore
import Derived.WalkSpells
set_option linter.unusedSimpArgs false
set_option linter.unusedVariables false
namespace Go.Proofs.Hc
open Go.RowKit
attribute [local go_sem] wrap_u64 wrap_u8 bits_xor64 bits_and64 bits_or64 bits_not64 bits_xor8 bits_and8 bits_or8 signed64 signed8 ofInt_N BitVec.ofInt_add BitVec.ofInt_mul ofInt_sub' ofInt8_N64 ofInt64_N8 wide8 eqN neN shr_pow shr1 shr7 shr56
attribute [local go_sem high] bits_com64 shl_wrap
attribute [local go_sem] cell_heap ice_heap cellAt_cells iceAt_cells setAt_cells rowAt_cells canLay_cells laidAt_cells size_onObj size_setCell rowRes_some layRes_true
attribute [local go_sem] load26 load73 load23 store26 build73
attribute [local go_sem ↓] lrow26 lrow73 lrow23 srow26 zero26 brow73 heap_alloc heap_drew heap_drewN heap_setCell heap_onObj
attribute [local go_sem] tcells_size hcells_size tcells_get hcells_get tcells_one hcells_one hcells_table tcells_table hcells_all hcells_ctrl tcells_ctrl
attribute [local go_sem] nn2 nm2 nn3 nm3 nn4 nm4 nn5 nm5 nn6 nm6 nn7 nm7 nn8 nm8
attribute [local go_sem] nn2 nm2 nn3 nm3 nn4 nm4 nn5 nm5 nn6 nm6 nn7 nm7 nn8 nm8
attribute [local go_sem] ofInt_N ofInt_pow8
attribute [local go_sem] Oper.semAt_some make_func1
attribute [local go_sem] pen_g0 pen_g1 pen_g2 pen_g3 pen_g4 pen_g5 pen_g6 pen_g7 pen_g8 pen_g9 pen_g10 pen_g11 pen_g12 pen_g13 pen_g14 pen_g15 pen_g16 pen_g17 penC_size penC_one penC_all
attribute [local irreducible] penC
attribute [local go_sem] pen_s0 pen_s1 pen_s2 pen_s3 pen_s4 pen_s5 pen_s6 pen_s7 pen_s8 pen_s9 pen_s10 pen_s11 pen_s12 pen_s13 pen_s14 pen_s15 pen_s16 pen_s17
attribute [local go_sem] boxPen loadPen storePen buildPen0
attribute [local go_sem ↓] lrowPen srowPen wzeroPen_run browPen
attribute [local go_sem high] wlaidAt_pen laidAt_t
attribute [local go_sem] workC_size workC_one workC_all workC_tab workC_g0 workC_g1 workC_g2 workC_i0 workC_i1 workC_i2 boxWork loadWork
attribute [local go_sem ↓] lrowWork
attribute [local go_sem] callC_size callC_one callC_all boxCall loadCall callC_i0 callC_i1 callC_i2 callC_i3 callC_j0 callC_j1 callC_j2 callC_j3
attribute [local go_sem ↓] lrowCall
attribute [local irreducible] callC workC tcells
attribute [local go_sem] acc_g1 acc_g2 accC_size accC_one accC_all loadAcc storeAcc bacc0
attribute [local go_sem ↓] lrowAcc srowAcc browAcc zeroAcc_run
attribute [local go_sem high] laidAt_acc
attribute [local irreducible] accC
theorem acc_i1 (a b c d : Int) (h : 1 < (accC a b c d).size) : (accC a b c d)[1] = I b := by have := acc_g1 a b c d; rw [Array.getElem?_eq_getElem h] at this; exact Option.some.inj this
theorem acc_i2 (a b c d : Int) (h : 2 < (accC a b c d).size) : (accC a b c d)[2] = I c := by have := acc_g2 a b c d; rw [Array.getElem?_eq_getElem h] at this; exact Option.some.inj this
attribute [local go_sem] acc_i1 acc_i2
theorem accP19 (a b c d : Int) (w : World) : (World.onObj (w.alloc (.cells (accC 0 0 0 0) 96)) w.heap.size (laidAt 0 (accC a b c d))).heap[w.heap.size]? = some (.cells (accC a b c d) 96 (0, 0)) := by
  rw [heap_onObj, if_pos rfl, heap_alloc, if_pos rfl, Option.map_some, laidAt_acc]
theorem accP19_ch (a b c d : Int) (w : World) : Ch [] w (World.onObj (w.alloc (.cells (accC 0 0 0 0) 96)) w.heap.size (laidAt 0 (accC a b c d))) := ((Ch.refl [] w).alloc _).onObj (.inr (Nat.le_refl _)) _
theorem odd_nat (x : BitVec 64) : oddB x = decide (x.toNat % 2 = 1) := by
  unfold oddB
  have e : (x &&& 1#64).toNat = x.toNat % 2 := by rw [BitVec.toNat_and]; exact Nat.and_one_is_mod _
  rw [Bool.eq_iff_iff]
  simp only [beq_iff_eq, decide_eq_true_eq]
  constructor
  · intro h; rw [← e, h]; rfl
  · intro h; apply BitVec.eq_of_toNat_eq; rw [e, h]; rfl
theorem odd_one {x : BitVec 64} (h : oddB x = false) : oddB (x + 1#64) = true := by
  rw [odd_nat] at h ⊢
  simp only [decide_eq_false_iff_not, decide_eq_true_eq] at h ⊢
  rw [BitVec.toNat_add]
  show (x.toNat + 1) % 2 ^ 64 % 2 = 1
  omega
theorem odd_two {x : BitVec 64} (h : oddB x = false) : oddB (x + 2#64) = false := by
  rw [odd_nat] at h ⊢
  simp only [decide_eq_false_iff_not] at h ⊢
  rw [BitVec.toNat_add]
  show ¬ (x.toNat + 2) % 2 ^ 64 % 2 = 1
  omega
theorem two_ne (x : BitVec 64) : x + 2#64 ≠ x := by
  intro e
  have := congrArg BitVec.toNat e
  rw [BitVec.toNat_add] at this
  have hx := x.isLt
  change (x.toNat + 2) % 2 ^ 64 = x.toNat at this
  omega
set_option maxHeartbeats 4000000 in
set_option maxRecDepth 100000 in
theorem section_none (s : BitVec 64) (sl op : Int) (t : Tab) (key a b : BitVec 64) (w : World) (hok : workOk s sl t = false) : Calls Tryz.prog 11 #[.agg (workC s sl t), .agg (callC op key a b)] w fun e w' => e = .returned (.bool true) ∧ Ch [] w w' := by
  have y0 : ((w.alloc (.cells (workC s sl t) 88)).alloc (.cells (callC op key a b) 68)).heap[w.heap.size + 1]? = some (.cells (callC op key a b) 68 (0, 0)) := by simp [go_sem]
  have k0 : ((w.alloc (.cells (workC s sl t) 88)).alloc (.cells (callC op key a b) 68)).heap[w.heap.size]? = some (.cells (workC s sl t) 88 (0, 0)) := by simp [go_sem]
  have C0 : Ch [] w ((w.alloc (.cells (workC s sl t) 88)).alloc (.cells (callC op key a b) 68)) := ((Ch.refl [] w).alloc _).alloc _
  have W1 := fun w => wakes19_any w
  have H1 := fun w => hashOf_any s key w
  obtain ⟨hh, hhe⟩ : ∃ h, hashOf s key = h := ⟨_, rfl⟩
  rw [hhe] at H1
  have CY := fun w => cells_no s sl t w hok
  clear hok hhe
  obtain ⟨first, hfe⟩ : ∃ p, firstP sl op key a b hh = p := ⟨_, rfl⟩
  cases hr : rightP (firstP sl op key a b hh)
  · have B1 : ∀ w, Calls Tryz.prog 55 #[I sl, .agg (callC op key a b), U hh] w fun e w' => e = .returned (.tuple #[.agg (penC zeroPen), I 2]) ∧ Ch [] w w' := fun w => by
      have := wBegin_any sl op key a b hh _ rfl w
      rw [show rightP ⟨0, sl, op, key, a, b, hh, 0#64, 0#64, 0#64, 0, 0#64, 0#8, 0, 0#64, 0, 0#64, false⟩ = false from hr, if_neg (by decide)] at this
      unfold callC
      skip
      exact this
    go_enter Tryz.func11, Tryz.ntmps11
    go_wp2_with fail
    obtain ⟨w0, hw0⟩ : ∃ W, (w.alloc (.cells (workC s sl t) 88)).alloc (.cells (callC op key a b) 68) = W := ⟨_, rfl⟩
    rw [hw0] at y0 k0 C0 ⊢
    clear hw0
    obtain ⟨A, hA⟩ : ∃ b, w.heap.size = b := ⟨_, rfl⟩
    rw [hA] at y0 k0 ⊢
    obtain ⟨A1, hA1⟩ : ∃ b, A + 1 = b := ⟨_, rfl⟩
    rw [hA1] at y0 ⊢
    refine (W1 _).mono ?_
    rintro e w1 ⟨rfl, hc1⟩
    have k1 := hkeep (hc1) k0
    have y1 := hkeep (hc1) y0
    have C1 := C0.trans (hc1)
    clear k0 y0 C0 hc1 
    go_wp2_with fail
    refine (CY _).mono ?_
    rintro e w2 ⟨rfl, hc2⟩
    have k2 := hkeep (hc2) k1
    have y2 := hkeep (hc2) y1
    have C2 := C1.trans (hc2)
    clear k1 y1 C1 hc2 
    go_wp2_with fail
    refine (H1 _).mono ?_
    rintro e w' ⟨rfl, rfl⟩
    go_wp2_with fail
    refine (B1 _).mono ?_
    rintro e w3 ⟨rfl, hc3⟩
    have k3 := hkeep (hc3) k2
    have y3 := hkeep (hc3) y2
    have C3 := C2.trans (hc3)
    clear k2 y2 C2 hc3 
    have nk : ¬ A = w3.heap.size := by have := blk_lt19 k3; omega
    have ny : ¬ A1 = w3.heap.size := by have := blk_lt19 y3; omega
    go_wp2_with fail
    clear nk ny
    have k4 := hkeep (pen_put_ch zeroPen w3) k3
    have y4 := hkeep (pen_put_ch zeroPen w3) y3
    have C4 := C3.trans (pen_put_ch zeroPen w3)
    have p4 := pen_put zeroPen w3
    have hlA8 := C3.size
    have lkA8 := blk_lt19 k3
    have lyA8 := blk_lt19 y3
    clear k3 y3 C3 
    obtain ⟨w4, hw4⟩ : ∃ W, World.onObj (w3.alloc (.cells (penC zeroPen) 71)) w3.heap.size (laidAt 0 (penC zeroPen)) = W := ⟨_, rfl⟩
    rw [hw4] at k4 y4 p4 C4  ⊢
    clear hw4
    obtain ⟨A8, hbA8⟩ : ∃ b, w3.heap.size = b := ⟨_, rfl⟩
    rw [hbA8] at p4 hlA8 lkA8 lyA8 ⊢
    clear hbA8
    go_ret
    exact ⟨rfl, C4⟩
  · have B1 : ∀ w, Calls Tryz.prog 55 #[I sl, .agg (callC op key a b), U hh] w fun e w' => e = .returned (.tuple #[.agg (penC first), I 0]) ∧ Ch [] w w' := fun w => by
      have := wBegin_any sl op key a b hh _ rfl w
      rw [show rightP ⟨0, sl, op, key, a, b, hh, 0#64, 0#64, 0#64, 0, 0#64, 0#8, 0, 0#64, 0, 0#64, false⟩ = true from hr, if_pos rfl] at this
      unfold callC
      rw [← hfe]
      exact this
    go_enter Tryz.func11, Tryz.ntmps11
    go_wp2_with fail
    obtain ⟨w0, hw0⟩ : ∃ W, (w.alloc (.cells (workC s sl t) 88)).alloc (.cells (callC op key a b) 68) = W := ⟨_, rfl⟩
    rw [hw0] at y0 k0 C0 ⊢
    clear hw0
    obtain ⟨A, hA⟩ : ∃ b, w.heap.size = b := ⟨_, rfl⟩
    rw [hA] at y0 k0 ⊢
    obtain ⟨A1, hA1⟩ : ∃ b, A + 1 = b := ⟨_, rfl⟩
    rw [hA1] at y0 ⊢
    refine (W1 _).mono ?_
    rintro e w1 ⟨rfl, hc1⟩
    have k1 := hkeep (hc1) k0
    have y1 := hkeep (hc1) y0
    have C1 := C0.trans (hc1)
    clear k0 y0 C0 hc1 
    go_wp2_with fail
    refine (CY _).mono ?_
    rintro e w2 ⟨rfl, hc2⟩
    have k2 := hkeep (hc2) k1
    have y2 := hkeep (hc2) y1
    have C2 := C1.trans (hc2)
    clear k1 y1 C1 hc2 
    go_wp2_with fail
    refine (H1 _).mono ?_
    rintro e w' ⟨rfl, rfl⟩
    go_wp2_with fail
    refine (B1 _).mono ?_
    rintro e w3 ⟨rfl, hc3⟩
    have k3 := hkeep (hc3) k2
    have y3 := hkeep (hc3) y2
    have C3 := C2.trans (hc3)
    clear k2 y2 C2 hc3 
    have nk : ¬ A = w3.heap.size := by have := blk_lt19 k3; omega
    have ny : ¬ A1 = w3.heap.size := by have := blk_lt19 y3; omega
    go_wp2_with fail
    clear nk ny
    have k4 := hkeep (pen_put_ch first w3) k3
    have y4 := hkeep (pen_put_ch first w3) y3
    have C4 := C3.trans (pen_put_ch first w3)
    have p4 := pen_put first w3
    have hlA8 := C3.size
    have lkA8 := blk_lt19 k3
    have lyA8 := blk_lt19 y3
    clear k3 y3 C3 
    obtain ⟨w4, hw4⟩ : ∃ W, World.onObj (w3.alloc (.cells (penC zeroPen) 71)) w3.heap.size (laidAt 0 (penC first)) = W := ⟨_, rfl⟩
    rw [hw4] at k4 y4 p4 C4  ⊢
    clear hw4
    obtain ⟨A8, hbA8⟩ : ∃ b, w3.heap.size = b := ⟨_, rfl⟩
    rw [hbA8] at p4 hlA8 lkA8 lyA8 ⊢
    clear hbA8
    go_ret
    exact ⟨rfl, C4⟩
set_option maxHeartbeats 4000000 in
set_option maxRecDepth 100000 in
theorem section_bad (s : BitVec 64) (sl op : Int) (t : Tab) (key a b : BitVec 64) (w : World) (hok : workOk s sl t = true) (hr : rightP (firstP sl op key a b (hashOf s key)) = false) : Calls Tryz.prog 11 #[.agg (workC s sl t), .agg (callC op key a b)] w fun e w' => e = .returned (.bool true) ∧ Ch [] w w' := by
  have y0 : ((w.alloc (.cells (workC s sl t) 88)).alloc (.cells (callC op key a b) 68)).heap[w.heap.size + 1]? = some (.cells (callC op key a b) 68 (0, 0)) := by simp [go_sem]
  have k0 : ((w.alloc (.cells (workC s sl t) 88)).alloc (.cells (callC op key a b) 68)).heap[w.heap.size]? = some (.cells (workC s sl t) 88 (0, 0)) := by simp [go_sem]
  have C0 : Ch [] w ((w.alloc (.cells (workC s sl t) 88)).alloc (.cells (callC op key a b) 68)) := ((Ch.refl [] w).alloc _).alloc _
  have W1 := fun w => wakes19_any w
  have H1 := fun w => hashOf_any s key w
  obtain ⟨hh, hhe⟩ : ∃ h, hashOf s key = h := ⟨_, rfl⟩
  rw [hhe] at H1
  rw [hhe] at hr
  have CY := fun w => cells_yes s sl t w hok
  clear hok hhe
  have B1 : ∀ w, Calls Tryz.prog 55 #[I sl, .agg (callC op key a b), U hh] w fun e w' => e = .returned (.tuple #[.agg (penC zeroPen), I 2]) ∧ Ch [] w w' := fun w => by
    have := wBegin_any sl op key a b hh _ rfl w
    rw [show rightP ⟨0, sl, op, key, a, b, hh, 0#64, 0#64, 0#64, 0, 0#64, 0#8, 0, 0#64, 0, 0#64, false⟩ = false from hr, if_neg (by decide)] at this
    unfold callC
    skip
    exact this
  go_enter Tryz.func11, Tryz.ntmps11
  go_wp2_with fail
  obtain ⟨w0, hw0⟩ : ∃ W, (w.alloc (.cells (workC s sl t) 88)).alloc (.cells (callC op key a b) 68) = W := ⟨_, rfl⟩
  rw [hw0] at y0 k0 C0 ⊢
  clear hw0
  obtain ⟨A, hA⟩ : ∃ b, w.heap.size = b := ⟨_, rfl⟩
  rw [hA] at y0 k0 ⊢
  obtain ⟨A1, hA1⟩ : ∃ b, A + 1 = b := ⟨_, rfl⟩
  rw [hA1] at y0 ⊢
  refine (W1 _).mono ?_
  rintro e w1 ⟨rfl, hc1⟩
  have k1 := hkeep (hc1) k0
  have y1 := hkeep (hc1) y0
  have C1 := C0.trans (hc1)
  clear k0 y0 C0 hc1 
  go_wp2_with fail
  refine (CY _).mono ?_
  rintro e w2 ⟨R, rfl, -, -, hc2⟩
  have k2 := hkeep (hc2) k1
  have y2 := hkeep (hc2) y1
  have C2 := C1.trans (hc2)
  clear k1 y1 C1 hc2 
  go_wp2_with fail
  refine (H1 _).mono ?_
  rintro e w' ⟨rfl, rfl⟩
  go_wp2_with fail
  refine (B1 _).mono ?_
  rintro e w3 ⟨rfl, hc3⟩
  have k3 := hkeep (hc3) k2
  have y3 := hkeep (hc3) y2
  have C3 := C2.trans (hc3)
  clear k2 y2 C2 hc3 
  have nk : ¬ A = w3.heap.size := by have := blk_lt19 k3; omega
  have ny : ¬ A1 = w3.heap.size := by have := blk_lt19 y3; omega
  go_wp2_with fail
  clear nk ny
  have k4 := hkeep (pen_put_ch zeroPen w3) k3
  have y4 := hkeep (pen_put_ch zeroPen w3) y3
  have C4 := C3.trans (pen_put_ch zeroPen w3)
  have p4 := pen_put zeroPen w3
  have hlA8 := C3.size
  have lkA8 := blk_lt19 k3
  have lyA8 := blk_lt19 y3
  clear k3 y3 C3 
  obtain ⟨w4, hw4⟩ : ∃ W, World.onObj (w3.alloc (.cells (penC zeroPen) 71)) w3.heap.size (laidAt 0 (penC zeroPen)) = W := ⟨_, rfl⟩
  rw [hw4] at k4 y4 p4 C4  ⊢
  clear hw4
  obtain ⟨A8, hbA8⟩ : ∃ b, w3.heap.size = b := ⟨_, rfl⟩
  rw [hbA8] at p4 hlA8 lkA8 lyA8 ⊢
  clear hbA8
  go_ret
  exact ⟨rfl, C4⟩
set_option maxHeartbeats 4000000 in
set_option maxRecDepth 100000 in
theorem section_go (s : BitVec 64) (sl op : Int) (t : Tab) (key a b : BitVec 64) (w : World) (hok : workOk s sl t = true) (hr : rightP (firstP sl op key a b (hashOf s key)) = true) : Calls Tryz.prog 11 #[.agg (workC s sl t), .agg (callC op key a b)] w fun e w' => e = .returned (.bool true) ∧ Ch [] w w' := by
  obtain ⟨hm, hev, s0, s2⟩ := work_ok hok
  obtain ⟨B, hB⟩ : ∃ B : Nat, (16 + 40 * sl).toNat = B := ⟨_, rfl⟩
  have hWL := workL_is t hB
  have hBn : B + 40 ≤ 136 := by omega
  have hBI : 16 + 40 * sl + 0 = (B : Int) := by omega
  have hBlt : (B : Int) < 136 := by omega
  have hB0 : (0 : Int) ≤ B := by omega
  have hBc : B + 40 ≤ (idxL 136).length := by rw [idxL_len]; exact hBn
  have hL0' : (workL sl t).length = 136 := by rw [hWL, laidW_len t hBc, idxL_len]
  have y0 : ((w.alloc (.cells (workC s sl t) 88)).alloc (.cells (callC op key a b) 68)).heap[w.heap.size + 1]? = some (.cells (callC op key a b) 68 (0, 0)) := by simp [go_sem]
  have k0 : ((w.alloc (.cells (workC s sl t) 88)).alloc (.cells (callC op key a b) 68)).heap[w.heap.size]? = some (.cells (workC s sl t) 88 (0, 0)) := by simp [go_sem]
  have C0 : Ch [] w ((w.alloc (.cells (workC s sl t) 88)).alloc (.cells (callC op key a b) 68)) := ((Ch.refl [] w).alloc _).alloc _
  have W1 := fun w => wakes19_any w
  have H1 := fun w => hashOf_any s key w
  obtain ⟨hh, hhe⟩ : ∃ h, hashOf s key = h := ⟨_, rfl⟩
  rw [hhe] at H1
  rw [hhe] at hr
  have CY := fun w => cells_yes s sl t w hok
  have L1 := fun w => cell_ok sl 0 s0 (by omega) (by omega) (by omega) w
  rw [hBI] at L1
  obtain ⟨L0, hL0e⟩ : ∃ L, workL sl t = L := ⟨_, rfl⟩
  rw [hL0e] at hWL hL0' CY
  have hL0 : L0.length = 136 := hL0'
  obtain ⟨c0, hc0e⟩ : ∃ c, t.count = c := ⟨_, rfl⟩
  have hLB : L0[B]? = some c0 := by rw [hWL, ← hc0e]; exact (laidW_at t hBc).cnt
  rw [hc0e] at hev
  obtain ⟨first, hfe⟩ : ∃ p, firstP sl op key a b hh = p := ⟨_, rfl⟩
  have B1 : ∀ w, Calls Tryz.prog 55 #[I sl, .agg (callC op key a b), U hh] w fun e w' => e = .returned (.tuple #[.agg (penC first), I 0]) ∧ Ch [] w w' := fun w => by
    have := wBegin_any sl op key a b hh _ rfl w
    rw [show rightP ⟨0, sl, op, key, a, b, hh, 0#64, 0#64, 0#64, 0, 0#64, 0#8, 0, 0#64, 0, 0#64, false⟩ = true from hr, if_pos rfl] at this
    unfold callC
    rw [← hfe]
    exact this
  have hI0 : SecI L0 B c0 sl L0 first 0 := ⟨by rw [← hfe]; exact hr, by rw [← hfe]; rfl, rfl, .inl ⟨by rw [← hfe]; rfl, rfl, rfl⟩⟩
  have hm0 : meas2 first ≤ 30 := by rw [← hfe]; show meas2 (firstP sl op key a b hh) ≤ 30; exact Nat.le_refl 30
  have hfit : 56 + 40 * sl ≤ (L0.length : Int) := by rw [hL0]; omega
  have hod1 := odd_one hev
  have hod2 := odd_two hev
  clear hok hm hhe hWL hBc hBI hL0' hL0e hc0e hfe hr
  go_enter Tryz.func11, Tryz.ntmps11
  go_wp2_with fail
  obtain ⟨w0, hw0⟩ : ∃ W, (w.alloc (.cells (workC s sl t) 88)).alloc (.cells (callC op key a b) 68) = W := ⟨_, rfl⟩
  rw [hw0] at y0 k0 C0 ⊢
  clear hw0
  obtain ⟨A, hA⟩ : ∃ b, w.heap.size = b := ⟨_, rfl⟩
  rw [hA] at y0 k0 ⊢
  obtain ⟨A1, hA1⟩ : ∃ b, A + 1 = b := ⟨_, rfl⟩
  rw [hA1] at y0 ⊢
  refine (W1 _).mono ?_
  rintro e w1 ⟨rfl, hc1⟩
  have k1 := hkeep (hc1) k0
  have y1 := hkeep (hc1) y0
  have C1 := C0.trans (hc1)
  clear k0 y0 C0 hc1 
  go_wp2_with fail
  refine (CY _).mono ?_
  rintro e w2 ⟨R, rfl, hRw, r2, hc2⟩
  have k2 := hkeep (hc2) k1
  have y2 := hkeep (hc2) y1
  have C2 := C1.trans (hc2)
  clear k1 y1 C1 hc2 
  go_wp2_with fail
  refine (H1 _).mono ?_
  rintro e w' ⟨rfl, rfl⟩
  go_wp2_with fail
  refine (B1 _).mono ?_
  rintro e w3 ⟨rfl, hc3⟩
  have k3 := hkeep (hc3) k2
  have y3 := hkeep (hc3) y2
  have r3 := hkeep (hc3) r2
  have C3 := C2.trans (hc3)
  clear k2 y2 r2 C2 hc3 
  have nk : ¬ A = w3.heap.size := by have := blk_lt19 k3; omega
  have ny : ¬ A1 = w3.heap.size := by have := blk_lt19 y3; omega
  have nr : ¬ R = w3.heap.size := by have := blk_lt19 r3; omega
  go_wp2_with fail
  clear nk ny nr
  have k4 := hkeep (pen_put_ch first w3) k3
  have y4 := hkeep (pen_put_ch first w3) y3
  have r4 := hkeep (pen_put_ch first w3) r3
  have C4 := C3.trans (pen_put_ch first w3)
  have p4 := pen_put first w3
  have hlA8 := C3.size
  have lkA8 := blk_lt19 k3
  have lyA8 := blk_lt19 y3
  have lrA8 := blk_lt19 r3
  clear k3 y3 r3 C3 
  obtain ⟨w4, hw4⟩ : ∃ W, World.onObj (w3.alloc (.cells (penC zeroPen) 71)) w3.heap.size (laidAt 0 (penC first)) = W := ⟨_, rfl⟩
  rw [hw4] at k4 y4 r4 p4 C4  ⊢
  clear hw4
  obtain ⟨A8, hbA8⟩ : ∃ b, w3.heap.size = b := ⟨_, rfl⟩
  rw [hbA8] at p4 hlA8 lkA8 lyA8 lrA8 ⊢
  clear hbA8
  refine (L1 _).mono ?_
  rintro e w' ⟨rfl, rfl⟩
  go_wp2_with fail
  refine (clone_rows2 (l := L0) (n := 136) (by omega) (by omega) hL0 R 136 _ (wcells_at L0) _ r4).mono ?_
  rintro e w5 ⟨rd, cd, curd, rfl, hcd, hrd, hWd, o5, hc5⟩
  have k5 := hkeep (hc5) k4
  have y5 := hkeep (hc5) y4
  have r5 := hkeep (hc5) r4
  have p5 := hkeep (hc5) p4
  have C5 := C4.trans (hc5)
  clear k4 y4 r4 p4 C4 hc5 
  go_wp2
  have HR := Lib.hid r5
  have HP := Lib.hid p5
  have HO := Lib.hid o5
  have HC := Lib.hid C5
  have HI0 := Lib.hid hI0
  clear r5 p5 o5 C5 k5 y5 hI0
  go_loopw [5, 13, 54] (fun v ef i wr => ∃ (j r c : Nat) (cur : Array Value) (l : List (BitVec 64)) (q : PenT) (eff : Nat), v = .slice (some ⟨r, 0, none⟩) 136 c ∧ ef = .int .i64 eff ∧ i = .int .i64 j ∧ WordsAt cur l ∧ wr.heap[r]? = some (.cells cur 22 (0, 0)) ∧ wr.heap[A8]? = some (.cells (penC q) 71 (0, 0)) ∧ wr.heap[rd]? = some (.cells curd 22 (0, 0)) ∧ SecI L0 B c0 sl l q eff ∧ j + meas2 q ≤ 30 ∧ Ch [] w wr) (fun _ _ i _ => 40 - (intOf i).toNat)
  case atStart => exact ⟨0, R, 136, _, L0, first, 0, rfl, rfl, rfl, wcells_at L0, HR.out, HP.out, HO.out, HI0.out, by omega, HC.out⟩
  case round =>
    obtain ⟨j, r, c, cur, l, q, eff, rfl, rfl, rfl, hA0, c2, p2, o2, hI, hj30, C2⟩ := hrel
    clear HR HP HO HC HI0
    obtain ⟨w2, hw2⟩ : ∃ W, wr = W := ⟨_, rfl⟩
    rw [hw2] at c2 p2 o2 C2 ⊢
    clear hw2
    have hjI : (j : Int) < 40 := by omega
    have hrq := hI.right
    by_cases h13 : q.ph ≤ 13
    · obtain ⟨ac, z, ha, hy, hs, hI2, hm2, hkd⟩ := hI.step h13 s0 hfit hB hLB hev
      have hll : l.length = 136 := hI.len.trans hL0
      have hst := hI.st
      obtain ⟨z1, zw⟩ := z
      dsimp only at hs hI2 hm2
      obtain ⟨q2, hq2⟩ : ∃ p, takeP q zw = p := ⟨_, rfl⟩
      rw [hq2] at hs hI2 hm2
      have N1 : ∀ w, Calls Tryz.prog 57 #[.agg (penC q), .int .i64 3] w fun e w' => e = .returned (.tuple #[.agg (accC 3 ac.kind ac.at_ (N ac.new)), .bool true]) ∧ Ch [] w w' := fun w => by
        have := wNeed_any q 3 w
        rw [ha, needV] at this
        exact this
      have E1 := fun w => effect_any q hrq w
      have S1 := fun w hb => wStep_is (n := 136) (z := (z1, q2)) (by omega) (by omega) hll hrq hs r c cur hA0 w hb
      dsimp only at S1
      have heffI : (eff : Int) ≤ 1000 := by
        rcases hst with ⟨_, _, h⟩ | ⟨_, _, _, _, h⟩ | ⟨_, _, _, _, h⟩ | ⟨_, ⟨_, h⟩ | ⟨_, h⟩⟩
        · omega
        · omega
        · rw [h]; split <;> omega
        · omega
        · omega
      have heff0 : (0 : Int) ≤ eff := by omega
      obtain ⟨kd, hkde⟩ : ∃ k, ac.kind = k := ⟨_, rfl⟩
      obtain ⟨at_, hate⟩ : ∃ k, ac.at_ = k := ⟨_, rfl⟩
      obtain ⟨nw, hnwe⟩ : ∃ k, N ac.new = k := ⟨_, rfl⟩
      rw [hkde, hate] at hkd
      rw [hkde, hate, hnwe] at N1
      clear ha hy hs hq2 hkde hate hnwe hI
      by_cases h7 : 7 ≤ q.ph
      · have hlB : cur[B]? = some (U (c0 + 1#64)) := by
          rcases hst with ⟨h, _⟩ | ⟨_, h, _⟩ | ⟨_, _, _, h, _⟩ | ⟨h, _⟩
          · omega
          · omega
          · exact hA0 B _ h
          · omega
        have hrem := tmod2_64w (c0 + 1#64)
        have hbit := bit64w (c0 + 1#64)
        have hbiz := bit64zw (c0 + 1#64)
        rw [hod1] at hbit hbiz
        clear hst hkd
        cases hkn : (kd != 1)
        · cases hef : effB q
          · rw [hef] at E1 hI2
            rw [if_neg (by decide)] at hI2
            go_wp2_with fail
            refine (N1 _).mono ?_
            rintro e w3 ⟨rfl, hc3⟩
            have c3 := hkeep (hc3) c2
            have p3 := hkeep (hc3) p2
            have o3 := hkeep (hc3) o2
            have C3 := C2.trans (hc3)
            clear c2 p2 o2 C2 hc3 
            have nc : ¬ r = w3.heap.size := by have := blk_lt19 c3; omega
            have np : ¬ A8 = w3.heap.size := by have := blk_lt19 p3; omega
            have no : ¬ rd = w3.heap.size := by have := blk_lt19 o3; omega
            go_wp2_with fail
            clear nc np no
            have c4 := hkeep (accP19_ch 3 kd at_ nw w3) c3
            have p4 := hkeep (accP19_ch 3 kd at_ nw w3) p3
            have o4 := hkeep (accP19_ch 3 kd at_ nw w3) o3
            have C4 := C3.trans (accP19_ch 3 kd at_ nw w3)
            have a4 := accP19 3 kd at_ nw w3
            have hlA14 := C3.size
            have lcA14 := blk_lt19 c3
            have lpA14 := blk_lt19 p3
            have loA14 := blk_lt19 o3
            clear c3 p3 o3 C3 
            obtain ⟨w4, hw4⟩ : ∃ W, World.onObj (w3.alloc (.cells (accC 0 0 0 0) 96)) w3.heap.size (laidAt 0 (accC 3 kd at_ nw)) = W := ⟨_, rfl⟩
            rw [hw4] at c4 p4 o4 a4 C4  ⊢
            clear hw4
            obtain ⟨A14, hbA14⟩ : ∃ b, w3.heap.size = b := ⟨_, rfl⟩
            rw [hbA14] at a4 hlA14 lcA14 lpA14 loA14 ⊢
            clear hbA14
            refine (E1 _).mono ?_
            rintro e w5 ⟨rfl, hc5⟩
            have c5 := hkeep (hc5) c4
            have p5 := hkeep (hc5) p4
            have o5 := hkeep (hc5) o4
            have a5 := hkeep (hc5) a4
            have C5 := C4.trans (hc5)
            clear c4 p4 o4 a4 C4 hc5 
            go_wp2_with fail
            refine (S1 _ c5).mono ?_
            rintro e w6 ⟨R2, rfl, hyl, hR2, m6, hc6⟩
            have c6 := hkeep (hc6) c5
            have p6 := hkeep (hc6) p5
            have o6 := hkeep (hc6) o5
            have a6 := hkeep (hc6) a5
            have C6 := C5.trans (hc6)
            clear c5 p5 o5 a5 C5 hc6 
            go_upto_region 23 with (fail)
            have hA8w : w.heap.size ≤ A8 := hlA8
            have c7 := (onObj_other (w := w6) (F := A8) (laidAt 0 (penC q2)) (block_ne c6 p6 (by decide))).trans c6
            have p7 : (World.onObj w6 A8 (laidAt 0 (penC q2))).heap[A8]? = some (.cells (penC q2) 71 (0, 0)) := by rw [heap_onObj, if_pos rfl, p6, Option.map_some, wlaidAt_pen]
            have o7 := (onObj_other (w := w6) (F := A8) (laidAt 0 (penC q2)) (block_ne o6 p6 (by decide))).trans o6
            have a7 := (onObj_other (w := w6) (F := A8) (laidAt 0 (penC q2)) (block_ne a6 p6 (by decide))).trans a6
            have m7 := (onObj_other (w := w6) (F := A8) (laidAt 0 (penC q2)) (block_ne m6 p6 (by decide))).trans m6
            have C7 : Ch [] w (World.onObj w6 A8 (laidAt 0 (penC q2))) := C6.onObj (.inr (by omega)) _
            clear c6 p6 o6 a6 m6 C6 
            obtain ⟨w7, hw7⟩ : ∃ W, (World.onObj w6 A8 (laidAt 0 (penC q2))) = W := ⟨_, rfl⟩
            rw [hw7] at c7 p7 o7 a7 m7 C7  ⊢
            clear hw7
            go_wp2
            go_roundw
            case rel => exact ⟨j + 1, R2, 136, wcells z1, z1, q2, eff + 0, rfl, by go_num, by go_num, wcells_at z1, m7, p7, o7, hI2, by omega, C7⟩
            case measure => simp [intOf]; omega
          · rw [hef] at E1 hI2
            rw [if_pos rfl] at hI2
            go_wp2_with fail
            refine (N1 _).mono ?_
            rintro e w3 ⟨rfl, hc3⟩
            have c3 := hkeep (hc3) c2
            have p3 := hkeep (hc3) p2
            have o3 := hkeep (hc3) o2
            have C3 := C2.trans (hc3)
            clear c2 p2 o2 C2 hc3 
            have nc : ¬ r = w3.heap.size := by have := blk_lt19 c3; omega
            have np : ¬ A8 = w3.heap.size := by have := blk_lt19 p3; omega
            have no : ¬ rd = w3.heap.size := by have := blk_lt19 o3; omega
            go_wp2_with fail
            clear nc np no
            have c4 := hkeep (accP19_ch 3 kd at_ nw w3) c3
            have p4 := hkeep (accP19_ch 3 kd at_ nw w3) p3
            have o4 := hkeep (accP19_ch 3 kd at_ nw w3) o3
            have C4 := C3.trans (accP19_ch 3 kd at_ nw w3)
            have a4 := accP19 3 kd at_ nw w3
            have hlA14 := C3.size
            have lcA14 := blk_lt19 c3
            have lpA14 := blk_lt19 p3
            have loA14 := blk_lt19 o3
            clear c3 p3 o3 C3 
            obtain ⟨w4, hw4⟩ : ∃ W, World.onObj (w3.alloc (.cells (accC 0 0 0 0) 96)) w3.heap.size (laidAt 0 (accC 3 kd at_ nw)) = W := ⟨_, rfl⟩
            rw [hw4] at c4 p4 o4 a4 C4  ⊢
            clear hw4
            obtain ⟨A14, hbA14⟩ : ∃ b, w3.heap.size = b := ⟨_, rfl⟩
            rw [hbA14] at a4 hlA14 lcA14 lpA14 loA14 ⊢
            clear hbA14
            refine (E1 _).mono ?_
            rintro e w5 ⟨rfl, hc5⟩
            have c5 := hkeep (hc5) c4
            have p5 := hkeep (hc5) p4
            have o5 := hkeep (hc5) o4
            have a5 := hkeep (hc5) a4
            have C5 := C4.trans (hc5)
            clear c4 p4 o4 a4 C4 hc5 
            go_wp2_with fail
            refine (S1 _ c5).mono ?_
            rintro e w6 ⟨R2, rfl, hyl, hR2, m6, hc6⟩
            have c6 := hkeep (hc6) c5
            have p6 := hkeep (hc6) p5
            have o6 := hkeep (hc6) o5
            have a6 := hkeep (hc6) a5
            have C6 := C5.trans (hc6)
            clear c5 p5 o5 a5 C5 hc6 
            go_upto_region 23 with (fail)
            have hA8w : w.heap.size ≤ A8 := hlA8
            have c7 := (onObj_other (w := w6) (F := A8) (laidAt 0 (penC q2)) (block_ne c6 p6 (by decide))).trans c6
            have p7 : (World.onObj w6 A8 (laidAt 0 (penC q2))).heap[A8]? = some (.cells (penC q2) 71 (0, 0)) := by rw [heap_onObj, if_pos rfl, p6, Option.map_some, wlaidAt_pen]
            have o7 := (onObj_other (w := w6) (F := A8) (laidAt 0 (penC q2)) (block_ne o6 p6 (by decide))).trans o6
            have a7 := (onObj_other (w := w6) (F := A8) (laidAt 0 (penC q2)) (block_ne a6 p6 (by decide))).trans a6
            have m7 := (onObj_other (w := w6) (F := A8) (laidAt 0 (penC q2)) (block_ne m6 p6 (by decide))).trans m6
            have C7 : Ch [] w (World.onObj w6 A8 (laidAt 0 (penC q2))) := C6.onObj (.inr (by omega)) _
            clear c6 p6 o6 a6 m6 C6 
            obtain ⟨w7, hw7⟩ : ∃ W, (World.onObj w6 A8 (laidAt 0 (penC q2))) = W := ⟨_, rfl⟩
            rw [hw7] at c7 p7 o7 a7 m7 C7  ⊢
            clear hw7
            go_wp2
            go_roundw
            case rel => exact ⟨j + 1, R2, 136, wcells z1, z1, q2, eff + 1, rfl, by go_num, by go_num, wcells_at z1, m7, p7, o7, hI2, by omega, C7⟩
            case measure => simp [intOf]; omega
        · cases hat : (at_ != (B : Int))
          · cases hef : effB q
            · rw [hef] at E1 hI2
              rw [if_neg (by decide)] at hI2
              go_wp2_with fail
              refine (N1 _).mono ?_
              rintro e w3 ⟨rfl, hc3⟩
              have c3 := hkeep (hc3) c2
              have p3 := hkeep (hc3) p2
              have o3 := hkeep (hc3) o2
              have C3 := C2.trans (hc3)
              clear c2 p2 o2 C2 hc3 
              have nc : ¬ r = w3.heap.size := by have := blk_lt19 c3; omega
              have np : ¬ A8 = w3.heap.size := by have := blk_lt19 p3; omega
              have no : ¬ rd = w3.heap.size := by have := blk_lt19 o3; omega
              go_wp2_with fail
              clear nc np no
              have c4 := hkeep (accP19_ch 3 kd at_ nw w3) c3
              have p4 := hkeep (accP19_ch 3 kd at_ nw w3) p3
              have o4 := hkeep (accP19_ch 3 kd at_ nw w3) o3
              have C4 := C3.trans (accP19_ch 3 kd at_ nw w3)
              have a4 := accP19 3 kd at_ nw w3
              have hlA14 := C3.size
              have lcA14 := blk_lt19 c3
              have lpA14 := blk_lt19 p3
              have loA14 := blk_lt19 o3
              clear c3 p3 o3 C3 
              obtain ⟨w4, hw4⟩ : ∃ W, World.onObj (w3.alloc (.cells (accC 0 0 0 0) 96)) w3.heap.size (laidAt 0 (accC 3 kd at_ nw)) = W := ⟨_, rfl⟩
              rw [hw4] at c4 p4 o4 a4 C4  ⊢
              clear hw4
              obtain ⟨A14, hbA14⟩ : ∃ b, w3.heap.size = b := ⟨_, rfl⟩
              rw [hbA14] at a4 hlA14 lcA14 lpA14 loA14 ⊢
              clear hbA14
              refine (E1 _).mono ?_
              rintro e w5 ⟨rfl, hc5⟩
              have c5 := hkeep (hc5) c4
              have p5 := hkeep (hc5) p4
              have o5 := hkeep (hc5) o4
              have a5 := hkeep (hc5) a4
              have C5 := C4.trans (hc5)
              clear c4 p4 o4 a4 C4 hc5 
              go_wp2_with fail
              refine (S1 _ c5).mono ?_
              rintro e w6 ⟨R2, rfl, hyl, hR2, m6, hc6⟩
              have c6 := hkeep (hc6) c5
              have p6 := hkeep (hc6) p5
              have o6 := hkeep (hc6) o5
              have a6 := hkeep (hc6) a5
              have C6 := C5.trans (hc6)
              clear c5 p5 o5 a5 C5 hc6 
              go_upto_region 23 with (fail)
              have hA8w : w.heap.size ≤ A8 := hlA8
              have c7 := (onObj_other (w := w6) (F := A8) (laidAt 0 (penC q2)) (block_ne c6 p6 (by decide))).trans c6
              have p7 : (World.onObj w6 A8 (laidAt 0 (penC q2))).heap[A8]? = some (.cells (penC q2) 71 (0, 0)) := by rw [heap_onObj, if_pos rfl, p6, Option.map_some, wlaidAt_pen]
              have o7 := (onObj_other (w := w6) (F := A8) (laidAt 0 (penC q2)) (block_ne o6 p6 (by decide))).trans o6
              have a7 := (onObj_other (w := w6) (F := A8) (laidAt 0 (penC q2)) (block_ne a6 p6 (by decide))).trans a6
              have m7 := (onObj_other (w := w6) (F := A8) (laidAt 0 (penC q2)) (block_ne m6 p6 (by decide))).trans m6
              have C7 : Ch [] w (World.onObj w6 A8 (laidAt 0 (penC q2))) := C6.onObj (.inr (by omega)) _
              clear c6 p6 o6 a6 m6 C6 
              obtain ⟨w7, hw7⟩ : ∃ W, (World.onObj w6 A8 (laidAt 0 (penC q2))) = W := ⟨_, rfl⟩
              rw [hw7] at c7 p7 o7 a7 m7 C7  ⊢
              clear hw7
              go_wp2
              go_roundw
              case rel => exact ⟨j + 1, R2, 136, wcells z1, z1, q2, eff + 0, rfl, by go_num, by go_num, wcells_at z1, m7, p7, o7, hI2, by omega, C7⟩
              case measure => simp [intOf]; omega
            · rw [hef] at E1 hI2
              rw [if_pos rfl] at hI2
              go_wp2_with fail
              refine (N1 _).mono ?_
              rintro e w3 ⟨rfl, hc3⟩
              have c3 := hkeep (hc3) c2
              have p3 := hkeep (hc3) p2
              have o3 := hkeep (hc3) o2
              have C3 := C2.trans (hc3)
              clear c2 p2 o2 C2 hc3 
              have nc : ¬ r = w3.heap.size := by have := blk_lt19 c3; omega
              have np : ¬ A8 = w3.heap.size := by have := blk_lt19 p3; omega
              have no : ¬ rd = w3.heap.size := by have := blk_lt19 o3; omega
              go_wp2_with fail
              clear nc np no
              have c4 := hkeep (accP19_ch 3 kd at_ nw w3) c3
              have p4 := hkeep (accP19_ch 3 kd at_ nw w3) p3
              have o4 := hkeep (accP19_ch 3 kd at_ nw w3) o3
              have C4 := C3.trans (accP19_ch 3 kd at_ nw w3)
              have a4 := accP19 3 kd at_ nw w3
              have hlA14 := C3.size
              have lcA14 := blk_lt19 c3
              have lpA14 := blk_lt19 p3
              have loA14 := blk_lt19 o3
              clear c3 p3 o3 C3 
              obtain ⟨w4, hw4⟩ : ∃ W, World.onObj (w3.alloc (.cells (accC 0 0 0 0) 96)) w3.heap.size (laidAt 0 (accC 3 kd at_ nw)) = W := ⟨_, rfl⟩
              rw [hw4] at c4 p4 o4 a4 C4  ⊢
              clear hw4
              obtain ⟨A14, hbA14⟩ : ∃ b, w3.heap.size = b := ⟨_, rfl⟩
              rw [hbA14] at a4 hlA14 lcA14 lpA14 loA14 ⊢
              clear hbA14
              refine (E1 _).mono ?_
              rintro e w5 ⟨rfl, hc5⟩
              have c5 := hkeep (hc5) c4
              have p5 := hkeep (hc5) p4
              have o5 := hkeep (hc5) o4
              have a5 := hkeep (hc5) a4
              have C5 := C4.trans (hc5)
              clear c4 p4 o4 a4 C4 hc5 
              go_wp2_with fail
              refine (S1 _ c5).mono ?_
              rintro e w6 ⟨R2, rfl, hyl, hR2, m6, hc6⟩
              have c6 := hkeep (hc6) c5
              have p6 := hkeep (hc6) p5
              have o6 := hkeep (hc6) o5
              have a6 := hkeep (hc6) a5
              have C6 := C5.trans (hc6)
              clear c5 p5 o5 a5 C5 hc6 
              go_upto_region 23 with (fail)
              have hA8w : w.heap.size ≤ A8 := hlA8
              have c7 := (onObj_other (w := w6) (F := A8) (laidAt 0 (penC q2)) (block_ne c6 p6 (by decide))).trans c6
              have p7 : (World.onObj w6 A8 (laidAt 0 (penC q2))).heap[A8]? = some (.cells (penC q2) 71 (0, 0)) := by rw [heap_onObj, if_pos rfl, p6, Option.map_some, wlaidAt_pen]
              have o7 := (onObj_other (w := w6) (F := A8) (laidAt 0 (penC q2)) (block_ne o6 p6 (by decide))).trans o6
              have a7 := (onObj_other (w := w6) (F := A8) (laidAt 0 (penC q2)) (block_ne a6 p6 (by decide))).trans a6
              have m7 := (onObj_other (w := w6) (F := A8) (laidAt 0 (penC q2)) (block_ne m6 p6 (by decide))).trans m6
              have C7 : Ch [] w (World.onObj w6 A8 (laidAt 0 (penC q2))) := C6.onObj (.inr (by omega)) _
              clear c6 p6 o6 a6 m6 C6 
              obtain ⟨w7, hw7⟩ : ∃ W, (World.onObj w6 A8 (laidAt 0 (penC q2))) = W := ⟨_, rfl⟩
              rw [hw7] at c7 p7 o7 a7 m7 C7  ⊢
              clear hw7
              go_wp2
              go_roundw
              case rel => exact ⟨j + 1, R2, 136, wcells z1, z1, q2, eff + 1, rfl, by go_num, by go_num, wcells_at z1, m7, p7, o7, hI2, by omega, C7⟩
              case measure => simp [intOf]; omega
          · cases hef : effB q
            · rw [hef] at E1 hI2
              rw [if_neg (by decide)] at hI2
              go_wp2_with fail
              refine (N1 _).mono ?_
              rintro e w3 ⟨rfl, hc3⟩
              have c3 := hkeep (hc3) c2
              have p3 := hkeep (hc3) p2
              have o3 := hkeep (hc3) o2
              have C3 := C2.trans (hc3)
              clear c2 p2 o2 C2 hc3 
              have nc : ¬ r = w3.heap.size := by have := blk_lt19 c3; omega
              have np : ¬ A8 = w3.heap.size := by have := blk_lt19 p3; omega
              have no : ¬ rd = w3.heap.size := by have := blk_lt19 o3; omega
              go_wp2_with fail
              clear nc np no
              have c4 := hkeep (accP19_ch 3 kd at_ nw w3) c3
              have p4 := hkeep (accP19_ch 3 kd at_ nw w3) p3
              have o4 := hkeep (accP19_ch 3 kd at_ nw w3) o3
              have C4 := C3.trans (accP19_ch 3 kd at_ nw w3)
              have a4 := accP19 3 kd at_ nw w3
              have hlA14 := C3.size
              have lcA14 := blk_lt19 c3
              have lpA14 := blk_lt19 p3
              have loA14 := blk_lt19 o3
              clear c3 p3 o3 C3 
              obtain ⟨w4, hw4⟩ : ∃ W, World.onObj (w3.alloc (.cells (accC 0 0 0 0) 96)) w3.heap.size (laidAt 0 (accC 3 kd at_ nw)) = W := ⟨_, rfl⟩
              rw [hw4] at c4 p4 o4 a4 C4  ⊢
              clear hw4
              obtain ⟨A14, hbA14⟩ : ∃ b, w3.heap.size = b := ⟨_, rfl⟩
              rw [hbA14] at a4 hlA14 lcA14 lpA14 loA14 ⊢
              clear hbA14
              refine (E1 _).mono ?_
              rintro e w5 ⟨rfl, hc5⟩
              have c5 := hkeep (hc5) c4
              have p5 := hkeep (hc5) p4
              have o5 := hkeep (hc5) o4
              have a5 := hkeep (hc5) a4
              have C5 := C4.trans (hc5)
              clear c4 p4 o4 a4 C4 hc5 
              go_wp2_with fail
              refine (S1 _ c5).mono ?_
              rintro e w6 ⟨R2, rfl, hyl, hR2, m6, hc6⟩
              have c6 := hkeep (hc6) c5
              have p6 := hkeep (hc6) p5
              have o6 := hkeep (hc6) o5
              have a6 := hkeep (hc6) a5
              have C6 := C5.trans (hc6)
              clear c5 p5 o5 a5 C5 hc6 
              go_upto_region 23 with (fail)
              have hA8w : w.heap.size ≤ A8 := hlA8
              have c7 := (onObj_other (w := w6) (F := A8) (laidAt 0 (penC q2)) (block_ne c6 p6 (by decide))).trans c6
              have p7 : (World.onObj w6 A8 (laidAt 0 (penC q2))).heap[A8]? = some (.cells (penC q2) 71 (0, 0)) := by rw [heap_onObj, if_pos rfl, p6, Option.map_some, wlaidAt_pen]
              have o7 := (onObj_other (w := w6) (F := A8) (laidAt 0 (penC q2)) (block_ne o6 p6 (by decide))).trans o6
              have a7 := (onObj_other (w := w6) (F := A8) (laidAt 0 (penC q2)) (block_ne a6 p6 (by decide))).trans a6
              have m7 := (onObj_other (w := w6) (F := A8) (laidAt 0 (penC q2)) (block_ne m6 p6 (by decide))).trans m6
              have C7 : Ch [] w (World.onObj w6 A8 (laidAt 0 (penC q2))) := C6.onObj (.inr (by omega)) _
              clear c6 p6 o6 a6 m6 C6 
              obtain ⟨w7, hw7⟩ : ∃ W, (World.onObj w6 A8 (laidAt 0 (penC q2))) = W := ⟨_, rfl⟩
              rw [hw7] at c7 p7 o7 a7 m7 C7  ⊢
              clear hw7
              go_wp2
              go_roundw
              case rel => exact ⟨j + 1, R2, 136, wcells z1, z1, q2, eff + 0, rfl, by go_num, by go_num, wcells_at z1, m7, p7, o7, hI2, by omega, C7⟩
              case measure => simp [intOf]; omega
            · rw [hef] at E1 hI2
              rw [if_pos rfl] at hI2
              go_wp2_with fail
              refine (N1 _).mono ?_
              rintro e w3 ⟨rfl, hc3⟩
              have c3 := hkeep (hc3) c2
              have p3 := hkeep (hc3) p2
              have o3 := hkeep (hc3) o2
              have C3 := C2.trans (hc3)
              clear c2 p2 o2 C2 hc3 
              have nc : ¬ r = w3.heap.size := by have := blk_lt19 c3; omega
              have np : ¬ A8 = w3.heap.size := by have := blk_lt19 p3; omega
              have no : ¬ rd = w3.heap.size := by have := blk_lt19 o3; omega
              go_wp2_with fail
              clear nc np no
              have c4 := hkeep (accP19_ch 3 kd at_ nw w3) c3
              have p4 := hkeep (accP19_ch 3 kd at_ nw w3) p3
              have o4 := hkeep (accP19_ch 3 kd at_ nw w3) o3
              have C4 := C3.trans (accP19_ch 3 kd at_ nw w3)
              have a4 := accP19 3 kd at_ nw w3
              have hlA14 := C3.size
              have lcA14 := blk_lt19 c3
              have lpA14 := blk_lt19 p3
              have loA14 := blk_lt19 o3
              clear c3 p3 o3 C3 
              obtain ⟨w4, hw4⟩ : ∃ W, World.onObj (w3.alloc (.cells (accC 0 0 0 0) 96)) w3.heap.size (laidAt 0 (accC 3 kd at_ nw)) = W := ⟨_, rfl⟩
              rw [hw4] at c4 p4 o4 a4 C4  ⊢
              clear hw4
              obtain ⟨A14, hbA14⟩ : ∃ b, w3.heap.size = b := ⟨_, rfl⟩
              rw [hbA14] at a4 hlA14 lcA14 lpA14 loA14 ⊢
              clear hbA14
              refine (E1 _).mono ?_
              rintro e w5 ⟨rfl, hc5⟩
              have c5 := hkeep (hc5) c4
              have p5 := hkeep (hc5) p4
              have o5 := hkeep (hc5) o4
              have a5 := hkeep (hc5) a4
              have C5 := C4.trans (hc5)
              clear c4 p4 o4 a4 C4 hc5 
              go_wp2_with fail
              refine (S1 _ c5).mono ?_
              rintro e w6 ⟨R2, rfl, hyl, hR2, m6, hc6⟩
              have c6 := hkeep (hc6) c5
              have p6 := hkeep (hc6) p5
              have o6 := hkeep (hc6) o5
              have a6 := hkeep (hc6) a5
              have C6 := C5.trans (hc6)
              clear c5 p5 o5 a5 C5 hc6 
              go_upto_region 23 with (fail)
              have hA8w : w.heap.size ≤ A8 := hlA8
              have c7 := (onObj_other (w := w6) (F := A8) (laidAt 0 (penC q2)) (block_ne c6 p6 (by decide))).trans c6
              have p7 : (World.onObj w6 A8 (laidAt 0 (penC q2))).heap[A8]? = some (.cells (penC q2) 71 (0, 0)) := by rw [heap_onObj, if_pos rfl, p6, Option.map_some, wlaidAt_pen]
              have o7 := (onObj_other (w := w6) (F := A8) (laidAt 0 (penC q2)) (block_ne o6 p6 (by decide))).trans o6
              have a7 := (onObj_other (w := w6) (F := A8) (laidAt 0 (penC q2)) (block_ne a6 p6 (by decide))).trans a6
              have m7 := (onObj_other (w := w6) (F := A8) (laidAt 0 (penC q2)) (block_ne m6 p6 (by decide))).trans m6
              have C7 : Ch [] w (World.onObj w6 A8 (laidAt 0 (penC q2))) := C6.onObj (.inr (by omega)) _
              clear c6 p6 o6 a6 m6 C6 
              obtain ⟨w7, hw7⟩ : ∃ W, (World.onObj w6 A8 (laidAt 0 (penC q2))) = W := ⟨_, rfl⟩
              rw [hw7] at c7 p7 o7 a7 m7 C7  ⊢
              clear hw7
              go_wp2
              go_roundw
              case rel => exact ⟨j + 1, R2, 136, wcells z1, z1, q2, eff + 1, rfl, by go_num, by go_num, wcells_at z1, m7, p7, o7, hI2, by omega, C7⟩
              case measure => simp [intOf]; omega
      · have hlB : cur[B]? = some (U c0) := by
          rcases hst with ⟨_, rfl, _⟩ | ⟨_, _, _, rfl, _⟩ | ⟨h, _⟩ | ⟨h, _⟩
          · exact hA0 B _ hLB
          · exact hA0 B _ hLB
          · omega
          · omega
        have hef : effB q = false := by unfold effB; simp; omega
        rw [hef] at E1 hI2
        rw [if_neg (by decide)] at hI2
        have hrem := tmod2_64w c0
        have hbit := bit64w c0
        have hbiz := bit64zw c0
        rw [hev] at hbit hbiz
        clear hst hef
        rcases hkd with hx | hx | hx
        · have hkn : (kd != 1) = false := by simpa using hx
          clear hx
          go_wp2_with fail
          refine (N1 _).mono ?_
          rintro e w3 ⟨rfl, hc3⟩
          have c3 := hkeep (hc3) c2
          have p3 := hkeep (hc3) p2
          have o3 := hkeep (hc3) o2
          have C3 := C2.trans (hc3)
          clear c2 p2 o2 C2 hc3 
          have nc : ¬ r = w3.heap.size := by have := blk_lt19 c3; omega
          have np : ¬ A8 = w3.heap.size := by have := blk_lt19 p3; omega
          have no : ¬ rd = w3.heap.size := by have := blk_lt19 o3; omega
          go_wp2_with fail
          clear nc np no
          have c4 := hkeep (accP19_ch 3 kd at_ nw w3) c3
          have p4 := hkeep (accP19_ch 3 kd at_ nw w3) p3
          have o4 := hkeep (accP19_ch 3 kd at_ nw w3) o3
          have C4 := C3.trans (accP19_ch 3 kd at_ nw w3)
          have a4 := accP19 3 kd at_ nw w3
          have hlA14 := C3.size
          have lcA14 := blk_lt19 c3
          have lpA14 := blk_lt19 p3
          have loA14 := blk_lt19 o3
          clear c3 p3 o3 C3 
          obtain ⟨w4, hw4⟩ : ∃ W, World.onObj (w3.alloc (.cells (accC 0 0 0 0) 96)) w3.heap.size (laidAt 0 (accC 3 kd at_ nw)) = W := ⟨_, rfl⟩
          rw [hw4] at c4 p4 o4 a4 C4  ⊢
          clear hw4
          obtain ⟨A14, hbA14⟩ : ∃ b, w3.heap.size = b := ⟨_, rfl⟩
          rw [hbA14] at a4 hlA14 lcA14 lpA14 loA14 ⊢
          clear hbA14
          refine (E1 _).mono ?_
          rintro e w5 ⟨rfl, hc5⟩
          have c5 := hkeep (hc5) c4
          have p5 := hkeep (hc5) p4
          have o5 := hkeep (hc5) o4
          have a5 := hkeep (hc5) a4
          have C5 := C4.trans (hc5)
          clear c4 p4 o4 a4 C4 hc5 
          go_wp2_with fail
          refine (S1 _ c5).mono ?_
          rintro e w6 ⟨R2, rfl, hyl, hR2, m6, hc6⟩
          have c6 := hkeep (hc6) c5
          have p6 := hkeep (hc6) p5
          have o6 := hkeep (hc6) o5
          have a6 := hkeep (hc6) a5
          have C6 := C5.trans (hc6)
          clear c5 p5 o5 a5 C5 hc6 
          go_upto_region 23 with (fail)
          have hA8w : w.heap.size ≤ A8 := hlA8
          have c7 := (onObj_other (w := w6) (F := A8) (laidAt 0 (penC q2)) (block_ne c6 p6 (by decide))).trans c6
          have p7 : (World.onObj w6 A8 (laidAt 0 (penC q2))).heap[A8]? = some (.cells (penC q2) 71 (0, 0)) := by rw [heap_onObj, if_pos rfl, p6, Option.map_some, wlaidAt_pen]
          have o7 := (onObj_other (w := w6) (F := A8) (laidAt 0 (penC q2)) (block_ne o6 p6 (by decide))).trans o6
          have a7 := (onObj_other (w := w6) (F := A8) (laidAt 0 (penC q2)) (block_ne a6 p6 (by decide))).trans a6
          have m7 := (onObj_other (w := w6) (F := A8) (laidAt 0 (penC q2)) (block_ne m6 p6 (by decide))).trans m6
          have C7 : Ch [] w (World.onObj w6 A8 (laidAt 0 (penC q2))) := C6.onObj (.inr (by omega)) _
          clear c6 p6 o6 a6 m6 C6 
          obtain ⟨w7, hw7⟩ : ∃ W, (World.onObj w6 A8 (laidAt 0 (penC q2))) = W := ⟨_, rfl⟩
          rw [hw7] at c7 p7 o7 a7 m7 C7  ⊢
          clear hw7
          go_wp2
          go_roundw
          case rel => exact ⟨j + 1, R2, 136, wcells z1, z1, q2, eff + 0, rfl, by go_num, by go_num, wcells_at z1, m7, p7, o7, hI2, by omega, C7⟩
          case measure => simp [intOf]; omega
        · have hat : (at_ != (B : Int)) = false := by simpa using hx
          clear hx
          cases hkn : (kd != 1)
          · go_wp2_with fail
            refine (N1 _).mono ?_
            rintro e w3 ⟨rfl, hc3⟩
            have c3 := hkeep (hc3) c2
            have p3 := hkeep (hc3) p2
            have o3 := hkeep (hc3) o2
            have C3 := C2.trans (hc3)
            clear c2 p2 o2 C2 hc3 
            have nc : ¬ r = w3.heap.size := by have := blk_lt19 c3; omega
            have np : ¬ A8 = w3.heap.size := by have := blk_lt19 p3; omega
            have no : ¬ rd = w3.heap.size := by have := blk_lt19 o3; omega
            go_wp2_with fail
            clear nc np no
            have c4 := hkeep (accP19_ch 3 kd at_ nw w3) c3
            have p4 := hkeep (accP19_ch 3 kd at_ nw w3) p3
            have o4 := hkeep (accP19_ch 3 kd at_ nw w3) o3
            have C4 := C3.trans (accP19_ch 3 kd at_ nw w3)
            have a4 := accP19 3 kd at_ nw w3
            have hlA14 := C3.size
            have lcA14 := blk_lt19 c3
            have lpA14 := blk_lt19 p3
            have loA14 := blk_lt19 o3
            clear c3 p3 o3 C3 
            obtain ⟨w4, hw4⟩ : ∃ W, World.onObj (w3.alloc (.cells (accC 0 0 0 0) 96)) w3.heap.size (laidAt 0 (accC 3 kd at_ nw)) = W := ⟨_, rfl⟩
            rw [hw4] at c4 p4 o4 a4 C4  ⊢
            clear hw4
            obtain ⟨A14, hbA14⟩ : ∃ b, w3.heap.size = b := ⟨_, rfl⟩
            rw [hbA14] at a4 hlA14 lcA14 lpA14 loA14 ⊢
            clear hbA14
            refine (E1 _).mono ?_
            rintro e w5 ⟨rfl, hc5⟩
            have c5 := hkeep (hc5) c4
            have p5 := hkeep (hc5) p4
            have o5 := hkeep (hc5) o4
            have a5 := hkeep (hc5) a4
            have C5 := C4.trans (hc5)
            clear c4 p4 o4 a4 C4 hc5 
            go_wp2_with fail
            refine (S1 _ c5).mono ?_
            rintro e w6 ⟨R2, rfl, hyl, hR2, m6, hc6⟩
            have c6 := hkeep (hc6) c5
            have p6 := hkeep (hc6) p5
            have o6 := hkeep (hc6) o5
            have a6 := hkeep (hc6) a5
            have C6 := C5.trans (hc6)
            clear c5 p5 o5 a5 C5 hc6 
            go_upto_region 23 with (fail)
            have hA8w : w.heap.size ≤ A8 := hlA8
            have c7 := (onObj_other (w := w6) (F := A8) (laidAt 0 (penC q2)) (block_ne c6 p6 (by decide))).trans c6
            have p7 : (World.onObj w6 A8 (laidAt 0 (penC q2))).heap[A8]? = some (.cells (penC q2) 71 (0, 0)) := by rw [heap_onObj, if_pos rfl, p6, Option.map_some, wlaidAt_pen]
            have o7 := (onObj_other (w := w6) (F := A8) (laidAt 0 (penC q2)) (block_ne o6 p6 (by decide))).trans o6
            have a7 := (onObj_other (w := w6) (F := A8) (laidAt 0 (penC q2)) (block_ne a6 p6 (by decide))).trans a6
            have m7 := (onObj_other (w := w6) (F := A8) (laidAt 0 (penC q2)) (block_ne m6 p6 (by decide))).trans m6
            have C7 : Ch [] w (World.onObj w6 A8 (laidAt 0 (penC q2))) := C6.onObj (.inr (by omega)) _
            clear c6 p6 o6 a6 m6 C6 
            obtain ⟨w7, hw7⟩ : ∃ W, (World.onObj w6 A8 (laidAt 0 (penC q2))) = W := ⟨_, rfl⟩
            rw [hw7] at c7 p7 o7 a7 m7 C7  ⊢
            clear hw7
            go_wp2
            go_roundw
            case rel => exact ⟨j + 1, R2, 136, wcells z1, z1, q2, eff + 0, rfl, by go_num, by go_num, wcells_at z1, m7, p7, o7, hI2, by omega, C7⟩
            case measure => simp [intOf]; omega
          · go_wp2_with fail
            refine (N1 _).mono ?_
            rintro e w3 ⟨rfl, hc3⟩
            have c3 := hkeep (hc3) c2
            have p3 := hkeep (hc3) p2
            have o3 := hkeep (hc3) o2
            have C3 := C2.trans (hc3)
            clear c2 p2 o2 C2 hc3 
            have nc : ¬ r = w3.heap.size := by have := blk_lt19 c3; omega
            have np : ¬ A8 = w3.heap.size := by have := blk_lt19 p3; omega
            have no : ¬ rd = w3.heap.size := by have := blk_lt19 o3; omega
            go_wp2_with fail
            clear nc np no
            have c4 := hkeep (accP19_ch 3 kd at_ nw w3) c3
            have p4 := hkeep (accP19_ch 3 kd at_ nw w3) p3
            have o4 := hkeep (accP19_ch 3 kd at_ nw w3) o3
            have C4 := C3.trans (accP19_ch 3 kd at_ nw w3)
            have a4 := accP19 3 kd at_ nw w3
            have hlA14 := C3.size
            have lcA14 := blk_lt19 c3
            have lpA14 := blk_lt19 p3
            have loA14 := blk_lt19 o3
            clear c3 p3 o3 C3 
            obtain ⟨w4, hw4⟩ : ∃ W, World.onObj (w3.alloc (.cells (accC 0 0 0 0) 96)) w3.heap.size (laidAt 0 (accC 3 kd at_ nw)) = W := ⟨_, rfl⟩
            rw [hw4] at c4 p4 o4 a4 C4  ⊢
            clear hw4
            obtain ⟨A14, hbA14⟩ : ∃ b, w3.heap.size = b := ⟨_, rfl⟩
            rw [hbA14] at a4 hlA14 lcA14 lpA14 loA14 ⊢
            clear hbA14
            refine (E1 _).mono ?_
            rintro e w5 ⟨rfl, hc5⟩
            have c5 := hkeep (hc5) c4
            have p5 := hkeep (hc5) p4
            have o5 := hkeep (hc5) o4
            have a5 := hkeep (hc5) a4
            have C5 := C4.trans (hc5)
            clear c4 p4 o4 a4 C4 hc5 
            go_wp2_with fail
            refine (S1 _ c5).mono ?_
            rintro e w6 ⟨R2, rfl, hyl, hR2, m6, hc6⟩
            have c6 := hkeep (hc6) c5
            have p6 := hkeep (hc6) p5
            have o6 := hkeep (hc6) o5
            have a6 := hkeep (hc6) a5
            have C6 := C5.trans (hc6)
            clear c5 p5 o5 a5 C5 hc6 
            go_upto_region 23 with (fail)
            have hA8w : w.heap.size ≤ A8 := hlA8
            have c7 := (onObj_other (w := w6) (F := A8) (laidAt 0 (penC q2)) (block_ne c6 p6 (by decide))).trans c6
            have p7 : (World.onObj w6 A8 (laidAt 0 (penC q2))).heap[A8]? = some (.cells (penC q2) 71 (0, 0)) := by rw [heap_onObj, if_pos rfl, p6, Option.map_some, wlaidAt_pen]
            have o7 := (onObj_other (w := w6) (F := A8) (laidAt 0 (penC q2)) (block_ne o6 p6 (by decide))).trans o6
            have a7 := (onObj_other (w := w6) (F := A8) (laidAt 0 (penC q2)) (block_ne a6 p6 (by decide))).trans a6
            have m7 := (onObj_other (w := w6) (F := A8) (laidAt 0 (penC q2)) (block_ne m6 p6 (by decide))).trans m6
            have C7 : Ch [] w (World.onObj w6 A8 (laidAt 0 (penC q2))) := C6.onObj (.inr (by omega)) _
            clear c6 p6 o6 a6 m6 C6 
            obtain ⟨w7, hw7⟩ : ∃ W, (World.onObj w6 A8 (laidAt 0 (penC q2))) = W := ⟨_, rfl⟩
            rw [hw7] at c7 p7 o7 a7 m7 C7  ⊢
            clear hw7
            go_wp2
            go_roundw
            case rel => exact ⟨j + 1, R2, 136, wcells z1, z1, q2, eff + 0, rfl, by go_num, by go_num, wcells_at z1, m7, p7, o7, hI2, by omega, C7⟩
            case measure => simp [intOf]; omega
        · exact absurd hx h7
    · have hst := hI.st
      have hll : l.length = 136 := hI.len.trans hL0
      have hnn : needP q = none := by unfold needP; rw [if_neg (by simp; omega)]
      have N1 : ∀ w x, Calls Tryz.prog 57 #[.agg (penC q), .int .i64 x] w fun e w' => e = .returned (.tuple #[.agg (accC 0 0 0 0), .bool false]) ∧ Ch [] w w' := fun w x => by
        have := wNeed_any q x w
        rw [hnn, needV] at this
        exact this
      have hlast : (l = L0 ∧ eff = 0) ∨ (l[B]? = some (c0 + 2#64) ∧ eff = 1) := by
        rcases hst with ⟨h, _⟩ | ⟨_, h, _⟩ | ⟨_, h, _⟩ | ⟨_, h⟩
        · omega
        · omega
        · omega
        · exact h
      clear hst hI hnn
      have hcB : curd[B]? = some (U c0) := hWd B _ hLB
      rcases hlast with ⟨rfl, rfl⟩ | ⟨hlB', rfl⟩
      · have hlB : cur[B]? = some (U c0) := hA0 B _ hLB
        have hrem := tmod2_64w c0
        have hbiz := bit64zw c0
        rw [hev] at hbiz
        go_wp2_with fail
        refine (N1 _ _).mono ?_
        rintro e w3 ⟨rfl, hc3⟩
        have c3 := hkeep (hc3) c2
        have p3 := hkeep (hc3) p2
        have o3 := hkeep (hc3) o2
        have C3 := C2.trans (hc3)
        clear c2 p2 o2 C2 hc3 
        have nc : ¬ r = w3.heap.size := by have := blk_lt19 c3; omega
        have np : ¬ A8 = w3.heap.size := by have := blk_lt19 p3; omega
        have no : ¬ rd = w3.heap.size := by have := blk_lt19 o3; omega
        go_wp2_with fail
        clear nc np no
        have c4 := hkeep (accP19_ch 0 0 0 0 w3) c3
        have p4 := hkeep (accP19_ch 0 0 0 0 w3) p3
        have o4 := hkeep (accP19_ch 0 0 0 0 w3) o3
        have C4 := C3.trans (accP19_ch 0 0 0 0 w3)
        have a4 := accP19 0 0 0 0 w3
        have hlA14 := C3.size
        have lcA14 := blk_lt19 c3
        have lpA14 := blk_lt19 p3
        have loA14 := blk_lt19 o3
        clear c3 p3 o3 C3 
        obtain ⟨w4, hw4⟩ : ∃ W, World.onObj (w3.alloc (.cells (accC 0 0 0 0) 96)) w3.heap.size (laidAt 0 (accC 0 0 0 0)) = W := ⟨_, rfl⟩
        rw [hw4] at c4 p4 o4 a4 C4  ⊢
        clear hw4
        obtain ⟨A14, hbA14⟩ : ∃ b, w3.heap.size = b := ⟨_, rfl⟩
        rw [hbA14] at a4 hlA14 lcA14 lpA14 loA14 ⊢
        clear hbA14
        refine (N1 _ _).mono ?_
        rintro e w5 ⟨rfl, hc5⟩
        have c5 := hkeep (hc5) c4
        have p5 := hkeep (hc5) p4
        have o5 := hkeep (hc5) o4
        have a5 := hkeep (hc5) a4
        have C5 := C4.trans (hc5)
        clear c4 p4 o4 a4 C4 hc5 
        have nc : ¬ r = w5.heap.size := by have := blk_lt19 c5; omega
        have np : ¬ A8 = w5.heap.size := by have := blk_lt19 p5; omega
        have no : ¬ rd = w5.heap.size := by have := blk_lt19 o5; omega
        have na : ¬ A14 = w5.heap.size := by have := blk_lt19 a5; omega
        go_wp2_with fail
        clear nc np no na
        have c6 := hkeep (accP19_ch 0 0 0 0 w5) c5
        have p6 := hkeep (accP19_ch 0 0 0 0 w5) p5
        have o6 := hkeep (accP19_ch 0 0 0 0 w5) o5
        have a6 := hkeep (accP19_ch 0 0 0 0 w5) a5
        have C6 := C5.trans (accP19_ch 0 0 0 0 w5)
        have b6 := accP19 0 0 0 0 w5
        have hlA17 := C5.size
        have lcA17 := blk_lt19 c5
        have lpA17 := blk_lt19 p5
        have loA17 := blk_lt19 o5
        have laA17 := blk_lt19 a5
        clear c5 p5 o5 a5 C5 
        obtain ⟨w6, hw6⟩ : ∃ W, World.onObj (w5.alloc (.cells (accC 0 0 0 0) 96)) w5.heap.size (laidAt 0 (accC 0 0 0 0)) = W := ⟨_, rfl⟩
        rw [hw6] at c6 p6 o6 a6 b6 C6  ⊢
        clear hw6
        obtain ⟨A17, hbA17⟩ : ∃ b, w5.heap.size = b := ⟨_, rfl⟩
        rw [hbA17] at b6 hlA17 lcA17 lpA17 loA17 laA17 ⊢
        clear hbA17
        refine (eq_rows (by omega) hll r rd c cd _ _ hA0 hWd _ c6 o6).mono ?_
        rintro e w7 ⟨rfl, hc7⟩
        have c7 := hkeep (hc7) c6
        have p7 := hkeep (hc7) p6
        have o7 := hkeep (hc7) o6
        have a7 := hkeep (hc7) a6
        have b7 := hkeep (hc7) b6
        have C7 := C6.trans (hc7)
        clear c6 p6 o6 a6 b6 C6 hc7 
        go_wp2
        have ggc : ∀ g : Gar w7, (g.1).heap[r]? = _ := fun g => hkeep g.2 c7
        have ggo : ∀ g : Gar w7, (g.1).heap[rd]? = _ := fun g => hkeep g.2 o7
        refine wp_region_gar (by kernel_rfl) (by kernel_rfl) ?_
        repeat (go_big_quiet_step (fail))
        refine wpQuiet_nil ?_
        rintro wz ⟨g1, hwz⟩
        have hcz : Ch [] w7 wz := by rw [hwz]; exact g1.2
        clear hwz g1 ggc ggo
        go_wp2
        go_ret
        exact ⟨rfl, C7.trans hcz⟩
      · have hlB : cur[B]? = some (U (c0 + 2#64)) := hA0 B _ hlB'
        have hrem := tmod2_64w (c0 + 2#64)
        have hbiz := bit64zw (c0 + 2#64)
        rw [hod2] at hbiz
        have hne : l ≠ L0 := fun e => by rw [e, hLB] at hlB'; exact two_ne c0 (Option.some.inj hlB').symm
        go_wp2_with fail
        refine (N1 _ _).mono ?_
        rintro e w3 ⟨rfl, hc3⟩
        have c3 := hkeep (hc3) c2
        have p3 := hkeep (hc3) p2
        have o3 := hkeep (hc3) o2
        have C3 := C2.trans (hc3)
        clear c2 p2 o2 C2 hc3 
        have nc : ¬ r = w3.heap.size := by have := blk_lt19 c3; omega
        have np : ¬ A8 = w3.heap.size := by have := blk_lt19 p3; omega
        have no : ¬ rd = w3.heap.size := by have := blk_lt19 o3; omega
        go_wp2_with fail
        clear nc np no
        have c4 := hkeep (accP19_ch 0 0 0 0 w3) c3
        have p4 := hkeep (accP19_ch 0 0 0 0 w3) p3
        have o4 := hkeep (accP19_ch 0 0 0 0 w3) o3
        have C4 := C3.trans (accP19_ch 0 0 0 0 w3)
        have a4 := accP19 0 0 0 0 w3
        have hlA14 := C3.size
        have lcA14 := blk_lt19 c3
        have lpA14 := blk_lt19 p3
        have loA14 := blk_lt19 o3
        clear c3 p3 o3 C3 
        obtain ⟨w4, hw4⟩ : ∃ W, World.onObj (w3.alloc (.cells (accC 0 0 0 0) 96)) w3.heap.size (laidAt 0 (accC 0 0 0 0)) = W := ⟨_, rfl⟩
        rw [hw4] at c4 p4 o4 a4 C4  ⊢
        clear hw4
        obtain ⟨A14, hbA14⟩ : ∃ b, w3.heap.size = b := ⟨_, rfl⟩
        rw [hbA14] at a4 hlA14 lcA14 lpA14 loA14 ⊢
        clear hbA14
        refine (N1 _ _).mono ?_
        rintro e w5 ⟨rfl, hc5⟩
        have c5 := hkeep (hc5) c4
        have p5 := hkeep (hc5) p4
        have o5 := hkeep (hc5) o4
        have a5 := hkeep (hc5) a4
        have C5 := C4.trans (hc5)
        clear c4 p4 o4 a4 C4 hc5 
        have nc : ¬ r = w5.heap.size := by have := blk_lt19 c5; omega
        have np : ¬ A8 = w5.heap.size := by have := blk_lt19 p5; omega
        have no : ¬ rd = w5.heap.size := by have := blk_lt19 o5; omega
        have na : ¬ A14 = w5.heap.size := by have := blk_lt19 a5; omega
        go_wp2_with fail
        clear nc np no na
        have c6 := hkeep (accP19_ch 0 0 0 0 w5) c5
        have p6 := hkeep (accP19_ch 0 0 0 0 w5) p5
        have o6 := hkeep (accP19_ch 0 0 0 0 w5) o5
        have a6 := hkeep (accP19_ch 0 0 0 0 w5) a5
        have C6 := C5.trans (accP19_ch 0 0 0 0 w5)
        have b6 := accP19 0 0 0 0 w5
        have hlA17 := C5.size
        have lcA17 := blk_lt19 c5
        have lpA17 := blk_lt19 p5
        have loA17 := blk_lt19 o5
        have laA17 := blk_lt19 a5
        clear c5 p5 o5 a5 C5 
        obtain ⟨w6, hw6⟩ : ∃ W, World.onObj (w5.alloc (.cells (accC 0 0 0 0) 96)) w5.heap.size (laidAt 0 (accC 0 0 0 0)) = W := ⟨_, rfl⟩
        rw [hw6] at c6 p6 o6 a6 b6 C6  ⊢
        clear hw6
        obtain ⟨A17, hbA17⟩ : ∃ b, w5.heap.size = b := ⟨_, rfl⟩
        rw [hbA17] at b6 hlA17 lcA17 lpA17 loA17 laA17 ⊢
        clear hbA17
        refine (eq_differ (by omega) hll hL0 hne r rd c cd _ _ hA0 hWd _ c6 o6).mono ?_
        rintro e w7 ⟨rfl, hc7⟩
        have c7 := hkeep (hc7) c6
        have p7 := hkeep (hc7) p6
        have o7 := hkeep (hc7) o6
        have a7 := hkeep (hc7) a6
        have b7 := hkeep (hc7) b6
        have C7 := C6.trans (hc7)
        clear c6 p6 o6 a6 b6 C6 hc7 
        go_wp2
        have ggc : ∀ g : Gar w7, (g.1).heap[r]? = _ := fun g => hkeep g.2 c7
        have ggo : ∀ g : Gar w7, (g.1).heap[rd]? = _ := fun g => hkeep g.2 o7
        refine wp_region_gar (by kernel_rfl) (by kernel_rfl) ?_
        repeat (go_big_quiet_step (fail))
        refine wpQuiet_nil ?_
        rintro wz ⟨g1, hwz⟩
        have hcz : Ch [] w7 wz := by rw [hwz]; exact g1.2
        clear hwz g1 ggc ggo
        go_wp2
        go_ret
        exact ⟨rfl, C7.trans hcz⟩
theorem sectionLaw (s : BitVec 64) (sl op : Int) (t : Tab) (key a b : BitVec 64) (w : World) : Calls Tryz.prog 11 #[.agg (workC s sl t), .agg (callC op key a b)] w fun e w' => e = .returned (.bool true) ∧ Ch [] w w' := by
  cases hok : workOk s sl t with
  | false => exact section_none s sl op t key a b w hok
  | true =>
    cases hr : rightP (firstP sl op key a b (hashOf s key)) with
    | false => exact section_bad s sl op t key a b w hok hr
    | true => exact section_go s sl op t key a b w hok hr
end Go.Proofs.Hc
