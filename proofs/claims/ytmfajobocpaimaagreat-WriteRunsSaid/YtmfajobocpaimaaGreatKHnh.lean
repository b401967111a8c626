/- The reference of layer 19: Need. -/
import Derived.Test.YtmfajobocpaimaaGreatKHca
import Derived.Test.YtmfajobocpaimaaGreatKHcr
import Derived.Test.YtmfajobocpaimaaGreatKHxe
import Derived.Test.YtmfajobocpaimaaGreatKHnd
import Derived.Test.YtmfajobocpaimaaGreatKHnf
import Derived.Test.YtmfajobocpaimaaGreatKHnl
import Derived.Test.YtmfajobocpaimaaGreatKHnq
import Derived.Test.YtmfajobocpaimaaGreatKHpa
import Derived.Test.YtmfajobocpaimaaGreatKHq
import Derived.Test.YtmfajobocpaimaaGreatKHr
import Derived.Test.YtmfajobocpaimaaGreatKHop2
import Derived.Below
import Derived.BigQuiet
import Derived.Deep.Draws
import Derived.Deep.Light
import Derived.Deep.QuietTactic
import Derived.Deep.RegionHeld
import Derived.Laws.CopyRow
import Derived.Laws.StructEq
import Derived.Laws.Tables
import Derived.Lib.AppendZerosOnto
import Derived.Lib.Hide
import Derived.Lib.Tables
import Derived.Lib.Walk
import Derived.LoopIn
import Derived.LoopN
import Derived.LoopNIn
import Derived.Maps.AppendAt
import Derived.Maps.Views
import Derived.OwnWalkIn
import Derived.RangeFuncBox
import Derived.RangeFuncCalls
import Derived.RangeFuncRecord
import Derived.RangeFuncSeq
import Derived.Recover
import Derived.RegionTactic
import Derived.Shelf.Slices.Clone
import Derived.StillTail
import Derived.StillTailTactics
import Derived.TacticsInMore
import Derived.Test.YtmfajobocpaimaaGreatProg
import Derived.WalkKit
import Derived.WalkLawsBesides
import Derived.WalkMore
import Derived.WalkSpells
set_option linter.unusedSimpArgs false
set_option linter.unusedVariables false
namespace Go.Proofs.Hc
open Go.RowKit
attribute [local go_sem] wrap_u64 wrap_u8 bits_xor64 bits_and64 bits_or64 bits_not64 bits_xor8 bits_and8 bits_or8 signed64 signed8 ofInt_N BitVec.ofInt_add BitVec.ofInt_mul ofInt_sub' ofInt8_N64 ofInt64_N8 wide8 eqN neN shr_pow shr1 shr7 shr56
attribute [local go_sem high] bits_com64 shl_wrap
attribute [local go_sem] cell_heap ice_heap cellAt_cells iceAt_cells setAt_cells rowAt_cells canLay_cells laidAt_cells size_onObj size_setCell rowRes_some layRes_true
attribute [local go_sem] load26 load73 load23 store26 build73
attribute [local go_sem ↓] lrow26 lrow73 lrow23 srow26 zero26 brow73 heap_alloc heap_drew heap_drewN heap_setCell heap_onObj
attribute [local go_sem] tcells_size hcells_size tcells_get hcells_get tcells_one hcells_one hcells_table tcells_table hcells_all hcells_ctrl tcells_ctrl
attribute [local go_sem] nn2 nm2 nn3 nm3 nn4 nm4 nn5 nm5 nn6 nm6 nn7 nm7 nn8 nm8
attribute [local go_sem] nn2 nm2 nn3 nm3 nn4 nm4 nn5 nm5 nn6 nm6 nn7 nm7 nn8 nm8
attribute [local go_sem] ofInt_N
attribute [local go_sem] pen_g0 pen_g1 pen_g2 pen_g3 pen_g4 pen_g5 pen_g6 pen_g7 pen_g8 pen_g9 pen_g10 pen_g11 pen_g12 pen_g13 pen_g14 pen_g15 pen_g16 pen_g17 penC_size penC_one penC_all boxPen loadPen storePen
attribute [local go_sem ↓] lrowPen srowPen
attribute [local go_sem] pen_s0 pen_s1 pen_s2 pen_s3 pen_s4 pen_s5 pen_s6 pen_s7 pen_s8 pen_s9 pen_s10 pen_s11 pen_s12 pen_s13 pen_s14 pen_s15 pen_s16 pen_s17
attribute [local go_sem ↓] zeroPen_run
attribute [local go_sem high] laidAt_pen
attribute [local go_sem] acc_g0 acc_g1 acc_g2 acc_g4 acc_s0 acc_s1 acc_s2 acc_s4 accC_size accC_one accC_all loadAcc storeAcc bacc0 bacc2 bacc3 bacc3u bacc4
attribute [local go_sem ↓] lrowAcc srowAcc browAcc zeroAcc_run
attribute [local go_sem high] laidAt_acc
attribute [local irreducible] penC accC
theorem new_pena (p : PenT) (w : World) : ((w.alloc (.cells (penC p) 71)).alloc (.cells (accC 0 0 0 0) 96)).heap[w.heap.size]? = some (.cells (penC p) 71 (0, 0)) := by
  rw [heap_alloc, if_neg (by simp), heap_alloc, if_pos rfl]
theorem new_penaz (p : PenT) (w : World) : ((w.alloc (.cells (penC p) 71)).alloc (.cells (accC 0 0 0 0) 96)).heap[w.heap.size + 1]? = some (.cells (accC 0 0 0 0) 96 (0, 0)) := by
  rw [heap_alloc, if_pos (by simp)]
set_option maxHeartbeats 1000000 in
set_option maxRecDepth 100000 in
theorem r19Need_no (p : PenT) (who : Int) (h : (rightP p && decide (p.ph ≤ 13)) = false) (w : World) : Calls Tryz.prog 110 #[.agg (penC p), I who] w fun e w' => e = .returned (.tuple #[.agg (accC 0 0 0 0), .bool false]) ∧ Ch [] w w' := by
  have R1 := fun w => r19Right_any p w
  have hcs : rightP p = false ∨ rightP p = true ∧ 13 < p.ph := by
    cases hr : rightP p
    · exact .inl rfl
    · rw [hr] at h; exact .inr ⟨rfl, by simpa using h⟩
  generalize rightP p = r at *
  clear h
  rcases hcs with rfl | ⟨rfl, hph⟩
  all_goals
    go_enter Tryz.func110, Tryz.ntmps110
    go_wp2_with fail
    have hC0 : Ch [] w ((w.alloc (.cells (penC p) 71)).alloc (.cells (accC 0 0 0 0) 96)) := ((Ch.refl [] w).alloc _).alloc _
    have b0 := new_pena p w
    have z0 := new_penaz p w
    generalize (w.alloc (.cells (penC p) 71)).alloc (.cells (accC 0 0 0 0) 96) = W0 at *
    refine (R1 _).mono ?_
    rintro e w1 ⟨rfl, hc1⟩
    have b1 := hkeep hc1 b0
    have z1 := hkeep hc1 z0
    have hC1 := hC0.trans hc1
    clear b0 z0 hc1 R1 hC0
    go_wp2
    refine bodyPost_ret (need_results Tryz.results110 _ _ _ 0 0 0 0 _ rfl rfl ?_) rfl ⟨rfl, ?_⟩
    · simp [go_sem, z1]
    · exact hC1.onObj (p := w.heap.size + 1) (.inr (by omega)) _
set_option maxHeartbeats 1000000 in
set_option maxRecDepth 100000 in
theorem r19Need_add (p : PenT) (who : Int) (hr : rightP p = true) (hph : p.ph = 12) (w : World) : Calls Tryz.prog 110 #[.agg (penC p), I who] w fun e w' => e = .returned (.tuple #[.agg (accC who 4 1 (N (byP (wantsP p)))), .bool true]) ∧ Ch [] w w' := by
  have R1 := fun w => r19Right_any p w
  have W1 := fun w => rWants_any p w
  rw [hr] at R1
  have hb1 : Hid (N (byP 1) = 1) := Lib.hid rfl
  have hb0 : ∀ n, n ≠ 1 → N (byP n) = 18446744073709551615 := fun n h => by have := U_minus; rw [byP_drop n h]; simpa using this
  have hn : wantsP p = 1 ∨ ((wantsP p : Int) == 1) = false := by rcases (show wantsP p = 1 ∨ wantsP p ≠ 1 by omega) with h | h; exact .inl h; exact .inr (by simp; omega)
  clear hr
  generalize wantsP p = n at *
  rcases hn with rfl | hn
  · rw [hb1.out]
    clear hb0 hb1
    go_enter Tryz.func110, Tryz.ntmps110
    go_wp2_with fail
    have hC0 : Ch [] w ((w.alloc (.cells (penC p) 71)).alloc (.cells (accC 0 0 0 0) 96)) := ((Ch.refl [] w).alloc _).alloc _
    have b0 := new_pena p w
    have z0 := new_penaz p w
    generalize (w.alloc (.cells (penC p) 71)).alloc (.cells (accC 0 0 0 0) 96) = W0 at *
    refine (R1 _).mono ?_
    rintro e w1 ⟨rfl, hc1⟩
    have b1 := hkeep hc1 b0
    have z1 := hkeep hc1 z0
    have hC1 := hC0.trans hc1
    clear b0 z0 hc1 R1 hC0
    go_wp2_with fail
    refine (W1 _).mono ?_
    rintro e w2 ⟨rfl, hc2⟩
    have z2 := hkeep hc2 z1
    have hC2 := hC1.trans hc2
    clear b1 z1 hc2 W1 hC1
    go_wp2
    refine bodyPost_ret (need_results Tryz.results110 _ _ _ who 4 1 1 _ rfl rfl ?_) rfl ⟨rfl, ?_⟩
    · simp [go_sem, z2]
    · exact hC2.onObj (p := w.heap.size + 1) (.inr (by omega)) _
  · have hne : n ≠ 1 := fun h => by rw [h] at hn; simp at hn
    rw [hb0 n hne]
    clear hne
    clear hb0 hb1
    go_enter Tryz.func110, Tryz.ntmps110
    go_wp2_with fail
    have hC0 : Ch [] w ((w.alloc (.cells (penC p) 71)).alloc (.cells (accC 0 0 0 0) 96)) := ((Ch.refl [] w).alloc _).alloc _
    have b0 := new_pena p w
    have z0 := new_penaz p w
    generalize (w.alloc (.cells (penC p) 71)).alloc (.cells (accC 0 0 0 0) 96) = W0 at *
    refine (R1 _).mono ?_
    rintro e w1 ⟨rfl, hc1⟩
    have b1 := hkeep hc1 b0
    have z1 := hkeep hc1 z0
    have hC1 := hC0.trans hc1
    clear b0 z0 hc1 R1 hC0
    go_wp2_with fail
    refine (W1 _).mono ?_
    rintro e w2 ⟨rfl, hc2⟩
    have z2 := hkeep hc2 z1
    have hC2 := hC1.trans hc2
    clear b1 z1 hc2 W1 hC1
    go_wp2
    refine bodyPost_ret (need_results Tryz.results110 _ _ _ who 4 1 18446744073709551615 _ rfl rfl ?_) rfl ⟨rfl, ?_⟩
    · simp [go_sem, z2]
    · exact hC2.onObj (p := w.heap.size + 1) (.inr (by omega)) _
set_option maxHeartbeats 2000000 in
set_option maxRecDepth 100000 in
theorem r19Need_load (p : PenT) (who : Int) (R : RightP p) (h13 : p.ph ≤ 13) (h12 : (p.ph == 12) = false) (h5 : p.ph ≤ 5) (w : World) : Calls Tryz.prog 110 #[.agg (penC p), I who] w fun e w' => e = .returned (.tuple #[.agg (accC who 1 (16 + 40 * p.sl + wordP p) 0), .bool true]) ∧ Ch [] w w' := by
  have R1 := fun w => r19Right_any p w
  rw [(rightP_iff p).2 R] at R1
  have hn12 : p.ph ≠ 12 := by simpa using h12
  have D1 := fun w => r19Word_any p R h13 hn12 w
  obtain ⟨hw0, hw38⟩ := wordP_range R h13
  have L1 := fun w => rCell_any p.sl (wordP p) R.sl0 R.sl1 hw0 (by omega) w
  have hsl0 := R.sl0
  have hsl1 := R.sl1
  generalize wordP p = wp at *
  clear R hn12
  go_enter Tryz.func110, Tryz.ntmps110
  go_wp2_with fail
  have hC0 : Ch [] w ((w.alloc (.cells (penC p) 71)).alloc (.cells (accC 0 0 0 0) 96)) := ((Ch.refl [] w).alloc _).alloc _
  have b0 := new_pena p w
  have z0 := new_penaz p w
  generalize (w.alloc (.cells (penC p) 71)).alloc (.cells (accC 0 0 0 0) 96) = W0 at *
  refine (R1 _).mono ?_
  rintro e w0 ⟨rfl, hc0⟩
  have b1 := hkeep hc0 b0
  have z0' := hkeep hc0 z0
  have hC1 := hC0.trans hc0
  clear b0 z0 hc0 R1 hC0
  go_wp2
  obtain ⟨B, hB⟩ : ∃ B, w.heap.size = B := ⟨_, rfl⟩
  rw [hB] at b1 z0' ⊢
  have HB := Lib.hid hB
  clear hB
  have s1 : (fun W' : World => W'.heap[B]? = some (.cells (penC p) 71 (0, 0))) w0.drew := b1
  have z1 : w0.drew.heap[B + 1]? = some (.cells (accC 0 0 0 0) 96 (0, 0)) := z0'
  have C1 : Ch [] w w0.drew := hC1.drew
  refine wp_region_held_drew (S := fun W' => W'.heap[B]? = some (.cells (penC p) 71 (0, 0))) (by kernel_rfl) s1 ?_
  intro _
  simp only [List.size_toArray, List.length_cons, List.length_nil, Nat.reduceAdd]
  clear b1 z0' hC1
  generalize w0.drew = w1 at *
  refine wpAnyH_take (i := 0) (oi := ⟨some 26, _, _, _, _, none⟩) (v := ?_) rfl (by kernel_rfl) (by kernel_rfl) (by kernel_rfl) (fun _ _ _ h => h) (Or.inl ⟨by rfl, ?_⟩) s1 ?_
  rotate_left
  · intro wq hSq
    first | (go_simp; done) | (go_simp; with_reducible rfl)
  try simp only [Act.put, List.setIfInBounds_toArray, List.set_cons_zero, List.set_cons_succ]
  refine wpAnyH_take (i := 1) (oi := ⟨some 27, _, _, _, _, none⟩) (v := ?_) rfl (by kernel_rfl) (by kernel_rfl) (by kernel_rfl) (fun _ _ _ h => h) (Or.inl ⟨by rfl, ?_⟩) s1 ?_
  rotate_left
  · intro wq hSq
    first | (go_simp; done) | (go_simp; with_reducible rfl)
  try simp only [Act.put, List.setIfInBounds_toArray, List.set_cons_zero, List.set_cons_succ]
  refine wpAnyH_take (i := 2) (oi := ⟨some 28, _, _, _, _, none⟩) (v := ?_) rfl (by kernel_rfl) (by kernel_rfl) (by kernel_rfl) (fun _ _ _ h => h) (Or.inl ⟨by rfl, ?_⟩) s1 ?_
  rotate_left
  · intro wq hSq
    first | (go_simp; done) | (go_simp; with_reducible rfl)
  try simp only [Act.put, List.setIfInBounds_toArray, List.set_cons_zero, List.set_cons_succ]
  refine wpAnyH_take (i := 3) (oi := ⟨some 29, _, _, _, _, none⟩) (v := ?_) rfl (by kernel_rfl) (by kernel_rfl) (by kernel_rfl) (fun _ _ _ h => h) (Or.inl ⟨by rfl, ?_⟩) s1 ?_
  rotate_left
  · intro wq hSq
    first | (go_simp; done) | (go_simp; with_reducible rfl)
  try simp only [Act.put, List.setIfInBounds_toArray, List.set_cons_zero, List.set_cons_succ]
  refine wpAnyH_ready (rs := [4, 7]) (by kernel_rfl) (by simp) ?_
  refine AllReadyH.cons rfl (fun K hK => ?_) (AllReadyH.cons (o := ⟨some 6, _, _, _, _, none⟩) rfl (fun K hK => ?_) AllReadyH.nil)
  · go_simp
    refine (D1 _).mono ?_
    rintro e w2 ⟨rfl, hc2⟩
    have s2 := hkeep hc2 s1
    have C2 := C1.trans hc2
    have z2 := hkeep hc2 z1
    refine hK.out _ _ s2 (fun _ => ?_)
    clear hK K hc2 s1 C1 z1
    refine wpAnyH_ready (rs := [5, 7]) (by kernel_rfl) (by simp) ?_
    refine AllReadyH.cons rfl (fun K hK => ?_) (AllReadyH.cons (o := ⟨some 6, _, _, _, _, none⟩) rfl (fun K hK => ?_) AllReadyH.nil)
    · go_simp
      refine (L1 _).mono ?_
      rintro e w' ⟨rfl, rfl⟩
      refine hK.out _ _ s2 (fun _ => ?_)
      clear hK K
      refine wpAnyH_take (i := 6) (oi := ⟨some 32, _, _, _, _, none⟩) (v := ?_) rfl (by kernel_rfl) (by kernel_rfl) (by kernel_rfl) (fun _ _ _ h => h) (Or.inl ⟨by rfl, ?_⟩) s2 ?_
      rotate_left
      · intro wq hSq
        first | (go_simp; done) | (go_simp; with_reducible rfl)
      try simp only [Act.put, List.setIfInBounds_toArray, List.set_cons_zero, List.set_cons_succ]
      refine wpAnyH_ready (rs := [7]) (by kernel_rfl) (by simp) ?_
      refine AllReadyH.cons (o := ⟨some 6, _, _, _, _, none⟩) rfl (fun K hK => ?_) AllReadyH.nil
      · go_simp
        have hc4 : Ch [] w2 (w2.alloc (.cells (accC 0 0 0 0) 96)) := (Ch.refl [] w2).alloc _
        have s4 := hkeep hc4 s2
        have C4 := C2.trans hc4
        have z4 := hkeep hc4 z2
        have a4 : (w2.alloc (.cells (accC 0 0 0 0) 96)).heap[w2.heap.size]? = some (.cells (accC 0 0 0 0) 96 (0, 0)) := by rw [heap_alloc, if_pos rfl]
        have hAs : ¬ B = w2.heap.size := by have := (Array.getElem?_eq_some_iff.1 s2).1; omega
        have hAz : ¬ (B + 1) = w2.heap.size := by have := (Array.getElem?_eq_some_iff.1 z2).1; omega
        have hAw : w.heap.size ≤ w2.heap.size := C2.size
        refine hK.out _ _ s4 (fun _ => ?_)
        clear hK K hc4 s2 C2 z2
        generalize w2.alloc (.cells (accC 0 0 0 0) 96) = w4 at *
        generalize w2.heap.size = A at *
        refine wpAnyH_ready (rs := [8]) (by kernel_rfl) (by simp) ?_
        refine AllReadyH.cons rfl (fun K hK => ?_) AllReadyH.nil
        go_simp
        have s5 : (World.onObj w4 A (laidAt 0 (accC who 1 (16 + 40 * p.sl + wp) 0))).heap[B]? = some (.cells (penC p) 71 (0, 0)) := by rw [heap_onObj, if_neg hAs]; exact s4
        have z5 : (World.onObj w4 A (laidAt 0 (accC who 1 (16 + 40 * p.sl + wp) 0))).heap[(B + 1)]? = some (.cells (accC 0 0 0 0) 96 (0, 0)) := by rw [heap_onObj, if_neg hAz]; exact z4
        have a5 : (World.onObj w4 A (laidAt 0 (accC who 1 (16 + 40 * p.sl + wp) 0))).heap[A]? = some (.cells (accC who 1 (16 + 40 * p.sl + wp) 0) 96 (0, 0)) := by rw [heap_onObj, if_pos rfl, a4, Option.map_some, laidAt_acc]
        have C5 : Ch [] w (World.onObj w4 A (laidAt 0 (accC who 1 (16 + 40 * p.sl + wp) 0))) := C4.onObj (.inr hAw) _
        refine hK.out _ _ s5 (fun _ => ?_)
        clear hK K s4 C4 z4 a4
        generalize (World.onObj w4 A (laidAt 0 (accC who 1 (16 + 40 * p.sl + wp) 0))) = w5 at *
        refine wpAnyH_done (by kernel_rfl) ?_ _
        go_wp2
        refine bodyPost_ret (need_results Tryz.results110 _ _ _ who 1 (16 + 40 * p.sl + wp) 0 _ rfl rfl ?_) rfl ⟨rfl, ?_⟩
        · simp [go_sem, z5]
        · exact C5.onObj (p := B + 1) (.inr (by rw [HB.out]; omega)) _
    · go_simp
      have hc6 : Ch [] w2 (w2.alloc (.cells (accC 0 0 0 0) 96)) := (Ch.refl [] w2).alloc _
      have s6 := hkeep hc6 s2
      have C6 := C2.trans hc6
      have z6 := hkeep hc6 z2
      have a6 : (w2.alloc (.cells (accC 0 0 0 0) 96)).heap[w2.heap.size]? = some (.cells (accC 0 0 0 0) 96 (0, 0)) := by rw [heap_alloc, if_pos rfl]
      have hAs : ¬ B = w2.heap.size := by have := (Array.getElem?_eq_some_iff.1 s2).1; omega
      have hAz : ¬ (B + 1) = w2.heap.size := by have := (Array.getElem?_eq_some_iff.1 z2).1; omega
      have hAw : w.heap.size ≤ w2.heap.size := C2.size
      refine hK.out _ _ s6 (fun _ => ?_)
      clear hK K hc6 s2 C2 z2
      generalize w2.alloc (.cells (accC 0 0 0 0) 96) = w6 at *
      generalize w2.heap.size = A at *
      refine wpAnyH_ready (rs := [5]) (by kernel_rfl) (by simp) ?_
      refine AllReadyH.cons rfl (fun K hK => ?_) AllReadyH.nil
      · go_simp
        refine (L1 _).mono ?_
        rintro e w' ⟨rfl, rfl⟩
        refine hK.out _ _ s6 (fun _ => ?_)
        clear hK K
        refine wpAnyH_take (i := 6) (oi := ⟨some 32, _, _, _, _, none⟩) (v := ?_) rfl (by kernel_rfl) (by kernel_rfl) (by kernel_rfl) (fun _ _ _ h => h) (Or.inl ⟨by rfl, ?_⟩) s6 ?_
        rotate_left
        · intro wq hSq
          first | (go_simp; done) | (go_simp; with_reducible rfl)
        try simp only [Act.put, List.setIfInBounds_toArray, List.set_cons_zero, List.set_cons_succ]
        refine wpAnyH_ready (rs := [8]) (by kernel_rfl) (by simp) ?_
        refine AllReadyH.cons rfl (fun K hK => ?_) AllReadyH.nil
        go_simp
        have s8 : (World.onObj w6 A (laidAt 0 (accC who 1 (16 + 40 * p.sl + wp) 0))).heap[B]? = some (.cells (penC p) 71 (0, 0)) := by rw [heap_onObj, if_neg hAs]; exact s6
        have z8 : (World.onObj w6 A (laidAt 0 (accC who 1 (16 + 40 * p.sl + wp) 0))).heap[(B + 1)]? = some (.cells (accC 0 0 0 0) 96 (0, 0)) := by rw [heap_onObj, if_neg hAz]; exact z6
        have a8 : (World.onObj w6 A (laidAt 0 (accC who 1 (16 + 40 * p.sl + wp) 0))).heap[A]? = some (.cells (accC who 1 (16 + 40 * p.sl + wp) 0) 96 (0, 0)) := by rw [heap_onObj, if_pos rfl, a6, Option.map_some, laidAt_acc]
        have C8 : Ch [] w (World.onObj w6 A (laidAt 0 (accC who 1 (16 + 40 * p.sl + wp) 0))) := C6.onObj (.inr hAw) _
        refine hK.out _ _ s8 (fun _ => ?_)
        clear hK K s6 C6 z6 a6
        generalize (World.onObj w6 A (laidAt 0 (accC who 1 (16 + 40 * p.sl + wp) 0))) = w8 at *
        refine wpAnyH_done (by kernel_rfl) ?_ _
        go_wp2
        refine bodyPost_ret (need_results Tryz.results110 _ _ _ who 1 (16 + 40 * p.sl + wp) 0 _ rfl rfl ?_) rfl ⟨rfl, ?_⟩
        · simp [go_sem, z8]
        · exact C8.onObj (p := B + 1) (.inr (by rw [HB.out]; omega)) _
  · go_simp
    have hc9 : Ch [] w1 (w1.alloc (.cells (accC 0 0 0 0) 96)) := (Ch.refl [] w1).alloc _
    have s9 := hkeep hc9 s1
    have C9 := C1.trans hc9
    have z9 := hkeep hc9 z1
    have a9 : (w1.alloc (.cells (accC 0 0 0 0) 96)).heap[w1.heap.size]? = some (.cells (accC 0 0 0 0) 96 (0, 0)) := by rw [heap_alloc, if_pos rfl]
    have hAs : ¬ B = w1.heap.size := by have := (Array.getElem?_eq_some_iff.1 s1).1; omega
    have hAz : ¬ (B + 1) = w1.heap.size := by have := (Array.getElem?_eq_some_iff.1 z1).1; omega
    have hAw : w.heap.size ≤ w1.heap.size := C1.size
    refine hK.out _ _ s9 (fun _ => ?_)
    clear hK K hc9 s1 C1 z1
    generalize w1.alloc (.cells (accC 0 0 0 0) 96) = w9 at *
    generalize w1.heap.size = A at *
    refine wpAnyH_ready (rs := [4]) (by kernel_rfl) (by simp) ?_
    refine AllReadyH.cons rfl (fun K hK => ?_) AllReadyH.nil
    · go_simp
      refine (D1 _).mono ?_
      rintro e w10 ⟨rfl, hc10⟩
      have s10 := hkeep hc10 s9
      have C10 := C9.trans hc10
      have z10 := hkeep hc10 z9
      have a10 := hkeep hc10 a9
      refine hK.out _ _ s10 (fun _ => ?_)
      clear hK K hc10 s9 C9 z9 a9
      refine wpAnyH_ready (rs := [5]) (by kernel_rfl) (by simp) ?_
      refine AllReadyH.cons rfl (fun K hK => ?_) AllReadyH.nil
      · go_simp
        refine (L1 _).mono ?_
        rintro e w' ⟨rfl, rfl⟩
        refine hK.out _ _ s10 (fun _ => ?_)
        clear hK K
        refine wpAnyH_take (i := 6) (oi := ⟨some 32, _, _, _, _, none⟩) (v := ?_) rfl (by kernel_rfl) (by kernel_rfl) (by kernel_rfl) (fun _ _ _ h => h) (Or.inl ⟨by rfl, ?_⟩) s10 ?_
        rotate_left
        · intro wq hSq
          first | (go_simp; done) | (go_simp; with_reducible rfl)
        try simp only [Act.put, List.setIfInBounds_toArray, List.set_cons_zero, List.set_cons_succ]
        refine wpAnyH_ready (rs := [8]) (by kernel_rfl) (by simp) ?_
        refine AllReadyH.cons rfl (fun K hK => ?_) AllReadyH.nil
        go_simp
        have s12 : (World.onObj w10 A (laidAt 0 (accC who 1 (16 + 40 * p.sl + wp) 0))).heap[B]? = some (.cells (penC p) 71 (0, 0)) := by rw [heap_onObj, if_neg hAs]; exact s10
        have z12 : (World.onObj w10 A (laidAt 0 (accC who 1 (16 + 40 * p.sl + wp) 0))).heap[(B + 1)]? = some (.cells (accC 0 0 0 0) 96 (0, 0)) := by rw [heap_onObj, if_neg hAz]; exact z10
        have a12 : (World.onObj w10 A (laidAt 0 (accC who 1 (16 + 40 * p.sl + wp) 0))).heap[A]? = some (.cells (accC who 1 (16 + 40 * p.sl + wp) 0) 96 (0, 0)) := by rw [heap_onObj, if_pos rfl, a10, Option.map_some, laidAt_acc]
        have C12 : Ch [] w (World.onObj w10 A (laidAt 0 (accC who 1 (16 + 40 * p.sl + wp) 0))) := C10.onObj (.inr hAw) _
        refine hK.out _ _ s12 (fun _ => ?_)
        clear hK K s10 C10 z10 a10
        generalize (World.onObj w10 A (laidAt 0 (accC who 1 (16 + 40 * p.sl + wp) 0))) = w12 at *
        refine wpAnyH_done (by kernel_rfl) ?_ _
        go_wp2
        refine bodyPost_ret (need_results Tryz.results110 _ _ _ who 1 (16 + 40 * p.sl + wp) 0 _ rfl rfl ?_) rfl ⟨rfl, ?_⟩
        · simp [go_sem, z12]
        · exact C12.onObj (p := B + 1) (.inr (by rw [HB.out]; omega)) _
set_option maxHeartbeats 2000000 in
set_option maxRecDepth 100000 in
theorem r19Need_store (p : PenT) (who : Int) (R : RightP p) (h13 : p.ph ≤ 13) (h12 : (p.ph == 12) = false) (h5 : 5 < p.ph) (w : World) : Calls Tryz.prog 110 #[.agg (penC p), I who] w fun e w' => e = .returned (.tuple #[.agg (accC who 2 (16 + 40 * p.sl + wordP p) (N (whatP p))), .bool true]) ∧ Ch [] w w' := by
  have R1 := fun w => r19Right_any p w
  rw [(rightP_iff p).2 R] at R1
  have hn12 : p.ph ≠ 12 := by simpa using h12
  have D1 := fun w => r19Word_any p R h13 hn12 w
  obtain ⟨hw0, hw38⟩ := wordP_range R h13
  have L1 := fun w => rCell_any p.sl (wordP p) R.sl0 R.sl1 hw0 (by omega) w
  have X1 := fun w => r19What_any p R (by omega) h13 hn12 w
  generalize whatP p = xx at *
  have hsl0 := R.sl0
  have hsl1 := R.sl1
  generalize wordP p = wp at *
  clear R hn12
  go_enter Tryz.func110, Tryz.ntmps110
  go_wp2_with fail
  have hC0 : Ch [] w ((w.alloc (.cells (penC p) 71)).alloc (.cells (accC 0 0 0 0) 96)) := ((Ch.refl [] w).alloc _).alloc _
  have b0 := new_pena p w
  have z0 := new_penaz p w
  generalize (w.alloc (.cells (penC p) 71)).alloc (.cells (accC 0 0 0 0) 96) = W0 at *
  refine (R1 _).mono ?_
  rintro e w0 ⟨rfl, hc0⟩
  have b1 := hkeep hc0 b0
  have z0' := hkeep hc0 z0
  have hC1 := hC0.trans hc0
  clear b0 z0 hc0 R1 hC0
  go_wp2
  obtain ⟨B, hB⟩ : ∃ B, w.heap.size = B := ⟨_, rfl⟩
  rw [hB] at b1 z0' ⊢
  have HB := Lib.hid hB
  clear hB
  have s1 : (fun W' : World => W'.heap[B]? = some (.cells (penC p) 71 (0, 0))) w0.drew := b1
  have z1 : w0.drew.heap[B + 1]? = some (.cells (accC 0 0 0 0) 96 (0, 0)) := z0'
  have C1 : Ch [] w w0.drew := hC1.drew
  refine wp_region_held_drew (S := fun W' => W'.heap[B]? = some (.cells (penC p) 71 (0, 0))) (by kernel_rfl) s1 ?_
  intro _
  simp only [List.size_toArray, List.length_cons, List.length_nil, Nat.reduceAdd]
  clear b1 z0' hC1
  generalize w0.drew = w1 at *
  refine wpAnyH_take (i := 0) (oi := ⟨some 26, _, _, _, _, none⟩) (v := ?_) rfl (by kernel_rfl) (by kernel_rfl) (by kernel_rfl) (fun _ _ _ h => h) (Or.inl ⟨by rfl, ?_⟩) s1 ?_
  rotate_left
  · intro wq hSq
    first | (go_simp; done) | (go_simp; with_reducible rfl)
  try simp only [Act.put, List.setIfInBounds_toArray, List.set_cons_zero, List.set_cons_succ]
  refine wpAnyH_take (i := 1) (oi := ⟨some 27, _, _, _, _, none⟩) (v := ?_) rfl (by kernel_rfl) (by kernel_rfl) (by kernel_rfl) (fun _ _ _ h => h) (Or.inl ⟨by rfl, ?_⟩) s1 ?_
  rotate_left
  · intro wq hSq
    first | (go_simp; done) | (go_simp; with_reducible rfl)
  try simp only [Act.put, List.setIfInBounds_toArray, List.set_cons_zero, List.set_cons_succ]
  refine wpAnyH_take (i := 2) (oi := ⟨some 28, _, _, _, _, none⟩) (v := ?_) rfl (by kernel_rfl) (by kernel_rfl) (by kernel_rfl) (fun _ _ _ h => h) (Or.inl ⟨by rfl, ?_⟩) s1 ?_
  rotate_left
  · intro wq hSq
    first | (go_simp; done) | (go_simp; with_reducible rfl)
  try simp only [Act.put, List.setIfInBounds_toArray, List.set_cons_zero, List.set_cons_succ]
  refine wpAnyH_take (i := 3) (oi := ⟨some 29, _, _, _, _, none⟩) (v := ?_) rfl (by kernel_rfl) (by kernel_rfl) (by kernel_rfl) (fun _ _ _ h => h) (Or.inl ⟨by rfl, ?_⟩) s1 ?_
  rotate_left
  · intro wq hSq
    first | (go_simp; done) | (go_simp; with_reducible rfl)
  try simp only [Act.put, List.setIfInBounds_toArray, List.set_cons_zero, List.set_cons_succ]
  refine wpAnyH_ready (rs := [4, 7]) (by kernel_rfl) (by simp) ?_
  refine AllReadyH.cons rfl (fun K hK => ?_) (AllReadyH.cons (o := ⟨some 6, _, _, _, _, none⟩) rfl (fun K hK => ?_) AllReadyH.nil)
  · go_simp
    refine (D1 _).mono ?_
    rintro e w2 ⟨rfl, hc2⟩
    have s2 := hkeep hc2 s1
    have C2 := C1.trans hc2
    have z2 := hkeep hc2 z1
    refine hK.out _ _ s2 (fun _ => ?_)
    clear hK K hc2 s1 C1 z1
    refine wpAnyH_ready (rs := [5, 7]) (by kernel_rfl) (by simp) ?_
    refine AllReadyH.cons rfl (fun K hK => ?_) (AllReadyH.cons (o := ⟨some 6, _, _, _, _, none⟩) rfl (fun K hK => ?_) AllReadyH.nil)
    · go_simp
      refine (L1 _).mono ?_
      rintro e w' ⟨rfl, rfl⟩
      refine hK.out _ _ s2 (fun _ => ?_)
      clear hK K
      refine wpAnyH_take (i := 6) (oi := ⟨some 32, _, _, _, _, none⟩) (v := ?_) rfl (by kernel_rfl) (by kernel_rfl) (by kernel_rfl) (fun _ _ _ h => h) (Or.inl ⟨by rfl, ?_⟩) s2 ?_
      rotate_left
      · intro wq hSq
        first | (go_simp; done) | (go_simp; with_reducible rfl)
      try simp only [Act.put, List.setIfInBounds_toArray, List.set_cons_zero, List.set_cons_succ]
      refine wpAnyH_ready (rs := [7]) (by kernel_rfl) (by simp) ?_
      refine AllReadyH.cons (o := ⟨some 6, _, _, _, _, none⟩) rfl (fun K hK => ?_) AllReadyH.nil
      · go_simp
        have hc4 : Ch [] w2 (w2.alloc (.cells (accC 0 0 0 0) 96)) := (Ch.refl [] w2).alloc _
        have s4 := hkeep hc4 s2
        have C4 := C2.trans hc4
        have z4 := hkeep hc4 z2
        have a4 : (w2.alloc (.cells (accC 0 0 0 0) 96)).heap[w2.heap.size]? = some (.cells (accC 0 0 0 0) 96 (0, 0)) := by rw [heap_alloc, if_pos rfl]
        have hAs : ¬ B = w2.heap.size := by have := (Array.getElem?_eq_some_iff.1 s2).1; omega
        have hAz : ¬ (B + 1) = w2.heap.size := by have := (Array.getElem?_eq_some_iff.1 z2).1; omega
        have hAw : w.heap.size ≤ w2.heap.size := C2.size
        refine hK.out _ _ s4 (fun _ => ?_)
        clear hK K hc4 s2 C2 z2
        generalize w2.alloc (.cells (accC 0 0 0 0) 96) = w4 at *
        generalize w2.heap.size = A at *
        refine wpAnyH_ready (rs := [8]) (by kernel_rfl) (by simp) ?_
        refine AllReadyH.cons rfl (fun K hK => ?_) AllReadyH.nil
        go_simp
        have s5 : (World.onObj w4 A (laidAt 0 (accC who 1 (16 + 40 * p.sl + wp) 0))).heap[B]? = some (.cells (penC p) 71 (0, 0)) := by rw [heap_onObj, if_neg hAs]; exact s4
        have z5 : (World.onObj w4 A (laidAt 0 (accC who 1 (16 + 40 * p.sl + wp) 0))).heap[(B + 1)]? = some (.cells (accC 0 0 0 0) 96 (0, 0)) := by rw [heap_onObj, if_neg hAz]; exact z4
        have a5 : (World.onObj w4 A (laidAt 0 (accC who 1 (16 + 40 * p.sl + wp) 0))).heap[A]? = some (.cells (accC who 1 (16 + 40 * p.sl + wp) 0) 96 (0, 0)) := by rw [heap_onObj, if_pos rfl, a4, Option.map_some, laidAt_acc]
        have C5 : Ch [] w (World.onObj w4 A (laidAt 0 (accC who 1 (16 + 40 * p.sl + wp) 0))) := C4.onObj (.inr hAw) _
        refine hK.out _ _ s5 (fun _ => ?_)
        clear hK K s4 C4 z4 a4
        generalize (World.onObj w4 A (laidAt 0 (accC who 1 (16 + 40 * p.sl + wp) 0))) = w5 at *
        refine wpAnyH_done (by kernel_rfl) ?_ _
        go_wp2_with fail
        refine (X1 _).mono ?_
        rintro e w99 ⟨rfl, hc99⟩
        have z99 := hkeep hc99 z5
        have a99 := hkeep hc99 a5
        have hAz : ¬ B + 1 = A := fun h => by subst h; first | exact hAz rfl | omega
        have C99 := C5.trans hc99
        clear hc99 z5 a5 C5 s5
        go_wp2
        refine bodyPost_ret (need_results Tryz.results110 _ _ _ who 2 (16 + 40 * p.sl + wp) (N xx) _ rfl rfl ?_) rfl ⟨rfl, ?_⟩
        · simp [go_sem, z99, hAz]
        · exact (((C99.setCell (p := ⟨A, 1, none⟩) (.inr hAw) _).setCell (p := ⟨A, 4, none⟩) (.inr hAw) _)).onObj (p := B + 1) (.inr (by rw [HB.out]; omega)) _
    · go_simp
      have hc6 : Ch [] w2 (w2.alloc (.cells (accC 0 0 0 0) 96)) := (Ch.refl [] w2).alloc _
      have s6 := hkeep hc6 s2
      have C6 := C2.trans hc6
      have z6 := hkeep hc6 z2
      have a6 : (w2.alloc (.cells (accC 0 0 0 0) 96)).heap[w2.heap.size]? = some (.cells (accC 0 0 0 0) 96 (0, 0)) := by rw [heap_alloc, if_pos rfl]
      have hAs : ¬ B = w2.heap.size := by have := (Array.getElem?_eq_some_iff.1 s2).1; omega
      have hAz : ¬ (B + 1) = w2.heap.size := by have := (Array.getElem?_eq_some_iff.1 z2).1; omega
      have hAw : w.heap.size ≤ w2.heap.size := C2.size
      refine hK.out _ _ s6 (fun _ => ?_)
      clear hK K hc6 s2 C2 z2
      generalize w2.alloc (.cells (accC 0 0 0 0) 96) = w6 at *
      generalize w2.heap.size = A at *
      refine wpAnyH_ready (rs := [5]) (by kernel_rfl) (by simp) ?_
      refine AllReadyH.cons rfl (fun K hK => ?_) AllReadyH.nil
      · go_simp
        refine (L1 _).mono ?_
        rintro e w' ⟨rfl, rfl⟩
        refine hK.out _ _ s6 (fun _ => ?_)
        clear hK K
        refine wpAnyH_take (i := 6) (oi := ⟨some 32, _, _, _, _, none⟩) (v := ?_) rfl (by kernel_rfl) (by kernel_rfl) (by kernel_rfl) (fun _ _ _ h => h) (Or.inl ⟨by rfl, ?_⟩) s6 ?_
        rotate_left
        · intro wq hSq
          first | (go_simp; done) | (go_simp; with_reducible rfl)
        try simp only [Act.put, List.setIfInBounds_toArray, List.set_cons_zero, List.set_cons_succ]
        refine wpAnyH_ready (rs := [8]) (by kernel_rfl) (by simp) ?_
        refine AllReadyH.cons rfl (fun K hK => ?_) AllReadyH.nil
        go_simp
        have s8 : (World.onObj w6 A (laidAt 0 (accC who 1 (16 + 40 * p.sl + wp) 0))).heap[B]? = some (.cells (penC p) 71 (0, 0)) := by rw [heap_onObj, if_neg hAs]; exact s6
        have z8 : (World.onObj w6 A (laidAt 0 (accC who 1 (16 + 40 * p.sl + wp) 0))).heap[(B + 1)]? = some (.cells (accC 0 0 0 0) 96 (0, 0)) := by rw [heap_onObj, if_neg hAz]; exact z6
        have a8 : (World.onObj w6 A (laidAt 0 (accC who 1 (16 + 40 * p.sl + wp) 0))).heap[A]? = some (.cells (accC who 1 (16 + 40 * p.sl + wp) 0) 96 (0, 0)) := by rw [heap_onObj, if_pos rfl, a6, Option.map_some, laidAt_acc]
        have C8 : Ch [] w (World.onObj w6 A (laidAt 0 (accC who 1 (16 + 40 * p.sl + wp) 0))) := C6.onObj (.inr hAw) _
        refine hK.out _ _ s8 (fun _ => ?_)
        clear hK K s6 C6 z6 a6
        generalize (World.onObj w6 A (laidAt 0 (accC who 1 (16 + 40 * p.sl + wp) 0))) = w8 at *
        refine wpAnyH_done (by kernel_rfl) ?_ _
        go_wp2_with fail
        refine (X1 _).mono ?_
        rintro e w99 ⟨rfl, hc99⟩
        have z99 := hkeep hc99 z8
        have a99 := hkeep hc99 a8
        have hAz : ¬ B + 1 = A := fun h => by subst h; first | exact hAz rfl | omega
        have C99 := C8.trans hc99
        clear hc99 z8 a8 C8 s8
        go_wp2
        refine bodyPost_ret (need_results Tryz.results110 _ _ _ who 2 (16 + 40 * p.sl + wp) (N xx) _ rfl rfl ?_) rfl ⟨rfl, ?_⟩
        · simp [go_sem, z99, hAz]
        · exact (((C99.setCell (p := ⟨A, 1, none⟩) (.inr hAw) _).setCell (p := ⟨A, 4, none⟩) (.inr hAw) _)).onObj (p := B + 1) (.inr (by rw [HB.out]; omega)) _
  · go_simp
    have hc9 : Ch [] w1 (w1.alloc (.cells (accC 0 0 0 0) 96)) := (Ch.refl [] w1).alloc _
    have s9 := hkeep hc9 s1
    have C9 := C1.trans hc9
    have z9 := hkeep hc9 z1
    have a9 : (w1.alloc (.cells (accC 0 0 0 0) 96)).heap[w1.heap.size]? = some (.cells (accC 0 0 0 0) 96 (0, 0)) := by rw [heap_alloc, if_pos rfl]
    have hAs : ¬ B = w1.heap.size := by have := (Array.getElem?_eq_some_iff.1 s1).1; omega
    have hAz : ¬ (B + 1) = w1.heap.size := by have := (Array.getElem?_eq_some_iff.1 z1).1; omega
    have hAw : w.heap.size ≤ w1.heap.size := C1.size
    refine hK.out _ _ s9 (fun _ => ?_)
    clear hK K hc9 s1 C1 z1
    generalize w1.alloc (.cells (accC 0 0 0 0) 96) = w9 at *
    generalize w1.heap.size = A at *
    refine wpAnyH_ready (rs := [4]) (by kernel_rfl) (by simp) ?_
    refine AllReadyH.cons rfl (fun K hK => ?_) AllReadyH.nil
    · go_simp
      refine (D1 _).mono ?_
      rintro e w10 ⟨rfl, hc10⟩
      have s10 := hkeep hc10 s9
      have C10 := C9.trans hc10
      have z10 := hkeep hc10 z9
      have a10 := hkeep hc10 a9
      refine hK.out _ _ s10 (fun _ => ?_)
      clear hK K hc10 s9 C9 z9 a9
      refine wpAnyH_ready (rs := [5]) (by kernel_rfl) (by simp) ?_
      refine AllReadyH.cons rfl (fun K hK => ?_) AllReadyH.nil
      · go_simp
        refine (L1 _).mono ?_
        rintro e w' ⟨rfl, rfl⟩
        refine hK.out _ _ s10 (fun _ => ?_)
        clear hK K
        refine wpAnyH_take (i := 6) (oi := ⟨some 32, _, _, _, _, none⟩) (v := ?_) rfl (by kernel_rfl) (by kernel_rfl) (by kernel_rfl) (fun _ _ _ h => h) (Or.inl ⟨by rfl, ?_⟩) s10 ?_
        rotate_left
        · intro wq hSq
          first | (go_simp; done) | (go_simp; with_reducible rfl)
        try simp only [Act.put, List.setIfInBounds_toArray, List.set_cons_zero, List.set_cons_succ]
        refine wpAnyH_ready (rs := [8]) (by kernel_rfl) (by simp) ?_
        refine AllReadyH.cons rfl (fun K hK => ?_) AllReadyH.nil
        go_simp
        have s12 : (World.onObj w10 A (laidAt 0 (accC who 1 (16 + 40 * p.sl + wp) 0))).heap[B]? = some (.cells (penC p) 71 (0, 0)) := by rw [heap_onObj, if_neg hAs]; exact s10
        have z12 : (World.onObj w10 A (laidAt 0 (accC who 1 (16 + 40 * p.sl + wp) 0))).heap[(B + 1)]? = some (.cells (accC 0 0 0 0) 96 (0, 0)) := by rw [heap_onObj, if_neg hAz]; exact z10
        have a12 : (World.onObj w10 A (laidAt 0 (accC who 1 (16 + 40 * p.sl + wp) 0))).heap[A]? = some (.cells (accC who 1 (16 + 40 * p.sl + wp) 0) 96 (0, 0)) := by rw [heap_onObj, if_pos rfl, a10, Option.map_some, laidAt_acc]
        have C12 : Ch [] w (World.onObj w10 A (laidAt 0 (accC who 1 (16 + 40 * p.sl + wp) 0))) := C10.onObj (.inr hAw) _
        refine hK.out _ _ s12 (fun _ => ?_)
        clear hK K s10 C10 z10 a10
        generalize (World.onObj w10 A (laidAt 0 (accC who 1 (16 + 40 * p.sl + wp) 0))) = w12 at *
        refine wpAnyH_done (by kernel_rfl) ?_ _
        go_wp2_with fail
        refine (X1 _).mono ?_
        rintro e w99 ⟨rfl, hc99⟩
        have z99 := hkeep hc99 z12
        have a99 := hkeep hc99 a12
        have hAz : ¬ B + 1 = A := fun h => by subst h; first | exact hAz rfl | omega
        have C99 := C12.trans hc99
        clear hc99 z12 a12 C12 s12
        go_wp2
        refine bodyPost_ret (need_results Tryz.results110 _ _ _ who 2 (16 + 40 * p.sl + wp) (N xx) _ rfl rfl ?_) rfl ⟨rfl, ?_⟩
        · simp [go_sem, z99, hAz]
        · exact (((C99.setCell (p := ⟨A, 1, none⟩) (.inr hAw) _).setCell (p := ⟨A, 4, none⟩) (.inr hAw) _)).onObj (p := B + 1) (.inr (by rw [HB.out]; omega)) _
theorem r19Need_any (p : PenT) (who : Int) (w : World) : Calls Tryz.prog 110 #[.agg (penC p), I who] w fun e w' => e = .returned (needV who (needP p)) ∧ Ch [] w w' := by
  cases h : (rightP p && decide (p.ph ≤ 13)) with
  | false => rw [needP, h, if_neg (by decide)]; exact r19Need_no p who h w
  | true =>
    rw [needP, h, if_pos rfl]
    simp only [Bool.and_eq_true, decide_eq_true_eq] at h
    obtain ⟨hr, h13⟩ := h
    have R := (rightP_iff p).1 hr
    by_cases h12 : p.ph = 12
    · rw [if_pos h12]; exact r19Need_add p who hr h12 w
    · rw [if_neg h12]
      have h12' : (p.ph == 12) = false := by simpa using h12
      by_cases h5 : 5 < p.ph
      · rw [if_pos h5, if_pos h5]; exact r19Need_store p who R h13 h12' h5 w
      · rw [if_neg h5, if_neg h5]; exact r19Need_load p who R h13 h12' (by omega) w
end Go.Proofs.Hc
