/- The reference 29: Parts, Enough. -/
import Derived.Test.YtfoicjijngfhbaaGreatDoorKBc
import Derived.Test.YtfoicjijngfhbaaGreatDoorKBd
import Derived.Test.YtfoicjijngfhbaaGreatDoorKBe
import Derived.Test.YtfoicjijngfhbaaGreatDoorKBf
import Derived.Test.YtfoicjijngfhbaaGreatDoorKBu
import Derived.Test.YtfoicjijngfhbaaGreatDoorKDa
import Derived.Test.YtfoicjijngfhbaaGreatDoorKFm
import Derived.Test.YtfoicjijngfhbaaGreatDoorKDf
import Derived.Test.YtfoicjijngfhbaaGreatDoorKEa
import Derived.Test.YtfoicjijngfhbaaGreatDoorKEf
import Derived.Test.YtfoicjijngfhbaaGreatDoorKEg
import Derived.Test.YtfoicjijngfhbaaGreatDoorKEk
import Derived.Test.YtfoicjijngfhbaaGreatDoorKFb
import Derived.Test.YtfoicjijngfhbaaGreatDoorKFe
import Derived.Test.YtfoicjijngfhbaaGreatDoorKFf
import Derived.Test.YtfoicjijngfhbaaGreatDoorKHm
import Derived.Test.YtfoicjijngfhbaaGreatDoorKHr
import Derived.Below
import Derived.BigQuiet
import Derived.Deep.Cut
import Derived.Deep.CutRange
import Derived.Deep.Draws
import Derived.Deep.OwnRows
import Derived.Deep.QuietTactic
import Derived.Deep.RegionHeld
import Derived.Laws.AppendOwn
import Derived.Laws.Bits64
import Derived.Laws.Bits64b
import Derived.Laws.CopyOwn
import Derived.Laws.CopyRow
import Derived.Laws.EntriesVeiled
import Derived.Laws.IdiomCopy
import Derived.Laws.Tables
import Derived.Lib.AppendZerosOnto
import Derived.Lib.BitFns
import Derived.Lib.Hide
import Derived.Lib.Slices
import Derived.Lib.Small
import Derived.Lib.Strings
import Derived.Lib.Tables
import Derived.Lib.Walk
import Derived.LoopIn
import Derived.LoopNIn
import Derived.Maps.RangeWalk
import Derived.Maps.Views
import Derived.OwnWalkIn
import Derived.RangeFuncCalls
import Derived.RangeFuncRecord
import Derived.RangeFuncSeq
import Derived.Recover
import Derived.Sort.AssemblyPlain
import Derived.Sort.Defs
import Derived.Sort.LotC
import Derived.Sort.LotD1
import Derived.Sort.LotD5
import Derived.Sort.LotD6
import Derived.Sort.Walk13a
import Derived.StillTail
import Derived.TacticsInMore
import Derived.Test.YtfoicjijngfhbaaGreatDoorProg
import Derived.WalkKit
import Derived.WalkLawsBesides
set_option linter.unusedSimpArgs false
set_option linter.unusedVariables false
namespace Go.Proofs.Hc
open Go.RowKit
set_option linter.unusedVariables false
set_option linter.unusedSimpArgs false
attribute [local go_sem] wrap_u64 wrap_u8 bits_xor64 bits_and64 bits_or64 bits_not64 bits_xor8 bits_and8 bits_or8 signed64 signed8 ofInt_N BitVec.ofInt_add BitVec.ofInt_mul ofInt_sub' ofInt8_N64 ofInt64_N8 wide8 eqN neN shr_pow shr1 shr7 shr56
attribute [local go_sem high] bits_com64 shl_wrap
attribute [local go_sem] nn2 nm2 nn3 nm3 nn4 nm4 nn5 nm5 nn6 nm6 nn7 nm7 nn8 nm8
attribute [local go_sem] Oper.semAt_some make_func1 make_funcB
attribute [local go_sem] cell_heap ice_heap cellAt_cells iceAt_cells setAt_cells size_setCell rowAt_cells canLay_cells laidAt_cells size_onObj rowRes_some layRes_true
attribute [local go_sem ↓] heap_alloc heap_drew heap_drewN heap_setCell heap_putObj heap_onObj
attribute [local go_sem] loadS box_sc scC_size scC_all scC_seed
attribute [local go_sem ↓] lrowS
set_option maxHeartbeats 1000000 in
set_option maxRecDepth 100000 in
theorem rParts_any (s : ScT) (w : World) (R : RightSc w s) : Calls Tryz.prog 12 #[.agg (scC s)] w fun e w' => e = .returned (I (ptsS s)) ∧ Ch [] w w' := by
  obtain ⟨W, hW, C, hB⟩ := scbox s w
  have R1 := R.ch C
  have hc64 := R.calls
  have hkl := keys_len (catL s.ls)
  have M1 := fun w R => rComes_any s w R
  have D1 := fun a c w hk => rDeepest_any s.sd 7 (by decide) (by decide) (keysL (catL s.ls)) (keys_nodup _) (by omega) a c w hk
  rw [show deepN 7 ((keysL (catL s.ls)).map (hashOf s.sd)) = ptsS s from rfl] at D1
  rw [comesR_eq] at M1
  obtain ⟨n, hn⟩ : ∃ n, ptsS s = n := ⟨_, rfl⟩
  rw [hn] at D1 ⊢
  obtain ⟨ks, hks⟩ : ∃ k, keysL (catL s.ls) = k := ⟨_, rfl⟩
  rw [hks] at M1 D1
  obtain ⟨kn, hkn⟩ : ∃ k, ks.length = k := ⟨_, rfl⟩
  rw [hkn] at M1 D1
  obtain ⟨B, hBe⟩ : ∃ B, w.heap.size = B := ⟨_, rfl⟩
  rw [hBe] at hB
  have HR := Lib.hid R
  clear R hn hc64 hkl hks hkn
  go_enter Tryz.func12, Tryz.ntmps12
  go_wp2
  try rw [hW]
  try rw [hBe]
  clear hW hBe
  have sP : (fun W' : World => Ch [] w W' ∧ W'.heap[B]? = some (.cells (scC s) 26 (0, 0))) W.drew := ⟨C.drew, hB⟩
  have R2 := R1.ch ((Ch.refl _ _).drew)
  refine wp_region_held_drew (S := fun W' : World => Ch [] w W' ∧ W'.heap[B]? = some (.cells (scC s) 26 (0, 0))) (by kernel_rfl) sP ?_
  intro _
  simp only [List.size_toArray, List.length_cons, List.length_nil, Nat.reduceAdd]
  clear C hB R1
  generalize W.drew = w2 at *
  refine wpAnyH_take (i := 0) (oi := ⟨some 3, _, _, _, _, none⟩) (v := ?_) rfl (by kernel_rfl) (by kernel_rfl) (by kernel_rfl) (fun _ _ _ h => h) (Or.inl ⟨by rfl, ?_⟩) sP ?_
  rotate_left
  · intro wq hSq
    obtain ⟨q0, q1⟩ := hSq
    first | (go_simp; done) | (go_simp; with_reducible rfl)
  try simp only [Act.put, List.setIfInBounds_toArray, List.set_cons_zero, List.set_cons_succ]
  refine wpAnyH_take (i := 1) (oi := ⟨some 4, _, _, _, _, none⟩) (v := ?_) rfl (by kernel_rfl) (by kernel_rfl) (by kernel_rfl) (fun _ _ _ h => h) (Or.inl ⟨by rfl, ?_⟩) sP ?_
  rotate_left
  · intro wq hSq
    obtain ⟨q0, q1⟩ := hSq
    first | (go_simp; done) | (go_simp; with_reducible rfl)
  try simp only [Act.put, List.setIfInBounds_toArray, List.set_cons_zero, List.set_cons_succ]
  refine wpAnyH_take (i := 2) (oi := ⟨some 5, _, _, _, _, none⟩) (v := ?_) rfl (by kernel_rfl) (by kernel_rfl) (by kernel_rfl) (fun _ _ _ h => h) (Or.inl ⟨by rfl, ?_⟩) sP ?_
  rotate_left
  · intro wq hSq
    obtain ⟨q0, q1⟩ := hSq
    first | (go_simp; done) | (go_simp; with_reducible rfl)
  try simp only [Act.put, List.setIfInBounds_toArray, List.set_cons_zero, List.set_cons_succ]
  refine wpAnyH_ready (rs := [3]) (by kernel_rfl) (by simp) ?_
  refine AllReadyH.cons rfl (fun K hK => ?_) AllReadyH.nil
  go_simp
  refine (M1 _ R2).mono ?_
  rintro e w3 ⟨v, rfl, hown, hc3⟩
  have sP3 : (fun W' : World => Ch [] w W' ∧ W'.heap[B]? = some (.cells (scC s) 26 (0, 0))) w3 := ⟨sP.1.trans hc3, bkeep hc3 sP.2⟩
  refine hK.out _ _ sP3 (fun _ => ?_)
  obtain ⟨av, cv, hv, hl, hkw⟩ := own_kw hown
  subst hv
  clear hK K sP hc3 M1 R2 hown
  refine wpAnyH_ready (rs := [4]) (by kernel_rfl) (by simp) ?_
  refine AllReadyH.cons rfl (fun K hK => ?_) AllReadyH.nil
  go_simp
  refine (D1 av cv _ hkw).mono ?_
  rintro e w4 ⟨rfl, hc4⟩
  have sP4 : (fun W' : World => Ch [] w W' ∧ W'.heap[B]? = some (.cells (scC s) 26 (0, 0))) w4 := ⟨sP3.1.trans hc4, bkeep hc4 sP3.2⟩
  refine hK.out _ _ sP4 (fun _ => ?_)
  clear hK K sP3 hc4 D1 hkw
  refine wpAnyH_take (i := 5) (oi := ⟨some 2, _, _, _, _, none⟩) (v := ?_) rfl (by kernel_rfl) (by kernel_rfl) (by kernel_rfl) (fun _ _ _ h => h) (Or.inl ⟨by rfl, ?_⟩) sP4 ?_
  rotate_left
  · intro wq hSq
    first | (go_simp; done) | (go_simp; with_reducible rfl)
  try simp only [Act.put, List.setIfInBounds_toArray, List.set_cons_zero, List.set_cons_succ]
  refine wpAnyH_done (by kernel_rfl) ?_ _
  have C4 := sP4.1
  clear sP4
  go_wp2
  go_ret
  exact ⟨rfl, C4⟩
set_option maxHeartbeats 1000000 in
set_option maxRecDepth 100000 in
theorem rEnough_any (s : ScT) (w : World) (R : RightSc w s) : Calls Tryz.prog 13 #[.agg (scC s)] w fun e w' => e = .returned (.bool (decide (ptsS s ≤ 5) && decide (lstS s ≤ s.sl))) ∧ Ch [] w w' := by
  obtain ⟨W, hW, C, hB⟩ := scbox s w
  have hc64 := R.calls
  have hkl := keys_len (catL s.ls)
  have R1 := R.ch C
  have P1 := fun w R => rParts_any s w R
  have M1 := fun w R => rComes_any s w R
  have L1 := fun w => rslabs_any ((keysL (catL s.ls)).length : Int) (by omega) (by omega) w
  rw [show slabsB ((keysL (catL s.ls)).length : Int) = lstS s from rfl] at L1
  rw [comesR_eq] at M1
  obtain ⟨n, hn⟩ : ∃ n, ptsS s = n := ⟨_, rfl⟩
  rw [hn] at P1 ⊢
  obtain ⟨ll, hll⟩ : ∃ k, lstS s = k := ⟨_, rfl⟩
  rw [hll] at L1 ⊢
  obtain ⟨ks, hks⟩ : ∃ k, keysL (catL s.ls) = k := ⟨_, rfl⟩
  rw [hks] at M1 L1
  obtain ⟨kn, hkn⟩ : ∃ k, ks.length = k := ⟨_, rfl⟩
  rw [hkn] at M1 L1
  have hc1 : (scC s)[1]? = some (I s.sl) := rfl
  obtain ⟨B, hBe⟩ : ∃ B, w.heap.size = B := ⟨_, rfl⟩
  rw [hBe] at hB
  clear R hn hll hc64 hkl hks hkn
  by_cases h5 : n ≤ 5
  · have h5I : (n : Int) ≤ 5 := by omega
    rw [decide_eq_true h5, Bool.true_and]
    clear h5
    go_enter Tryz.func13, Tryz.ntmps13
    go_wp2
    try rw [hW]
    try rw [hBe]
    clear hW hBe
    have sP : (fun W' : World => Ch [] w W' ∧ W'.heap[B]? = some (.cells (scC s) 26 (0, 0))) W.drew := ⟨C.drew, hB⟩
    have R2 := R1.ch ((Ch.refl _ _).drew)
    refine wp_region_held_drew (S := fun W' : World => Ch [] w W' ∧ W'.heap[B]? = some (.cells (scC s) 26 (0, 0))) (by kernel_rfl) sP ?_
    intro _
    simp only [List.size_toArray, List.length_cons, List.length_nil, Nat.reduceAdd]
    clear C hB R1
    generalize W.drew = w2 at *
    refine wpAnyH_take (i := 0) (oi := ⟨some 3, _, _, _, _, none⟩) (v := ?_) rfl (by kernel_rfl) (by kernel_rfl) (by kernel_rfl) (fun _ _ _ h => h) (Or.inl ⟨by rfl, ?_⟩) sP ?_
    rotate_left
    · intro wq hSq
      obtain ⟨q0, q1⟩ := hSq
      first | (go_simp; done) | (go_simp; with_reducible rfl)
    try simp only [Act.put, List.setIfInBounds_toArray, List.set_cons_zero, List.set_cons_succ]
    refine wpAnyH_ready (rs := [1]) (by kernel_rfl) (by simp) ?_
    refine AllReadyH.cons rfl (fun K hK => ?_) AllReadyH.nil
    go_simp
    refine (P1 _ R2).mono ?_
    rintro e w3 ⟨rfl, hc3⟩
    have sP3 : (fun W' : World => Ch [] w W' ∧ W'.heap[B]? = some (.cells (scC s) 26 (0, 0))) w3 := ⟨sP.1.trans hc3, bkeep hc3 sP.2⟩
    refine hK.out _ _ sP3 (fun _ => ?_)
    have R3 := R2.ch hc3
    clear hK K sP hc3 P1 R2
    refine wpAnyH_take (i := 2) (oi := ⟨some 5, _, _, _, _, none⟩) (v := ?_) rfl (by kernel_rfl) (by kernel_rfl) (by kernel_rfl) (fun _ _ _ h => h) (Or.inl ⟨by rfl, ?_⟩) sP3 ?_
    rotate_left
    · intro wq hSq
      obtain ⟨q0, q1⟩ := hSq
      first | (go_simp; done) | (go_simp; with_reducible rfl)
    try simp only [Act.put, List.setIfInBounds_toArray, List.set_cons_zero, List.set_cons_succ]
    refine wpAnyH_take (i := 3) (oi := ⟨some 6, _, _, _, _, none⟩) (v := ?_) rfl (by kernel_rfl) (by kernel_rfl) (by kernel_rfl) (fun _ _ _ h => h) (Or.inl ⟨by rfl, ?_⟩) sP3 ?_
    rotate_left
    · intro wq hSq
      obtain ⟨q0, q1⟩ := hSq
      first | (go_simp; done) | (go_simp; with_reducible rfl)
    try simp only [Act.put, List.setIfInBounds_toArray, List.set_cons_zero, List.set_cons_succ]
    refine wpAnyH_take (i := 4) (oi := ⟨some 7, _, _, _, _, _⟩) (v := ?_) rfl (by kernel_rfl) (by kernel_rfl) (by kernel_rfl) (fun _ _ _ h => h) (Or.inl ⟨by rfl, ?_⟩) sP3 ?_
    rotate_left
    · intro wq hSq
      obtain ⟨q0, q1⟩ := hSq
      first | (go_simp; done) | (go_simp; with_reducible rfl)
    try simp only [Act.put, List.setIfInBounds_toArray, List.set_cons_zero, List.set_cons_succ]
    refine wpAnyH_take (i := 5) (oi := ⟨some 8, _, _, _, _, _⟩) (v := ?_) rfl (by kernel_rfl) (by kernel_rfl) (by kernel_rfl) (fun _ _ _ h => h) (Or.inl ⟨by rfl, ?_⟩) sP3 ?_
    rotate_left
    · intro wq hSq
      obtain ⟨q0, q1⟩ := hSq
      first | (go_simp; done) | (go_simp; with_reducible rfl)
    try simp only [Act.put, List.setIfInBounds_toArray, List.set_cons_zero, List.set_cons_succ]
    refine wpAnyH_take (i := 6) (oi := ⟨some 9, _, _, _, _, _⟩) (v := ?_) rfl (by kernel_rfl) (by kernel_rfl) (by kernel_rfl) (fun _ _ _ h => h) (Or.inl ⟨by rfl, ?_⟩) sP3 ?_
    rotate_left
    · intro wq hSq
      obtain ⟨q0, q1⟩ := hSq
      first | (go_simp; done) | (go_simp; with_reducible rfl)
    try simp only [Act.put, List.setIfInBounds_toArray, List.set_cons_zero, List.set_cons_succ]
    refine wpAnyH_ready (rs := [7]) (by kernel_rfl) (by simp) ?_
    refine AllReadyH.cons rfl (fun K hK => ?_) AllReadyH.nil
    go_simp
    refine (M1 _ R3).mono ?_
    rintro e w4 ⟨v, rfl, hown, hc4⟩
    have sP4 : (fun W' : World => Ch [] w W' ∧ W'.heap[B]? = some (.cells (scC s) 26 (0, 0))) w4 := ⟨sP3.1.trans hc4, bkeep hc4 sP3.2⟩
    refine hK.out _ _ sP4 (fun _ => ?_)
    obtain ⟨av, cv, hv, hl, hkw⟩ := own_kw hown
    subst hv
    clear hK K sP3 hc4 M1 R3 hown hkw hl
    refine wpAnyH_ready (rs := [8]) (by kernel_rfl) (by simp) ?_
    refine AllReadyH.cons rfl (fun K hK => ?_) AllReadyH.nil
    go_simp
    refine hK.out _ _ sP4 (fun _ => ?_)
    clear hK K
    refine wpAnyH_ready (rs := [9]) (by kernel_rfl) (by simp) ?_
    refine AllReadyH.cons rfl (fun K hK => ?_) AllReadyH.nil
    go_simp
    refine (L1 _).mono ?_
    rintro e w5 ⟨rfl, hc5⟩
    have sP5 : (fun W' : World => Ch [] w W' ∧ W'.heap[B]? = some (.cells (scC s) 26 (0, 0))) w5 := ⟨sP4.1.trans hc5, bkeep hc5 sP4.2⟩
    refine hK.out _ _ sP5 (fun _ => ?_)
    clear hK K sP4 hc5 L1
    refine wpAnyH_take (i := 10) (oi := ⟨some 13, _, _, _, _, _⟩) (v := ?_) rfl (by kernel_rfl) (by kernel_rfl) (by kernel_rfl) (fun _ _ _ h => h) (Or.inl ⟨by rfl, ?_⟩) sP5 ?_
    rotate_left
    · intro wq hSq
      first | (go_simp; done) | (go_simp; with_reducible rfl)
    try simp only [Act.put, List.setIfInBounds_toArray, List.set_cons_zero, List.set_cons_succ]
    refine wpAnyH_take (i := 11) (oi := ⟨some 14, _, _, _, _, none⟩) (v := ?_) rfl (by kernel_rfl) (by kernel_rfl) (by kernel_rfl) (fun _ _ _ h => h) (Or.inl ⟨by rfl, ?_⟩) sP5 ?_
    rotate_left
    · intro wq hSq
      first | (go_simp; done) | (go_simp; with_reducible rfl)
    try simp only [Act.put, List.setIfInBounds_toArray, List.set_cons_zero, List.set_cons_succ]
    refine wpAnyH_take (i := 12) (oi := ⟨some 2, _, _, _, _, none⟩) (v := ?_) rfl (by kernel_rfl) (by kernel_rfl) (by kernel_rfl) (fun _ _ _ h => h) (Or.inl ⟨by rfl, ?_⟩) sP5 ?_
    rotate_left
    · intro wq hSq
      first | (go_simp; done) | (go_simp; with_reducible rfl)
    try simp only [Act.put, List.setIfInBounds_toArray, List.set_cons_zero, List.set_cons_succ]
    refine wpAnyH_done (by kernel_rfl) ?_ _
    have C5 := sP5.1
    clear sP5
    go_wp2
    go_ret
    exact ⟨rfl, C5⟩
  · have h5d : decide ((n : Int) ≤ 5) = false := decide_eq_false (by omega)
    rw [decide_eq_false h5, Bool.false_and]
    clear h5
    go_enter Tryz.func13, Tryz.ntmps13
    go_wp2
    try rw [hW]
    try rw [hBe]
    clear hW hBe
    have sP : (fun W' : World => Ch [] w W' ∧ W'.heap[B]? = some (.cells (scC s) 26 (0, 0))) W.drew := ⟨C.drew, hB⟩
    have R2 := R1.ch ((Ch.refl _ _).drew)
    refine wp_region_held_drew (S := fun W' : World => Ch [] w W' ∧ W'.heap[B]? = some (.cells (scC s) 26 (0, 0))) (by kernel_rfl) sP ?_
    intro _
    simp only [List.size_toArray, List.length_cons, List.length_nil, Nat.reduceAdd]
    clear C hB R1
    generalize W.drew = w2 at *
    refine wpAnyH_take (i := 0) (oi := ⟨some 3, _, _, _, _, none⟩) (v := ?_) rfl (by kernel_rfl) (by kernel_rfl) (by kernel_rfl) (fun _ _ _ h => h) (Or.inl ⟨by rfl, ?_⟩) sP ?_
    rotate_left
    · intro wq hSq
      obtain ⟨q0, q1⟩ := hSq
      first | (go_simp; done) | (go_simp; with_reducible rfl)
    try simp only [Act.put, List.setIfInBounds_toArray, List.set_cons_zero, List.set_cons_succ]
    refine wpAnyH_ready (rs := [1]) (by kernel_rfl) (by simp) ?_
    refine AllReadyH.cons rfl (fun K hK => ?_) AllReadyH.nil
    go_simp
    refine (P1 _ R2).mono ?_
    rintro e w3 ⟨rfl, hc3⟩
    have sP3 : (fun W' : World => Ch [] w W' ∧ W'.heap[B]? = some (.cells (scC s) 26 (0, 0))) w3 := ⟨sP.1.trans hc3, bkeep hc3 sP.2⟩
    refine hK.out _ _ sP3 (fun _ => ?_)
    clear hK K sP hc3 P1 R2 M1 L1
    refine wpAnyH_take (i := 2) (oi := ⟨some 5, _, _, _, _, none⟩) (v := ?_) rfl (by kernel_rfl) (by kernel_rfl) (by kernel_rfl) (fun _ _ _ h => h) (Or.inl ⟨by rfl, ?_⟩) sP3 ?_
    rotate_left
    · intro wq hSq
      obtain ⟨q0, q1⟩ := hSq
      first | (go_simp; done) | (go_simp; with_reducible rfl)
    try simp only [Act.put, List.setIfInBounds_toArray, List.set_cons_zero, List.set_cons_succ]
    refine wpAnyH_take (i := 3) (oi := ⟨some 6, _, _, _, _, none⟩) (v := ?_) rfl (by kernel_rfl) (by kernel_rfl) (by kernel_rfl) (fun _ _ _ h => h) (Or.inl ⟨by rfl, ?_⟩) sP3 ?_
    rotate_left
    · intro wq hSq
      obtain ⟨q0, q1⟩ := hSq
      first | (go_simp; done) | (go_simp; with_reducible rfl)
    try simp only [Act.put, List.setIfInBounds_toArray, List.set_cons_zero, List.set_cons_succ]
    refine wpAnyH_take (i := 4) (oi := ⟨some 7, _, _, _, _, _⟩) (v := undef) rfl (by kernel_rfl) (by kernel_rfl) (by kernel_rfl) (fun _ _ _ h => h) (Or.inr ⟨by rfl, rfl⟩) sP3 ?_
    try simp only [Act.put, List.setIfInBounds_toArray, List.set_cons_zero, List.set_cons_succ]
    refine wpAnyH_take (i := 5) (oi := ⟨some 8, _, _, _, _, _⟩) (v := undef) rfl (by kernel_rfl) (by kernel_rfl) (by kernel_rfl) (fun _ _ _ h => h) (Or.inr ⟨by rfl, rfl⟩) sP3 ?_
    try simp only [Act.put, List.setIfInBounds_toArray, List.set_cons_zero, List.set_cons_succ]
    refine wpAnyH_take (i := 6) (oi := ⟨some 9, _, _, _, _, _⟩) (v := undef) rfl (by kernel_rfl) (by kernel_rfl) (by kernel_rfl) (fun _ _ _ h => h) (Or.inr ⟨by rfl, rfl⟩) sP3 ?_
    try simp only [Act.put, List.setIfInBounds_toArray, List.set_cons_zero, List.set_cons_succ]
    refine wpAnyH_ready (rs := [7]) (by kernel_rfl) (by simp) ?_
    refine AllReadyH.cons rfl (fun K hK => ?_) AllReadyH.nil
    go_simp
    refine hK.out _ _ sP3 (fun _ => ?_)
    clear hK K
    refine wpAnyH_ready (rs := [8]) (by kernel_rfl) (by simp) ?_
    refine AllReadyH.cons rfl (fun K hK => ?_) AllReadyH.nil
    go_simp
    refine hK.out _ _ sP3 (fun _ => ?_)
    clear hK K
    refine wpAnyH_ready (rs := [9]) (by kernel_rfl) (by simp) ?_
    refine AllReadyH.cons rfl (fun K hK => ?_) AllReadyH.nil
    go_simp
    refine hK.out _ _ sP3 (fun _ => ?_)
    clear hK K
    refine wpAnyH_take (i := 10) (oi := ⟨some 13, _, _, _, _, _⟩) (v := undef) rfl (by kernel_rfl) (by kernel_rfl) (by kernel_rfl) (fun _ _ _ h => h) (Or.inr ⟨by rfl, rfl⟩) sP3 ?_
    try simp only [Act.put, List.setIfInBounds_toArray, List.set_cons_zero, List.set_cons_succ]
    refine wpAnyH_take (i := 11) (oi := ⟨some 14, _, _, _, _, none⟩) (v := ?_) rfl (by kernel_rfl) (by kernel_rfl) (by kernel_rfl) (fun _ _ _ h => h) (Or.inl ⟨by rfl, ?_⟩) sP3 ?_
    rotate_left
    · intro wq hSq
      first | (go_simp; done) | (go_simp; with_reducible rfl)
    try simp only [Act.put, List.setIfInBounds_toArray, List.set_cons_zero, List.set_cons_succ]
    refine wpAnyH_take (i := 12) (oi := ⟨some 2, _, _, _, _, none⟩) (v := ?_) rfl (by kernel_rfl) (by kernel_rfl) (by kernel_rfl) (fun _ _ _ h => h) (Or.inl ⟨by rfl, ?_⟩) sP3 ?_
    rotate_left
    · intro wq hSq
      first | (go_simp; done) | (go_simp; with_reducible rfl)
    try simp only [Act.put, List.setIfInBounds_toArray, List.set_cons_zero, List.set_cons_succ]
    refine wpAnyH_done (by kernel_rfl) ?_ _
    have C5 := sP3.1
    clear sP3
    go_wp2
    go_ret
    exact ⟨rfl, C5⟩
end Go.Proofs.Hc
