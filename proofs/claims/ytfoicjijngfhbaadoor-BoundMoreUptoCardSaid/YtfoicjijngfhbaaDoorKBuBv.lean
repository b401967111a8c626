/- bound: a script of one key that comes. -/
import Derived.Test.YtfoicjijngfhbaaDoorKBt
set_option linter.unusedSimpArgs false
set_option linter.unusedVariables false
namespace Go.Proofs.Hc
open Go.RowKit
set_option linter.unusedVariables false
attribute [local go_sem] wrap_u64 wrap_u8 bits_xor64 bits_and64 bits_or64 bits_not64 bits_xor8 bits_and8 bits_or8 signed64 signed8 ofInt_N BitVec.ofInt_add BitVec.ofInt_mul ofInt_sub' ofInt8_N64 ofInt64_N8 wide8 eqN neN shr_pow shr1 shr7 shr56
attribute [local go_sem high] bits_com64 shl_wrap
attribute [local go_sem] nn2 nm2 nn3 nm3 nn4 nm4 nn5 nm5 nn6 nm6 nn7 nm7 nn8 nm8
attribute [local go_sem] Oper.semAt_some make_func1 make_funcB
attribute [local go_sem] cell_heap ice_heap cellAt_cells iceAt_cells setAt_cells size_setCell rowAt_cells canLay_cells laidAt_cells size_onObj rowRes_some layRes_true
attribute [local go_sem ↓] heap_alloc heap_drew heap_drewN heap_setCell heap_putObj heap_onObj
attribute [local go_sem] loadS box_sc loadP5 box_pl scC_size scC_all
attribute [local go_sem ↓] lrowS lrowP5
/-- A script that may be, of which one key comes. -/
structure OneSc (w : World) (s : ScT) (k : BitVec 64) : Prop where
  right : RightSc w s
  one : ∀ k', cntL (catL s.ls) k' ≠ 0 ↔ k' = k
  tk : TakesAt w
theorem OneSc.ch {w w' : World} {s : ScT} {k : BitVec 64} (h : OneSc w s k) (c : Ch [] w w') : OneSc w' s k := ⟨h.right.ch c, h.one, h.tk.ch c⟩
theorem one_list {xs : List (BitVec 64)} {k : BitVec 64} (hn : xs.Nodup) (h : ∀ k', k' ∈ xs ↔ k' = k) : xs = [k] := by
  match xs, hn, h with
  | [], _, h => exact absurd ((h k).2 rfl) (by simp)
  | [a], _, h => rw [(h a).1 (by simp)]
  | a :: b :: l, hn, h =>
    have ha := (h a).1 (by simp)
    have hb := (h b).1 (by simp)
    rw [ha, hb] at hn
    simp at hn
theorem comes_one (s : ScT) (k : BitVec 64) (w : World) (R : OneSc w s k) :
    Calls Tryd.prog 35 #[.agg (scC s)] w fun e w' => ∃ v, e = .returned v ∧ w'.ownsRow w.heap.size 32 1 v 1 [U k] ∧ Ch [] w w' :=
  comes_any s w R.right [k] (fun xs hn h => by
    rw [one_list hn (fun k' => (h k').trans (R.one k'))]
    exact sort_one k)
theorem plbox (s : ScT) (w : World) : ∃ W, w.alloc (.cells (scC s) 55) = W ∧ Ch [] w W ∧ W.heap[w.heap.size]? = some (.cells (scC s) 55 (0, 0)) :=
  ⟨_, rfl, (Ch.refl [] w).alloc _, by rw [heap_alloc, if_pos rfl]⟩
theorem scC_seed (s : ScT) : (scC s)[2]? = some (U s.sd) := rfl
attribute [local go_sem] scC_seed
set_option maxHeartbeats 1000000 in
set_option maxRecDepth 100000 in
theorem parts_one (s : ScT) (k : BitVec 64) (w : World) (R : OneSc w s k) : Calls Tryd.prog 37 #[.agg (scC s)] w fun e w' => e = .returned (I 0) ∧ Ch [] w w' := by
  obtain ⟨W, hW, C, hB⟩ := plbox s w
  have R1 := R.ch C
  have M1 := fun w R => comes_one s k w R
  have D1 := fun v base w hown => deepest_one s.sd k 7 (by decide) v base w hown
  obtain ⟨B, hBe⟩ : ∃ B, w.heap.size = B := ⟨_, rfl⟩
  rw [hBe] at hB
  clear R
  go_enter Tryd.func37, Tryd.ntmps37
  go_wp2
  try rw [hW]
  try rw [hBe]
  clear hW hBe
  have sP : (fun W' : World => Ch [] w W' ∧ W'.heap[B]? = some (.cells (scC s) 55 (0, 0))) W.drew := ⟨C.drew, hB⟩
  have R2 := R1.ch ((Ch.refl [] W).drew)
  refine wp_region_held_drew (S := fun W' : World => Ch [] w W' ∧ W'.heap[B]? = some (.cells (scC s) 55 (0, 0))) (by kernel_rfl) sP ?_
  intro _
  simp only [List.size_toArray, List.length_cons, List.length_nil, Nat.reduceAdd]
  clear C hB R1
  generalize W.drew = w2 at *
  refine wpAnyH_take (i := 0) (oi := ⟨some 6, _, _, _, _, none⟩) (v := ?_) rfl (by kernel_rfl) (by kernel_rfl) (by kernel_rfl) (fun _ _ _ h => h) (Or.inl ⟨by rfl, ?_⟩) sP ?_
  rotate_left
  · intro wq hSq
    obtain ⟨q0, q1⟩ := hSq
    first | (go_simp; done) | (go_simp; with_reducible rfl)
  try simp only [Act.put, List.setIfInBounds_toArray, List.set_cons_zero, List.set_cons_succ]
  refine wpAnyH_take (i := 1) (oi := ⟨some 7, _, _, _, _, none⟩) (v := ?_) rfl (by kernel_rfl) (by kernel_rfl) (by kernel_rfl) (fun _ _ _ h => h) (Or.inl ⟨by rfl, ?_⟩) sP ?_
  rotate_left
  · intro wq hSq
    obtain ⟨q0, q1⟩ := hSq
    first | (go_simp; done) | (go_simp; with_reducible rfl)
  try simp only [Act.put, List.setIfInBounds_toArray, List.set_cons_zero, List.set_cons_succ]
  refine wpAnyH_take (i := 2) (oi := ⟨some 8, _, _, _, _, none⟩) (v := ?_) rfl (by kernel_rfl) (by kernel_rfl) (by kernel_rfl) (fun _ _ _ h => h) (Or.inl ⟨by rfl, ?_⟩) sP ?_
  rotate_left
  · intro wq hSq
    obtain ⟨q0, q1⟩ := hSq
    first | (go_simp; done) | (go_simp; with_reducible rfl)
  try simp only [Act.put, List.setIfInBounds_toArray, List.set_cons_zero, List.set_cons_succ]
  refine wpAnyH_take (i := 3) (oi := ⟨some 9, _, _, _, _, none⟩) (v := ?_) rfl (by kernel_rfl) (by kernel_rfl) (by kernel_rfl) (fun _ _ _ h => h) (Or.inl ⟨by rfl, ?_⟩) sP ?_
  rotate_left
  · intro wq hSq
    obtain ⟨q0, q1⟩ := hSq
    first | (go_simp; done) | (go_simp; with_reducible rfl)
  try simp only [Act.put, List.setIfInBounds_toArray, List.set_cons_zero, List.set_cons_succ]
  refine wpAnyH_ready (rs := [4]) (by kernel_rfl) (by simp) ?_
  refine AllReadyH.cons rfl (fun K hK => ?_) AllReadyH.nil
  go_simp
  refine (M1 _ R2).mono ?_
  rintro e w3 ⟨v, rfl, hown, hc3⟩
  have sP3 : (fun W' : World => Ch [] w W' ∧ W'.heap[B]? = some (.cells (scC s) 55 (0, 0))) w3 := ⟨sP.1.trans hc3, bkeep hc3 sP.2⟩
  refine hK.out _ _ sP3 (fun _ => ?_)
  clear hK K sP hc3 M1 R2
  refine wpAnyH_ready (rs := [5]) (by kernel_rfl) (by simp) ?_
  refine AllReadyH.cons rfl (fun K hK => ?_) AllReadyH.nil
  go_simp
  refine (D1 _ _ _ hown).mono ?_
  rintro e w4 ⟨rfl, hc4⟩
  have sP4 : (fun W' : World => Ch [] w W' ∧ W'.heap[B]? = some (.cells (scC s) 55 (0, 0))) w4 := ⟨sP3.1.trans hc4, bkeep hc4 sP3.2⟩
  refine hK.out _ _ sP4 (fun _ => ?_)
  clear hK K sP3 hc4 hown D1
  refine wpAnyH_take (i := 6) (oi := ⟨some 5, _, _, _, _, none⟩) (v := ?_) rfl (by kernel_rfl) (by kernel_rfl) (by kernel_rfl) (fun _ _ _ h => h) (Or.inl ⟨by rfl, ?_⟩) sP4 ?_
  rotate_left
  · intro wq hSq
    first | (go_simp; done) | (go_simp; with_reducible rfl)
  try simp only [Act.put, List.setIfInBounds_toArray, List.set_cons_zero, List.set_cons_succ]
  refine wpAnyH_take (i := 7) (oi := ⟨some 12, _, _, _, _, none⟩) (v := ?_) rfl (by kernel_rfl) (by kernel_rfl) (by kernel_rfl) (fun _ _ _ h => h) (Or.inl ⟨by rfl, ?_⟩) sP4 ?_
  rotate_left
  · intro wq hSq
    first | (go_simp; done) | (go_simp; with_reducible rfl)
  try simp only [Act.put, List.setIfInBounds_toArray, List.set_cons_zero, List.set_cons_succ]
  refine wpAnyH_take (i := 8) (oi := ⟨some 13, _, _, _, _, none⟩) (v := ?_) rfl (by kernel_rfl) (by kernel_rfl) (by kernel_rfl) (fun _ _ _ h => h) (Or.inl ⟨by rfl, ?_⟩) sP4 ?_
  rotate_left
  · intro wq hSq
    first | (go_simp; done) | (go_simp; with_reducible rfl)
  try simp only [Act.put, List.setIfInBounds_toArray, List.set_cons_zero, List.set_cons_succ]
  refine wpAnyH_take (i := 9) (oi := ⟨some 3, _, _, _, _, none⟩) (v := ?_) rfl (by kernel_rfl) (by kernel_rfl) (by kernel_rfl) (fun _ _ _ h => h) (Or.inl ⟨by rfl, ?_⟩) sP4 ?_
  rotate_left
  · intro wq hSq
    first | (go_simp; done) | (go_simp; with_reducible rfl)
  try simp only [Act.put, List.setIfInBounds_toArray, List.set_cons_zero, List.set_cons_succ]
  refine wpAnyH_take (i := 10) (oi := ⟨some 4, _, _, _, _, none⟩) (v := ?_) rfl (by kernel_rfl) (by kernel_rfl) (by kernel_rfl) (fun _ _ _ h => h) (Or.inl ⟨by rfl, ?_⟩) sP4 ?_
  rotate_left
  · intro wq hSq
    first | (go_simp; done) | (go_simp; with_reducible rfl)
  try simp only [Act.put, List.setIfInBounds_toArray, List.set_cons_zero, List.set_cons_succ]
  refine wpAnyH_done (by kernel_rfl) ?_ _
  have C4 := sP4.1
  clear sP4
  go_wp2_with (go_at_call 28; refine (bneed_yes _ _).mono ?_; rintro e w' ⟨rfl, rfl⟩)
  go_ret
  exact ⟨rfl, C4⟩
end Go.Proofs.Hc
/- bound: least, Comes, Enough of a script of one key that comes. -/
namespace Go.Proofs.Hc
open Go.RowKit
set_option linter.unusedVariables false
attribute [local go_sem] wrap_u64 wrap_u8 bits_xor64 bits_and64 bits_or64 bits_not64 bits_xor8 bits_and8 bits_or8 signed64 signed8 ofInt_N BitVec.ofInt_add BitVec.ofInt_mul ofInt_sub' ofInt8_N64 ofInt64_N8 wide8 eqN neN shr_pow shr1 shr7 shr56
attribute [local go_sem high] bits_com64 shl_wrap
attribute [local go_sem] nn2 nm2 nn3 nm3 nn4 nm4 nn5 nm5 nn6 nm6 nn7 nm7 nn8 nm8
attribute [local go_sem] Oper.semAt_some make_func1 make_funcB
attribute [local go_sem] cell_heap ice_heap cellAt_cells iceAt_cells setAt_cells size_setCell rowAt_cells canLay_cells laidAt_cells size_onObj rowRes_some layRes_true
attribute [local go_sem ↓] heap_alloc heap_drew heap_drewN heap_setCell heap_putObj heap_onObj
attribute [local go_sem] loadS box_sc loadP5 box_pl scC_size scC_all scC_seed
attribute [local go_sem ↓] lrowS lrowP5
theorem slabsB_one : slabsB 1 = 2 := by decide
set_option maxRecDepth 100000 in
theorem least_one (s : ScT) (k : BitVec 64) (w : World) (R : OneSc w s k) : Calls Tryd.prog 31 #[.agg (scC s)] w fun e w' => e = .returned (I 2) ∧ Ch [] w w' := by
  obtain ⟨W, hW, C, hB⟩ := plbox s w
  have P1 := parts_one s k W (R.ch C)
  have M1 := fun w R => comes_one s k w R
  have L1 := fun w => slabs_any 1 (by decide) (by decide) w
  rw [slabsB_one] at L1
  have R1 := R.ch C
  obtain ⟨B, hBe⟩ : ∃ B, w.heap.size = B := ⟨_, rfl⟩
  rw [hBe] at hB
  clear R
  go_enter Tryd.func31, Tryd.ntmps31
  go_upto_region 1 with (fail)
  try rw [hW]
  try rw [hBe]
  clear hW hBe
  go_wp2_with fail
  refine P1.mono ?_
  rintro e w2 ⟨rfl, hc2⟩
  have hB2 := bkeep hc2 hB
  have R2 := R1.ch hc2
  have C2 := C.trans hc2
  have M2 := M1 w2 R2
  clear C hB R1 P1 M1 hc2 R2
  go_wp2_with (go_at_call 28; refine (bneed_yes _ _).mono ?_; rintro e w' ⟨rfl, rfl⟩)
  refine M2.mono ?_
  rintro e w3 ⟨v, rfl, hown, hc3⟩
  obtain ⟨a, c, rfl⟩ := own_val hown
  have C3 := C2.trans hc3
  clear hown M2 hc3 C2 hB2
  go_wp2_with fail
  refine (L1 _).mono ?_
  rintro e w4 ⟨rfl, hc4⟩
  go_wp2
  go_ret
  exact ⟨rfl, C3.trans hc4⟩
set_option maxRecDepth 100000 in
theorem comes1_one (s : ScT) (k : BitVec 64) (b : Nat) (w : World) (R : OneSc w s k) (hb : w.heap[b]? = some (.cells (scC s) 36 (0, 0))) : Calls Tryd.prog 34 #[.pointer (some ⟨b, 0, none⟩)] w fun e w' => ∃ v, e = .returned v ∧ w'.ownsRow w.heap.size 32 1 v 1 [U k] ∧ Ch [] w w' := by
  have O1 := of_yes s w R.right R.tk
  have M1 := fun w R => comes_one s k w R
  go_enter Tryd.func34, Tryd.ntmps34
  go_wp2_with fail
  refine O1.mono ?_
  rintro e w2 ⟨rfl, hc2⟩
  have M2 := M1 w2 (R.ch hc2)
  clear O1 M1 R hb
  go_wp2_with fail
  refine M2.mono ?_
  rintro e w3 ⟨v, rfl, hown, hc3⟩
  have HO := Lib.hid (own_low hown hc2.size)
  obtain ⟨a, c, rfl⟩ := own_val hown
  clear hown M2
  go_wp2
  go_ret
  exact ⟨_, rfl, HO.out, hc2.trans hc3⟩
set_option maxRecDepth 100000 in
theorem comesP_one (s : ScT) (k : BitVec 64) (w : World) (R : OneSc w s k) : Calls Tryd.prog 16 #[.agg (scC s)] w fun e w' => ∃ v, e = .returned (.tuple #[v, I 0]) ∧ w'.ownsRow w.heap.size 32 1 v 1 [U k] ∧ Ch [] w w' := by
  obtain ⟨W, hW, C, hB⟩ := scbox s w
  have T1 : Calls Tryd.prog 33 #[.func (.func 34) #[] #[.pointer (some ⟨w.heap.size, 0, none⟩)]] W fun e w' => ∃ v, e = .returned (.tuple #[v, I 0]) ∧ w'.ownsRow w.heap.size 32 1 v 1 [U k] ∧ Ch [] W w' := by
    refine (triesBW_ok 34 _ W (fun x w' => w'.ownsRow (W.heap.size + 2) 32 1 (.slice x.1 x.2.1 x.2.2) 1 [U k]) (fun x A B h c => own_keep h c (by simp)) (fun _ _ => by kernel_rfl) (fun w1 hc hz => (comes1_one s k _ w1 (R.ch (C.trans hc)) (bkeep hc hB)).mono fun e w2 h => ?_)).mono ?_
    · obtain ⟨v, he, ho, hc2⟩ := h
      obtain ⟨a, c, rfl⟩ := own_val ho
      exact ⟨(a, 1, c), he, own_low ho hz, hc2⟩
    · rintro e w' ⟨x, rfl, ho, hc⟩
      exact ⟨_, rfl, own_low ho (by have := C.size; omega), hc⟩
  clear R hB
  go_enter Tryd.func16, Tryd.ntmps16
  go_upto_region 1 with (fail)
  try rw [hW]
  clear hW
  go_wp2_with fail
  refine T1.mono ?_
  rintro e w2 ⟨v, rfl, hown, hc⟩
  have HO := Lib.hid hown
  obtain ⟨a, c, rfl⟩ := own_val hown
  clear hown T1
  go_wp2
  go_ret2
  exact ⟨_, rfl, HO.out, C.trans hc⟩
theorem enters_least (args : Array Value) (w : World) : (callFunc 31 args).run Tryd.prog w = .ok (.enter 31 args) w := by kernel_rfl
set_option maxRecDepth 100000 in
theorem enough1_one (s : ScT) (k : BitVec 64) (b : Nat) (w : World) (R : OneSc w s k) (hb : w.heap[b]? = some (.cells (scC s) 36 (0, 0))) : Calls Tryd.prog 32 #[.pointer (some ⟨b, 0, none⟩)] w fun e w' => e = .returned (I 2) ∧ Ch [] w w' := by
  have O1 := of_yes s w R.right R.tk
  have M1 := fun w R => least_one s k w R
  go_enter Tryd.func32, Tryd.ntmps32
  go_wp2_with fail
  refine O1.mono ?_
  rintro e w2 ⟨rfl, hc2⟩
  have M2 := M1 w2 (R.ch hc2)
  clear O1 M1 R hb
  go_wp2_with fail
  refine M2.mono ?_
  rintro e w3 ⟨rfl, hc3⟩
  clear M2
  go_wp2
  go_ret
  exact ⟨rfl, hc2.trans hc3⟩
set_option maxRecDepth 100000 in
theorem enough_one (s : ScT) (k : BitVec 64) (w : World) (R : OneSc w s k) : Calls Tryd.prog 15 #[.agg (scC s)] w fun e w' => e = .returned (.bool true) ∧ Ch [] w w' := by
  obtain ⟨W, hW, C, hB⟩ := scbox s w
  have T1 : Calls Tryd.prog 20 #[.func (.func 32) #[] #[.pointer (some ⟨w.heap.size, 0, none⟩)]] W fun e w' => e = .returned (.tuple #[I 2, I 0]) ∧ Ch [] W w' := by
    refine (triesBI_ok 32 _ W (fun x _ => x = 2) (fun _ _ _ h _ => h) (fun _ _ => by kernel_rfl) (fun w1 hc hz => (enough1_one s k _ w1 (R.ch (C.trans hc)) (bkeep hc hB)).mono fun e w2 h => ⟨_, h.1, rfl, h.2⟩)).mono ?_
    rintro e w' ⟨x, rfl, rfl, hc⟩
    exact ⟨rfl, hc⟩
  have h2 := R.right.s2
  clear R
  obtain ⟨B, hBe⟩ : ∃ B, w.heap.size = B := ⟨_, rfl⟩
  rw [hBe] at hB T1
  have hc1 : (scC s)[1]? = some (I s.sl) := rfl
  go_enter Tryd.func15, Tryd.ntmps15
  go_upto_region 1 with (fail)
  try rw [hW]
  try rw [hBe]
  clear hW hBe
  go_wp2_with fail
  refine T1.mono ?_
  rintro e w2 ⟨rfl, hc⟩
  have hB2 := bkeep hc hB
  clear T1 hB
  go_wp2
  go_ret
  exact ⟨rfl, C.trans hc⟩
end Go.Proofs.Hc
