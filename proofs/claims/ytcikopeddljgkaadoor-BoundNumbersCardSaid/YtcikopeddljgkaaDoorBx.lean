import Derived.Test.YtcikopeddljgkaaDoorBw
/- bound.Least of two scripts; slices.Equal at words. -/
namespace Go.Proofs.Hc
open Go.RowKit
set_option linter.unusedVariables false
attribute [local go_sem] wrap_u64 wrap_u8 bits_xor64 bits_and64 bits_or64 bits_not64 bits_xor8 bits_and8 bits_or8 signed64 signed8 ofInt_N BitVec.ofInt_add BitVec.ofInt_mul ofInt_sub' ofInt8_N64 ofInt64_N8 wide8 eqN neN shr_pow shr1 shr7 shr56
attribute [local go_sem high] bits_com64 shl_wrap
attribute [local go_sem] nn2 nm2 nn3 nm3 nn4 nm4 nn5 nm5 nn6 nm6 nn7 nm7 nn8 nm8
attribute [local go_sem] Oper.semAt_some make_func1 make_funcB
attribute [local go_sem] cell_heap ice_heap cellAt_cells iceAt_cells setAt_cells size_setCell rowAt_cells canLay_cells laidAt_cells size_onObj rowRes_some layRes_true
attribute [local go_sem ↓] heap_alloc heap_drew heap_drewN heap_setCell heap_putObj heap_onObj
theorem box_sl (v : Value) (w : World) (a : Option Addr) (n c : Nat) (h : v = .slice a n c) : ∃ W, w.alloc (.cells #[.slice a n c] 53) = W ∧ Ch [] w W ∧ W.heap[w.heap.size]? = some (.cells #[.slice a n c] 53 (0, 0)) := ⟨_, rfl, (Ch.refl [] w).alloc _, by rw [heap_alloc, if_pos rfl]⟩
set_option maxRecDepth 100000 in
theorem leastP_two (s : ScT) (k : BitVec 64) (Q c : Nat) (w : World) (R : OneSc w s k) (hQ : w.heap[Q]? = some (.cells (twoSc s) 36 (0, 0))) : Calls Tryd.prog 14 #[.slice (some ⟨Q, 0, none⟩) 2 c] w fun e w' => e = .returned (.tuple #[I 2, I 0]) ∧ Ch [] w w' := by
  obtain ⟨W, hW, C, hB⟩ := box_sl _ w (some ⟨Q, 0, none⟩) 2 c rfl
  have T1 : Calls Tryd.prog 20 #[.func (.func 29) #[] #[.pointer (some ⟨w.heap.size, 0, none⟩)]] W fun e w' => e = .returned (.tuple #[I 2, I 0]) ∧ Ch [] W w' := by
    refine (triesBI_ok 29 _ W (fun x _ => x = 2) (fun _ _ _ h _ => h) (fun _ _ => by kernel_rfl) (fun w1 hc hz => (least1_two s k _ Q c w1 (R.ch (C.trans hc)) (bkeep hc hB) (bkeep (C.trans hc) hQ)).mono fun e w2 h => ⟨_, h.1, rfl, h.2⟩)).mono ?_
    rintro e w' ⟨x, rfl, rfl, hc⟩
    exact ⟨rfl, hc⟩
  clear R hQ hB
  obtain ⟨B, hBe⟩ : ∃ B, w.heap.size = B := ⟨_, rfl⟩
  rw [hBe] at T1
  go_enter Tryd.func14, Tryd.ntmps14
  go_upto_region 1 with (fail)
  try rw [hW]
  try rw [hBe]
  clear hW hBe
  go_wp2_with fail
  refine T1.mono ?_
  rintro e w2 ⟨rfl, hc⟩
  go_wp2
  go_ret2
  exact ⟨rfl, C.trans hc⟩
set_option maxRecDepth 100000 in
theorem equal_one (k : BitVec 64) (base : Nat) (v : Value) (q c : Nat) (w : World) (hown : w.ownsRow base 32 1 v 1 [U k]) (hq : w.heap[q]? = some (.cells #[U k] 32 (0, 0))) : Calls Tryd.prog 19 #[v, .slice (some ⟨q, 0, none⟩) 1 c] w fun e w' => e = .returned (.bool true) ∧ Ch [] w w' := by
  obtain ⟨_, ⟨_, h0⟩ | ⟨p, cap, cur, rfl, hbq, hp, hnc, hcm, hcs, htake⟩⟩ := hown
  · cases h0
  have hcur : cur[0]? = some (U k) := by
    have := congrArg (fun l => l[0]?) htake
    simpa using this
  clear htake hcs hcm hnc hbq
  go_enter Tryd.func19, Tryd.ntmps19
  go_wp2
  refine wp_loop_rounds 2 ?_
  rw [rounds_succ]
  go_wp2
  have sP : (fun W' : World => Ch [] w W' ∧ W'.heap[p]? = some (.cells cur 32 (0, 0)) ∧ W'.heap[q]? = some (.cells #[U k] 32 (0, 0))) w.drew := ⟨(Ch.refl [] w).drew, hp, hq⟩
  refine wp_region_held_drew (S := fun W' : World => Ch [] w W' ∧ W'.heap[p]? = some (.cells cur 32 (0, 0)) ∧ W'.heap[q]? = some (.cells #[U k] 32 (0, 0))) (by kernel_rfl) sP ?_
  intro _
  simp only [List.size_toArray, List.length_cons, List.length_nil, Nat.reduceAdd]
  clear hp hq
  generalize w.drew = w2 at *
  refine wpAnyH_take (i := 0) (oi := ⟨some 16, _, _, _, _, none⟩) (v := ?_) rfl (by kernel_rfl) (by kernel_rfl) (by kernel_rfl) (fun _ _ _ h => h) (Or.inl ⟨by rfl, ?_⟩) sP ?_
  rotate_left
  · intro wq hSq
    obtain ⟨q0, q1, q2⟩ := hSq
    first | (go_simp; done) | (go_simp; with_reducible rfl)
  try simp only [Act.put, List.setIfInBounds_toArray, List.set_cons_zero, List.set_cons_succ]
  refine wpAnyH_take (i := 1) (oi := ⟨some 17, _, _, _, _, none⟩) (v := ?_) rfl (by kernel_rfl) (by kernel_rfl) (by kernel_rfl) (fun _ _ _ h => h) (Or.inl ⟨by rfl, ?_⟩) sP ?_
  rotate_left
  · intro wq hSq
    obtain ⟨q0, q1, q2⟩ := hSq
    first | (go_simp; done) | (go_simp; with_reducible rfl)
  try simp only [Act.put, List.setIfInBounds_toArray, List.set_cons_zero, List.set_cons_succ]
  refine wpAnyH_take (i := 2) (oi := ⟨some 18, _, _, _, _, none⟩) (v := ?_) rfl (by kernel_rfl) (by kernel_rfl) (by kernel_rfl) (fun _ _ _ h => h) (Or.inl ⟨by rfl, ?_⟩) sP ?_
  rotate_left
  · intro wq hSq
    obtain ⟨q0, q1, q2⟩ := hSq
    first | (go_simp; done) | (go_simp; with_reducible rfl)
  try simp only [Act.put, List.setIfInBounds_toArray, List.set_cons_zero, List.set_cons_succ]
  refine wpAnyH_take (i := 3) (oi := ⟨some 19, _, _, _, _, none⟩) (v := ?_) rfl (by kernel_rfl) (by kernel_rfl) (by kernel_rfl) (fun _ _ _ h => h) (Or.inl ⟨by rfl, ?_⟩) sP ?_
  rotate_left
  · intro wq hSq
    obtain ⟨q0, q1, q2⟩ := hSq
    first | (go_simp; done) | (go_simp; with_reducible rfl)
  try simp only [Act.put, List.setIfInBounds_toArray, List.set_cons_zero, List.set_cons_succ]
  refine wpAnyH_take (i := 4) (oi := ⟨some 20, _, _, _, _, none⟩) (v := ?_) rfl (by kernel_rfl) (by kernel_rfl) (by kernel_rfl) (fun _ _ _ h => h) (Or.inl ⟨by rfl, ?_⟩) sP ?_
  rotate_left
  · intro wq hSq
    obtain ⟨q0, q1, q2⟩ := hSq
    first | (go_simp; done) | (go_simp; with_reducible rfl)
  try simp only [Act.put, List.setIfInBounds_toArray, List.set_cons_zero, List.set_cons_succ]
  refine wpAnyH_take (i := 5) (oi := ⟨some 21, _, _, _, _, none⟩) (v := ?_) rfl (by kernel_rfl) (by kernel_rfl) (by kernel_rfl) (fun _ _ _ h => h) (Or.inl ⟨by rfl, ?_⟩) sP ?_
  rotate_left
  · intro wq hSq
    obtain ⟨q0, q1, q2⟩ := hSq
    first | (go_simp; done) | (go_simp; with_reducible rfl)
  try simp only [Act.put, List.setIfInBounds_toArray, List.set_cons_zero, List.set_cons_succ]
  refine wpAnyH_take (i := 6) (oi := ⟨some 22, _, _, _, _, none⟩) (v := ?_) rfl (by kernel_rfl) (by kernel_rfl) (by kernel_rfl) (fun _ _ _ h => h) (Or.inl ⟨by rfl, ?_⟩) sP ?_
  rotate_left
  · intro wq hSq
    obtain ⟨q0, q1, q2⟩ := hSq
    first | (go_simp; done) | (go_simp; with_reducible rfl)
  try simp only [Act.put, List.setIfInBounds_toArray, List.set_cons_zero, List.set_cons_succ]
  refine wpAnyH_take (i := 7) (oi := ⟨some 23, _, _, _, _, none⟩) (v := ?_) rfl (by kernel_rfl) (by kernel_rfl) (by kernel_rfl) (fun _ _ _ h => h) (Or.inl ⟨by rfl, ?_⟩) sP ?_
  rotate_left
  · intro wq hSq
    obtain ⟨q0, q1, q2⟩ := hSq
    first | (go_simp; done) | (go_simp; with_reducible rfl)
  try simp only [Act.put, List.setIfInBounds_toArray, List.set_cons_zero, List.set_cons_succ]
  refine wpAnyH_take (i := 8) (oi := ⟨some 24, _, _, _, _, none⟩) (v := ?_) rfl (by kernel_rfl) (by kernel_rfl) (by kernel_rfl) (fun _ _ _ h => h) (Or.inl ⟨by rfl, ?_⟩) sP ?_
  rotate_left
  · intro wq hSq
    obtain ⟨q0, q1, q2⟩ := hSq
    first | (go_simp; done) | (go_simp; with_reducible rfl)
  try simp only [Act.put, List.setIfInBounds_toArray, List.set_cons_zero, List.set_cons_succ]
  refine wpAnyH_done (by kernel_rfl) ?_ _
  have C2 := sP.1
  clear sP
  go_wp2
  rw [rounds_succ]
  go_wp2
  go_ret
  exact ⟨rfl, C2⟩
end Go.Proofs.Hc
