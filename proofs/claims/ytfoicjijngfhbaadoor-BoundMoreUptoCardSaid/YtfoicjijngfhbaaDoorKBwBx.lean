/- bound: Least of two scripts of one key (printed by gen_bleast.py). -/
import Derived.Test.YtfoicjijngfhbaaDoorKBuBv
import Derived.ScopeJumps
set_option linter.unusedSimpArgs false
set_option linter.unusedVariables false
namespace Go.Proofs.Hc
open Go.RowKit
set_option linter.unusedVariables false
attribute [local go_sem] wrap_u64 wrap_u8 bits_xor64 bits_and64 bits_or64 bits_not64 bits_xor8 bits_and8 bits_or8 signed64 signed8 ofInt_N BitVec.ofInt_add BitVec.ofInt_mul ofInt_sub' ofInt8_N64 ofInt64_N8 wide8 eqN neN shr_pow shr1 shr7 shr56
attribute [local go_sem high] bits_com64 shl_wrap
attribute [local go_sem] nn2 nm2 nn3 nm3 nn4 nm4 nn5 nm5 nn6 nm6 nn7 nm7 nn8 nm8
attribute [local go_sem] Oper.semAt_some make_func1 make_funcB
attribute [local go_sem] cell_heap ice_heap cellAt_cells iceAt_cells setAt_cells size_setCell rowAt_cells canLay_cells laidAt_cells size_onObj rowRes_some layRes_true
attribute [local go_sem ↓] heap_alloc heap_drew heap_drewN heap_setCell heap_putObj heap_onObj
attribute [local go_sem] loadS box_sc loadP5 box_pl scC_size scC_all scC_seed
attribute [local go_sem ↓] lrowS lrowP5
theorem scope_jumpsB {P : Program} {a : Act} {w : World} {Q : Exit → Act → World → Prop} {c rest : Code} (l : Nat) (J : Act → World → Prop) (μ : Act → World → Nat) (hf : findLabel c l = some (Code.skip.seq rest))
    (pass : ∀ a w, J a w → rest.wp P (Exit.jump l (fun a' w' => J a' w' ∧ μ a' w' < μ a w) Q) a w)
    (first : (∀ a w, J a w → rest.wp P (Exit.jump l J Q) a w) → c.wp P (Exit.jump l J Q) a w) : (Code.scope c).wp P Q a w :=
  wp_scope_jumps l J μ hf (first fun a w h => wp_mono (pass a w h) (fun e a w h => by cases e <;> first | exact h | exact ⟨h.1, h.2.1⟩)) (fun a w h => wp_seq (wp_skip (pass a w h)))
/-- Two scripts side by side. -/
def twoSc (s : ScT) : Array Value := scC s ++ scC s
theorem twoSc_size (s : ScT) : (twoSc s).size = 10 := rfl
theorem twoSc_at (s : ScT) (j : Nat) (h : j < 2) : (twoSc s).extract (j * 5) (j * 5 + 5) = scC s := by
  rcases (show j = 0 ∨ j = 1 by omega) with rfl | rfl <;> rfl
theorem two_row {w : World} {Q : Nat} {s : ScT} (h : w.heap[Q]? = some (.cells (twoSc s) 36 (0, 0))) (j : Nat) (hj : j < 2) : (w.heap[Q]?).bind (rowAt (j * 5) 5) = some (scC s) := by
  rw [h, Option.bind_some, rowAt_cells, if_pos (by rw [twoSc_size]; omega), twoSc_at s j hj]
/-- Where Least stands at its second label. -/
def LeastJ (w : World) (b : Nat) (a : Act) (wr : World) : Prop :=
  ∃ (q4 q5 q6 q7 q8 q9 q10 q11 q12 q13 q14 q15 q16 q17 q18 q19 q20 q21 q22 q23 q24 q25 q26 q27 q28 q29 : Value) (j : Nat), a = { tmps := #[.pointer (some ⟨b, 0, none⟩), I 0, I j, I 2, q4, q5, q6, q7, q8, q9, q10, q11, q12, q13, q14, q15, q16, q17, q18, q19, q20, q21, q22, q23, q24, q25, q26, q27, q28, q29], defers := [] } ∧ j ≤ 2 ∧ Ch [] w wr
set_option maxHeartbeats 1000000 in
set_option maxRecDepth 100000 in
theorem least1_two (s : ScT) (k : BitVec 64) (b Q c : Nat) (w : World) (R : OneSc w s k) (hb : w.heap[b]? = some (.cells #[.slice (some ⟨Q, 0, none⟩) 2 c] 53 (0, 0))) (hQ : w.heap[Q]? = some (.cells (twoSc s) 36 (0, 0))) :
    Calls Tryd.prog 29 #[.pointer (some ⟨b, 0, none⟩)] w fun e w' => e = .returned (I 2) ∧ Ch [] w w' := by
  have HR := Lib.hid R
  have HB := Lib.hid hb
  have HQ := Lib.hid hQ
  clear R hb hQ
  go_enter Tryd.func29, Tryd.ntmps29
  go_wp2
  refine scope_jumpsB 1 (LeastJ w b) (fun a _ => 2 - (intOf (a.tmps.getD 2 undef)).toNat) rfl ?_ ?_
  · rintro a0 wr ⟨q4, q5, q6, q7, q8, q9, q10, q11, q12, q13, q14, q15, q16, q17, q18, q19, q20, q21, q22, q23, q24, q25, q26, q27, q28, q29, j, rfl, hj, hC⟩
    have hb1 := bkeep hC HB.out
    rcases (show j = 2 ∨ j < 2 by omega) with rfl | hlt
    · go_wp2
      show bodyPost Tryd.prog Tryd.f29 (fun e w' => e = Ending.returned (I 2) ∧ Ch [] w w') .ret _ wr
      go_ret
      exact ⟨rfl, hC⟩
    · have hjI : (j : Int) < 2 := by omega
      have hr := two_row (bkeep hC HQ.out) j hlt
      have R1 := HR.out.ch hC
      have O1 := of_yes s wr R1.right R1.tk
      go_wp2_with fail
      refine O1.mono ?_
      rintro e w2 ⟨rfl, hc2⟩
      have L1 := least_one s k w2 (R1.ch hc2)
      have C2 := hC.trans hc2
      clear O1 R1 hr hb1 hC hc2
      go_wp2_with fail
      refine L1.mono ?_
      rintro e w3 ⟨rfl, hc3⟩
      have C3 := C2.trans hc3
      clear L1 hc3 C2
      go_wp2
      go_step3
      refine ⟨rfl, ⟨_, _, _, _, _, _, _, _, _, _, _, _, _, _, _, _, _, _, _, _, _, _, _, _, _, _, j + 1, by go_num, by omega, C3⟩, ?_⟩
      simp [intOf]; omega
  · intro hpass
    go_wp2
    apply wp_label
    go_wp2
    go_loopw [2] (fun i wr => ∃ j : Nat, i = I j ∧ j ≤ 2 ∧ Ch [] w wr) (fun i _ => 2 - (intOf i).toNat)
    case atStart => exact ⟨0, rfl, by omega, Ch.refl _ _⟩
    case round =>
      obtain ⟨j, hi, hj, hC⟩ := hrel
      subst hi
      have hb1 := bkeep hC HB.out
      rcases (show j = 2 ∨ j < 2 by omega) with rfl | hlt
      · go_wp2
        refine wp_label ?_
        rename_i hK
        refine hK _ _ (hpass _ _ ?_)
        exact ⟨_, _, _, _, _, _, _, _, _, _, _, _, _, _, _, _, _, _, _, _, _, _, _, _, _, _, 0, rfl, by omega, hC⟩
      · have hjI : (j : Int) < 2 := by omega
        have hr := two_row (bkeep hC HQ.out) j hlt
        have R1 := HR.out.ch hC
        have O1 := of_yes s wr R1.right R1.tk
        go_wp2_with fail
        refine O1.mono ?_
        rintro e w2 ⟨rfl, hc2⟩
        have C2 := hC.trans hc2
        clear O1 R1 hr hb1 hC hc2
        go_wp2
        go_roundw
        case rel => exact ⟨j + 1, by go_num, by omega, C2⟩
        case measure => simp [intOf]; omega
end Go.Proofs.Hc
/- bound.Least of two scripts; slices.Equal at words. -/
namespace Go.Proofs.Hc
open Go.RowKit
set_option linter.unusedVariables false
attribute [local go_sem] wrap_u64 wrap_u8 bits_xor64 bits_and64 bits_or64 bits_not64 bits_xor8 bits_and8 bits_or8 signed64 signed8 ofInt_N BitVec.ofInt_add BitVec.ofInt_mul ofInt_sub' ofInt8_N64 ofInt64_N8 wide8 eqN neN shr_pow shr1 shr7 shr56
attribute [local go_sem high] bits_com64 shl_wrap
attribute [local go_sem] nn2 nm2 nn3 nm3 nn4 nm4 nn5 nm5 nn6 nm6 nn7 nm7 nn8 nm8
attribute [local go_sem] Oper.semAt_some make_func1 make_funcB
attribute [local go_sem] cell_heap ice_heap cellAt_cells iceAt_cells setAt_cells size_setCell rowAt_cells canLay_cells laidAt_cells size_onObj rowRes_some layRes_true
attribute [local go_sem ↓] heap_alloc heap_drew heap_drewN heap_setCell heap_putObj heap_onObj
theorem box_sl (v : Value) (w : World) (a : Option Addr) (n c : Nat) (h : v = .slice a n c) : ∃ W, w.alloc (.cells #[.slice a n c] 53) = W ∧ Ch [] w W ∧ W.heap[w.heap.size]? = some (.cells #[.slice a n c] 53 (0, 0)) := ⟨_, rfl, (Ch.refl [] w).alloc _, by rw [heap_alloc, if_pos rfl]⟩
set_option maxRecDepth 100000 in
theorem leastP_two (s : ScT) (k : BitVec 64) (Q c : Nat) (w : World) (R : OneSc w s k) (hQ : w.heap[Q]? = some (.cells (twoSc s) 36 (0, 0))) : Calls Tryd.prog 14 #[.slice (some ⟨Q, 0, none⟩) 2 c] w fun e w' => e = .returned (.tuple #[I 2, I 0]) ∧ Ch [] w w' := by
  obtain ⟨W, hW, C, hB⟩ := box_sl _ w (some ⟨Q, 0, none⟩) 2 c rfl
  have T1 : Calls Tryd.prog 20 #[.func (.func 29) #[] #[.pointer (some ⟨w.heap.size, 0, none⟩)]] W fun e w' => e = .returned (.tuple #[I 2, I 0]) ∧ Ch [] W w' := by
    refine (triesBI_ok 29 _ W (fun x _ => x = 2) (fun _ _ _ h _ => h) (fun _ _ => by kernel_rfl) (fun w1 hc hz => (least1_two s k _ Q c w1 (R.ch (C.trans hc)) (bkeep hc hB) (bkeep (C.trans hc) hQ)).mono fun e w2 h => ⟨_, h.1, rfl, h.2⟩)).mono ?_
    rintro e w' ⟨x, rfl, rfl, hc⟩
    exact ⟨rfl, hc⟩
  clear R hQ hB
  obtain ⟨B, hBe⟩ : ∃ B, w.heap.size = B := ⟨_, rfl⟩
  rw [hBe] at T1
  go_enter Tryd.func14, Tryd.ntmps14
  go_upto_region 1 with (fail)
  try rw [hW]
  try rw [hBe]
  clear hW hBe
  go_wp2_with fail
  refine T1.mono ?_
  rintro e w2 ⟨rfl, hc⟩
  go_wp2
  go_ret2
  exact ⟨rfl, C.trans hc⟩
set_option maxRecDepth 100000 in
theorem equal_one (k : BitVec 64) (base : Nat) (v : Value) (q c : Nat) (w : World) (hown : w.ownsRow base 32 1 v 1 [U k]) (hq : w.heap[q]? = some (.cells #[U k] 32 (0, 0))) : Calls Tryd.prog 19 #[v, .slice (some ⟨q, 0, none⟩) 1 c] w fun e w' => e = .returned (.bool true) ∧ Ch [] w w' := by
  obtain ⟨_, ⟨_, h0⟩ | ⟨p, cap, cur, rfl, hbq, hp, hnc, hcm, hcs, htake⟩⟩ := hown
  · cases h0
  have hcur : cur[0]? = some (U k) := by
    have := congrArg (fun l => l[0]?) htake
    simpa using this
  clear htake hcs hcm hnc hbq
  go_enter Tryd.func19, Tryd.ntmps19
  go_wp2
  refine wp_loop_rounds 2 ?_
  rw [rounds_succ]
  go_wp2
  have sP : (fun W' : World => Ch [] w W' ∧ W'.heap[p]? = some (.cells cur 32 (0, 0)) ∧ W'.heap[q]? = some (.cells #[U k] 32 (0, 0))) w.drew := ⟨(Ch.refl [] w).drew, hp, hq⟩
  refine wp_region_held_drew (S := fun W' : World => Ch [] w W' ∧ W'.heap[p]? = some (.cells cur 32 (0, 0)) ∧ W'.heap[q]? = some (.cells #[U k] 32 (0, 0))) (by kernel_rfl) sP ?_
  intro _
  simp only [List.size_toArray, List.length_cons, List.length_nil, Nat.reduceAdd]
  clear hp hq
  generalize w.drew = w2 at *
  refine wpAnyH_take (i := 0) (oi := ⟨some 16, _, _, _, _, none⟩) (v := ?_) rfl (by kernel_rfl) (by kernel_rfl) (by kernel_rfl) (fun _ _ _ h => h) (Or.inl ⟨by rfl, ?_⟩) sP ?_
  rotate_left
  · intro wq hSq
    obtain ⟨q0, q1, q2⟩ := hSq
    first | (go_simp; done) | (go_simp; with_reducible rfl)
  try simp only [Act.put, List.setIfInBounds_toArray, List.set_cons_zero, List.set_cons_succ]
  refine wpAnyH_take (i := 1) (oi := ⟨some 17, _, _, _, _, none⟩) (v := ?_) rfl (by kernel_rfl) (by kernel_rfl) (by kernel_rfl) (fun _ _ _ h => h) (Or.inl ⟨by rfl, ?_⟩) sP ?_
  rotate_left
  · intro wq hSq
    obtain ⟨q0, q1, q2⟩ := hSq
    first | (go_simp; done) | (go_simp; with_reducible rfl)
  try simp only [Act.put, List.setIfInBounds_toArray, List.set_cons_zero, List.set_cons_succ]
  refine wpAnyH_take (i := 2) (oi := ⟨some 18, _, _, _, _, none⟩) (v := ?_) rfl (by kernel_rfl) (by kernel_rfl) (by kernel_rfl) (fun _ _ _ h => h) (Or.inl ⟨by rfl, ?_⟩) sP ?_
  rotate_left
  · intro wq hSq
    obtain ⟨q0, q1, q2⟩ := hSq
    first | (go_simp; done) | (go_simp; with_reducible rfl)
  try simp only [Act.put, List.setIfInBounds_toArray, List.set_cons_zero, List.set_cons_succ]
  refine wpAnyH_take (i := 3) (oi := ⟨some 19, _, _, _, _, none⟩) (v := ?_) rfl (by kernel_rfl) (by kernel_rfl) (by kernel_rfl) (fun _ _ _ h => h) (Or.inl ⟨by rfl, ?_⟩) sP ?_
  rotate_left
  · intro wq hSq
    obtain ⟨q0, q1, q2⟩ := hSq
    first | (go_simp; done) | (go_simp; with_reducible rfl)
  try simp only [Act.put, List.setIfInBounds_toArray, List.set_cons_zero, List.set_cons_succ]
  refine wpAnyH_take (i := 4) (oi := ⟨some 20, _, _, _, _, none⟩) (v := ?_) rfl (by kernel_rfl) (by kernel_rfl) (by kernel_rfl) (fun _ _ _ h => h) (Or.inl ⟨by rfl, ?_⟩) sP ?_
  rotate_left
  · intro wq hSq
    obtain ⟨q0, q1, q2⟩ := hSq
    first | (go_simp; done) | (go_simp; with_reducible rfl)
  try simp only [Act.put, List.setIfInBounds_toArray, List.set_cons_zero, List.set_cons_succ]
  refine wpAnyH_take (i := 5) (oi := ⟨some 21, _, _, _, _, none⟩) (v := ?_) rfl (by kernel_rfl) (by kernel_rfl) (by kernel_rfl) (fun _ _ _ h => h) (Or.inl ⟨by rfl, ?_⟩) sP ?_
  rotate_left
  · intro wq hSq
    obtain ⟨q0, q1, q2⟩ := hSq
    first | (go_simp; done) | (go_simp; with_reducible rfl)
  try simp only [Act.put, List.setIfInBounds_toArray, List.set_cons_zero, List.set_cons_succ]
  refine wpAnyH_take (i := 6) (oi := ⟨some 22, _, _, _, _, none⟩) (v := ?_) rfl (by kernel_rfl) (by kernel_rfl) (by kernel_rfl) (fun _ _ _ h => h) (Or.inl ⟨by rfl, ?_⟩) sP ?_
  rotate_left
  · intro wq hSq
    obtain ⟨q0, q1, q2⟩ := hSq
    first | (go_simp; done) | (go_simp; with_reducible rfl)
  try simp only [Act.put, List.setIfInBounds_toArray, List.set_cons_zero, List.set_cons_succ]
  refine wpAnyH_take (i := 7) (oi := ⟨some 23, _, _, _, _, none⟩) (v := ?_) rfl (by kernel_rfl) (by kernel_rfl) (by kernel_rfl) (fun _ _ _ h => h) (Or.inl ⟨by rfl, ?_⟩) sP ?_
  rotate_left
  · intro wq hSq
    obtain ⟨q0, q1, q2⟩ := hSq
    first | (go_simp; done) | (go_simp; with_reducible rfl)
  try simp only [Act.put, List.setIfInBounds_toArray, List.set_cons_zero, List.set_cons_succ]
  refine wpAnyH_take (i := 8) (oi := ⟨some 24, _, _, _, _, none⟩) (v := ?_) rfl (by kernel_rfl) (by kernel_rfl) (by kernel_rfl) (fun _ _ _ h => h) (Or.inl ⟨by rfl, ?_⟩) sP ?_
  rotate_left
  · intro wq hSq
    obtain ⟨q0, q1, q2⟩ := hSq
    first | (go_simp; done) | (go_simp; with_reducible rfl)
  try simp only [Act.put, List.setIfInBounds_toArray, List.set_cons_zero, List.set_cons_succ]
  refine wpAnyH_done (by kernel_rfl) ?_ _
  have C2 := sP.1
  clear sP
  go_wp2
  rw [rounds_succ]
  go_wp2
  go_ret
  exact ⟨rfl, C2⟩
end Go.Proofs.Hc
