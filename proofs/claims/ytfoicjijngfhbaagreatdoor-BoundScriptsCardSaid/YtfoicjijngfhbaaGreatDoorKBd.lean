/- Package bound: Splits, Slabs, Steps, Window (printed by gen_bpub.py). -/
import Derived.Test.YtfoicjijngfhbaaGreatDoorKBb
import Derived.Test.YtfoicjijngfhbaaGreatDoorKBc
import Derived.Test.YtfoicjijngfhbaaGreatDoorKBe
import Derived.Test.YtfoicjijngfhbaaGreatDoorKDa
import Derived.Test.YtfoicjijngfhbaaGreatDoorKHm
import Derived.Test.YtfoicjijngfhbaaGreatDoorKHr
import Derived.Below
import Derived.BigQuiet
import Derived.Deep.Cut
import Derived.Deep.Draws
import Derived.Deep.QuietTactic
import Derived.Deep.RegionHeld
import Derived.Laws.CopyRow
import Derived.Laws.Tables
import Derived.Lib.Hide
import Derived.LoopIn
import Derived.LoopNIn
import Derived.OwnWalkIn
import Derived.RangeFuncCalls
import Derived.RangeFuncRecord
import Derived.RangeFuncSeq
import Derived.Recover
import Derived.TacticsInMore
import Derived.Test.YtfoicjijngfhbaaGreatDoorProg
import Derived.WalkKit
import Derived.WalkLawsBesides
set_option linter.unusedSimpArgs false
set_option linter.unusedVariables false
namespace Go.Proofs.Hc
open Go.RowKit
set_option linter.unusedVariables false
attribute [local go_sem] wrap_u64 wrap_u8 bits_xor64 bits_and64 bits_or64 bits_not64 bits_xor8 bits_and8 bits_or8 signed64 signed8 ofInt_N BitVec.ofInt_add BitVec.ofInt_mul ofInt_sub' ofInt8_N64 ofInt64_N8 wide8 eqN neN shr_pow shr1 shr7 shr56
attribute [local go_sem high] bits_com64 shl_wrap
attribute [local go_sem] nn2 nm2 nn3 nm3 nn4 nm4 nn5 nm5 nn6 nm6 nn7 nm7 nn8 nm8
attribute [local go_sem] Oper.semAt_some make_func1
attribute [local go_sem] cell_heap ice_heap cellAt_cells iceAt_cells setAt_cells size_setCell make_funcB
attribute [local go_sem ↓] heap_alloc heap_drew heap_drewN heap_setCell heap_putObj
theorem bkeep {w w' : World} {b : Nat} {o : Obj} (hc : Ch [] w w') (h : w.heap[b]? = some o) : w'.heap[b]? = some o := (hc.block b (Array.getElem?_eq_some_iff.1 h).1 (by simp)).trans h
theorem bSplits1_ok (k : Int) (h0 : 0 ≤ k) (hk : k ≤ 9223372036854775807) (b : Nat) (w : World) (hb : w.heap[b]? = some (.cells #[I k] 3 (0, 0))) :
    Calls Tryz.prog 36 #[.pointer (some ⟨b, 0, none⟩)] w fun e w' => e = .returned (I (splitsB k)) ∧ Ch [] w w' := by
  have S1 := fun w => splits_any k h0 hk w
  clear h0 hk
  go_enter Tryz.func36, Tryz.ntmps36
  go_wp2_with (go_at_call 37; refine (S1 _).mono ?_; rintro e w' ⟨rfl, hc⟩)
  go_ret
  exact ⟨rfl, hc⟩
theorem bSplits_ok (k : Int) (h0 : 0 ≤ k) (hk : k ≤ 9223372036854775807) (w : World) : Calls Tryz.prog 17 #[I k] w fun e w' => e = .returned (.tuple #[I (splitsB k), I 0]) ∧ Ch [] w w' := by
  have T1 := triesBI_ok 36 #[.pointer (some ⟨w.heap.size, 0, none⟩)] (w.alloc (.cells #[I k] 3)) (fun x _ => x = splitsB k) (fun _ _ _ h _ => h) (fun _ _ => by kernel_rfl) (fun w1 hc hz => (bSplits1_ok k h0 hk _ w1 (bkeep hc (by rw [heap_alloc, if_pos rfl]))).mono fun e w2 h => ⟨_, h.1, rfl, h.2⟩)
  clear h0 hk
  go_enter Tryz.func17, Tryz.ntmps17
  go_wp2_with (go_at_call 27; refine T1.mono ?_; rintro e w' ⟨x, rfl, rfl, hc⟩)
  go_ret2
  exact ⟨rfl, ((Ch.refl [] w).alloc _).trans hc⟩
theorem bSplits1_no (k : Int) (h0 : k < 0) (b : Nat) (w : World) (hb : w.heap[b]? = some (.cells #[I k] 3 (0, 0))) :
    Calls Tryz.prog 36 #[.pointer (some ⟨b, 0, none⟩)] w fun e w' => e = .panicked [{ v := .iface 29 (I 2), recovered := false }] ∧ Ch [] w w' := by
  have S1 := fun w => splits_no k h0 w
  clear h0
  go_enter Tryz.func36, Tryz.ntmps36
  go_wp2_with (go_at_call 37; refine (S1 _).mono ?_; rintro e w' ⟨rfl, rfl⟩)
  exact ⟨rfl, rfl, Ch.refl _ _⟩
theorem bSplits_no (k : Int) (h0 : k < 0) (w : World) : Calls Tryz.prog 17 #[I k] w fun e w' => e = .returned (.tuple #[I 0, I 2]) ∧ Ch [] w w' := by
  have T1 := triesBI_err 2 36 #[.pointer (some ⟨w.heap.size, 0, none⟩)] (w.alloc (.cells #[I k] 3)) (fun _ _ => by kernel_rfl) (fun w1 hc hz => bSplits1_no k h0 _ w1 (bkeep hc (by rw [heap_alloc, if_pos rfl])))
  clear h0
  go_enter Tryz.func17, Tryz.ntmps17
  go_wp2_with (go_at_call 27; refine T1.mono ?_; rintro e w' ⟨rfl, hc⟩)
  go_ret2
  exact ⟨rfl, ((Ch.refl [] w).alloc _).trans hc⟩
theorem bSlabs1_ok (k : Int) (h0 : 0 ≤ k) (hk : k ≤ 9223372036854775807) (b : Nat) (w : World) (hb : w.heap[b]? = some (.cells #[I k] 3 (0, 0))) :
    Calls Tryz.prog 38 #[.pointer (some ⟨b, 0, none⟩)] w fun e w' => e = .returned (I (slabsB k)) ∧ Ch [] w w' := by
  have S1 := fun w => slabs_any k h0 hk w
  clear h0 hk
  go_enter Tryz.func38, Tryz.ntmps38
  go_wp2_with (go_at_call 39; refine (S1 _).mono ?_; rintro e w' ⟨rfl, hc⟩)
  go_ret
  exact ⟨rfl, hc⟩
theorem bSlabs_ok (k : Int) (h0 : 0 ≤ k) (hk : k ≤ 9223372036854775807) (w : World) : Calls Tryz.prog 18 #[I k] w fun e w' => e = .returned (.tuple #[I (slabsB k), I 0]) ∧ Ch [] w w' := by
  have T1 := triesBI_ok 38 #[.pointer (some ⟨w.heap.size, 0, none⟩)] (w.alloc (.cells #[I k] 3)) (fun x _ => x = slabsB k) (fun _ _ _ h _ => h) (fun _ _ => by kernel_rfl) (fun w1 hc hz => (bSlabs1_ok k h0 hk _ w1 (bkeep hc (by rw [heap_alloc, if_pos rfl]))).mono fun e w2 h => ⟨_, h.1, rfl, h.2⟩)
  clear h0 hk
  go_enter Tryz.func18, Tryz.ntmps18
  go_wp2_with (go_at_call 27; refine T1.mono ?_; rintro e w' ⟨x, rfl, rfl, hc⟩)
  go_ret2
  exact ⟨rfl, ((Ch.refl [] w).alloc _).trans hc⟩
theorem bSteps1_ok (k : Int) (h0 : slabOk k = true) (b : Nat) (w : World) (hb : w.heap[b]? = some (.cells #[I k] 3 (0, 0))) :
    Calls Tryz.prog 40 #[.pointer (some ⟨b, 0, none⟩)] w fun e w' => e = .returned (I (5000 + 8 * k)) ∧ Ch [] w w' := by
  have S1 := fun w => steps_any k h0 w
  clear h0
  go_enter Tryz.func40, Tryz.ntmps40
  go_wp2_with (go_at_call 41; refine (S1 _).mono ?_; rintro e w' ⟨rfl, rfl⟩)
  go_ret
  exact ⟨rfl, Ch.refl _ _⟩
theorem bSteps_ok (k : Int) (h0 : slabOk k = true) (w : World) : Calls Tryz.prog 19 #[I k] w fun e w' => e = .returned (.tuple #[I (5000 + 8 * k), I 0]) ∧ Ch [] w w' := by
  have T1 := triesBI_ok 40 #[.pointer (some ⟨w.heap.size, 0, none⟩)] (w.alloc (.cells #[I k] 3)) (fun x _ => x = 5000 + 8 * k) (fun _ _ _ h _ => h) (fun _ _ => by kernel_rfl) (fun w1 hc hz => (bSteps1_ok k h0 _ w1 (bkeep hc (by rw [heap_alloc, if_pos rfl]))).mono fun e w2 h => ⟨_, h.1, rfl, h.2⟩)
  clear h0
  go_enter Tryz.func19, Tryz.ntmps19
  go_wp2_with (go_at_call 27; refine T1.mono ?_; rintro e w' ⟨x, rfl, rfl, hc⟩)
  go_ret2
  exact ⟨rfl, ((Ch.refl [] w).alloc _).trans hc⟩
/-- Which windows there are. -/
def winOk (g h : Int) : Bool := decide (1 ≤ g) && decide (g ≤ 8) && (decide (1 ≤ h) && decide (h ≤ 4096))
theorem winOk_iff (g h : Int) : winOk g h = true ↔ (1 ≤ g ∧ g ≤ 8) ∧ 1 ≤ h ∧ h ≤ 4096 := by unfold winOk; simp only [Bool.and_eq_true, decide_eq_true_iff]
theorem window1_ok (g k h : Int) (hk : slabOk k = true) (hw : winOk g h = true) (b1 b2 b3 : Nat) (w : World) (h1 : w.heap[b1]? = some (.cells #[I g] 3 (0, 0))) (h2 : w.heap[b2]? = some (.cells #[I h] 3 (0, 0))) (h3 : w.heap[b3]? = some (.cells #[I k] 3 (0, 0))) :
    Calls Tryz.prog 42 #[.pointer (some ⟨b1, 0, none⟩), .pointer (some ⟨b2, 0, none⟩), .pointer (some ⟨b3, 0, none⟩)] w fun e w' => e = .returned (I (h * g * (5000 + 8 * k))) ∧ Ch [] w w' := by
  have S1 := fun w => steps_any k hk w
  obtain ⟨⟨g1, g8⟩, hh1, hh2⟩ := (winOk_iff _ _).1 hw
  obtain ⟨k2, k128⟩ := (slabOk_iff _).1 hk
  have p0 : 0 ≤ h * g := Int.mul_nonneg (by omega) (by omega)
  have p1 : h * g ≤ 4096 * 8 := Int.mul_le_mul hh2 g8 (by omega) (by omega)
  have w1 : IntKind.i64.wrap (h * g) = h * g := IntWalk.i64_in _ (by omega)
  have p2 : 0 ≤ h * g * (5000 + 8 * k) := Int.mul_nonneg p0 (by omega)
  have p3 : h * g * (5000 + 8 * k) ≤ 4096 * 8 * 6024 := Int.mul_le_mul p1 (by omega) (by omega) (by omega)
  have w2' : IntKind.i64.wrap (h * g * (5000 + 8 * k)) = h * g * (5000 + 8 * k) := IntWalk.i64_in _ (by omega)
  have HW1 := Lib.hid w1
  have HW2 := Lib.hid w2'
  clear hk hw p0 p1 w1 p2 p3 w2'
  go_enter Tryz.func42, Tryz.ntmps42
  go_wp2_with (go_at_call 43; refine (bneed_yes _ _).mono ?_; rintro e w' ⟨rfl, rfl⟩)
  have sP : (fun W' => Ch [] w W' ∧ W'.heap[b1]? = some (.cells #[I g] 3 (0, 0)) ∧ W'.heap[b2]? = some (.cells #[I h] 3 (0, 0)) ∧ W'.heap[b3]? = some (.cells #[I k] 3 (0, 0))) w.drew := ⟨(Ch.refl [] w).drew, h1, h2, h3⟩
  refine wp_region_held_drew (S := fun W' => Ch [] w W' ∧ W'.heap[b1]? = some (.cells #[I g] 3 (0, 0)) ∧ W'.heap[b2]? = some (.cells #[I h] 3 (0, 0)) ∧ W'.heap[b3]? = some (.cells #[I k] 3 (0, 0))) (by kernel_rfl) sP ?_
  intro _
  simp only [List.size_toArray, List.length_cons, List.length_nil, Nat.reduceAdd]
  clear h1 h2 h3
  generalize w.drew = w2 at *
  refine wpAnyH_take (i := 0) (oi := ⟨some 19, _, _, _, _, none⟩) (v := ?_) rfl (by kernel_rfl) (by kernel_rfl) (by kernel_rfl) (fun _ _ _ h => h) (Or.inl ⟨by rfl, ?_⟩) sP ?_
  rotate_left
  · intro wq hSq
    obtain ⟨q0, q1, q2, q3⟩ := hSq
    first | (go_simp; done) | (go_simp; with_reducible rfl)
  try simp only [Act.put, List.setIfInBounds_toArray, List.set_cons_zero, List.set_cons_succ]
  refine wpAnyH_take (i := 1) (oi := ⟨some 20, _, _, _, _, none⟩) (v := ?_) rfl (by kernel_rfl) (by kernel_rfl) (by kernel_rfl) (fun _ _ _ h => h) (Or.inl ⟨by rfl, ?_⟩) sP ?_
  rotate_left
  · intro wq hSq
    obtain ⟨q0, q1, q2, q3⟩ := hSq
    first | (go_simp; done) | (go_simp; with_reducible rfl)
  try simp only [Act.put, List.setIfInBounds_toArray, List.set_cons_zero, List.set_cons_succ]
  refine wpAnyH_take (i := 2) (oi := ⟨some 21, _, _, _, _, none⟩) (v := ?_) rfl (by kernel_rfl) (by kernel_rfl) (by kernel_rfl) (fun _ _ _ h => h) (Or.inl ⟨by rfl, ?_⟩) sP ?_
  rotate_left
  · intro wq hSq
    obtain ⟨q0, q1, q2, q3⟩ := hSq
    first | (go_simp; done) | (go_simp; with_reducible rfl)
  try simp only [Act.put, List.setIfInBounds_toArray, List.set_cons_zero, List.set_cons_succ]
  refine wpAnyH_take (i := 3) (oi := ⟨some 22, _, _, _, _, none⟩) (v := ?_) rfl (by kernel_rfl) (by kernel_rfl) (by kernel_rfl) (fun _ _ _ h => h) (Or.inl ⟨by rfl, ?_⟩) sP ?_
  rotate_left
  · intro wq hSq
    obtain ⟨q0, q1, q2, q3⟩ := hSq
    first | (go_simp; done) | (go_simp; with_reducible rfl)
  try simp only [Act.put, List.setIfInBounds_toArray, List.set_cons_zero, List.set_cons_succ]
  refine wpAnyH_ready (rs := [4]) (by kernel_rfl) (by simp) ?_
  refine AllReadyH.cons rfl (fun K hK => ?_) AllReadyH.nil
  go_simp
  refine (S1 _).mono ?_
  rintro e w' ⟨rfl, rfl⟩
  refine hK.out _ _ sP (fun _ => ?_)
  clear hK K
  refine wpAnyH_take (i := 5) (oi := ⟨some 24, _, _, _, _, none⟩) (v := ?_) rfl (by kernel_rfl) (by kernel_rfl) (by kernel_rfl) (fun _ _ _ h => h) (Or.inl ⟨by rfl, ?_⟩) sP ?_
  rotate_left
  · intro wq hSq
    first | (go_simp; done) | (go_simp; with_reducible rfl)
  try simp only [Act.put, List.setIfInBounds_toArray, List.set_cons_zero, List.set_cons_succ]
  refine wpAnyH_take (i := 6) (oi := ⟨some 3, _, _, _, _, none⟩) (v := ?_) rfl (by kernel_rfl) (by kernel_rfl) (by kernel_rfl) (fun _ _ _ h => h) (Or.inl ⟨by rfl, ?_⟩) sP ?_
  rotate_left
  · intro wq hSq
    first | (go_simp; done) | (go_simp; with_reducible rfl)
  try simp only [Act.put, List.setIfInBounds_toArray, List.set_cons_zero, List.set_cons_succ]
  refine wpAnyH_done (by kernel_rfl) ?_ _
  go_wp2
  rw [HW1.out, HW2.out]
  go_ret
  exact ⟨rfl, sP.1⟩
theorem window1_no (g k h : Int) (hk : slabOk k = false) (hw : winOk g h = true) (b1 b2 b3 : Nat) (w : World) (h1 : w.heap[b1]? = some (.cells #[I g] 3 (0, 0))) (h2 : w.heap[b2]? = some (.cells #[I h] 3 (0, 0))) (h3 : w.heap[b3]? = some (.cells #[I k] 3 (0, 0))) :
    Calls Tryz.prog 42 #[.pointer (some ⟨b1, 0, none⟩), .pointer (some ⟨b2, 0, none⟩), .pointer (some ⟨b3, 0, none⟩)] w fun e w' => e = .panicked [{ v := .iface 29 (I 2), recovered := false }] ∧ Ch [] w w' := by
  have S1 := fun w => steps_no k hk w
  obtain ⟨⟨g1, g8⟩, hh1, hh2⟩ := (winOk_iff _ _).1 hw
  clear hk hw
  go_enter Tryz.func42, Tryz.ntmps42
  go_wp2_with (go_at_call 43; refine (bneed_yes _ _).mono ?_; rintro e w' ⟨rfl, rfl⟩)
  have sP : (fun W' => Ch [] w W' ∧ W'.heap[b1]? = some (.cells #[I g] 3 (0, 0)) ∧ W'.heap[b2]? = some (.cells #[I h] 3 (0, 0)) ∧ W'.heap[b3]? = some (.cells #[I k] 3 (0, 0))) w.drew := ⟨(Ch.refl [] w).drew, h1, h2, h3⟩
  refine wp_region_held_drew (S := fun W' => Ch [] w W' ∧ W'.heap[b1]? = some (.cells #[I g] 3 (0, 0)) ∧ W'.heap[b2]? = some (.cells #[I h] 3 (0, 0)) ∧ W'.heap[b3]? = some (.cells #[I k] 3 (0, 0))) (by kernel_rfl) sP ?_
  intro _
  simp only [List.size_toArray, List.length_cons, List.length_nil, Nat.reduceAdd]
  clear h1 h2 h3
  generalize w.drew = w2 at *
  refine wpAnyH_take (i := 0) (oi := ⟨some 19, _, _, _, _, none⟩) (v := ?_) rfl (by kernel_rfl) (by kernel_rfl) (by kernel_rfl) (fun _ _ _ h => h) (Or.inl ⟨by rfl, ?_⟩) sP ?_
  rotate_left
  · intro wq hSq
    obtain ⟨q0, q1, q2, q3⟩ := hSq
    first | (go_simp; done) | (go_simp; with_reducible rfl)
  try simp only [Act.put, List.setIfInBounds_toArray, List.set_cons_zero, List.set_cons_succ]
  refine wpAnyH_take (i := 1) (oi := ⟨some 20, _, _, _, _, none⟩) (v := ?_) rfl (by kernel_rfl) (by kernel_rfl) (by kernel_rfl) (fun _ _ _ h => h) (Or.inl ⟨by rfl, ?_⟩) sP ?_
  rotate_left
  · intro wq hSq
    obtain ⟨q0, q1, q2, q3⟩ := hSq
    first | (go_simp; done) | (go_simp; with_reducible rfl)
  try simp only [Act.put, List.setIfInBounds_toArray, List.set_cons_zero, List.set_cons_succ]
  refine wpAnyH_take (i := 2) (oi := ⟨some 21, _, _, _, _, none⟩) (v := ?_) rfl (by kernel_rfl) (by kernel_rfl) (by kernel_rfl) (fun _ _ _ h => h) (Or.inl ⟨by rfl, ?_⟩) sP ?_
  rotate_left
  · intro wq hSq
    obtain ⟨q0, q1, q2, q3⟩ := hSq
    first | (go_simp; done) | (go_simp; with_reducible rfl)
  try simp only [Act.put, List.setIfInBounds_toArray, List.set_cons_zero, List.set_cons_succ]
  refine wpAnyH_take (i := 3) (oi := ⟨some 22, _, _, _, _, none⟩) (v := ?_) rfl (by kernel_rfl) (by kernel_rfl) (by kernel_rfl) (fun _ _ _ h => h) (Or.inl ⟨by rfl, ?_⟩) sP ?_
  rotate_left
  · intro wq hSq
    obtain ⟨q0, q1, q2, q3⟩ := hSq
    first | (go_simp; done) | (go_simp; with_reducible rfl)
  try simp only [Act.put, List.setIfInBounds_toArray, List.set_cons_zero, List.set_cons_succ]
  refine wpAnyH_ready (rs := [4]) (by kernel_rfl) (by simp) ?_
  refine AllReadyH.cons rfl (fun K hK => ?_) AllReadyH.nil
  go_simp
  refine (S1 _).mono ?_
  rintro e w' ⟨rfl, rfl⟩
  exact ⟨rfl, rfl, sP.1⟩
theorem window1_bad (g k h : Int) (hw : winOk g h = false) (b1 b2 b3 : Nat) (w : World) (h1 : w.heap[b1]? = some (.cells #[I g] 3 (0, 0))) (h2 : w.heap[b2]? = some (.cells #[I h] 3 (0, 0))) :
    Calls Tryz.prog 42 #[.pointer (some ⟨b1, 0, none⟩), .pointer (some ⟨b2, 0, none⟩), .pointer (some ⟨b3, 0, none⟩)] w fun e w' => e = .panicked [{ v := .iface 29 (I 2), recovered := false }] ∧ Ch [] w w' := by
  have hb : g < 1 ∨ (1 ≤ g ∧ ¬ g ≤ 8) ∨ (1 ≤ g ∧ g ≤ 8 ∧ h < 1) ∨ (1 ≤ g ∧ g ≤ 8 ∧ 1 ≤ h ∧ ¬ h ≤ 4096) := by
    by_cases c : (1 ≤ g ∧ g ≤ 8) ∧ 1 ≤ h ∧ h ≤ 4096
    · rw [(winOk_iff _ _).2 c] at hw; cases hw
    · omega
  clear hw
  go_enter Tryz.func42, Tryz.ntmps42
  rcases hb with c1 | ⟨c1, c2⟩ | ⟨c1, c2, c3⟩ | ⟨c1, c2, c3, c4⟩
  all_goals
    go_wp2_with (go_at_call 43; refine (bneed_no _ _).mono ?_; rintro e w' ⟨rfl, rfl⟩)
    exact ⟨rfl, rfl, Ch.refl _ _⟩
theorem win_world (g k h : Int) (w : World) : ∃ W, ((w.alloc (.cells #[I g] 3)).alloc (.cells #[I k] 3)).alloc (.cells #[I h] 3) = W ∧ Ch [] w W ∧ W.heap[w.heap.size]? = some (.cells #[I g] 3 (0, 0)) ∧ W.heap[w.heap.size + 1]? = some (.cells #[I k] 3 (0, 0)) ∧ W.heap[w.heap.size + 1 + 1]? = some (.cells #[I h] 3 (0, 0)) :=
  ⟨_, rfl, (((Ch.refl [] w).alloc _).alloc _).alloc _, by rw [heap_alloc, if_neg (by simp; omega), heap_alloc, if_neg (by simp), heap_alloc, if_pos rfl], by rw [heap_alloc, if_neg (by simp), heap_alloc, if_pos (by simp)], by rw [heap_alloc, if_pos (by simp)]⟩
/-- What Window comes to. -/
def winE (g k h : Int) : Int × Int := if winOk g h && slabOk k then (h * g * (5000 + 8 * k), 0) else (0, 2)
theorem window_any (g k h : Int) (w : World) : Calls Tryz.prog 20 #[I g, I k, I h] w fun e w' => e = .returned (.tuple #[I (winE g k h).1, I (winE g k h).2]) ∧ Ch [] w w' := by
  obtain ⟨W, hW, C, b1, b2, b3⟩ := win_world g k h w
  have T1 : Calls Tryz.prog 27 #[.func (.func 42) #[] #[.pointer (some ⟨w.heap.size, 0, none⟩), .pointer (some ⟨w.heap.size + 1 + 1, 0, none⟩), .pointer (some ⟨w.heap.size + 1, 0, none⟩)]] W fun e w' => e = .returned (.tuple #[I (winE g k h).1, I (winE g k h).2]) ∧ Ch [] W w' := by
    cases hw : winOk g h with
    | false =>
      have e : winE g k h = (0, 2) := by unfold winE; rw [hw]; rfl
      rw [e]
      exact triesBI_err 2 42 _ W (fun _ _ => by kernel_rfl) (fun w1 hc hz => window1_bad g k h hw _ _ _ w1 (bkeep hc b1) (bkeep hc b3))
    | true =>
      cases hk : slabOk k with
      | false =>
        have e : winE g k h = (0, 2) := by unfold winE; rw [hw, hk]; rfl
        rw [e]
        exact triesBI_err 2 42 _ W (fun _ _ => by kernel_rfl) (fun w1 hc hz => window1_no g k h hk hw _ _ _ w1 (bkeep hc b1) (bkeep hc b3) (bkeep hc b2))
      | true =>
        have e : winE g k h = (h * g * (5000 + 8 * k), 0) := by unfold winE; rw [hw, hk]; rfl
        rw [e]
        refine (triesBI_ok 42 _ W (fun x _ => x = h * g * (5000 + 8 * k)) (fun _ _ _ h _ => h) (fun _ _ => by kernel_rfl) (fun w1 hc hz => (window1_ok g k h hk hw _ _ _ w1 (bkeep hc b1) (bkeep hc b3) (bkeep hc b2)).mono fun e w2 h => ⟨_, h.1, rfl, h.2⟩)).mono ?_
        rintro e w' ⟨x, rfl, rfl, hc⟩
        exact ⟨rfl, hc⟩
  obtain ⟨p1, hp1⟩ : ∃ x, (winE g k h).1 = x := ⟨_, rfl⟩
  obtain ⟨p2, hp2⟩ : ∃ x, (winE g k h).2 = x := ⟨_, rfl⟩
  rw [hp1, hp2] at T1 ⊢
  clear hp1 hp2 b1 b2 b3
  go_enter Tryz.func20, Tryz.ntmps20
  go_upto_region 1 with (fail)
  try rw [hW]
  clear hW
  go_wp2_with (go_at_call 27; refine T1.mono ?_; rintro e w' ⟨rfl, hc⟩)
  go_ret2
  exact ⟨rfl, C.trans hc⟩
end Go.Proofs.Hc
