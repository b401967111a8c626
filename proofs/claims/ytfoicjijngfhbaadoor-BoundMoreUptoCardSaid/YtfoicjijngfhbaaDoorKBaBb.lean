/- Package bound: numbers; the reference's (printed by gen_bound.py). -/
import Derived.Test.YtfoicjijngfhbaaDoorKHr
import Derived.Recover
import Derived.WalkLawsBesides
set_option linter.unusedSimpArgs false
set_option linter.unusedVariables false
namespace Go.Proofs.Hc
open Go.RowKit
set_option linter.unusedVariables false
attribute [local go_sem] wrap_u64 wrap_u8 bits_xor64 bits_and64 bits_or64 bits_not64 bits_xor8 bits_and8 bits_or8 signed64 signed8 ofInt_N BitVec.ofInt_add BitVec.ofInt_mul ofInt_sub' ofInt8_N64 ofInt64_N8 wide8 eqN neN shr_pow shr1 shr7 shr56
attribute [local go_sem high] bits_com64 shl_wrap
attribute [local go_sem] nn2 nm2 nn3 nm3 nn4 nm4 nn5 nm5 nn6 nm6 nn7 nm7 nn8 nm8
attribute [local go_sem] Oper.semAt_some make_func1
attribute [local go_sem] cell_heap ice_heap cellAt_cells iceAt_cells setAt_cells size_setCell
attribute [local go_sem ↓] heap_alloc heap_drew heap_drewN heap_setCell
def depthL : List Int := [1, 2, 4, 8, 16]
def sumMin (e : Int) (l : List Int) : Int := l.foldl (fun s p => s + min p e) 0
def splitsB (k : Int) : Int := sumMin (k / 8) depthL
def slabsB (k : Int) : Int := 2 + 3 * splitsB k
theorem sumMin_snoc (e : Int) (l : List Int) (x : Int) : sumMin e (l ++ [x]) = sumMin e l + min x e := by unfold sumMin; rw [List.foldl_append]; rfl
theorem sumMin_le (e : Int) (he : 0 ≤ e) (pre post : List Int) (h : depthL = pre ++ post) : 0 ≤ sumMin e pre ∧ sumMin e pre ≤ 31 := by
  unfold depthL at h
  match pre, h with
  | [], _ => exact ⟨Int.le_refl 0, (by decide : (0 : Int) ≤ 31)⟩
  | [a], h => simp at h; obtain ⟨rfl, _⟩ := h; simp [sumMin]; omega
  | [a, b], h => simp at h; obtain ⟨rfl, rfl, _⟩ := h; simp [sumMin]; omega
  | [a, b, c], h => simp at h; obtain ⟨rfl, rfl, rfl, _⟩ := h; simp [sumMin]; omega
  | [a, b, c, d], h => simp at h; obtain ⟨rfl, rfl, rfl, rfl, _⟩ := h; simp [sumMin]; omega
  | [a, b, c, d, f], h => simp at h; obtain ⟨rfl, rfl, rfl, rfl, rfl, _⟩ := h; simp [sumMin]; omega
  | a :: b :: c :: d :: f :: g :: r, h => simp at h
theorem splitsB_le {k : Int} (h : 0 ≤ k) : 0 ≤ splitsB k ∧ splitsB k ≤ 31 := sumMin_le _ (by omega) depthL [] rfl
theorem splitsB_eq (k : Int) : splitsB k = min 1 (k / 8) + min 2 (k / 8) + min 4 (k / 8) + min 8 (k / 8) + min 16 (k / 8) := by
  simp [splitsB, sumMin, depthL]
theorem bneed_yes (c : Int) (w : World) :
    Calls Tryd.prog 28 #[.bool true, I c] w fun e w' => e = .returned (.tuple #[]) ∧ w = w' := by
  go_enter Tryd.func28, Tryd.ntmps28
  go_wp2
  go_end0
  exact ⟨rfl, rfl⟩
theorem bneed_no (c : Int) (w : World) :
    Calls Tryd.prog 28 #[.bool false, I c] w fun e w' => e = .panicked [{ v := .iface 25 (I c), recovered := false }] ∧ w = w' := by
  go_enter Tryd.func28, Tryd.ntmps28
  go_wp2
  exact ⟨rfl, rfl, rfl⟩
theorem depths_any (w : World) : Calls Tryd.prog 43 #[] w fun e w' => e = .returned (.func (.func 49) #[] #[]) ∧ w = w' := by
  go_enter Tryd.func43, Tryd.ntmps43
  go_wp2
  go_ret
  exact ⟨rfl, rfl⟩
theorem enters_depths (args : Array Value) (w : World) : (callFunc 49 args).run Tryd.prog w = .ok (.enter 49 args) w := by kernel_rfl
def depAt (j : Int) (pre : List Int) : Prop := (j = 0 ∧ pre = []) ∨ (j = 1 ∧ pre = [1]) ∨ (j = 2 ∧ pre = [1, 2]) ∨ (j = 3 ∧ pre = [1, 2, 4]) ∨ (j = 4 ∧ pre = [1, 2, 4, 8]) ∨ (j = 5 ∧ pre = [1, 2, 4, 8, 16])
theorem depths_yields (w : World) : Yields Tryd.prog 49 #[] (fun x : Int => #[I x]) depthL [] [] w := by
  intro n l J Jx W hW hk hJ hJx hY h0
  refine callsIn_of_wp Tryd.func49 rfl trivial ?_
  simp only [Tryd.ntmps49, List.size_toArray, List.length_cons, List.length_nil, Nat.reduceAdd, Nat.reduceSub, Array.replicate_succ, Array.replicate_zero, List.push_toArray, List.append_toArray, List.nil_append, List.cons_append]
  gi_wp2
  gi_loopw [3] (fun i wr => ∃ (j : Int) (pre : List Int), i = I j ∧ depAt j pre ∧ J pre wr) (fun i _ => 5 - (intOf i).toNat)
  case atStart => exact ⟨0, [], rfl, .inl ⟨rfl, rfl⟩, h0⟩
  case round =>
    obtain ⟨j, pre, hi, hd, hj⟩ := hrel
    subst hi
    rcases hd with ⟨rfl, rfl⟩ | ⟨rfl, rfl⟩ | ⟨rfl, rfl⟩ | ⟨rfl, rfl⟩ | ⟨rfl, rfl⟩ | ⟨rfl, rfl⟩
    · obtain ⟨fn, tmps, assign, body, hy, hR⟩ := hY [] 1 [2, 4, 8, 16] wr rfl hj
      clear hY hj
      gi_wp2_with fail
      refine hR.mono ?_
      rintro e W3 (⟨rfl, hJ3, hz3, hk3⟩ | ⟨rfl, hJx3⟩)
      · clear hk3 hy
        gi_wp2
        go_roundw
        case rel => exact ⟨1, [1], rfl, .inr (.inl ⟨rfl, rfl⟩), hJ3⟩
        case measure => decide
      · gi_wp2
        refine bodyPost_ret (results_none rfl _ _ _) rfl ?_
        exact ⟨⟨_, rfl⟩, .inr hJx3⟩
    · obtain ⟨fn, tmps, assign, body, hy, hR⟩ := hY [1] 2 [4, 8, 16] wr rfl hj
      clear hY hj
      gi_wp2_with fail
      refine hR.mono ?_
      rintro e W3 (⟨rfl, hJ3, hz3, hk3⟩ | ⟨rfl, hJx3⟩)
      · clear hk3 hy
        gi_wp2
        go_roundw
        case rel => exact ⟨2, [1, 2], rfl, .inr (.inr (.inl ⟨rfl, rfl⟩)), hJ3⟩
        case measure => decide
      · gi_wp2
        refine bodyPost_ret (results_none rfl _ _ _) rfl ?_
        exact ⟨⟨_, rfl⟩, .inr hJx3⟩
    · obtain ⟨fn, tmps, assign, body, hy, hR⟩ := hY [1, 2] 4 [8, 16] wr rfl hj
      clear hY hj
      gi_wp2_with fail
      refine hR.mono ?_
      rintro e W3 (⟨rfl, hJ3, hz3, hk3⟩ | ⟨rfl, hJx3⟩)
      · clear hk3 hy
        gi_wp2
        go_roundw
        case rel => exact ⟨3, [1, 2, 4], rfl, .inr (.inr (.inr (.inl ⟨rfl, rfl⟩))), hJ3⟩
        case measure => decide
      · gi_wp2
        refine bodyPost_ret (results_none rfl _ _ _) rfl ?_
        exact ⟨⟨_, rfl⟩, .inr hJx3⟩
    · obtain ⟨fn, tmps, assign, body, hy, hR⟩ := hY [1, 2, 4] 8 [16] wr rfl hj
      clear hY hj
      gi_wp2_with fail
      refine hR.mono ?_
      rintro e W3 (⟨rfl, hJ3, hz3, hk3⟩ | ⟨rfl, hJx3⟩)
      · clear hk3 hy
        gi_wp2
        go_roundw
        case rel => exact ⟨4, [1, 2, 4, 8], rfl, .inr (.inr (.inr (.inr (.inl ⟨rfl, rfl⟩)))), hJ3⟩
        case measure => decide
      · gi_wp2
        refine bodyPost_ret (results_none rfl _ _ _) rfl ?_
        exact ⟨⟨_, rfl⟩, .inr hJx3⟩
    · obtain ⟨fn, tmps, assign, body, hy, hR⟩ := hY [1, 2, 4, 8] 16 [] wr rfl hj
      clear hY hj
      gi_wp2_with fail
      refine hR.mono ?_
      rintro e W3 (⟨rfl, hJ3, hz3, hk3⟩ | ⟨rfl, hJx3⟩)
      · clear hk3 hy
        gi_wp2
        go_roundw
        case rel => exact ⟨5, [1, 2, 4, 8, 16], rfl, .inr (.inr (.inr (.inr (.inr (⟨rfl, rfl⟩))))), hJ3⟩
        case measure => decide
      · gi_wp2
        refine bodyPost_ret (results_none rfl _ _ _) rfl ?_
        exact ⟨⟨_, rfl⟩, .inr hJx3⟩
    · gi_wp2
      refine bodyPost_end (results_none rfl _ _ _) rfl ?_
      exact ⟨⟨_, rfl⟩, .inl hj⟩
end Go.Proofs.Hc
/- Package bound: splits, slabs, steps; the reference's. -/
namespace Go.Proofs.Hc
open Go.RowKit
set_option linter.unusedVariables false
attribute [local go_sem] wrap_u64 wrap_u8 bits_xor64 bits_and64 bits_or64 bits_not64 bits_xor8 bits_and8 bits_or8 signed64 signed8 ofInt_N BitVec.ofInt_add BitVec.ofInt_mul ofInt_sub' ofInt8_N64 ofInt64_N8 wide8 eqN neN shr_pow shr1 shr7 shr56
attribute [local go_sem high] bits_com64 shl_wrap
attribute [local go_sem] nn2 nm2 nn3 nm3 nn4 nm4 nn5 nm5 nn6 nm6 nn7 nm7 nn8 nm8
attribute [local go_sem] Oper.semAt_some make_func1
attribute [local go_sem] cell_heap ice_heap cellAt_cells iceAt_cells setAt_cells size_setCell
attribute [local go_sem ↓] heap_alloc heap_drew heap_drewN heap_setCell heap_putObj
set_option maxRecDepth 100000 in
theorem splits_any (k : Int) (h0 : 0 ≤ k) (hk : k ≤ 9223372036854775807) (w : World) :
    Calls Tryd.prog 22 #[I k] w fun e w' => e = .returned (I (splitsB k)) ∧ Ch [] w w' := by
  have hdec : decide (0 ≤ k) = true := decide_eq_true h0
  have hq : k.tdiv 8 = k / 8 := Int.tdiv_eq_ediv_of_nonneg h0
  obtain ⟨e, he⟩ : ∃ e, k / 8 = e := ⟨_, rfl⟩
  have he0 : 0 ≤ e := by omega
  have hsp : splitsB k = sumMin e depthL := by unfold splitsB; rw [he]
  rw [hsp]
  have HE := Lib.hid he
  clear he hsp
  refine (callsIn_wide (n := 3)).1 ?_
  refine callsIn_of_wp_marks Tryd.func22 rfl trivial ?_
  simp only [Tryd.ntmps22, List.size_toArray, List.length_cons, List.length_nil, Nat.reduceAdd, Nat.reduceSub, Array.replicate_succ, Array.replicate_zero, List.push_toArray, List.append_toArray, List.nil_append, List.cons_append]
  gi_wp2_with (first
    | (refine ⟨trivial, ?_⟩; gi_at_call 28; refine (callsIn_wide.2 (bneed_yes _ _)).mono ?_; rintro e w' ⟨rfl, rfl⟩)
    | (refine ⟨trivial, ?_⟩; gi_at_call 43; refine (callsIn_wide.2 (depths_any _)).mono ?_; rintro e w' ⟨rfl, rfl⟩))
  rw [HE.out]
  clear hdec hq HE h0 hk
  obtain ⟨W0, hW0⟩ : ∃ W0, (w.alloc (.cells #[.int .i64 0] 3)).alloc (.cells #[.int .i64 e] 3) = W0 := ⟨_, rfl⟩
  have hs0 : W0.heap.size = w.heap.size + 2 := by rw [← hW0]; simp
  have hC0 : Ch [] w W0 := by rw [← hW0]; exact ((Ch.refl [] w).alloc _).alloc _
  have b0 : W0.heap[w.heap.size]? = some (.cells #[I 0] 3 (0, 0)) := by rw [← hW0]; simp [go_sem] <;> omega
  have b1 : W0.heap[w.heap.size + 1]? = some (.cells #[I e] 3 (0, 0)) := by rw [← hW0]; simp [go_sem] <;> omega
  rw [hW0]
  clear hW0
  refine range_law (n := 1) (xs := depthL) rfl enters_depths (depths_yields W0) (fun _ => rfl) (by simp) (by simp)
    (fun pre W => Ch [] w W ∧ W.heap[w.heap.size]? = some (.cells #[I (sumMin e pre)] 3 (0, 0)) ∧ W.heap[w.heap.size + 1]? = some (.cells #[I e] 3 (0, 0)))
    (fun _ _ => False)
    ?hI (fun _ _ _ h _ => h.elim) ⟨hC0, b0, b1⟩ ?a₁ ?assign ?body ?done (fun _ _ h _ => h.elim)
  case hI =>
    rintro pre A B ⟨hc, h1, h2⟩ hAB
    exact ⟨hc.trans2 hAB (by simp <;> omega), (hAB.block _ (Array.getElem?_eq_some_iff.1 h1).1 (by simp <;> omega)).trans h1, (hAB.block _ (Array.getElem?_eq_some_iff.1 h2).1 (by simp <;> omega)).trans h2⟩
  case a₁ => exact fun x => { tmps := #[I k, undef, I 0, .pointer (some ⟨w.heap.size, 0, none⟩), .pointer (some ⟨w.heap.size + 1, 0, none⟩), I x, I k, .bool true, .tuple #[], I k, I e, .func (.func 49) #[] #[], I x, undef, undef, undef, undef, undef, undef], defers := [] }
  case assign =>
    intro x W K hK
    gi_wp2
    exact hK
  case body =>
    rintro pre x post W hx ⟨hc, h1, h2⟩ hsz
    have hb := sumMin_le e he0 (pre ++ [x]) post (by rw [hx]; simp)
    have hb0 := sumMin_le e he0 pre (x :: post) hx
    have hsn := sumMin_snoc e pre x
    clear hx
    obtain ⟨s0, hs⟩ : ∃ s, sumMin e pre = s := ⟨_, rfl⟩
    obtain ⟨s1, hs1⟩ : ∃ s, sumMin e (pre ++ [x]) = s := ⟨_, rfl⟩
    rw [hs] at h1 hsn hb0
    rw [hs1] at hsn hb
    gi_wp2
    all_goals
      refine ⟨⟨hc.setCell (p := ⟨w.heap.size, 0, none⟩) (.inr (Nat.le_refl _)) _, ?_, ?_⟩, by simp [World.setCell], ?_⟩
      · rw [heap_setCell, if_pos rfl, h1, Option.map_some, setAt_cells]
        first | (rw [show min x e = x by omega]; rfl) | (rw [show min x e = e by omega]; rfl)
      · rw [heap_setCell, if_neg (by simp), h2]
      · intro b hb
        have hne : b ≠ w.heap.size := by
          rcases hb with h | h <;> omega
        rw [heap_setCell, if_neg hne]
  case done =>
    rintro W ⟨hc, h1, h2⟩ hd
    have hd' : W.heap[w.heap.size + 2]? = some (.deferred (some [])) := by rw [← hs0]; exact hd
    gi_wp2
    exact marks_ret (v := I (sumMin e depthL)) hd (results_tmp Tryd.results22 _ _ _) ⟨rfl, hc.trans2 (ch_putObj _ _ _) (by simp <;> omega)⟩
theorem splits_no (k : Int) (h0 : k < 0) (w : World) :
    Calls Tryd.prog 22 #[I k] w fun e w' => e = .panicked [{ v := .iface 25 (I 2), recovered := false }] ∧ w = w' := by
  have hdec : ¬ 0 ≤ k := by omega
  refine (callsIn_wide (n := 3)).1 ?_
  refine callsIn_of_wp_marks Tryd.func22 rfl trivial ?_
  simp only [Tryd.ntmps22, List.size_toArray, List.length_cons, List.length_nil, Nat.reduceAdd, Nat.reduceSub, Array.replicate_succ, Array.replicate_zero, List.push_toArray, List.append_toArray, List.nil_append, List.cons_append]
  gi_wp2_with (refine ⟨trivial, ?_⟩; gi_at_call 28; refine (callsIn_wide.2 (bneed_no _ _)).mono ?_; rintro e w' ⟨rfl, rfl⟩)
  exact ⟨rfl, rfl⟩
theorem slabs_any (k : Int) (h0 : 0 ≤ k) (hk : k ≤ 9223372036854775807) (w : World) :
    Calls Tryd.prog 24 #[I k] w fun e w' => e = .returned (I (slabsB k)) ∧ Ch [] w w' := by
  have S1 := fun w => splits_any k h0 hk w
  have hb := splitsB_le h0
  unfold slabsB
  obtain ⟨n, hn⟩ : ∃ n, splitsB k = n := ⟨_, rfl⟩
  rw [hn] at S1 hb
  rw [hn]
  clear hn
  go_enter Tryd.func24, Tryd.ntmps24
  go_wp2_with (go_at_call 22; refine (S1 _).mono ?_; rintro e w' ⟨rfl, hc⟩)
  go_ret
  exact ⟨rfl, hc⟩
theorem slabs_no (k : Int) (h0 : k < 0) (w : World) :
    Calls Tryd.prog 24 #[I k] w fun e w' => e = .panicked [{ v := .iface 25 (I 2), recovered := false }] ∧ w = w' := by
  go_enter Tryd.func24, Tryd.ntmps24
  go_wp2_with (go_at_call 22; refine (splits_no k h0 _).mono ?_; rintro e w' ⟨rfl, rfl⟩)
  exact ⟨rfl, rfl, rfl⟩
def slabOk (n : Int) : Bool := decide (2 ≤ n) && decide (n ≤ 128)
theorem slabOk_iff (n : Int) : slabOk n = true ↔ 2 ≤ n ∧ n ≤ 128 := by unfold slabOk; rw [Bool.and_eq_true, decide_eq_true_iff, decide_eq_true_iff]
theorem steps_any (k : Int) (h : slabOk k = true) (w : World) :
    Calls Tryd.prog 26 #[I k] w fun e w' => e = .returned (I (5000 + 8 * k)) ∧ w = w' := by
  have hb := (slabOk_iff _).1 h
  have h1 := hb.1
  have h2 := hb.2
  clear h hb
  go_enter Tryd.func26, Tryd.ntmps26
  go_wp2_with (go_at_call 28; refine (bneed_yes _ _).mono ?_; rintro e w' ⟨rfl, rfl⟩)
  go_ret
  exact ⟨rfl, rfl⟩
theorem steps_no (k : Int) (h : slabOk k = false) (w : World) :
    Calls Tryd.prog 26 #[I k] w fun e w' => e = .panicked [{ v := .iface 25 (I 2), recovered := false }] ∧ w = w' := by
  have hb : k < 2 ∨ ¬ k < 2 ∧ ¬ k ≤ 128 := by
    by_cases h2 : k < 2
    · exact .inl h2
    · refine .inr ⟨h2, fun h3 => ?_⟩
      rw [(slabOk_iff _).2 ⟨by omega, h3⟩] at h; cases h
  clear h
  go_enter Tryd.func26, Tryd.ntmps26
  rcases hb with hb | ⟨hb, hb2⟩
  all_goals
    go_wp2_with (go_at_call 28; refine (bneed_no _ _).mono ?_; rintro e w' ⟨rfl, rfl⟩)
    exact ⟨rfl, rfl, rfl⟩
theorem rsteps_any (k : Int) (h : slabOk k = true) (w : World) :
    Calls Tryd.prog 13 #[I k] w fun e w' => e = .returned (I (5000 + 8 * k)) ∧ w = w' := by
  have hb := (slabOk_iff _).1 h
  have h1 := hb.1
  have h2 := hb.2
  clear h hb
  go_enter Tryd.func13, Tryd.ntmps13
  go_wp2
  go_ret
  exact ⟨rfl, rfl⟩
theorem rmay29_any (k : Int) (w : World) :
    Calls Tryd.prog 12 #[I k] w fun e w' => e = .returned (.bool (slabOk k)) ∧ w = w' := by
  cases h : slabOk k with
  | true =>
    have hb := (slabOk_iff _).1 h
    have h1 := hb.1
    have h2 := hb.2
    clear h hb
    go_enter Tryd.func12, Tryd.ntmps12
    go_wp2
    go_ret
    exact ⟨rfl, rfl⟩
  | false =>
    have hb : k < 2 ∨ ¬ k < 2 ∧ ¬ k ≤ 128 := by
      by_cases h2 : k < 2
      · exact .inl h2
      · refine .inr ⟨h2, fun h3 => ?_⟩
        rw [(slabOk_iff _).2 ⟨by omega, h3⟩] at h; cases h
    clear h
    go_enter Tryd.func12, Tryd.ntmps12
    rcases hb with hb | ⟨hb, hb2⟩
    all_goals
      go_wp2
      go_ret
      exact ⟨rfl, rfl⟩
end Go.Proofs.Hc
