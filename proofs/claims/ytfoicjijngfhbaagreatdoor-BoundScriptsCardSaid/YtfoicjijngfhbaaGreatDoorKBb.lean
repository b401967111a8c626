/- Package bound: splits, slabs, steps; the reference's. -/
import Derived.Test.YtfoicjijngfhbaaGreatDoorKBe
import Derived.Test.YtfoicjijngfhbaaGreatDoorKDa
import Derived.Test.YtfoicjijngfhbaaGreatDoorKHm
import Derived.Test.YtfoicjijngfhbaaGreatDoorKHr
import Derived.Below
import Derived.BigQuiet
import Derived.Deep.Draws
import Derived.Deep.QuietTactic
import Derived.Laws.CopyRow
import Derived.Laws.Tables
import Derived.Lib.Hide
import Derived.LoopIn
import Derived.LoopNIn
import Derived.OwnWalkIn
import Derived.RangeFuncCalls
import Derived.RangeFuncRecord
import Derived.RangeFuncSeq
import Derived.Recover
import Derived.TacticsInMore
import Derived.Test.YtfoicjijngfhbaaGreatDoorProg
import Derived.WalkKit
import Derived.WalkLawsBesides
set_option linter.unusedSimpArgs false
set_option linter.unusedVariables false
namespace Go.Proofs.Hc
open Go.RowKit
set_option linter.unusedVariables false
attribute [local go_sem] wrap_u64 wrap_u8 bits_xor64 bits_and64 bits_or64 bits_not64 bits_xor8 bits_and8 bits_or8 signed64 signed8 ofInt_N BitVec.ofInt_add BitVec.ofInt_mul ofInt_sub' ofInt8_N64 ofInt64_N8 wide8 eqN neN shr_pow shr1 shr7 shr56
attribute [local go_sem high] bits_com64 shl_wrap
attribute [local go_sem] nn2 nm2 nn3 nm3 nn4 nm4 nn5 nm5 nn6 nm6 nn7 nm7 nn8 nm8
attribute [local go_sem] Oper.semAt_some make_func1
attribute [local go_sem] cell_heap ice_heap cellAt_cells iceAt_cells setAt_cells size_setCell
attribute [local go_sem ↓] heap_alloc heap_drew heap_drewN heap_setCell heap_putObj
set_option maxRecDepth 100000 in
theorem splits_any (k : Int) (h0 : 0 ≤ k) (hk : k ≤ 9223372036854775807) (w : World) :
    Calls Tryz.prog 37 #[I k] w fun e w' => e = .returned (I (splitsB k)) ∧ Ch [] w w' := by
  have hdec : decide (0 ≤ k) = true := decide_eq_true h0
  have hq : k.tdiv 8 = k / 8 := Int.tdiv_eq_ediv_of_nonneg h0
  obtain ⟨e, he⟩ : ∃ e, k / 8 = e := ⟨_, rfl⟩
  have he0 : 0 ≤ e := by omega
  have hsp : splitsB k = sumMin e depthL := by unfold splitsB; rw [he]
  rw [hsp]
  have HE := Lib.hid he
  clear he hsp
  refine (callsIn_wide (n := 3)).1 ?_
  refine callsIn_of_wp_marks Tryz.func37 rfl trivial ?_
  simp only [Tryz.ntmps37, List.size_toArray, List.length_cons, List.length_nil, Nat.reduceAdd, Nat.reduceSub, Array.replicate_succ, Array.replicate_zero, List.push_toArray, List.append_toArray, List.nil_append, List.cons_append]
  gi_wp2_with (first
    | (refine ⟨trivial, ?_⟩; gi_at_call 43; refine (callsIn_wide.2 (bneed_yes _ _)).mono ?_; rintro e w' ⟨rfl, rfl⟩)
    | (refine ⟨trivial, ?_⟩; gi_at_call 51; refine (callsIn_wide.2 (depths_any _)).mono ?_; rintro e w' ⟨rfl, rfl⟩))
  rw [HE.out]
  clear hdec hq HE h0 hk
  obtain ⟨W0, hW0⟩ : ∃ W0, (w.alloc (.cells #[.int .i64 0] 3)).alloc (.cells #[.int .i64 e] 3) = W0 := ⟨_, rfl⟩
  have hs0 : W0.heap.size = w.heap.size + 2 := by rw [← hW0]; simp
  have hC0 : Ch [] w W0 := by rw [← hW0]; exact ((Ch.refl [] w).alloc _).alloc _
  have b0 : W0.heap[w.heap.size]? = some (.cells #[I 0] 3 (0, 0)) := by rw [← hW0]; simp [go_sem] <;> omega
  have b1 : W0.heap[w.heap.size + 1]? = some (.cells #[I e] 3 (0, 0)) := by rw [← hW0]; simp [go_sem] <;> omega
  rw [hW0]
  clear hW0
  refine range_law (n := 1) (xs := depthL) rfl enters_depths (depths_yields W0) (fun _ => rfl) (by simp) (by simp)
    (fun pre W => Ch [] w W ∧ W.heap[w.heap.size]? = some (.cells #[I (sumMin e pre)] 3 (0, 0)) ∧ W.heap[w.heap.size + 1]? = some (.cells #[I e] 3 (0, 0)))
    (fun _ _ => False)
    ?hI (fun _ _ _ h _ => h.elim) ⟨hC0, b0, b1⟩ ?a₁ ?assign ?body ?done (fun _ _ h _ => h.elim)
  case hI =>
    rintro pre A B ⟨hc, h1, h2⟩ hAB
    exact ⟨hc.trans2 hAB (by simp <;> omega), (hAB.block _ (Array.getElem?_eq_some_iff.1 h1).1 (by simp <;> omega)).trans h1, (hAB.block _ (Array.getElem?_eq_some_iff.1 h2).1 (by simp <;> omega)).trans h2⟩
  case a₁ => exact fun x => { tmps := #[I k, undef, I 0, .pointer (some ⟨w.heap.size, 0, none⟩), .pointer (some ⟨w.heap.size + 1, 0, none⟩), I x, I k, .bool true, .tuple #[], I k, I e, .func (.func 62) #[] #[], I x, undef, undef, undef, undef, undef, undef], defers := [] }
  case assign =>
    intro x W K hK
    gi_wp2
    exact hK
  case body =>
    rintro pre x post W hx ⟨hc, h1, h2⟩ hsz
    have hb := sumMin_le e he0 (pre ++ [x]) post (by rw [hx]; simp)
    have hb0 := sumMin_le e he0 pre (x :: post) hx
    have hsn := sumMin_snoc e pre x
    clear hx
    obtain ⟨s0, hs⟩ : ∃ s, sumMin e pre = s := ⟨_, rfl⟩
    obtain ⟨s1, hs1⟩ : ∃ s, sumMin e (pre ++ [x]) = s := ⟨_, rfl⟩
    rw [hs] at h1 hsn hb0
    rw [hs1] at hsn hb
    gi_wp2
    all_goals
      refine ⟨⟨hc.setCell (p := ⟨w.heap.size, 0, none⟩) (.inr (Nat.le_refl _)) _, ?_, ?_⟩, by simp [World.setCell], ?_⟩
      · rw [heap_setCell, if_pos rfl, h1, Option.map_some, setAt_cells]
        first | (rw [show min x e = x by omega]; rfl) | (rw [show min x e = e by omega]; rfl)
      · rw [heap_setCell, if_neg (by simp), h2]
      · intro b hb
        have hne : b ≠ w.heap.size := by
          rcases hb with h | h <;> omega
        rw [heap_setCell, if_neg hne]
  case done =>
    rintro W ⟨hc, h1, h2⟩ hd
    have hd' : W.heap[w.heap.size + 2]? = some (.deferred (some [])) := by rw [← hs0]; exact hd
    gi_wp2
    exact marks_ret (v := I (sumMin e depthL)) hd (results_tmp Tryz.results37 _ _ _) ⟨rfl, hc.trans2 (ch_putObj _ _ _) (by simp <;> omega)⟩
theorem splits_no (k : Int) (h0 : k < 0) (w : World) :
    Calls Tryz.prog 37 #[I k] w fun e w' => e = .panicked [{ v := .iface 29 (I 2), recovered := false }] ∧ w = w' := by
  have hdec : ¬ 0 ≤ k := by omega
  refine (callsIn_wide (n := 3)).1 ?_
  refine callsIn_of_wp_marks Tryz.func37 rfl trivial ?_
  simp only [Tryz.ntmps37, List.size_toArray, List.length_cons, List.length_nil, Nat.reduceAdd, Nat.reduceSub, Array.replicate_succ, Array.replicate_zero, List.push_toArray, List.append_toArray, List.nil_append, List.cons_append]
  gi_wp2_with (refine ⟨trivial, ?_⟩; gi_at_call 43; refine (callsIn_wide.2 (bneed_no _ _)).mono ?_; rintro e w' ⟨rfl, rfl⟩)
  exact ⟨rfl, rfl⟩
theorem slabs_any (k : Int) (h0 : 0 ≤ k) (hk : k ≤ 9223372036854775807) (w : World) :
    Calls Tryz.prog 39 #[I k] w fun e w' => e = .returned (I (slabsB k)) ∧ Ch [] w w' := by
  have S1 := fun w => splits_any k h0 hk w
  have hb := splitsB_le h0
  unfold slabsB
  obtain ⟨n, hn⟩ : ∃ n, splitsB k = n := ⟨_, rfl⟩
  rw [hn] at S1 hb
  rw [hn]
  clear hn
  go_enter Tryz.func39, Tryz.ntmps39
  go_wp2_with (go_at_call 37; refine (S1 _).mono ?_; rintro e w' ⟨rfl, hc⟩)
  go_ret
  exact ⟨rfl, hc⟩
def slabOk (n : Int) : Bool := decide (2 ≤ n) && decide (n ≤ 128)
theorem slabOk_iff (n : Int) : slabOk n = true ↔ 2 ≤ n ∧ n ≤ 128 := by unfold slabOk; rw [Bool.and_eq_true, decide_eq_true_iff, decide_eq_true_iff]
theorem steps_any (k : Int) (h : slabOk k = true) (w : World) :
    Calls Tryz.prog 41 #[I k] w fun e w' => e = .returned (I (5000 + 8 * k)) ∧ w = w' := by
  have hb := (slabOk_iff _).1 h
  have h1 := hb.1
  have h2 := hb.2
  clear h hb
  go_enter Tryz.func41, Tryz.ntmps41
  go_wp2_with (go_at_call 43; refine (bneed_yes _ _).mono ?_; rintro e w' ⟨rfl, rfl⟩)
  go_ret
  exact ⟨rfl, rfl⟩
theorem steps_no (k : Int) (h : slabOk k = false) (w : World) :
    Calls Tryz.prog 41 #[I k] w fun e w' => e = .panicked [{ v := .iface 29 (I 2), recovered := false }] ∧ w = w' := by
  have hb : k < 2 ∨ ¬ k < 2 ∧ ¬ k ≤ 128 := by
    by_cases h2 : k < 2
    · exact .inl h2
    · refine .inr ⟨h2, fun h3 => ?_⟩
      rw [(slabOk_iff _).2 ⟨by omega, h3⟩] at h; cases h
  clear h
  go_enter Tryz.func41, Tryz.ntmps41
  rcases hb with hb | ⟨hb, hb2⟩
  all_goals
    go_wp2_with (go_at_call 43; refine (bneed_no _ _).mono ?_; rintro e w' ⟨rfl, rfl⟩)
    exact ⟨rfl, rfl, rfl⟩
end Go.Proofs.Hc
