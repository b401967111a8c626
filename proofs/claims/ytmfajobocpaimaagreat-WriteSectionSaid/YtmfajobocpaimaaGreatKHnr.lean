/- Package write: goes. -/
import Derived.Test.YtmfajobocpaimaaGreatKHmet
import Derived.Test.YtmfajobocpaimaaGreatKHcs
import Derived.Test.YtmfajobocpaimaaGreatKHm
import Derived.Test.YtmfajobocpaimaaGreatKHma
import Derived.Test.YtmfajobocpaimaaGreatKHnq
import Derived.Test.YtmfajobocpaimaaGreatKHye
import Derived.Test.YtmfajobocpaimaaGreatKHni
import Derived.Test.YtmfajobocpaimaaGreatKHxh
import Derived.Below
import Derived.BigQuiet
import Derived.Deep.Draws
import Derived.Deep.Light
import Derived.Deep.QuietTactic
import Derived.Deep.RegionHeld
import Derived.Laws.CopyRow
import Derived.Laws.StructEq
import Derived.Laws.Tables
import Derived.Lib.AppendZerosOnto
import Derived.Lib.Hide
import Derived.Lib.Tables
import Derived.Lib.Walk
import Derived.LoopIn
import Derived.LoopN
import Derived.LoopNIn
import Derived.Maps.AppendAt
import Derived.Maps.Views
import Derived.OwnWalkIn
import Derived.RangeFuncBox
import Derived.RangeFuncCalls
import Derived.RangeFuncRecord
import Derived.RangeFuncSeq
import Derived.Recover
import Derived.RegionTactic
import Derived.ScopeJumps
import Derived.Shelf.Slices.Clone
import Derived.StillTail
import Derived.StillTailTactics
import Derived.TacticsInMore
import Derived.Test.YtmfajobocpaimaaGreatProg
import Derived.WalkKit
import Derived.WalkLawsBesides
import Derived.WalkMore
import Derived.WalkSpells
set_option linter.unusedSimpArgs false
set_option linter.unusedVariables false
namespace Go.Proofs.Hc
open Go.RowKit
attribute [local go_sem] wrap_u64 wrap_u8 bits_xor64 bits_and64 bits_or64 bits_not64 bits_xor8 bits_and8 bits_or8 signed64 signed8 ofInt_N BitVec.ofInt_add BitVec.ofInt_mul ofInt_sub' ofInt8_N64 ofInt64_N8 wide8 eqN neN shr_pow shr1 shr7 shr56
attribute [local go_sem high] bits_com64 shl_wrap
attribute [local go_sem] cell_heap ice_heap cellAt_cells iceAt_cells setAt_cells rowAt_cells canLay_cells laidAt_cells size_onObj size_setCell rowRes_some layRes_true
attribute [local go_sem] load26 load73 load23 store26 build73
attribute [local go_sem ↓] lrow26 lrow73 lrow23 srow26 zero26 brow73 heap_alloc heap_drew heap_drewN heap_setCell heap_onObj
attribute [local go_sem] tcells_size hcells_size tcells_get hcells_get tcells_one hcells_one hcells_table tcells_table hcells_all hcells_ctrl tcells_ctrl
attribute [local go_sem] nn2 nm2 nn3 nm3 nn4 nm4 nn5 nm5 nn6 nm6 nn7 nm7 nn8 nm8
attribute [local go_sem] nn2 nm2 nn3 nm3 nn4 nm4 nn5 nm5 nn6 nm6 nn7 nm7 nn8 nm8
attribute [local go_sem] ofInt_N ofInt_pow8
attribute [local go_sem] Oper.semAt_some make_func1
attribute [local go_sem] pen_g0 pen_g1 pen_g2 pen_g3 pen_g4 pen_g5 pen_g6 pen_g7 pen_g8 pen_g9 pen_g10 pen_g11 pen_g12 pen_g13 pen_g14 pen_g15 pen_g16 pen_g17 penC_size penC_one penC_all
attribute [local irreducible] penC
/-- Does it go through a phase behind what is decided? -/
def goesP (p : PenT) (x : Int) : Bool := throughP (wantsP p) x && (wantsP p != 1 || decide (0 < p.free))
theorem goes_mem (n : Nat) (hn : n = 1 ∨ n = 2 ∨ n = 3) (x : Int) (h4 : 4 ≤ x) (h13 : x ≤ 13) (h : x ≠ 4 ∧ x ≠ 5) : throughP n x = decide (x ∈ storesL n) := by
  have hx : x = 6 ∨ x = 7 ∨ x = 8 ∨ x = 9 ∨ x = 10 ∨ x = 11 ∨ x = 12 ∨ x = 13 := by omega
  rcases hn with rfl | rfl | rfl <;> rcases hx with rfl | rfl | rfl | rfl | rfl | rfl | rfl | rfl <;> decide
theorem goes_zero (x : Int) (h4 : 4 ≤ x) (h13 : x ≤ 13) : throughP 0 x = false := by
  have hx : x = 4 ∨ x = 5 ∨ x = 6 ∨ x = 7 ∨ x = 8 ∨ x = 9 ∨ x = 10 ∨ x = 11 ∨ x = 12 ∨ x = 13 := by omega
  rcases hx with rfl | rfl | rfl | rfl | rfl | rfl | rfl | rfl | rfl | rfl <;> decide
set_option maxHeartbeats 1000000 in
set_option maxRecDepth 100000 in
theorem goes_no (p : PenT) (x : Int) (g : Nat) (w : World) (hg : w.heap[g]? = some (.cells (penC p) 170 (0, 0))) (h : wantsP p = 0 ∨ wantsP p = 1 ∧ p.free = 0) :
    Calls Tryz.prog 158 #[.pointer (some ⟨g, 0, none⟩), I x] w fun e w' => e = .returned (.bool false) ∧ Ch [] w w' := by
  have W1 := fun w hg => wants_any p g w hg
  have C0 : Ch [] w (w.alloc (.cells #[I x] 3)) := (Ch.refl [] w).alloc _
  have b0 := hkeep C0 hg
  clear hg
  rcases h with hn | ⟨hn, hf⟩
  · rw [hn] at W1
    clear hn
    go_enter Tryz.func158, Tryz.ntmps158
    go_wp2
    go_step3
    go_wp2_with fail
    generalize w.alloc (.cells #[I x] 3) = W0 at *
    refine (W1 _ b0).mono ?_
    rintro e w1 ⟨rfl, hc1⟩
    go_wp2
    rw [Exit.noGoto_ret]
    go_ret
    exact ⟨rfl, C0.trans hc1⟩
  · rw [hn] at W1
    clear hn
    go_enter Tryz.func158, Tryz.ntmps158
    go_wp2
    go_step3
    go_wp2_with fail
    generalize w.alloc (.cells #[I x] 3) = W0 at *
    refine (W1 _ b0).mono ?_
    rintro e w1 ⟨rfl, hc1⟩
    have b1 := hkeep hc1 b0
    go_wp2_with fail
    refine (W1 _ b1).mono ?_
    rintro e w2 ⟨rfl, hc2⟩
    have b2 := hkeep hc2 b1
    go_wp2
    rw [Exit.noGoto_ret]
    go_ret
    exact ⟨rfl, (C0.trans hc1).trans hc2⟩
set_option maxHeartbeats 1000000 in
set_option maxRecDepth 100000 in
theorem goes_45 (p : PenT) (x : Int) (hx : x = 4 ∨ x = 5) (g : Nat) (w : World) (hg : w.heap[g]? = some (.cells (penC p) 170 (0, 0))) (h : wantsP p = 1 ∧ (p.free == 0) = false ∨ wantsP p = 2 ∨ wantsP p = 3) :
    Calls Tryz.prog 158 #[.pointer (some ⟨g, 0, none⟩), I x] w fun e w' => e = .returned (.bool (wantsP p != 2)) ∧ Ch [] w w' := by
  have W1 := fun w hg => wants_any p g w hg
  have M1 : ∀ (W : World) (gb : Nat), W.heap[gb]? = some (.cells #[.int .i64 4, .int .i64 5] 3 (0, 0)) → Calls Tryz.prog 157 #[I x, .slice (some ⟨gb, 0, none⟩) 2 2] W fun e w' => e = .returned (.bool true) ∧ W = w' := by
    intro W gb hgb
    have := among_ints [4, 5] x gb 2 W (by decide) hgb
    rwa [decide_eq_true (by rcases hx with rfl | rfl <;> simp)] at this
  have C0 : Ch [] w (w.alloc (.cells #[I x] 3)) := (Ch.refl [] w).alloc _
  have b0 := hkeep C0 hg
  have x0 : (w.alloc (.cells #[I x] 3)).heap[w.heap.size]? = some (.cells #[I x] 3 (0, 0)) := by rw [heap_alloc, if_pos rfl]
  clear hg hx
  generalize wantsP p = n at *
  rcases h with ⟨rfl, hf⟩ | rfl | rfl
  all_goals
    go_enter Tryz.func158, Tryz.ntmps158
    go_wp2
    go_step3
    go_wp2_with fail
    generalize w.alloc (.cells #[I x] 3) = W0 at *
    refine (W1 _ b0).mono ?_
    rintro e w1 ⟨rfl, hc1⟩
    have b1 := hkeep hc1 b0
    have x1 := hkeep hc1 x0
    go_wp2_with fail
    refine (W1 _ b1).mono ?_
    rintro e w2 ⟨rfl, hc2⟩
    have b2 := hkeep hc2 b1
    have x2 := hkeep hc2 x1
    have C2 := (C0.trans hc1).trans hc2
    clear b0 x0 b1 x1 hc1 hc2 C0
    go_wp2_with fail
    have C3 : Ch [] w (w2.alloc (.cells #[.int .i64 4, .int .i64 5] 3)) := C2.alloc _
    have b3 := hkeep ((Ch.refl [] w2).alloc (.cells #[.int .i64 4, .int .i64 5] 3)) b2
    refine (M1 _ _ (by rw [heap_alloc, if_pos rfl])).mono ?_
    rintro e w' ⟨rfl, rfl⟩
    generalize w2.alloc (.cells #[.int .i64 4, .int .i64 5] 3) = w3 at *
    go_wp2_with fail
    refine (W1 _ b3).mono ?_
    rintro e w4 ⟨rfl, hc4⟩
    go_wp2
    rw [Exit.noGoto_ret]
    go_ret
    exact ⟨rfl, C3.trans hc4⟩
theorem rows4_get (x y z n : Nat) (hn : n = 1 ∨ n = 2 ∨ n = 3) : ∃ q, (rows4 x y z)[n]? = some (.slice (some ⟨q, 0, none⟩) (storesL n).length (storesL n).length) ∧ (q = x ∧ n = 1 ∨ q = y ∧ n = 2 ∨ q = z ∧ n = 3) := by
  rcases hn with rfl | rfl | rfl
  · exact ⟨x, rfl, .inl ⟨rfl, rfl⟩⟩
  · exact ⟨y, rfl, .inr (.inl ⟨rfl, rfl⟩)⟩
  · exact ⟨z, rfl, .inr (.inr ⟨rfl, rfl⟩)⟩
/-- The iterator of a pen, laid: what it tells, and which blocks it needs. -/
theorem stat_yields (p : PenT) (r b g : Nat) (w : World) (hn : wantsP p = 1 ∨ wantsP p = 2 ∨ wantsP p = 3) (hg : w.heap[g]? = some (.cells (penC p) 170 (0, 0))) (hst : StAt w r b g) :
    ∃ q, Yields Tryz.prog 253 #[.pointer (some ⟨r, 0, none⟩), .pointer (some ⟨b, 0, none⟩)] (fun x : Int => #[I x]) (storesL (wantsP p)) [] [r, b, g, q] w ∧ (r < w.heap.size ∧ b < w.heap.size ∧ g < w.heap.size ∧ q < w.heap.size) ∧ ∀ k, k ∈ [r, b, g, q] → ∀ cs, w.heap[k]? ≠ some (.cells cs 4 (0, 0)) := by
  obtain ⟨x, y, z, hr, hx, hy, hz⟩ := hst.rows
  obtain ⟨q, hq, hc⟩ := rows4_get x y z (wantsP p) hn
  have hqq : w.heap[q]? = some (.cells (intsC (storesL (wantsP p))) 3 (0, 0)) := by
    rcases hc with ⟨rfl, e⟩ | ⟨rfl, e⟩ | ⟨rfl, e⟩ <;> rw [e] <;> assumption
  exact ⟨q, stores_yields p _ r b g q (wantsP p) (rows4 x y z) w (storesL_len _) rfl (by omega) hst.box hg hr hq hqq, ⟨(Array.getElem?_eq_some_iff.1 hr).1, (Array.getElem?_eq_some_iff.1 hst.box).1, (Array.getElem?_eq_some_iff.1 hg).1, (Array.getElem?_eq_some_iff.1 hqq).1⟩, by
    intro k hk cs
    simp only [List.mem_cons, List.not_mem_nil, or_false] at hk
    rcases hk with rfl | rfl | rfl | rfl
    · rw [hr]; simp
    · rw [hst.box]; simp
    · rw [hg]; simp
    · rw [hqq]; simp⟩
set_option maxHeartbeats 2000000 in
set_option maxRecDepth 100000 in
theorem goes_range (p : PenT) (x : Int) (hx : x ≠ 4 ∧ x ≠ 5) (g : Nat) (w : World) (hg : w.heap[g]? = some (.cells (penC p) 170 (0, 0))) (h : wantsP p = 1 ∧ (p.free == 0) = false ∨ wantsP p = 2 ∨ wantsP p = 3) :
    Calls Tryz.prog 158 #[.pointer (some ⟨g, 0, none⟩), I x] w fun e w' => e = .returned (.bool (decide (x ∈ storesL (wantsP p)))) ∧ Ch [] w w' := by
  have W1 := fun w hg => wants_any p g w hg
  have hn3 : wantsP p = 1 ∨ wantsP p = 2 ∨ wantsP p = 3 := by omega
  have Y1 := fun r b w hg hst => stat_yields p r b g w hn3 hg hst
  have M1 : ∀ (W : World) (gb : Nat), W.heap[gb]? = some (.cells #[.int .i64 4, .int .i64 5] 3 (0, 0)) → Calls Tryz.prog 157 #[I x, .slice (some ⟨gb, 0, none⟩) 2 2] W fun e w' => e = .returned (.bool false) ∧ W = w' := by
    intro W gb hgb
    have := among_ints [4, 5] x gb 2 W (by decide) hgb
    rwa [decide_eq_false (by simp; omega)] at this
  have C0 : Ch [] w (w.alloc (.cells #[I x] 3)) := (Ch.refl [] w).alloc _
  have b0 := hkeep C0 hg
  have x0 : (w.alloc (.cells #[I x] 3)).heap[w.heap.size]? = some (.cells #[I x] 3 (0, 0)) := by rw [heap_alloc, if_pos rfl]
  clear hg hx hn3
  have h' : wantsP p = 1 ∧ (p.free == 0) = false ∨ ((wantsP p : Int) == 1) = false ∧ ((wantsP p : Int) == 0) = false := by
    rcases h with h | h | h
    · exact .inl h
    · exact .inr (by rw [h]; decide)
    · exact .inr (by rw [h]; decide)
  clear h
  generalize storesL (wantsP p) = xs at *
  generalize wantsP p = n at *
  rcases h' with ⟨rfl, hf⟩ | ⟨hn1, hn0⟩
  · refine (callsIn_wide (n := 3)).1 ?_
    refine callsIn_of_wp_marks Tryz.func158 rfl trivial ?_
    simp only [Tryz.ntmps158, List.size_toArray, List.length_cons, List.length_nil, Nat.reduceAdd, Nat.reduceSub, Array.replicate_succ, Array.replicate_zero, List.push_toArray, List.append_toArray, List.nil_append, List.cons_append]
    gi_wp2
    refine wpIn_wide.2 ?_
    apply wp_scope_straight
    refine (wpIn_wide (n := 3)).1 ?_
    gi_wp2_with fail
    refine ⟨trivial, ?_⟩
    gi_at_call 115
    generalize w.alloc (.cells #[I x] 3) = w0 at *
    refine (callsIn_wide.2 (W1 _ b0)).mono ?_
    rintro e w1 ⟨rfl, hc1⟩
    have b1 := hkeep hc1 b0
    have x1 := hkeep hc1 x0
    gi_wp2_with fail
    refine ⟨trivial, ?_⟩
    gi_at_call 115
    refine (callsIn_wide.2 (W1 _ b1)).mono ?_
    rintro e w2 ⟨rfl, hc2⟩
    have b2 := hkeep hc2 b1
    have x2 := hkeep hc2 x1
    have C2 := (C0.trans hc1).trans hc2
    clear b0 x0 b1 x1 hc1 hc2 C0
    gi_wp2_with fail
    have C3 : Ch [] w (w2.alloc (.cells #[.int .i64 4, .int .i64 5] 3)) := C2.alloc _
    have b3 := hkeep ((Ch.refl [] w2).alloc (.cells #[.int .i64 4, .int .i64 5] 3)) b2
    have x3 := hkeep ((Ch.refl [] w2).alloc (.cells #[.int .i64 4, .int .i64 5] 3)) x2
    refine ⟨trivial, ?_⟩
    gi_at_call 157
    refine (callsIn_wide.2 (M1 _ _ (by rw [heap_alloc, if_pos rfl]))).mono ?_
    rintro e w' ⟨rfl, rfl⟩
    generalize w2.alloc (.cells #[.int .i64 4, .int .i64 5] 3) = w3 at *
    gi_wp2
    apply wpIn_label
    gi_wp2_with fail
    have C4 : Ch [] w (w3.alloc (.cells #[.bool false] 4)) := C3.alloc _
    have b4 := hkeep ((Ch.refl [] w3).alloc (.cells #[.bool false] 4)) b3
    have x4 := hkeep ((Ch.refl [] w3).alloc (.cells #[.bool false] 4)) x3
    have f4 : (w3.alloc (.cells #[.bool false] 4)).heap[w3.heap.size]? = some (.cells #[.bool false] 4 (0, 0)) := by rw [heap_alloc, if_pos rfl]
    have hF := C3.size
    generalize w3.alloc (.cells #[.bool false] 4) = w4 at *
    generalize w3.heap.size = F at *
    refine ⟨trivial, ?_⟩
    gi_at_call 219
    refine (callsIn_wide.2 (stores_any g _)).mono ?_
    rintro e w5 ⟨r, b, rfl, hst, hc5⟩
    have b5 := hkeep hc5 b4
    have x5 := hkeep hc5 x4
    have f5 := hkeep hc5 f4
    have C5 := C4.trans hc5
    have hxF : ¬ w.heap.size = F := by
      intro e; rw [e] at x5; rw [x5] at f5; cases f5
    clear b4 x4 f4 hc5 C4 C3 b3 x3 C2 b2 x2
    obtain ⟨q, Yq, ⟨hrl, hbl, hgl, hql⟩, hkb⟩ := Y1 r b w5 b5 hst
    have hFk : ∀ k, k ∈ [r, b, g, q] → k ≠ F := fun k hk e => hkb k hk _ (e ▸ f5)
    clear hkb
    have hFl := (Array.getElem?_eq_some_iff.1 f5).1
    have hXl := (Array.getElem?_eq_some_iff.1 x5).1
    gi_wp2
    refine range_law (n := 1) (xs := xs) rfl enters_stores Yq (fun _ => rfl) (by simp) (by simp; omega)
      (fun pre W => x ∉ pre ∧ Ch [] w W ∧ W.heap[w.heap.size]? = some (.cells #[I x] 3 (0, 0)) ∧ W.heap[F]? = some (.cells #[.bool false] 4 (0, 0)))
      (fun c W => c = .exit 0 ∧ x ∈ xs ∧ Ch [] w W ∧ W.heap[F]? = some (.cells #[.bool true] 4 (0, 0)))
      ?hI1 ?hIx1 ⟨by simp, C5, x5, f5⟩ ?a1 ?assign1 ?body1 ?done1 ?stop1
    case hI1 =>
      rintro pre A B ⟨h1, hc, h2, h3⟩ hAB
      exact ⟨h1, hc.trans2 hAB (by simp <;> omega), (hAB.block _ (Array.getElem?_eq_some_iff.1 h2).1 (by simp <;> omega)).trans h2, (hAB.block _ (Array.getElem?_eq_some_iff.1 h3).1 (by simp <;> omega)).trans h3⟩
    case hIx1 =>
      rintro c A B ⟨rfl, h1, hc, h3⟩ hAB
      exact ⟨rfl, h1, hc.trans2 hAB (by simp <;> omega), (hAB.block _ (Array.getElem?_eq_some_iff.1 h3).1 (by simp <;> omega)).trans h3⟩
    case assign1 =>
      intro y W K hK
      gi_wp2
      exact hK
    case body1 =>
      rintro pre y post W hxs ⟨hno, hc, h2, h3⟩ hsz
      have hyx : y ∈ xs := by rw [hxs]; simp
      clear hxs
      rcases eqw_cases y x with he | he
      · subst he
        gi_wp2
        refine ⟨⟨rfl, hyx, hc.setCell (p := ⟨F, 0, none⟩) (.inr hF) _, ?_⟩, ?_⟩
        · rw [heap_setCell, if_pos rfl, h3]; rfl
        · intro k hk
          have hkF : k ≠ F := by
            rcases hk with rfl | rfl | hk
            · omega
            · omega
            · exact hFk k hk
          rw [heap_setCell, if_neg hkF]
      · have hne : ¬ y = x := by simpa using he
        have HN : Hid (x ∉ pre ++ [y]) := Lib.hid (by
          intro hm
          rcases List.mem_append.1 hm with hm | hm
          · exact hno hm
          · exact hne (List.mem_singleton.1 hm).symm)
        clear hne hno
        gi_wp2
        refine ⟨⟨HN.out, hc.setCell (p := ⟨F, 0, none⟩) (.inr hF) _, ?_, ?_⟩, by simp [World.setCell], ?_⟩
        · rw [heap_setCell, if_neg hxF]; exact h2
        · rw [heap_setCell, if_pos rfl, h3]; rfl
        · intro k hk
          have hkF : k ≠ F := by
            rcases hk with rfl | rfl | hk
            · omega
            · omega
            · exact hFk k hk
          rw [heap_setCell, if_neg hkF]
    case done1 =>
      rintro W ⟨hno, hc, h2, h3⟩ hd
      have HX := Lib.hid hno
      clear hno
      gi_wp2
      rw [Exit.noGoto_ret]
      refine marks_ret (v := .bool false) hd (results_tmp Tryz.results158 _ _ _) ⟨?_, hc.trans2 (ch_putObj _ _ _) (by simp; omega)⟩
      rw [decide_eq_false HX.out]
    case stop1 =>
      rintro c W ⟨rfl, hyx, hc, h3⟩ hd
      have HX := Lib.hid hyx
      clear hyx
      gi_wp2
      rw [Exit.noGoto_ret]
      refine marks_ret (v := .bool true) hd (results_tmp Tryz.results158 _ _ _) ⟨?_, hc.trans2 (ch_putObj _ _ _) (by simp; omega)⟩
      rw [decide_eq_true HX.out]
  · refine (callsIn_wide (n := 3)).1 ?_
    refine callsIn_of_wp_marks Tryz.func158 rfl trivial ?_
    simp only [Tryz.ntmps158, List.size_toArray, List.length_cons, List.length_nil, Nat.reduceAdd, Nat.reduceSub, Array.replicate_succ, Array.replicate_zero, List.push_toArray, List.append_toArray, List.nil_append, List.cons_append]
    gi_wp2
    refine wpIn_wide.2 ?_
    apply wp_scope_straight
    refine (wpIn_wide (n := 3)).1 ?_
    gi_wp2_with fail
    refine ⟨trivial, ?_⟩
    gi_at_call 115
    generalize w.alloc (.cells #[I x] 3) = w0 at *
    refine (callsIn_wide.2 (W1 _ b0)).mono ?_
    rintro e w1 ⟨rfl, hc1⟩
    have b1 := hkeep hc1 b0
    have x1 := hkeep hc1 x0
    gi_wp2_with fail
    refine ⟨trivial, ?_⟩
    gi_at_call 115
    refine (callsIn_wide.2 (W1 _ b1)).mono ?_
    rintro e w2 ⟨rfl, hc2⟩
    have b2 := hkeep hc2 b1
    have x2 := hkeep hc2 x1
    have C2 := (C0.trans hc1).trans hc2
    clear b0 x0 b1 x1 hc1 hc2 C0
    gi_wp2_with fail
    have C3 : Ch [] w (w2.alloc (.cells #[.int .i64 4, .int .i64 5] 3)) := C2.alloc _
    have b3 := hkeep ((Ch.refl [] w2).alloc (.cells #[.int .i64 4, .int .i64 5] 3)) b2
    have x3 := hkeep ((Ch.refl [] w2).alloc (.cells #[.int .i64 4, .int .i64 5] 3)) x2
    refine ⟨trivial, ?_⟩
    gi_at_call 157
    refine (callsIn_wide.2 (M1 _ _ (by rw [heap_alloc, if_pos rfl]))).mono ?_
    rintro e w' ⟨rfl, rfl⟩
    generalize w2.alloc (.cells #[.int .i64 4, .int .i64 5] 3) = w3 at *
    gi_wp2
    apply wpIn_label
    gi_wp2_with fail
    have C4 : Ch [] w (w3.alloc (.cells #[.bool false] 4)) := C3.alloc _
    have b4 := hkeep ((Ch.refl [] w3).alloc (.cells #[.bool false] 4)) b3
    have x4 := hkeep ((Ch.refl [] w3).alloc (.cells #[.bool false] 4)) x3
    have f4 : (w3.alloc (.cells #[.bool false] 4)).heap[w3.heap.size]? = some (.cells #[.bool false] 4 (0, 0)) := by rw [heap_alloc, if_pos rfl]
    have hF := C3.size
    generalize w3.alloc (.cells #[.bool false] 4) = w4 at *
    generalize w3.heap.size = F at *
    refine ⟨trivial, ?_⟩
    gi_at_call 219
    refine (callsIn_wide.2 (stores_any g _)).mono ?_
    rintro e w5 ⟨r, b, rfl, hst, hc5⟩
    have b5 := hkeep hc5 b4
    have x5 := hkeep hc5 x4
    have f5 := hkeep hc5 f4
    have C5 := C4.trans hc5
    have hxF : ¬ w.heap.size = F := by
      intro e; rw [e] at x5; rw [x5] at f5; cases f5
    clear b4 x4 f4 hc5 C4 C3 b3 x3 C2 b2 x2
    obtain ⟨q, Yq, ⟨hrl, hbl, hgl, hql⟩, hkb⟩ := Y1 r b w5 b5 hst
    have hFk : ∀ k, k ∈ [r, b, g, q] → k ≠ F := fun k hk e => hkb k hk _ (e ▸ f5)
    clear hkb
    have hFl := (Array.getElem?_eq_some_iff.1 f5).1
    have hXl := (Array.getElem?_eq_some_iff.1 x5).1
    gi_wp2
    refine range_law (n := 1) (xs := xs) rfl enters_stores Yq (fun _ => rfl) (by simp) (by simp; omega)
      (fun pre W => x ∉ pre ∧ Ch [] w W ∧ W.heap[w.heap.size]? = some (.cells #[I x] 3 (0, 0)) ∧ W.heap[F]? = some (.cells #[.bool false] 4 (0, 0)))
      (fun c W => c = .exit 0 ∧ x ∈ xs ∧ Ch [] w W ∧ W.heap[F]? = some (.cells #[.bool true] 4 (0, 0)))
      ?hI2 ?hIx2 ⟨by simp, C5, x5, f5⟩ ?a2 ?assign2 ?body2 ?done2 ?stop2
    case hI2 =>
      rintro pre A B ⟨h1, hc, h2, h3⟩ hAB
      exact ⟨h1, hc.trans2 hAB (by simp <;> omega), (hAB.block _ (Array.getElem?_eq_some_iff.1 h2).1 (by simp <;> omega)).trans h2, (hAB.block _ (Array.getElem?_eq_some_iff.1 h3).1 (by simp <;> omega)).trans h3⟩
    case hIx2 =>
      rintro c A B ⟨rfl, h1, hc, h3⟩ hAB
      exact ⟨rfl, h1, hc.trans2 hAB (by simp <;> omega), (hAB.block _ (Array.getElem?_eq_some_iff.1 h3).1 (by simp <;> omega)).trans h3⟩
    case assign2 =>
      intro y W K hK
      gi_wp2
      exact hK
    case body2 =>
      rintro pre y post W hxs ⟨hno, hc, h2, h3⟩ hsz
      have hyx : y ∈ xs := by rw [hxs]; simp
      clear hxs
      rcases eqw_cases y x with he | he
      · subst he
        gi_wp2
        refine ⟨⟨rfl, hyx, hc.setCell (p := ⟨F, 0, none⟩) (.inr hF) _, ?_⟩, ?_⟩
        · rw [heap_setCell, if_pos rfl, h3]; rfl
        · intro k hk
          have hkF : k ≠ F := by
            rcases hk with rfl | rfl | hk
            · omega
            · omega
            · exact hFk k hk
          rw [heap_setCell, if_neg hkF]
      · have hne : ¬ y = x := by simpa using he
        have HN : Hid (x ∉ pre ++ [y]) := Lib.hid (by
          intro hm
          rcases List.mem_append.1 hm with hm | hm
          · exact hno hm
          · exact hne (List.mem_singleton.1 hm).symm)
        clear hne hno
        gi_wp2
        refine ⟨⟨HN.out, hc.setCell (p := ⟨F, 0, none⟩) (.inr hF) _, ?_, ?_⟩, by simp [World.setCell], ?_⟩
        · rw [heap_setCell, if_neg hxF]; exact h2
        · rw [heap_setCell, if_pos rfl, h3]; rfl
        · intro k hk
          have hkF : k ≠ F := by
            rcases hk with rfl | rfl | hk
            · omega
            · omega
            · exact hFk k hk
          rw [heap_setCell, if_neg hkF]
    case done2 =>
      rintro W ⟨hno, hc, h2, h3⟩ hd
      have HX := Lib.hid hno
      clear hno
      gi_wp2
      rw [Exit.noGoto_ret]
      refine marks_ret (v := .bool false) hd (results_tmp Tryz.results158 _ _ _) ⟨?_, hc.trans2 (ch_putObj _ _ _) (by simp; omega)⟩
      rw [decide_eq_false HX.out]
    case stop2 =>
      rintro c W ⟨rfl, hyx, hc, h3⟩ hd
      have HX := Lib.hid hyx
      clear hyx
      gi_wp2
      rw [Exit.noGoto_ret]
      refine marks_ret (v := .bool true) hd (results_tmp Tryz.results158 _ _ _) ⟨?_, hc.trans2 (ch_putObj _ _ _) (by simp; omega)⟩
      rw [decide_eq_true HX.out]
end Go.Proofs.Hc
