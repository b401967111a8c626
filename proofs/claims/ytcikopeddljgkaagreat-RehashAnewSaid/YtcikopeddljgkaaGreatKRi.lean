/- Package rehash: Check, cell, load, store. -/
import Derived.Test.YtcikopeddljgkaaGreatKHcb
import Derived.Test.YtcikopeddljgkaaGreatKHdb
import Derived.Test.YtcikopeddljgkaaGreatKSb
import Derived.Test.YtcikopeddljgkaaGreatKHj
import Derived.Test.YtcikopeddljgkaaGreatKHma
import Derived.Test.YtcikopeddljgkaaGreatKHmet
import Derived.Test.YtcikopeddljgkaaGreatKHo
import Derived.Test.YtcikopeddljgkaaGreatKHr
import Derived.Test.YtcikopeddljgkaaGreatKHtr2
import Derived.Test.YtcikopeddljgkaaGreatKRb
import Derived.Test.YtcikopeddljgkaaGreatKRv
import Derived.Below
import Derived.BigQuiet
import Derived.Deep.Draws
import Derived.Deep.Light
import Derived.Deep.OwnRows
import Derived.Deep.QuietTactic
import Derived.Deep.RegionHeld
import Derived.IntWalk
import Derived.Laws.CopyOwn
import Derived.Laws.CopyRow
import Derived.Laws.StructEq
import Derived.Laws.Tables
import Derived.Lib.AppendZerosOnto
import Derived.Lib.Hide
import Derived.Lib.Tables
import Derived.Lib.Walk
import Derived.LoopIn
import Derived.LoopN
import Derived.LoopNIn
import Derived.Maps.AppendAt
import Derived.Maps.Views
import Derived.OwnWalkIn
import Derived.RangeFuncBox
import Derived.RangeFuncCalls
import Derived.RangeFuncRecord
import Derived.RangeFuncSeq
import Derived.Recover
import Derived.RegionTactic
import Derived.ScopeJumps
import Derived.Shelf.Slices.Clone
import Derived.StillTail
import Derived.StillTailTactics
import Derived.TacticsInMore
import Derived.Test.YtcikopeddljgkaaGreatProg
import Derived.WalkKit
import Derived.WalkLawsBesides
import Derived.WalkMore
import Derived.WalkSpells
set_option linter.unusedSimpArgs false
set_option linter.unusedVariables false
namespace Go.Proofs.Hc
open Go.RowKit
attribute [local go_sem] wrap_u64 wrap_u8 bits_xor64 bits_and64 bits_or64 bits_not64 bits_xor8 bits_and8 bits_or8 signed64 signed8 ofInt_N BitVec.ofInt_add BitVec.ofInt_mul ofInt_sub' ofInt8_N64 ofInt64_N8 wide8 eqN neN shr_pow shr1 shr7 shr56
attribute [local go_sem high] bits_com64 shl_wrap
attribute [local go_sem] cell_heap ice_heap cellAt_cells iceAt_cells setAt_cells rowAt_cells canLay_cells laidAt_cells size_onObj size_setCell rowRes_some layRes_true
attribute [local go_sem] load26 load73 load23 store26 build73
attribute [local go_sem ↓] lrow26 lrow73 lrow23 srow26 zero26 brow73 heap_alloc heap_drew heap_drewN heap_setCell heap_onObj
attribute [local go_sem] tcells_size hcells_size tcells_get hcells_get tcells_one hcells_one hcells_table tcells_table hcells_all hcells_ctrl tcells_ctrl
attribute [local go_sem] nn2 nm2 nn3 nm3 nn4 nm4 nn5 nm5 nn6 nm6 nn7 nm7 nn8 nm8
attribute [local go_sem] nn2 nm2 nn3 nm3 nn4 nm4 nn5 nm5 nn6 nm6 nn7 nm7 nn8 nm8
attribute [local go_sem] acc_g0 acc_g1 acc_g2 acc_g4 acc_s0 acc_s1 acc_s2 acc_s4 accC_size accC_one accC_all loadAcc storeAcc bacc0 bacc2 bacc3 bacc3u bacc4
attribute [local go_sem ↓] lrowAcc srowAcc browAcc zeroAcc_run
attribute [local go_sem high] laidAt_acc
attribute [local go_sem] ofInt_N ofInt_pow8
attribute [local go_sem] Oper.semAt_some make_func1
attribute [local go_sem] layC_idx lcell0 lcell1 lcell2 lcell3 lcell4 lcell5 lcell46
attribute [local go_sem] lay_g0 lay_g1 lay_g2 lay_g3 lay_g4 lay_g5 lay_g46 lay_s0 lay_s4 lay_s5 lay_s46 layC_size layC_one layC_all layC_ws boxLay loadLay storeLay build_lay box_lay buildLay0 buildLay2 buildLay3
attribute [local go_sem ↓] lrowLay srowLay browLay brow_lay zeroLay_run
attribute [local go_sem high] laidAt_lay
attribute [local irreducible] layC
attribute [local irreducible] accC
attribute [local go_sem high] tmod2_64w bit64w bit64zw
/-- What Check answers. -/
def checkL (p : LayT) : Int := if rightL p then 0 else 300
theorem checkL_yes {p : LayT} (h : rightL p = true) : checkL p = 0 := by unfold checkL; rw [h]; rfl
theorem checkL_no {p : LayT} (h : rightL p = false) : checkL p = 300 := by unfold checkL; rw [h]; rfl
theorem wrongL {p : LayT} (h : rightL p = false) : p.ph < 0 ∨ 0 ≤ p.ph ∧ (6 < p.ph ∨ p.ph ≤ 6 ∧ (p.who < 0 ∨ 0 ≤ p.who ∧ (8 ≤ p.who ∨ p.who < 8 ∧ (p.sl < 0 ∨ 0 ≤ p.sl ∧ (128 ≤ p.sl ∨ p.sl < 128 ∧ (oddB p.count = true ∨ oddB p.count = false ∧ ((p.ph = 2 ∨ p.ph = 3) ∧ (p.at_ < 1 ∨ 1 ≤ p.at_ ∧ 40 ≤ p.at_)))))))) := by
  have hn : ¬ RightL p := fun R => by rw [(rightL_iff p).2 R] at h; cases h
  by_cases c0 : p.ph < 0
  · exact .inl c0
  refine .inr ⟨by omega, ?_⟩
  by_cases c1 : 6 < p.ph
  · exact .inl c1
  refine .inr ⟨by omega, ?_⟩
  by_cases c2 : p.who < 0
  · exact .inl c2
  refine .inr ⟨by omega, ?_⟩
  by_cases c3 : 8 ≤ p.who
  · exact .inl c3
  refine .inr ⟨by omega, ?_⟩
  by_cases c4 : p.sl < 0
  · exact .inl c4
  refine .inr ⟨by omega, ?_⟩
  by_cases c5 : 128 ≤ p.sl
  · exact .inl c5
  refine .inr ⟨by omega, ?_⟩
  cases c6 : oddB p.count
  · refine .inr ⟨rfl, ?_⟩
    by_cases c7 : (p.ph = 2 ∨ p.ph = 3) ∧ (p.at_ < 1 ∨ 1 ≤ p.at_ ∧ 40 ≤ p.at_)
    · exact c7
    · exact absurd ⟨by omega, by omega, by omega, by omega, by omega, by omega, c6, by omega⟩ hn
  · exact .inl rfl
/-- What the first half of Check is asked. -/
theorem atL_cases (p : LayT) : (1 ≤ p.at_ ∧ p.at_ < 40) ∨ (p.at_ < 1 ∨ 1 ≤ p.at_ ∧ ¬ p.at_ < 40) ∧ (p.ph = 2 ∨ p.ph = 3 ∧ (p.ph == 2) = false ∨ (p.ph == 2) = false ∧ (p.ph == 3) = false) := by
  by_cases a : 1 ≤ p.at_ ∧ p.at_ < 40
  · exact .inl a
  · refine .inr ⟨by omega, ?_⟩
    by_cases b : p.ph = 2
    · exact .inl b
    · by_cases c : p.ph = 3
      · exact .inr (.inl ⟨c, by simpa using b⟩)
      · exact .inr (.inr ⟨by simpa using b, by simpa using c⟩)
set_option maxHeartbeats 2000000 in
set_option maxRecDepth 100000 in
theorem lCheck_yes (p : LayT) (R : RightL p) (w : World) : Calls Tryz.prog 57 #[.agg (layC p)] w fun e w' => e = .returned (I 0) ∧ Ch [] w w' := by
  obtain ⟨h0, h1, h2, h3, h4, h5, h6, h7⟩ := R
  have hd : 1 ≤ p.at_ ∧ p.at_ < 40 ∨ p.at_ < 1 ∧ ((p.ph == 2) = false ∧ (p.ph == 3) = false) ∨ ¬ p.at_ < 40 ∧ 1 ≤ p.at_ ∧ ((p.ph == 2) = false ∧ (p.ph == 3) = false) := by
    rcases atL_cases p with h | ⟨h, h' | ⟨h', _⟩ | h'⟩
    · exact .inl h
    · omega
    · omega
    · rcases h with h | h
      · exact .inr (.inl ⟨h, h'⟩)
      · exact .inr (.inr ⟨h.2, h.1, h'⟩)
  clear h7
  rcases hd with ⟨a1, a2⟩ | ⟨a1, b1, b2⟩ | ⟨a1, a2, b1, b2⟩
  all_goals
    first
    | have c1 : ¬ p.ph = 2 := beq_eq_false_iff_ne.1 b1
      have c2 : ¬ p.ph = 3 := beq_eq_false_iff_ne.1 b2
      have d1 : (p.ph != 2) = true := by rw [bne, b1]; rfl
      have d2 : (p.ph != 3) = true := by rw [bne, b2]; rfl
    | skip
    go_enter Tryz.func57, Tryz.ntmps57
    go_wp2
    go_ret
    exact ⟨rfl, (Ch.refl [] w).alloc _⟩
set_option maxHeartbeats 4000000 in
set_option maxRecDepth 100000 in
theorem lCheck_no (p : LayT) (h : rightL p = false) (w : World) : Calls Tryz.prog 57 #[.agg (layC p)] w fun e w' => e = .returned (I 300) ∧ Ch [] w w' := by
  have hw := wrongL h
  clear h
  obtain ⟨W0, hW0⟩ : ∃ W, w.alloc (.cells (layC p) 72) = W := ⟨_, rfl⟩
  have b0 : W0.heap[w.heap.size]? = some (.cells (layC p) 72 (0, 0)) := by rw [← hW0, heap_alloc, if_pos rfl]
  have C0 : Ch [] w W0 := by rw [← hW0]; exact (Ch.refl [] w).alloc _
  go_enter Tryz.func57, Tryz.ntmps57
  go_upto_region 1 with (fail)
  clear hW0
  obtain ⟨B, hB⟩ : ∃ b, w.heap.size = b := ⟨_, rfl⟩
  rw [hB] at b0 ⊢
  clear hB
  rcases atL_cases p with ⟨a1, a2⟩ | ⟨a, b⟩
  · go_upto_region 2 with (fail)
    rcases hw with h | ⟨h0, h | ⟨h1, h | ⟨h2, h | ⟨h3, h | ⟨h4, h | ⟨h5, h | ⟨h6, h7⟩⟩⟩⟩⟩⟩⟩
    all_goals
      first
      | (exfalso; omega)
      | (go_wp2
         go_ret
         exact ⟨rfl, C0⟩)
  · rcases a with a | ⟨a, a'⟩ <;> rcases b with b | ⟨b, b'⟩ | ⟨b, b'⟩
    all_goals
      first
      | have c1 : ¬ p.ph = 2 := beq_eq_false_iff_ne.1 b
        have c2 : ¬ p.ph = 3 := beq_eq_false_iff_ne.1 b'
        have d1 : (p.ph != 2) = true := by rw [bne, b]; rfl
        have d2 : (p.ph != 3) = true := by rw [bne, b']; rfl
      | skip
      go_upto_region 2 with (fail)
      rcases hw with h | ⟨h0, h | ⟨h1, h | ⟨h2, h | ⟨h3, h | ⟨h4, h | ⟨h5, h | ⟨h6, h7⟩⟩⟩⟩⟩⟩⟩
      all_goals
        first
        | (exfalso; omega)
        | (exfalso; omega)
        | (go_wp2
           go_ret
           exact ⟨rfl, C0⟩)
theorem lCheck_any (p : LayT) (w : World) : Calls Tryz.prog 57 #[.agg (layC p)] w fun e w' => e = .returned (I (checkL p)) ∧ Ch [] w w' := by
  cases h : rightL p with
  | true => rw [checkL_yes h]; exact lCheck_yes p ((rightL_iff p).1 h) w
  | false => rw [checkL_no h]; exact lCheck_no p h w
theorem lCell_any (p : LayT) (g : Nat) (wd : Int) (s0 : 0 ≤ p.sl) (s1 : p.sl < 128) (h0 : 0 ≤ wd) (h1 : wd < 40) (w : World) (hg : w.heap[g]? = some (.cells (layC p) 163 (0, 0))) :
    Calls Tryz.prog 239 #[.pointer (some ⟨g, 0, none⟩), I wd] w fun e w' => e = .returned (I (16 + 40 * p.sl + wd)) ∧ w = w' := by
  have K1 := fun w => cell_ok p.sl wd s0 s1 h0 h1 w
  go_enter Tryz.func239, Tryz.ntmps239
  go_wp2_with (go_at_call 44; refine (K1 _).mono ?_; rintro e w' ⟨rfl, rfl⟩)
  go_ret
  exact ⟨rfl, rfl⟩
set_option maxHeartbeats 1000000 in
set_option maxRecDepth 100000 in
theorem lLoad_any (p : LayT) (g : Nat) (wd : Int) (s0 : 0 ≤ p.sl) (s1 : p.sl < 128) (h0 : 0 ≤ wd) (h1 : wd < 40) (w : World) (hg : w.heap[g]? = some (.cells (layC p) 163 (0, 0))) :
    Calls Tryz.prog 190 #[.pointer (some ⟨g, 0, none⟩), I wd] w fun e w' => e = .returned (.agg (accC p.who 1 (16 + 40 * p.sl + wd) 0)) ∧ Ch [] w w' := by
  have K1 := fun w hg => lCell_any p g wd s0 s1 h0 h1 w hg
  have C0 : Ch [] w (w.alloc (.cells (accC 0 0 0 0) 87)) := (Ch.refl [] w).alloc _
  have z0 : (w.alloc (.cells (accC 0 0 0 0) 87)).heap[w.heap.size]? = some (.cells (accC 0 0 0 0) 87 (0, 0)) := by rw [heap_alloc, if_pos rfl]
  have g0 := hkeep C0 hg
  have hgn : ¬ g = w.heap.size := by have := (Array.getElem?_eq_some_iff.1 hg).1; omega
  clear hg
  go_enter Tryz.func190, Tryz.ntmps190
  go_upto_region 1 with (fail)
  generalize w.alloc (.cells (accC 0 0 0 0) 87) = W0 at *
  have s2 : (fun W' : World => W'.heap[g]? = some (.cells (layC p) 163 (0, 0))) W0.drew := g0
  have z2 : W0.drew.heap[w.heap.size]? = some (.cells (accC 0 0 0 0) 87 (0, 0)) := z0
  have C2 : Ch [] w W0.drew := C0.drew
  refine wp_region_held_drew (S := fun W' => W'.heap[g]? = some (.cells (layC p) 163 (0, 0))) (by kernel_rfl) s2 ?_
  intro _
  simp only [List.size_toArray, List.length_cons, List.length_nil, Nat.reduceAdd]
  clear z0 g0 C0
  generalize W0.drew = w2 at *
  refine wpAnyH_take (i := 0) (oi := ⟨some 5, _, _, _, _, none⟩) (v := ?_) rfl (by kernel_rfl) (by kernel_rfl) (by kernel_rfl) (fun _ _ _ h => h) (Or.inl ⟨by rfl, ?_⟩) s2 ?_
  rotate_left
  · intro wq hSq
    first | (go_simp; done) | (go_simp; with_reducible rfl)
  try simp only [Act.put, List.setIfInBounds_toArray, List.set_cons_zero, List.set_cons_succ]
  refine wpAnyH_take (i := 1) (oi := ⟨some 6, _, _, _, _, none⟩) (v := ?_) rfl (by kernel_rfl) (by kernel_rfl) (by kernel_rfl) (fun _ _ _ h => h) (Or.inl ⟨by rfl, ?_⟩) s2 ?_
  rotate_left
  · intro wq hSq
    first | (go_simp; done) | (go_simp; with_reducible rfl)
  try simp only [Act.put, List.setIfInBounds_toArray, List.set_cons_zero, List.set_cons_succ]
  refine wpAnyH_take (i := 2) (oi := ⟨some 7, _, _, _, _, none⟩) (v := ?_) rfl (by kernel_rfl) (by kernel_rfl) (by kernel_rfl) (fun _ _ _ h => h) (Or.inl ⟨by rfl, ?_⟩) s2 ?_
  rotate_left
  · intro wq hSq
    first | (go_simp; done) | (go_simp; with_reducible rfl)
  try simp only [Act.put, List.setIfInBounds_toArray, List.set_cons_zero, List.set_cons_succ]
  refine wpAnyH_take (i := 3) (oi := ⟨some 8, _, _, _, _, none⟩) (v := ?_) rfl (by kernel_rfl) (by kernel_rfl) (by kernel_rfl) (fun _ _ _ h => h) (Or.inl ⟨by rfl, ?_⟩) s2 ?_
  rotate_left
  · intro wq hSq
    first | (go_simp; done) | (go_simp; with_reducible rfl)
  try simp only [Act.put, List.setIfInBounds_toArray, List.set_cons_zero, List.set_cons_succ]
  refine wpAnyH_take (i := 4) (oi := ⟨some 9, _, _, _, _, none⟩) (v := ?_) rfl (by kernel_rfl) (by kernel_rfl) (by kernel_rfl) (fun _ _ _ h => h) (Or.inl ⟨by rfl, ?_⟩) s2 ?_
  rotate_left
  · intro wq hSq
    first | (go_simp; done) | (go_simp; with_reducible rfl)
  try simp only [Act.put, List.setIfInBounds_toArray, List.set_cons_zero, List.set_cons_succ]
  refine wpAnyH_take (i := 5) (oi := ⟨some 10, _, _, _, _, none⟩) (v := ?_) rfl (by kernel_rfl) (by kernel_rfl) (by kernel_rfl) (fun _ _ _ h => h) (Or.inl ⟨by rfl, ?_⟩) s2 ?_
  rotate_left
  · intro wq hSq
    first | (go_simp; done) | (go_simp; with_reducible rfl)
  try simp only [Act.put, List.setIfInBounds_toArray, List.set_cons_zero, List.set_cons_succ]
  refine wpAnyH_take (i := 6) (oi := ⟨some 11, _, _, _, _, none⟩) (v := ?_) rfl (by kernel_rfl) (by kernel_rfl) (by kernel_rfl) (fun _ _ _ h => h) (Or.inl ⟨by rfl, ?_⟩) s2 ?_
  rotate_left
  · intro wq hSq
    first | (go_simp; done) | (go_simp; with_reducible rfl)
  try simp only [Act.put, List.setIfInBounds_toArray, List.set_cons_zero, List.set_cons_succ]
  refine wpAnyH_ready (rs := [7]) (by kernel_rfl) (by simp) ?_
  refine AllReadyH.cons rfl (fun K hK => ?_) AllReadyH.nil
  go_simp
  refine (K1 _ s2).mono ?_
  rintro e w' ⟨rfl, rfl⟩
  refine hK.out _ _ s2 (fun _ => ?_)
  clear hK K
  refine wpAnyH_take (i := 8) (oi := ⟨some 13, _, _, _, _, none⟩) (v := ?_) rfl (by kernel_rfl) (by kernel_rfl) (by kernel_rfl) (fun _ _ _ h => h) (Or.inl ⟨by rfl, ?_⟩) s2 ?_
  rotate_left
  · intro wq hSq
    first | (go_simp; done) | (go_simp; with_reducible rfl)
  try simp only [Act.put, List.setIfInBounds_toArray, List.set_cons_zero, List.set_cons_succ]
  refine wpAnyH_ready (rs := [9]) (by kernel_rfl) (by simp) ?_
  refine AllReadyH.cons rfl (fun K hK => ?_) AllReadyH.nil
  go_simp
  refine hK.out _ _ ?_ (fun _ => ?_)
  · rw [heap_onObj, if_neg hgn]; exact s2
  clear hK K
  refine wpAnyH_done (by kernel_rfl) ?_ _
  go_wp2
  refine bodyPost_ret (acc_result Tryz.results190 _ w.heap.size _ p.who 1 (16 + 40 * p.sl + wd) 0 rfl ?_) rfl ⟨rfl, C2.onObj (.inr (Nat.le_refl _)) _⟩
  rw [heap_onObj, if_pos rfl, z2, Option.map_some, laidAt_acc]
set_option maxHeartbeats 1000000 in
set_option maxRecDepth 100000 in
theorem lStore_any (p : LayT) (g : Nat) (wd : Int) (x : BitVec 64) (s0 : 0 ≤ p.sl) (s1 : p.sl < 128) (h0 : 0 ≤ wd) (h1 : wd < 40) (w : World) (hg : w.heap[g]? = some (.cells (layC p) 163 (0, 0))) :
    Calls Tryz.prog 193 #[.pointer (some ⟨g, 0, none⟩), I wd, U x] w fun e w' => e = .returned (.agg (accC p.who 2 (16 + 40 * p.sl + wd) (N x))) ∧ Ch [] w w' := by
  have K1 := fun w hg => lCell_any p g wd s0 s1 h0 h1 w hg
  have C0 : Ch [] w (w.alloc (.cells (accC 0 0 0 0) 87)) := (Ch.refl [] w).alloc _
  have z0 : (w.alloc (.cells (accC 0 0 0 0) 87)).heap[w.heap.size]? = some (.cells (accC 0 0 0 0) 87 (0, 0)) := by rw [heap_alloc, if_pos rfl]
  have g0 := hkeep C0 hg
  have hgn : ¬ g = w.heap.size := by have := (Array.getElem?_eq_some_iff.1 hg).1; omega
  clear hg
  go_enter Tryz.func193, Tryz.ntmps193
  go_upto_region 1 with (fail)
  generalize w.alloc (.cells (accC 0 0 0 0) 87) = W0 at *
  have s2 : (fun W' : World => W'.heap[g]? = some (.cells (layC p) 163 (0, 0))) W0.drew := g0
  have z2 : W0.drew.heap[w.heap.size]? = some (.cells (accC 0 0 0 0) 87 (0, 0)) := z0
  have C2 : Ch [] w W0.drew := C0.drew
  refine wp_region_held_drew (S := fun W' => W'.heap[g]? = some (.cells (layC p) 163 (0, 0))) (by kernel_rfl) s2 ?_
  intro _
  simp only [List.size_toArray, List.length_cons, List.length_nil, Nat.reduceAdd]
  clear z0 g0 C0
  generalize W0.drew = w2 at *
  refine wpAnyH_take (i := 0) (oi := ⟨some 7, _, _, _, _, none⟩) (v := ?_) rfl (by kernel_rfl) (by kernel_rfl) (by kernel_rfl) (fun _ _ _ h => h) (Or.inl ⟨by rfl, ?_⟩) s2 ?_
  rotate_left
  · intro wq hSq
    first | (go_simp; done) | (go_simp; with_reducible rfl)
  try simp only [Act.put, List.setIfInBounds_toArray, List.set_cons_zero, List.set_cons_succ]
  refine wpAnyH_take (i := 1) (oi := ⟨some 8, _, _, _, _, none⟩) (v := ?_) rfl (by kernel_rfl) (by kernel_rfl) (by kernel_rfl) (fun _ _ _ h => h) (Or.inl ⟨by rfl, ?_⟩) s2 ?_
  rotate_left
  · intro wq hSq
    first | (go_simp; done) | (go_simp; with_reducible rfl)
  try simp only [Act.put, List.setIfInBounds_toArray, List.set_cons_zero, List.set_cons_succ]
  refine wpAnyH_take (i := 2) (oi := ⟨some 9, _, _, _, _, none⟩) (v := ?_) rfl (by kernel_rfl) (by kernel_rfl) (by kernel_rfl) (fun _ _ _ h => h) (Or.inl ⟨by rfl, ?_⟩) s2 ?_
  rotate_left
  · intro wq hSq
    first | (go_simp; done) | (go_simp; with_reducible rfl)
  try simp only [Act.put, List.setIfInBounds_toArray, List.set_cons_zero, List.set_cons_succ]
  refine wpAnyH_take (i := 3) (oi := ⟨some 10, _, _, _, _, none⟩) (v := ?_) rfl (by kernel_rfl) (by kernel_rfl) (by kernel_rfl) (fun _ _ _ h => h) (Or.inl ⟨by rfl, ?_⟩) s2 ?_
  rotate_left
  · intro wq hSq
    first | (go_simp; done) | (go_simp; with_reducible rfl)
  try simp only [Act.put, List.setIfInBounds_toArray, List.set_cons_zero, List.set_cons_succ]
  refine wpAnyH_take (i := 4) (oi := ⟨some 11, _, _, _, _, none⟩) (v := ?_) rfl (by kernel_rfl) (by kernel_rfl) (by kernel_rfl) (fun _ _ _ h => h) (Or.inl ⟨by rfl, ?_⟩) s2 ?_
  rotate_left
  · intro wq hSq
    first | (go_simp; done) | (go_simp; with_reducible rfl)
  try simp only [Act.put, List.setIfInBounds_toArray, List.set_cons_zero, List.set_cons_succ]
  refine wpAnyH_take (i := 5) (oi := ⟨some 12, _, _, _, _, none⟩) (v := ?_) rfl (by kernel_rfl) (by kernel_rfl) (by kernel_rfl) (fun _ _ _ h => h) (Or.inl ⟨by rfl, ?_⟩) s2 ?_
  rotate_left
  · intro wq hSq
    first | (go_simp; done) | (go_simp; with_reducible rfl)
  try simp only [Act.put, List.setIfInBounds_toArray, List.set_cons_zero, List.set_cons_succ]
  refine wpAnyH_take (i := 6) (oi := ⟨some 13, _, _, _, _, none⟩) (v := ?_) rfl (by kernel_rfl) (by kernel_rfl) (by kernel_rfl) (fun _ _ _ h => h) (Or.inl ⟨by rfl, ?_⟩) s2 ?_
  rotate_left
  · intro wq hSq
    first | (go_simp; done) | (go_simp; with_reducible rfl)
  try simp only [Act.put, List.setIfInBounds_toArray, List.set_cons_zero, List.set_cons_succ]
  refine wpAnyH_take (i := 8) (oi := ⟨some 15, _, _, _, _, none⟩) (v := ?_) rfl (by kernel_rfl) (by kernel_rfl) (by kernel_rfl) (fun _ _ _ h => h) (Or.inl ⟨by rfl, ?_⟩) s2 ?_
  rotate_left
  · intro wq hSq
    first | (go_simp; done) | (go_simp; with_reducible rfl)
  try simp only [Act.put, List.setIfInBounds_toArray, List.set_cons_zero, List.set_cons_succ]
  refine wpAnyH_ready (rs := [7]) (by kernel_rfl) (by simp) ?_
  refine AllReadyH.cons rfl (fun K hK => ?_) AllReadyH.nil
  go_simp
  refine (K1 _ s2).mono ?_
  rintro e w' ⟨rfl, rfl⟩
  refine hK.out _ _ s2 (fun _ => ?_)
  clear hK K
  refine wpAnyH_take (i := 9) (oi := ⟨some 16, _, _, _, _, none⟩) (v := ?_) rfl (by kernel_rfl) (by kernel_rfl) (by kernel_rfl) (fun _ _ _ h => h) (Or.inl ⟨by rfl, ?_⟩) s2 ?_
  rotate_left
  · intro wq hSq
    first | (go_simp; done) | (go_simp; with_reducible rfl)
  try simp only [Act.put, List.setIfInBounds_toArray, List.set_cons_zero, List.set_cons_succ]
  refine wpAnyH_ready (rs := [10]) (by kernel_rfl) (by simp) ?_
  refine AllReadyH.cons rfl (fun K hK => ?_) AllReadyH.nil
  go_simp
  refine hK.out _ _ ?_ (fun _ => ?_)
  · rw [heap_onObj, if_neg hgn]; exact s2
  clear hK K
  refine wpAnyH_done (by kernel_rfl) ?_ _
  go_wp2
  refine bodyPost_ret (acc_result Tryz.results193 _ w.heap.size _ p.who 2 (16 + 40 * p.sl + wd) (N x) rfl ?_) rfl ⟨rfl, C2.onObj (.inr (Nat.le_refl _)) _⟩
  rw [heap_onObj, if_pos rfl, z2, Option.map_some, laidAt_acc]
end Go.Proofs.Hc
