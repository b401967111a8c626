/- Package split: what halves gathers with. -/
import Derived.Test.YtcikopeddljgkaaGreatJSb0
import Derived.Test.YtcikopeddljgkaaGreatJ0
set_option linter.unusedSimpArgs false
set_option linter.unusedVariables false
set_option maxHeartbeats 1000000
set_option maxRecDepth 100000
namespace Go.Proofs.Hc
open Go.RowKit
attribute [local go_sem] zbu zcc zax zbf zbo zbd zbn zbp zbw signed64 signed8 zap BitVec.ofInt_add BitVec.ofInt_mul ofInt_sub' zbb zbc wide8 eqN neN zca shr1 shr7 shr56
attribute [local go_sem high] zbe zbv
attribute [local go_sem] zaw zby zaj zas zaf zaz zar zak zbm zal zay zba
attribute [local go_sem] load26 load73 load23 store26 build73
attribute [local go_sem ↓] lrow26 lrow73 lrow23 srow26 zero26 brow73 zae zbk zbg zaa zab
attribute [local go_sem] zai zav zat zbj zbl zbr zaq zau zbs zbi zbh
attribute [local go_sem] nn2 nm2 nn3 nm3 nn4 nm4 nn5 nm5 nn6 nm6 nn7 nm7 nn8 nm8
section
attribute [local go_sem] zap zbq
attribute [local go_sem] Oper.semAt_some zao
attribute [local go_sem] zcj pacell0 pacell1 pacell2 pacell3 pacell4 pacell5 pacell6 pacell7 pacell42
attribute [local go_sem] zcs zcx zcp zcw zcv zdg zcu zdf zce zcr zdj zdc zch zbt zci zck boxPart loadPart storePart zcf zct buildPart0 buildPart4
attribute [local go_sem ↓] lrowPart srowPart browPart zcl zbz
attribute [local go_sem high] zag
attribute [local irreducible] partC
attribute [local go_sem] loadP storeP allOne_pair
attribute [local go_sem high] laidAt_p
attribute [local go_sem ↓] lrowP srowP zeroP
attribute [local go_sem] box_pair
theorem s22halves1_any (p : PartT) (i : Int) (j g q1 q2 : Nat) (hj : j < 16) (w : World) (hg : w.heap[g]? = some (.cells (partC p) 179 (0, 0))) (h1 : w.heap[q1]? = some (.cells #[.pointer (some ⟨g, 0, none⟩)] 177 (0, 0))) (h2 : w.heap[q2]? = some (.cells #[I i] 3 (0, 0))) :
    Calls Tryz.prog 310 #[I (j : Int), .pointer (some ⟨q1, 0, none⟩), .pointer (some ⟨q2, 0, none⟩)] w fun e w' => e = .returned (.tuple #[.agg #[U (p.k j), U (p.v j)], .bool (firstS p (hashOf p.seed (p.k j)) == (i == 0))]) ∧ Ch [] w w' := by
  have HO := fun w => hashOf_any p.seed (p.k j) w
  have F1 := fun w hg => s22first_any p g (hashOf p.seed (p.k j)) w hg
  have e1 := part_gk p j hj
  have e2 := part_gv p j hj
  generalize hashOf p.seed (p.k j) = hh at *
  generalize firstS p hh = ff at *
  generalize p.k j = kk at *
  generalize p.v j = vv at *
  have C0 : Ch [] w (w.alloc (.cells #[U 0#64, U 0#64] 31)) := (Ch.refl [] w).alloc _
  have z0 : (w.alloc (.cells #[U 0#64, U 0#64] 31)).heap[w.heap.size]? = some (.cells #[U 0#64, U 0#64] 31 (0, 0)) := by rw [zae, if_pos rfl]
  have g0 := hkeep C0 hg
  have a0 := hkeep C0 h1
  have b0 := hkeep C0 h2
  have hjI : (j : Int) < 16 := by omega
  have hj0 : (0 : Int) ≤ j := by omega
  clear hg h1 h2
  go_enter Tryz.func310, Tryz.ntmps310
  go_upto_region 1 with (fail)
  obtain ⟨w0, hw0⟩ : ∃ W, w.alloc (.cells #[U 0#64, U 0#64] 31) = W := ⟨_, rfl⟩
  rw [hw0] at C0 z0 g0 a0 b0 ⊢
  clear hw0
  obtain ⟨B, hB⟩ : ∃ b, w.heap.size = b := ⟨_, rfl⟩
  rw [hB] at z0 ⊢
  have hBw : w.heap.size ≤ B := by omega
  clear hB
  have s1 : (fun W' : World => W'.heap[g]? = some (.cells (partC p) 179 (0, 0)) ∧ W'.heap[q1]? = some (.cells #[.pointer (some ⟨g, 0, none⟩)] 177 (0, 0))) w0.drew := ⟨g0, a0⟩
  have z1 : w0.drew.heap[B]? = some (.cells #[U 0#64, U 0#64] 31 (0, 0)) := z0
  have b1 : w0.drew.heap[q2]? = some (.cells #[I i] 3 (0, 0)) := b0
  have C1 : Ch [] w w0.drew := C0.drew
  refine wp_region_held_drew (S := fun W' => W'.heap[g]? = some (.cells (partC p) 179 (0, 0)) ∧ W'.heap[q1]? = some (.cells #[.pointer (some ⟨g, 0, none⟩)] 177 (0, 0))) (by kernel_rfl) s1 ?_
  intro _
  simp only [List.size_toArray, List.length_cons, List.length_nil, Nat.reduceAdd]
  obtain ⟨w1, hw1⟩ : ∃ W, w0.drew = W := ⟨_, rfl⟩
  rw [hw1] at s1 z1 b1 C1 ⊢
  clear hw1 z0 g0 a0 b0 C0
  refine tk 0 8 ?_ rfl s1 ?_ ?_; rotate_left
  · intro wq hSq; obtain ⟨hSa, hSb⟩ := hSq; go_simp; try with_reducible rfl
  try go_frame
  refine tk 1 9 ?_ rfl s1 ?_ ?_; rotate_left
  · intro wq hSq; obtain ⟨hSa, hSb⟩ := hSq; go_simp; try with_reducible rfl
  try go_frame
  refine tk 2 10 ?_ rfl s1 ?_ ?_; rotate_left
  · intro wq hSq; obtain ⟨hSa, hSb⟩ := hSq; go_simp; try with_reducible rfl
  try go_frame
  refine tk 3 11 ?_ rfl s1 ?_ ?_; rotate_left
  · intro wq hSq; obtain ⟨hSa, hSb⟩ := hSq; go_simp; try with_reducible rfl
  try go_frame
  refine tk 4 12 ?_ rfl s1 ?_ ?_; rotate_left
  · intro wq hSq; obtain ⟨hSa, hSb⟩ := hSq; go_simp; try with_reducible rfl
  try go_frame
  refine tk 5 13 ?_ rfl s1 ?_ ?_; rotate_left
  · intro wq hSq; obtain ⟨hSa, hSb⟩ := hSq; go_simp; try with_reducible rfl
  try go_frame
  refine tk 6 14 ?_ rfl s1 ?_ ?_; rotate_left
  · intro wq hSq; obtain ⟨hSa, hSb⟩ := hSq; go_simp; try with_reducible rfl
  try go_frame
  refine tk 7 15 ?_ rfl s1 ?_ ?_; rotate_left
  · intro wq hSq; obtain ⟨hSa, hSb⟩ := hSq; go_simp; try with_reducible rfl
  try go_frame
  refine tk 8 16 ?_ rfl s1 ?_ ?_; rotate_left
  · intro wq hSq; obtain ⟨hSa, hSb⟩ := hSq; go_simp; try with_reducible rfl
  try go_frame
  refine tk 9 17 ?_ rfl s1 ?_ ?_; rotate_left
  · intro wq hSq; obtain ⟨hSa, hSb⟩ := hSq; go_simp; try with_reducible rfl
  try go_frame
  refine tk 10 18 ?_ rfl s1 ?_ ?_; rotate_left
  · intro wq hSq; obtain ⟨hSa, hSb⟩ := hSq; go_simp; try with_reducible rfl
  try go_frame
  refine tk 11 19 ?_ rfl s1 ?_ ?_; rotate_left
  · intro wq hSq; obtain ⟨hSa, hSb⟩ := hSq; go_simp; try with_reducible rfl
  try go_frame
  refine tk 12 20 ?_ rfl s1 ?_ ?_; rotate_left
  · intro wq hSq; obtain ⟨hSa, hSb⟩ := hSq; go_simp; try with_reducible rfl
  try go_frame
  refine tk 13 21 ?_ rfl s1 ?_ ?_; rotate_left
  · intro wq hSq; obtain ⟨hSa, hSb⟩ := hSq; go_simp; try with_reducible rfl
  try go_frame
  refine tk 14 22 ?_ rfl s1 ?_ ?_; rotate_left
  · intro wq hSq; obtain ⟨hSa, hSb⟩ := hSq; go_simp; try with_reducible rfl
  try go_frame
  refine rd (o := ⟨some 6, _, _, _, _, none⟩) 15 rfl (fun K hK => ?_); go_simp
  have hcA : Ch [] w1 (w1.alloc (.cells #[U 0#64, U 0#64] 31)) := (Ch.refl [] w1).alloc _
  have hBT : ¬ B = w1.heap.size := by have := (Array.getElem?_eq_some_iff.1 z1).1; omega
  have s2 : (fun W' : World => W'.heap[g]? = some (.cells (partC p) 179 (0, 0)) ∧ W'.heap[q1]? = some (.cells #[.pointer (some ⟨g, 0, none⟩)] 177 (0, 0))) (w1.alloc (.cells #[U 0#64, U 0#64] 31)) := ⟨hkeep hcA s1.1, hkeep hcA s1.2⟩
  refine hK.out _ _ s2 (fun _ => ?_)
  clear hK K
  refine rd (o := ⟨none, .store 31 (.tmp 6) (.tmp 22), 0, _, _, none⟩) 16 rfl (fun K hK => ?_); go_simp
  have hcB : Ch [] w1 (World.onObj (w1.alloc (.cells #[U 0#64, U 0#64] 31)) w1.heap.size (laidAt 0 #[U kk, U vv])) := hcA.onObj (.inr (Nat.le_refl _)) _
  have t3 : (World.onObj (w1.alloc (.cells #[U 0#64, U 0#64] 31)) w1.heap.size (laidAt 0 #[U kk, U vv])).heap[w1.heap.size]? = some (.cells #[U kk, U vv] 31 (0, 0)) := by rw [zab, if_pos rfl, zae, if_pos rfl, Option.map_some, laidAt_p]
  have s3 : (fun W' : World => W'.heap[g]? = some (.cells (partC p) 179 (0, 0)) ∧ W'.heap[q1]? = some (.cells #[.pointer (some ⟨g, 0, none⟩)] 177 (0, 0))) (World.onObj (w1.alloc (.cells #[U 0#64, U 0#64] 31)) w1.heap.size (laidAt 0 #[U kk, U vv])) := ⟨hkeep hcB s1.1, hkeep hcB s1.2⟩
  have z3 := hkeep hcB z1
  have b3 := hkeep hcB b1
  have C3 := C1.trans hcB
  refine hK.out _ _ s3 (fun _ => ?_)
  clear hK K s1 s2 z1 b1 C1 hcA hcB
  obtain ⟨w3, hw3⟩ : ∃ W, World.onObj (w1.alloc (.cells #[U 0#64, U 0#64] 31)) w1.heap.size (laidAt 0 #[U kk, U vv]) = W := ⟨_, rfl⟩
  rw [hw3] at t3 s3 z3 b3 C3 ⊢
  clear hw3
  obtain ⟨T, hT⟩ : ∃ T, w1.heap.size = T := ⟨_, rfl⟩
  rw [hT] at t3 hBT ⊢
  clear hT
  refine wpAnyH_done (by kernel_rfl) ?_ _
  go_upto_region 2 with (fail)
  have s4 : (fun W' : World => (W'.heap[g]? = some (.cells (partC p) 179 (0, 0)) ∧ W'.heap[q1]? = some (.cells #[.pointer (some ⟨g, 0, none⟩)] 177 (0, 0))) ∧ W'.heap[T]? = some (.cells #[U kk, U vv] 31 (0, 0))) w3.drew := ⟨s3, t3⟩
  have z4 : w3.drew.heap[B]? = some (.cells #[U 0#64, U 0#64] 31 (0, 0)) := z3
  have b4 : w3.drew.heap[q2]? = some (.cells #[I i] 3 (0, 0)) := b3
  have C4 : Ch [] w w3.drew := C3.drew
  refine wp_region_held_drew (S := fun W' => (W'.heap[g]? = some (.cells (partC p) 179 (0, 0)) ∧ W'.heap[q1]? = some (.cells #[.pointer (some ⟨g, 0, none⟩)] 177 (0, 0))) ∧ W'.heap[T]? = some (.cells #[U kk, U vv] 31 (0, 0))) (by kernel_rfl) s4 ?_
  intro _
  simp only [List.size_toArray, List.length_cons, List.length_nil, Nat.reduceAdd]
  obtain ⟨w4, hw4⟩ : ∃ W, w3.drew = W := ⟨_, rfl⟩
  rw [hw4] at s4 z4 b4 C4 ⊢
  clear hw4 s3 t3 z3 b3 C3
  refine tk 0 23 ?_ rfl s4 ?_ ?_; rotate_left
  · intro wq hSq; obtain ⟨⟨hSa, hSb⟩, hSc⟩ := hSq; go_simp; try with_reducible rfl
  try go_frame
  refine tk 1 24 ?_ rfl s4 ?_ ?_; rotate_left
  · intro wq hSq; obtain ⟨⟨hSa, hSb⟩, hSc⟩ := hSq; go_simp; try with_reducible rfl
  try go_frame
  refine tk 2 25 ?_ rfl s4 ?_ ?_; rotate_left
  · intro wq hSq; obtain ⟨⟨hSa, hSb⟩, hSc⟩ := hSq; go_simp; try with_reducible rfl
  try go_frame
  refine tk 3 26 ?_ rfl s4 ?_ ?_; rotate_left
  · intro wq hSq; obtain ⟨⟨hSa, hSb⟩, hSc⟩ := hSq; go_simp; try with_reducible rfl
  try go_frame
  refine tk 4 27 ?_ rfl s4 ?_ ?_; rotate_left
  · intro wq hSq; obtain ⟨⟨hSa, hSb⟩, hSc⟩ := hSq; go_simp; try with_reducible rfl
  try go_frame
  refine tk 5 28 ?_ rfl s4 ?_ ?_; rotate_left
  · intro wq hSq; obtain ⟨⟨hSa, hSb⟩, hSc⟩ := hSq; go_simp; try with_reducible rfl
  try go_frame
  refine tk 6 29 ?_ rfl s4 ?_ ?_; rotate_left
  · intro wq hSq; obtain ⟨⟨hSa, hSb⟩, hSc⟩ := hSq; go_simp; try with_reducible rfl
  try go_frame
  refine rd (o := ⟨some 30, _, _, _, _, none⟩) 7 rfl (fun K hK => ?_); go_simp
  refine (HO _).mono ?_
  rintro e w5 ⟨rfl, rfl⟩
  refine hK.out _ _ s4 (fun _ => ?_)
  clear hK K HO
  refine tk 8 7 ?_ rfl s4 ?_ ?_; rotate_left
  · intro _ _; go_simp; try with_reducible rfl
  try go_frame
  refine wpAnyH_done (by kernel_rfl) ?_ _
  go_upto_region 3 with (fail)
  have s6 : (fun W' : World => (W'.heap[g]? = some (.cells (partC p) 179 (0, 0)) ∧ W'.heap[q1]? = some (.cells #[.pointer (some ⟨g, 0, none⟩)] 177 (0, 0))) ∧ W'.heap[T]? = some (.cells #[U kk, U vv] 31 (0, 0)) ∧ W'.heap[q2]? = some (.cells #[I i] 3 (0, 0))) w4.drew := ⟨s4.1, s4.2, b4⟩
  have z6 : w4.drew.heap[B]? = some (.cells #[U 0#64, U 0#64] 31 (0, 0)) := z4
  have C6 : Ch [] w w4.drew := C4.drew
  refine wp_region_held_drew (S := fun W' => (W'.heap[g]? = some (.cells (partC p) 179 (0, 0)) ∧ W'.heap[q1]? = some (.cells #[.pointer (some ⟨g, 0, none⟩)] 177 (0, 0))) ∧ W'.heap[T]? = some (.cells #[U kk, U vv] 31 (0, 0)) ∧ W'.heap[q2]? = some (.cells #[I i] 3 (0, 0))) (by kernel_rfl) s6 ?_
  intro _
  simp only [List.size_toArray, List.length_cons, List.length_nil, Nat.reduceAdd]
  obtain ⟨w6, hw6⟩ : ∃ W, w4.drew = W := ⟨_, rfl⟩
  rw [hw6] at s6 z6 C6 ⊢
  clear hw6 s4 z4 b4 C4
  refine tk 0 31 ?_ rfl s6 ?_ ?_; rotate_left
  · intro wq hSq; obtain ⟨⟨hSa, hSb⟩, hSc, hSd⟩ := hSq; go_simp; try with_reducible rfl
  try go_frame
  refine tk 1 32 ?_ rfl s6 ?_ ?_; rotate_left
  · intro wq hSq; obtain ⟨⟨hSa, hSb⟩, hSc, hSd⟩ := hSq; go_simp; try with_reducible rfl
  try go_frame
  refine tk 2 33 ?_ rfl s6 ?_ ?_; rotate_left
  · intro wq hSq; obtain ⟨⟨hSa, hSb⟩, hSc, hSd⟩ := hSq; go_simp; try with_reducible rfl
  try go_frame
  refine tk 4 35 ?_ rfl s6 ?_ ?_; rotate_left
  · intro wq hSq; obtain ⟨⟨hSa, hSb⟩, hSc, hSd⟩ := hSq; go_simp; try with_reducible rfl
  try go_frame
  refine tk 5 36 ?_ rfl s6 ?_ ?_; rotate_left
  · intro wq hSq; obtain ⟨⟨hSa, hSb⟩, hSc, hSd⟩ := hSq; go_simp; try with_reducible rfl
  try go_frame
  refine rd (o := ⟨some 34, _, _, _, _, none⟩) 3 rfl (fun K hK => ?_); go_simp
  refine (F1 _ s6.1.1).mono ?_
  rintro e w7 ⟨rfl, hc7⟩
  have s7 : (fun W' : World => (W'.heap[g]? = some (.cells (partC p) 179 (0, 0)) ∧ W'.heap[q1]? = some (.cells #[.pointer (some ⟨g, 0, none⟩)] 177 (0, 0))) ∧ W'.heap[T]? = some (.cells #[U kk, U vv] 31 (0, 0)) ∧ W'.heap[q2]? = some (.cells #[I i] 3 (0, 0))) w7 := ⟨⟨hkeep hc7 s6.1.1, hkeep hc7 s6.1.2⟩, hkeep hc7 s6.2.1, hkeep hc7 s6.2.2⟩
  have z7 := hkeep hc7 z6
  have C7 := C6.trans hc7
  refine hK.out _ _ s7 (fun _ => ?_)
  clear hK K hc7 s6 z6 C6 F1
  refine tk 6 37 ?_ rfl s7 ?_ ?_; rotate_left
  · intro _ _; go_simp; try with_reducible rfl
  try go_frame
  refine rd (o := ⟨none, .store 31 (.tmp 4) (.tmp 31), 0, _, _, none⟩) 7 rfl (fun K hK => ?_); go_simp
  have y8 : (World.onObj w7 B (laidAt 0 #[U kk, U vv])).heap[B]? = some (.cells #[U kk, U vv] 31 (0, 0)) := by rw [zab, if_pos rfl, z7, Option.map_some, laidAt_p]
  have C8 : Ch [] w (World.onObj w7 B (laidAt 0 #[U kk, U vv])) := C7.onObj (p := B) (.inr hBw) _
  have ng : ¬ g = B := zcq s7.1.1 z7 (by decide)
  have n1 : ¬ q1 = B := zcq s7.1.2 z7 (by decide)
  have n2 : ¬ q2 = B := zcq s7.2.2 z7 (by decide)
  have s8 : (fun W' : World => (W'.heap[g]? = some (.cells (partC p) 179 (0, 0)) ∧ W'.heap[q1]? = some (.cells #[.pointer (some ⟨g, 0, none⟩)] 177 (0, 0))) ∧ W'.heap[T]? = some (.cells #[U kk, U vv] 31 (0, 0)) ∧ W'.heap[q2]? = some (.cells #[I i] 3 (0, 0))) (World.onObj w7 B (laidAt 0 #[U kk, U vv])) := ⟨⟨by rw [zab, if_neg ng]; exact s7.1.1, by rw [zab, if_neg n1]; exact s7.1.2⟩, by rw [zab, if_neg (fun e => hBT e.symm)]; exact s7.2.1, by rw [zab, if_neg n2]; exact s7.2.2⟩
  refine hK.out _ _ s8 (fun _ => ?_)
  clear hK K
  obtain ⟨w8, hw8⟩ : ∃ W, World.onObj w7 B (laidAt 0 #[U kk, U vv]) = W := ⟨_, rfl⟩
  rw [hw8] at y8 C8 s8 ⊢
  clear hw8 s7 z7 C7
  refine tk 8 5 ?_ rfl s8 ?_ ?_; rotate_left
  · intro _ _; go_simp; try with_reducible rfl
  try go_frame
  refine wpAnyH_done (by kernel_rfl) ?_ _
  go_wp2
  have hl := run_loadVar_row (P := Tryz.prog) w8 B 31 31 #[U kk, U vv] (0, 0) _ y8 Tryz.underlying31 rfl (by kernel_rfl)
  refine bodyPost_ret (by simp [results, Tryz.results310, asAddr, hl]) rfl ⟨rfl, C8⟩
end
end Go.Proofs.Hc
