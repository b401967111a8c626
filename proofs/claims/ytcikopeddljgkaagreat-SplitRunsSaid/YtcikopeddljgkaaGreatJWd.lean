/- The reference of layer 22: Take (printed by gen_rtake22.py). -/
import Derived.Test.YtcikopeddljgkaaGreatJPx
import Derived.Test.YtcikopeddljgkaaGreatJWc
import Derived.Test.YtcikopeddljgkaaGreatJ0
set_option linter.unusedSimpArgs false
set_option linter.unusedVariables false
set_option maxHeartbeats 2000000
set_option maxRecDepth 100000
namespace Go.Proofs.Hc
open Go.RowKit
attribute [local go_sem] zbu zcc zax zbf zbo zbd zbn zbp zbw signed64 signed8 zap BitVec.ofInt_add BitVec.ofInt_mul ofInt_sub' zbb zbc wide8 eqN neN zca shr1 shr7 shr56
attribute [local go_sem high] zbe zbv
attribute [local go_sem] zaw zby zaj zas zaf zaz zar zak zbm zal zay zba
attribute [local go_sem] load26 load73 load23 store26 build73
attribute [local go_sem ↓] lrow26 lrow73 lrow23 srow26 zero26 brow73 zae zbk zbg zaa zab
attribute [local go_sem] zai zav zat zbj zbl zbr zaq zau zbs zbi zbh
attribute [local go_sem] nn2 nm2 nn3 nm3 nn4 nm4 nn5 nm5 nn6 nm6 nn7 nm7 nn8 nm8
section
attribute [local go_sem] seenC_size seenC_one seenC_all seenC_g0 loadSeen storeSeen buildSeen buildSeen0
attribute [local go_sem ↓] lrowSeen srowSeen browSeen zeroSeen_run
attribute [local go_sem high] zam
attribute [local irreducible] seenC
attribute [local go_sem] zap zbq
attribute [local go_sem] Oper.semAt_some zao
attribute [local go_sem] zcj pacell0 pacell1 pacell2 pacell3 pacell4 pacell5 pacell6 pacell7 pacell42
attribute [local go_sem] zcs zcx zcp zcw zcv zdg zcu zdf zce zcr zdj zdc zch zbt zci zck boxPart loadPart storePart zcf zct buildPart0 buildPart4
attribute [local go_sem ↓] lrowPart srowPart browPart zcl zbz
attribute [local go_sem high] zag
attribute [local irreducible] partC
attribute [local go_sem] boxSeen
attribute [local go_sem high] tmod2_64w bit64w bit64zw tmod255w tdiv8w wrap255
theorem takeS_0y {p : PartT} {x : BitVec 64} (h : p.ph = 0) (ho : oddB x = true) : takeS p x = { p with ph := 8 } := by
  unfold takeS; rw [if_pos h, if_pos ho]
theorem takeS_0n {p : PartT} {x : BitVec 64} (h : p.ph = 0) (ho : oddB x = false) : takeS p x = { p with ph := 1, count := x } := by
  unfold takeS; rw [if_pos h, if_neg (by rw [ho]; decide)]
theorem takeS_1 {p : PartT} {x : BitVec 64} (h : p.ph = 1) : takeS p x = headS p x := by
  unfold takeS; rw [if_neg (by omega), if_pos h]
theorem takeS_19 {p : PartT} {x : BitVec 64} (h : p.ph = 1) (ho : (decide (5 ≤ N (x &&& 255#64)) || decide (N (1#64 <<< (x &&& 255#64).toNat) ≤ N (x >>> 8))) = true) : takeS p x = { p with head := x, at_ := 0, ph := 9 } := by
  rw [takeS_1 h]; unfold headS; rw [← head_over, ho, if_pos rfl]
theorem takeS_12 {p : PartT} {x : BitVec 64} (h : p.ph = 1) (ho : (decide (5 ≤ N (x &&& 255#64)) || decide (N (1#64 <<< (x &&& 255#64).toNat) ≤ N (x >>> 8))) = false) : takeS p x = { p with head := x, at_ := 0, ph := 2 } := by
  rw [takeS_1 h]; unfold headS; rw [← head_over, ho, if_neg (by decide)]
theorem takeS_2n {p : PartT} {x : BitVec 64} (h : p.ph = 2) (ha : p.at_ = 0) : takeS p x = { p with c := updW p.c 0 x, at_ := 1 } := by
  unfold takeS; rw [if_neg (by omega), if_neg (by omega), if_pos h, if_neg (by omega)]
theorem takeS_2y {p : PartT} {x : BitVec 64} (h : p.ph = 2) (ha : p.at_ = 1) : takeS p x = onS { p with c := updW p.c 1 x, at_ := 2 } 0 := by
  unfold takeS; rw [if_neg (by omega), if_neg (by omega), if_pos h, if_pos ha]
theorem takeS_3 {p : PartT} {x : BitVec 64} (h : p.ph = 3) : takeS p x = { p with k := updW p.k p.at_.toNat x, ph := 4 } := by
  unfold takeS; rw [if_neg (by omega), if_neg (by omega), if_neg (by omega), if_pos h]
theorem takeS_4 {p : PartT} {x : BitVec 64} (h : p.ph = 4) : takeS p x = onS { p with v := updW p.v p.at_.toNat x } (p.at_.toNat + 1) := by
  unfold takeS; rw [if_neg (by omega), if_neg (by omega), if_neg (by omega), if_neg (by omega), if_pos h]
theorem takeS_5 {p : PartT} {x : BitVec 64} (h : p.ph = 5) : takeS p x = { p with at_ := 0, ph := 6 } := by
  unfold takeS; rw [if_neg (by omega), if_neg (by omega), if_neg (by omega), if_neg (by omega), if_neg (by omega), if_pos h]
theorem takeS_6y {p : PartT} {x : BitVec 64} (h : p.ph = 6) (ha : p.at_ = 79) : takeS p x = { p with at_ := p.at_ + 1, ph := 7 } := by
  unfold takeS; rw [if_neg (by omega), if_neg (by omega), if_neg (by omega), if_neg (by omega), if_neg (by omega), if_neg (by omega), if_pos ha]
theorem takeS_6n {p : PartT} {x : BitVec 64} (h : p.ph = 6) (ha : ¬ p.at_ = 79) : takeS p x = { p with at_ := p.at_ + 1, ph := 6 } := by
  unfold takeS; rw [if_neg (by omega), if_neg (by omega), if_neg (by omega), if_neg (by omega), if_neg (by omega), if_neg (by omega), if_neg ha]
theorem rtake_world22 (p : PartT) (x : Int) (b : Bool) (w : World) : ∃ W, ((w.alloc (.cells (partC p) 51)).alloc (.cells (seenC x b) 93)).alloc (.cells (partC zeroPart) 51) = W ∧ Ch [] w W ∧ W.heap[w.heap.size]? = some (.cells (partC p) 51 (0, 0)) ∧ W.heap[w.heap.size + 1]? = some (.cells (seenC x b) 93 (0, 0)) ∧ W.heap[w.heap.size + 1 + 1]? = some (.cells (partC zeroPart) 51 (0, 0)) :=
  ⟨_, rfl, (((Ch.refl [] w).alloc _).alloc _).alloc _, by rw [zae, if_neg (by simp; omega), zae, if_neg (by simp), zae, if_pos rfl], by rw [zae, if_neg (by simp), zae, if_pos (by simp)], by rw [zae, if_pos (by simp)]⟩
theorem r22Take_0y (p : PartT) (hp : p.ph = 0) (x : BitVec 64) (ho : oddB x = true) (b : Bool) (w : World) : Calls Tryz.prog 51 #[.agg (partC p), .agg (seenC (N x) b)] w fun e w' => e = .returned (.agg (partC (takeS p x))) ∧ Ch [] w w' := by
  rw [takeS_0y hp ho]
  obtain ⟨W0, hW0, C0, b0, y0, z0⟩ := rtake_world22 p (N x) b w
  go_enter Tryz.func51, Tryz.ntmps51
  go_upto_region 1 with (fail)
  try rw [hW0]
  clear hW0
  obtain ⟨B, hB⟩ : ∃ B, w.heap.size = B := ⟨_, rfl⟩
  rw [hB] at b0 y0 z0 ⊢
  have hBw : w.heap.size ≤ B := by omega
  clear hB
  go_wp2
  refine bodyPost_ret (zde Tryz.results51 _ (B + 1 + 1) _ _ rfl ?_) rfl ⟨rfl, (C0.setCell (p := ⟨B, 0, none⟩) (.inr hBw) _).onObj (p := B + 1 + 1) (.inr (by omega)) _⟩
  simp [go_sem, b0, z0]
theorem r22Take_0n (p : PartT) (hp : p.ph = 0) (x : BitVec 64) (ho : oddB x = false) (b : Bool) (w : World) : Calls Tryz.prog 51 #[.agg (partC p), .agg (seenC (N x) b)] w fun e w' => e = .returned (.agg (partC (takeS p x))) ∧ Ch [] w w' := by
  rw [takeS_0n hp ho]
  obtain ⟨W0, hW0, C0, b0, y0, z0⟩ := rtake_world22 p (N x) b w
  go_enter Tryz.func51, Tryz.ntmps51
  go_upto_region 1 with (fail)
  try rw [hW0]
  clear hW0
  obtain ⟨B, hB⟩ : ∃ B, w.heap.size = B := ⟨_, rfl⟩
  rw [hB] at b0 y0 z0 ⊢
  have hBw : w.heap.size ≤ B := by omega
  clear hB
  go_wp2
  refine bodyPost_ret (zde Tryz.results51 _ (B + 1 + 1) _ _ rfl ?_) rfl ⟨rfl, ((C0.setCell (p := ⟨B, 6, none⟩) (.inr hBw) _).setCell (p := ⟨B, 0, none⟩) (.inr hBw) _).onObj (p := B + 1 + 1) (.inr (by omega)) _⟩
  simp [go_sem, b0, z0]
theorem r22Take_1d (p : PartT) (hp : p.ph = 1) (x : BitVec 64) (h5 : 5 ≤ N (x &&& 255#64)) (b : Bool) (w : World) : Calls Tryz.prog 51 #[.agg (partC p), .agg (seenC (N x) b)] w fun e w' => e = .returned (.agg (partC (takeS p x))) ∧ Ch [] w w' := by
  rw [takeS_19 hp (by rw [decide_eq_true h5]; rfl)]
  obtain ⟨W0, hW0, C0, b0, y0, z0⟩ := rtake_world22 p (N x) b w
  go_enter Tryz.func51, Tryz.ntmps51
  go_upto_region 1 with (fail)
  try rw [hW0]
  clear hW0
  obtain ⟨B, hB⟩ : ∃ B, w.heap.size = B := ⟨_, rfl⟩
  rw [hB] at b0 y0 z0 ⊢
  have hBw : w.heap.size ≤ B := by omega
  clear hB
  go_upto_region 10 with (fail)
  have b1 : (((W0.setCell ⟨B, 7, none⟩ (U x)).setCell ⟨B, 42, none⟩ (I 0)).setCell ⟨B, 0, none⟩ (I 2)).heap[B]? = some (.cells (partC { p with head := x, at_ := 0, ph := 2 }) 51 (0, 0)) := by
    rw [zaa, if_pos rfl, zaa, if_pos rfl, zaa, if_pos rfl, b0, Option.map_some, Option.map_some, Option.map_some, zaf, zaf, zaf, zdc, zch, zcr]
  have y1 : (((W0.setCell ⟨B, 7, none⟩ (U x)).setCell ⟨B, 42, none⟩ (I 0)).setCell ⟨B, 0, none⟩ (I 2)).heap[B + 1]? = some (.cells (seenC (N x) b) 93 (0, 0)) := by
    rw [zaa, if_neg (by omega), zaa, if_neg (by omega), zaa, if_neg (by omega)]; exact y0
  have z1 : (((W0.setCell ⟨B, 7, none⟩ (U x)).setCell ⟨B, 42, none⟩ (I 0)).setCell ⟨B, 0, none⟩ (I 2)).heap[B + 1 + 1]? = some (.cells (partC zeroPart) 51 (0, 0)) := by
    rw [zaa, if_neg (by omega), zaa, if_neg (by omega), zaa, if_neg (by omega)]; exact z0
  have C1 : Ch [] w (((W0.setCell ⟨B, 7, none⟩ (U x)).setCell ⟨B, 42, none⟩ (I 0)).setCell ⟨B, 0, none⟩ (I 2)) := (((C0.setCell (p := ⟨B, 7, none⟩) (.inr hBw) _).setCell (p := ⟨B, 42, none⟩) (.inr hBw) _).setCell (p := ⟨B, 0, none⟩) (.inr hBw) _)
  obtain ⟨w1, hw1⟩ : ∃ W, ((W0.setCell ⟨B, 7, none⟩ (U x)).setCell ⟨B, 42, none⟩ (I 0)).setCell ⟨B, 0, none⟩ (I 2) = W := ⟨_, rfl⟩
  rw [hw1] at b1 y1 z1 C1 ⊢
  clear hw1 b0 y0 z0 C0
  have s2 : (fun W' : World => W'.heap[B + 1]? = some (.cells (seenC (N x) b) 93 (0, 0))) w1.drew := y1
  have b2 : w1.drew.heap[B]? = some (.cells (partC { p with head := x, at_ := 0, ph := 2 }) 51 (0, 0)) := b1
  have z2 : w1.drew.heap[B + 1 + 1]? = some (.cells (partC zeroPart) 51 (0, 0)) := z1
  have C2 : Ch [] w w1.drew := C1.drew
  refine wp_region_held_drew (S := fun W' => W'.heap[B + 1]? = some (.cells (seenC (N x) b) 93 (0, 0))) (by kernel_rfl) s2 ?_
  intro _
  simp only [List.size_toArray, List.length_cons, List.length_nil, Nat.reduceAdd]
  clear b1 y1 z1 C1
  obtain ⟨w2, hw2⟩ : ∃ W, w1.drew = W := ⟨_, rfl⟩
  rw [hw2] at s2 b2 z2 C2 ⊢
  clear hw2
  refine tk 0 31 ?_ rfl s2 ?_ ?_; rotate_left
  · intro _ _; go_simp; try with_reducible rfl
  try go_frame
  refine tk 1 32 ?_ rfl s2 ?_ ?_; rotate_left
  · intro _ _; go_simp; try with_reducible rfl
  try go_frame
  refine tk 2 33 ?_ rfl s2 ?_ ?_; rotate_left
  · intro _ _; go_simp; try with_reducible rfl
  try go_frame
  refine wpAnyH_take (i := 3) (oi := ⟨some 34, _, _, _, _, _⟩) (v := undef) rfl (by kernel_rfl) (by kernel_rfl) (by kernel_rfl) (fun _ _ _ h => h) (Or.inr ⟨by rfl, rfl⟩) s2 ?_
  try simp only [Act.put, List.setIfInBounds_toArray, List.set_cons_zero, List.set_cons_succ]
  refine wpAnyH_take (i := 4) (oi := ⟨some 35, _, _, _, _, _⟩) (v := undef) rfl (by kernel_rfl) (by kernel_rfl) (by kernel_rfl) (fun _ _ _ h => h) (Or.inr ⟨by rfl, rfl⟩) s2 ?_
  try simp only [Act.put, List.setIfInBounds_toArray, List.set_cons_zero, List.set_cons_succ]
  refine wpAnyH_take (i := 5) (oi := ⟨some 36, _, _, _, _, _⟩) (v := undef) rfl (by kernel_rfl) (by kernel_rfl) (by kernel_rfl) (fun _ _ _ h => h) (Or.inr ⟨by rfl, rfl⟩) s2 ?_
  try simp only [Act.put, List.setIfInBounds_toArray, List.set_cons_zero, List.set_cons_succ]
  refine wpAnyH_take (i := 6) (oi := ⟨some 37, _, _, _, _, _⟩) (v := undef) rfl (by kernel_rfl) (by kernel_rfl) (by kernel_rfl) (fun _ _ _ h => h) (Or.inr ⟨by rfl, rfl⟩) s2 ?_
  try simp only [Act.put, List.setIfInBounds_toArray, List.set_cons_zero, List.set_cons_succ]
  refine rd 7 rfl (fun K hK => ?_); go_simp
  refine hK.out _ _ s2 (fun _ => ?_)
  clear hK K
  refine wpAnyH_take (i := 8) (oi := ⟨some 39, _, _, _, _, _⟩) (v := undef) rfl (by kernel_rfl) (by kernel_rfl) (by kernel_rfl) (fun _ _ _ h => h) (Or.inr ⟨by rfl, rfl⟩) s2 ?_
  try simp only [Act.put, List.setIfInBounds_toArray, List.set_cons_zero, List.set_cons_succ]
  refine tk 9 40 ?_ rfl s2 ?_ ?_; rotate_left
  · intro _ _; go_simp; try with_reducible rfl
  try go_frame
  refine wpAnyH_done (by kernel_rfl) ?_ _
  go_wp2
  refine bodyPost_ret (zde Tryz.results51 _ (B + 1 + 1) _ { p with head := x, at_ := 0, ph := 9 } rfl ?_) rfl ⟨rfl, (C2.setCell (p := ⟨B, 0, none⟩) (.inr hBw) _).onObj (p := B + 1 + 1) (.inr (by omega)) _⟩
  simp [go_sem, b2, z2]
theorem r22Take_1o (p : PartT) (hp : p.ph = 1) (x : BitVec 64) (h5 : ¬ 5 ≤ N (x &&& 255#64)) (ho : N (1#64 <<< (x &&& 255#64).toNat) ≤ N (x >>> 8)) (b : Bool) (w : World) : Calls Tryz.prog 51 #[.agg (partC p), .agg (seenC (N x) b)] w fun e w' => e = .returned (.agg (partC (takeS p x))) ∧ Ch [] w w' := by
  rw [takeS_19 hp (by rw [decide_eq_true ho, Bool.or_true])]
  have PW := fun w => r22Power_any (x &&& 255#64).toNat (by have h : N (x &&& 255#64) = ((x &&& 255#64).toNat : Int) := rfl; omega) w
  obtain ⟨y, hy⟩ : ∃ y, 1#64 <<< (x &&& 255#64).toNat = y := ⟨_, rfl⟩
  rw [hy] at PW ho
  clear hy
  obtain ⟨W0, hW0, C0, b0, y0, z0⟩ := rtake_world22 p (N x) b w
  go_enter Tryz.func51, Tryz.ntmps51
  go_upto_region 1 with (fail)
  try rw [hW0]
  clear hW0
  obtain ⟨B, hB⟩ : ∃ B, w.heap.size = B := ⟨_, rfl⟩
  rw [hB] at b0 y0 z0 ⊢
  have hBw : w.heap.size ≤ B := by omega
  clear hB
  go_upto_region 10 with (fail)
  have b1 : (((W0.setCell ⟨B, 7, none⟩ (U x)).setCell ⟨B, 42, none⟩ (I 0)).setCell ⟨B, 0, none⟩ (I 2)).heap[B]? = some (.cells (partC { p with head := x, at_ := 0, ph := 2 }) 51 (0, 0)) := by
    rw [zaa, if_pos rfl, zaa, if_pos rfl, zaa, if_pos rfl, b0, Option.map_some, Option.map_some, Option.map_some, zaf, zaf, zaf, zdc, zch, zcr]
  have y1 : (((W0.setCell ⟨B, 7, none⟩ (U x)).setCell ⟨B, 42, none⟩ (I 0)).setCell ⟨B, 0, none⟩ (I 2)).heap[B + 1]? = some (.cells (seenC (N x) b) 93 (0, 0)) := by
    rw [zaa, if_neg (by omega), zaa, if_neg (by omega), zaa, if_neg (by omega)]; exact y0
  have z1 : (((W0.setCell ⟨B, 7, none⟩ (U x)).setCell ⟨B, 42, none⟩ (I 0)).setCell ⟨B, 0, none⟩ (I 2)).heap[B + 1 + 1]? = some (.cells (partC zeroPart) 51 (0, 0)) := by
    rw [zaa, if_neg (by omega), zaa, if_neg (by omega), zaa, if_neg (by omega)]; exact z0
  have C1 : Ch [] w (((W0.setCell ⟨B, 7, none⟩ (U x)).setCell ⟨B, 42, none⟩ (I 0)).setCell ⟨B, 0, none⟩ (I 2)) := (((C0.setCell (p := ⟨B, 7, none⟩) (.inr hBw) _).setCell (p := ⟨B, 42, none⟩) (.inr hBw) _).setCell (p := ⟨B, 0, none⟩) (.inr hBw) _)
  obtain ⟨w1, hw1⟩ : ∃ W, ((W0.setCell ⟨B, 7, none⟩ (U x)).setCell ⟨B, 42, none⟩ (I 0)).setCell ⟨B, 0, none⟩ (I 2) = W := ⟨_, rfl⟩
  rw [hw1] at b1 y1 z1 C1 ⊢
  clear hw1 b0 y0 z0 C0
  have s2 : (fun W' : World => W'.heap[B + 1]? = some (.cells (seenC (N x) b) 93 (0, 0))) w1.drew := y1
  have b2 : w1.drew.heap[B]? = some (.cells (partC { p with head := x, at_ := 0, ph := 2 }) 51 (0, 0)) := b1
  have z2 : w1.drew.heap[B + 1 + 1]? = some (.cells (partC zeroPart) 51 (0, 0)) := z1
  have C2 : Ch [] w w1.drew := C1.drew
  refine wp_region_held_drew (S := fun W' => W'.heap[B + 1]? = some (.cells (seenC (N x) b) 93 (0, 0))) (by kernel_rfl) s2 ?_
  intro _
  simp only [List.size_toArray, List.length_cons, List.length_nil, Nat.reduceAdd]
  clear b1 y1 z1 C1
  obtain ⟨w2, hw2⟩ : ∃ W, w1.drew = W := ⟨_, rfl⟩
  rw [hw2] at s2 b2 z2 C2 ⊢
  clear hw2
  refine tk 0 31 ?_ rfl s2 ?_ ?_; rotate_left
  · intro _ _; go_simp; try with_reducible rfl
  try go_frame
  refine tk 1 32 ?_ rfl s2 ?_ ?_; rotate_left
  · intro _ _; go_simp; try with_reducible rfl
  try go_frame
  refine tk 2 33 ?_ rfl s2 ?_ ?_; rotate_left
  · intro _ _; go_simp; try with_reducible rfl
  try go_frame
  refine tk 3 34 ?_ rfl s2 ?_ ?_; rotate_left
  · intro _ _; go_simp; try with_reducible rfl
  try go_frame
  refine tk 4 35 ?_ rfl s2 ?_ ?_; rotate_left
  · intro _ _; go_simp; try with_reducible rfl
  try go_frame
  refine tk 5 36 ?_ rfl s2 ?_ ?_; rotate_left
  · intro _ _; go_simp; try with_reducible rfl
  try go_frame
  refine tk 6 37 ?_ rfl s2 ?_ ?_; rotate_left
  · intro _ _; go_simp; try with_reducible rfl
  try go_frame
  refine rd 7 rfl (fun K hK => ?_); go_simp
  refine (PW _).mono ?_
  rintro e w3 ⟨rfl, rfl⟩
  refine hK.out _ _ s2 (fun _ => ?_)
  clear hK K PW
  refine tk 8 39 ?_ rfl s2 ?_ ?_; rotate_left
  · intro _ _; go_simp; try with_reducible rfl
  try go_frame
  refine tk 9 40 ?_ rfl s2 ?_ ?_; rotate_left
  · intro _ _; go_simp; try with_reducible rfl
  try go_frame
  refine wpAnyH_done (by kernel_rfl) ?_ _
  go_wp2
  refine bodyPost_ret (zde Tryz.results51 _ (B + 1 + 1) _ { p with head := x, at_ := 0, ph := 9 } rfl ?_) rfl ⟨rfl, (C2.setCell (p := ⟨B, 0, none⟩) (.inr hBw) _).onObj (p := B + 1 + 1) (.inr (by omega)) _⟩
  simp [go_sem, b2, z2]
theorem r22Take_1n (p : PartT) (hp : p.ph = 1) (x : BitVec 64) (h5 : ¬ 5 ≤ N (x &&& 255#64)) (ho : ¬ N (1#64 <<< (x &&& 255#64).toNat) ≤ N (x >>> 8)) (b : Bool) (w : World) : Calls Tryz.prog 51 #[.agg (partC p), .agg (seenC (N x) b)] w fun e w' => e = .returned (.agg (partC (takeS p x))) ∧ Ch [] w w' := by
  rw [takeS_12 hp (by rw [decide_eq_false h5, decide_eq_false ho]; rfl)]
  have PW := fun w => r22Power_any (x &&& 255#64).toNat (by have h : N (x &&& 255#64) = ((x &&& 255#64).toNat : Int) := rfl; omega) w
  obtain ⟨y, hy⟩ : ∃ y, 1#64 <<< (x &&& 255#64).toNat = y := ⟨_, rfl⟩
  rw [hy] at PW ho
  clear hy
  obtain ⟨W0, hW0, C0, b0, y0, z0⟩ := rtake_world22 p (N x) b w
  go_enter Tryz.func51, Tryz.ntmps51
  go_upto_region 1 with (fail)
  try rw [hW0]
  clear hW0
  obtain ⟨B, hB⟩ : ∃ B, w.heap.size = B := ⟨_, rfl⟩
  rw [hB] at b0 y0 z0 ⊢
  have hBw : w.heap.size ≤ B := by omega
  clear hB
  go_upto_region 10 with (fail)
  have b1 : (((W0.setCell ⟨B, 7, none⟩ (U x)).setCell ⟨B, 42, none⟩ (I 0)).setCell ⟨B, 0, none⟩ (I 2)).heap[B]? = some (.cells (partC { p with head := x, at_ := 0, ph := 2 }) 51 (0, 0)) := by
    rw [zaa, if_pos rfl, zaa, if_pos rfl, zaa, if_pos rfl, b0, Option.map_some, Option.map_some, Option.map_some, zaf, zaf, zaf, zdc, zch, zcr]
  have y1 : (((W0.setCell ⟨B, 7, none⟩ (U x)).setCell ⟨B, 42, none⟩ (I 0)).setCell ⟨B, 0, none⟩ (I 2)).heap[B + 1]? = some (.cells (seenC (N x) b) 93 (0, 0)) := by
    rw [zaa, if_neg (by omega), zaa, if_neg (by omega), zaa, if_neg (by omega)]; exact y0
  have z1 : (((W0.setCell ⟨B, 7, none⟩ (U x)).setCell ⟨B, 42, none⟩ (I 0)).setCell ⟨B, 0, none⟩ (I 2)).heap[B + 1 + 1]? = some (.cells (partC zeroPart) 51 (0, 0)) := by
    rw [zaa, if_neg (by omega), zaa, if_neg (by omega), zaa, if_neg (by omega)]; exact z0
  have C1 : Ch [] w (((W0.setCell ⟨B, 7, none⟩ (U x)).setCell ⟨B, 42, none⟩ (I 0)).setCell ⟨B, 0, none⟩ (I 2)) := (((C0.setCell (p := ⟨B, 7, none⟩) (.inr hBw) _).setCell (p := ⟨B, 42, none⟩) (.inr hBw) _).setCell (p := ⟨B, 0, none⟩) (.inr hBw) _)
  obtain ⟨w1, hw1⟩ : ∃ W, ((W0.setCell ⟨B, 7, none⟩ (U x)).setCell ⟨B, 42, none⟩ (I 0)).setCell ⟨B, 0, none⟩ (I 2) = W := ⟨_, rfl⟩
  rw [hw1] at b1 y1 z1 C1 ⊢
  clear hw1 b0 y0 z0 C0
  have s2 : (fun W' : World => W'.heap[B + 1]? = some (.cells (seenC (N x) b) 93 (0, 0))) w1.drew := y1
  have b2 : w1.drew.heap[B]? = some (.cells (partC { p with head := x, at_ := 0, ph := 2 }) 51 (0, 0)) := b1
  have z2 : w1.drew.heap[B + 1 + 1]? = some (.cells (partC zeroPart) 51 (0, 0)) := z1
  have C2 : Ch [] w w1.drew := C1.drew
  refine wp_region_held_drew (S := fun W' => W'.heap[B + 1]? = some (.cells (seenC (N x) b) 93 (0, 0))) (by kernel_rfl) s2 ?_
  intro _
  simp only [List.size_toArray, List.length_cons, List.length_nil, Nat.reduceAdd]
  clear b1 y1 z1 C1
  obtain ⟨w2, hw2⟩ : ∃ W, w1.drew = W := ⟨_, rfl⟩
  rw [hw2] at s2 b2 z2 C2 ⊢
  clear hw2
  refine tk 0 31 ?_ rfl s2 ?_ ?_; rotate_left
  · intro _ _; go_simp; try with_reducible rfl
  try go_frame
  refine tk 1 32 ?_ rfl s2 ?_ ?_; rotate_left
  · intro _ _; go_simp; try with_reducible rfl
  try go_frame
  refine tk 2 33 ?_ rfl s2 ?_ ?_; rotate_left
  · intro _ _; go_simp; try with_reducible rfl
  try go_frame
  refine tk 3 34 ?_ rfl s2 ?_ ?_; rotate_left
  · intro _ _; go_simp; try with_reducible rfl
  try go_frame
  refine tk 4 35 ?_ rfl s2 ?_ ?_; rotate_left
  · intro _ _; go_simp; try with_reducible rfl
  try go_frame
  refine tk 5 36 ?_ rfl s2 ?_ ?_; rotate_left
  · intro _ _; go_simp; try with_reducible rfl
  try go_frame
  refine tk 6 37 ?_ rfl s2 ?_ ?_; rotate_left
  · intro _ _; go_simp; try with_reducible rfl
  try go_frame
  refine rd 7 rfl (fun K hK => ?_); go_simp
  refine (PW _).mono ?_
  rintro e w3 ⟨rfl, rfl⟩
  refine hK.out _ _ s2 (fun _ => ?_)
  clear hK K PW
  refine tk 8 39 ?_ rfl s2 ?_ ?_; rotate_left
  · intro _ _; go_simp; try with_reducible rfl
  try go_frame
  refine tk 9 40 ?_ rfl s2 ?_ ?_; rotate_left
  · intro _ _; go_simp; try with_reducible rfl
  try go_frame
  refine wpAnyH_done (by kernel_rfl) ?_ _
  go_wp2
  refine bodyPost_ret (zde Tryz.results51 _ (B + 1 + 1) _ { p with head := x, at_ := 0, ph := 2 } rfl ?_) rfl ⟨rfl, (C2).onObj (p := B + 1 + 1) (.inr (by omega)) _⟩
  simp [go_sem, b2, z2]
theorem r22Take_5 (p : PartT) (hp : p.ph = 5) (x : BitVec 64) (b : Bool) (w : World) : Calls Tryz.prog 51 #[.agg (partC p), .agg (seenC (N x) b)] w fun e w' => e = .returned (.agg (partC (takeS p x))) ∧ Ch [] w w' := by
  rw [takeS_5 hp]
  obtain ⟨W0, hW0, C0, b0, y0, z0⟩ := rtake_world22 p (N x) b w
  go_enter Tryz.func51, Tryz.ntmps51
  go_upto_region 1 with (fail)
  try rw [hW0]
  clear hW0
  obtain ⟨B, hB⟩ : ∃ B, w.heap.size = B := ⟨_, rfl⟩
  rw [hB] at b0 y0 z0 ⊢
  have hBw : w.heap.size ≤ B := by omega
  clear hB
  go_wp2
  refine bodyPost_ret (zde Tryz.results51 _ (B + 1 + 1) _ _ rfl ?_) rfl ⟨rfl, ((C0.setCell (p := ⟨B, 42, none⟩) (.inr hBw) _).setCell (p := ⟨B, 0, none⟩) (.inr hBw) _).onObj (p := B + 1 + 1) (.inr (by omega)) _⟩
  simp [go_sem, b0, z0]
theorem r22Take_6y (p : PartT) (hp : p.ph = 6) (ha : p.at_ = 79) (x : BitVec 64) (b : Bool) (w : World) : Calls Tryz.prog 51 #[.agg (partC p), .agg (seenC (N x) b)] w fun e w' => e = .returned (.agg (partC (takeS p x))) ∧ Ch [] w w' := by
  rw [takeS_6y hp ha]
  obtain ⟨ph, who, sl, t0, t1, seed, cn, hd, c, k, v, at_, ws⟩ := p
  dsimp only at hp ha ⊢
  subst hp ha
  obtain ⟨W0, hW0, C0, b0, y0, z0⟩ := rtake_world22 ⟨6, who, sl, t0, t1, seed, cn, hd, c, k, v, 79, ws⟩ (N x) b w
  go_enter Tryz.func51, Tryz.ntmps51
  go_upto_region 1 with (fail)
  try rw [hW0]
  clear hW0
  obtain ⟨B, hB⟩ : ∃ B, w.heap.size = B := ⟨_, rfl⟩
  rw [hB] at b0 y0 z0 ⊢
  have hBw : w.heap.size ≤ B := by omega
  clear hB
  go_wp2
  refine bodyPost_ret (zde Tryz.results51 _ (B + 1 + 1) _ _ rfl ?_) rfl ⟨rfl, ((C0.setCell (p := ⟨B, 42, none⟩) (.inr hBw) _).setCell (p := ⟨B, 0, none⟩) (.inr hBw) _).onObj (p := B + 1 + 1) (.inr (by omega)) _⟩
  simp [go_sem, b0, z0]
theorem r22Take_6n (p : PartT) (hp : p.ph = 6) (j : Nat) (ha : p.at_ = (j : Int)) (hj : j < 79) (x : BitVec 64) (b : Bool) (w : World) : Calls Tryz.prog 51 #[.agg (partC p), .agg (seenC (N x) b)] w fun e w' => e = .returned (.agg (partC (takeS p x))) ∧ Ch [] w w' := by
  rw [takeS_6n hp (by omega)]
  obtain ⟨ph, who, sl, t0, t1, seed, cn, hd, c, k, v, at_, ws⟩ := p
  dsimp only at hp ha ⊢
  subst hp ha
  have hjI : (j : Int) < 79 := by omega
  have hj0 : (0 : Int) ≤ j := by omega
  have hw1 : IntKind.i64.wrap ((j : Int) + 1) = (j : Int) + 1 := by rw [IntKind.wrap_i64]; omega
  have hn : ((j : Int) + 1 == 80) = false := by simp; omega
  obtain ⟨W0, hW0, C0, b0, y0, z0⟩ := rtake_world22 ⟨6, who, sl, t0, t1, seed, cn, hd, c, k, v, (j : Int), ws⟩ (N x) b w
  go_enter Tryz.func51, Tryz.ntmps51
  go_upto_region 1 with (fail)
  try rw [hW0]
  clear hW0
  obtain ⟨B, hB⟩ : ∃ B, w.heap.size = B := ⟨_, rfl⟩
  rw [hB] at b0 y0 z0 ⊢
  have hBw : w.heap.size ≤ B := by omega
  clear hB
  go_wp2
  refine bodyPost_ret (zde Tryz.results51 _ (B + 1 + 1) _ _ rfl ?_) rfl ⟨rfl, (C0.setCell (p := ⟨B, 42, none⟩) (.inr hBw) _).onObj (p := B + 1 + 1) (.inr (by omega)) _⟩
  simp [go_sem, b0, z0]
theorem r22Take_2n (p : PartT) (hp : p.ph = 2) (ha : p.at_ = 0) (x : BitVec 64) (b : Bool) (w : World) : Calls Tryz.prog 51 #[.agg (partC p), .agg (seenC (N x) b)] w fun e w' => e = .returned (.agg (partC (takeS p x))) ∧ Ch [] w w' := by
  rw [takeS_2n hp ha]
  obtain ⟨ph, who, sl, t0, t1, seed, cn, hd, c, k, v, at_, ws⟩ := p
  dsimp only at hp ha ⊢
  subst hp ha
  have HN : (partC ⟨2, who, sl, t0, t1, seed, cn, hd, c, k, v, 0, ws⟩).setIfInBounds 8 (U x) = partC ⟨2, who, sl, t0, t1, seed, cn, hd, updW c 0 x, k, v, 0, ws⟩ := part_sc _ 0 (by omega) x
  obtain ⟨o1, ho1⟩ : ∃ o, (partC ⟨2, who, sl, t0, t1, seed, cn, hd, c, k, v, 0, ws⟩)[8]? = some o := ⟨_, part_gc _ 0 (by omega)⟩
  obtain ⟨W0, hW0, C0, b0, y0, z0⟩ := rtake_world22 ⟨2, who, sl, t0, t1, seed, cn, hd, c, k, v, 0, ws⟩ (N x) b w
  go_enter Tryz.func51, Tryz.ntmps51
  go_upto_region 1 with (fail)
  try rw [hW0]
  clear hW0
  obtain ⟨B, hB⟩ : ∃ B, w.heap.size = B := ⟨_, rfl⟩
  rw [hB] at b0 y0 z0 ⊢
  have hBw : w.heap.size ≤ B := by omega
  clear hB
  go_upto_region 14 with (fail)
  have b1 : (W0.setCell ⟨B, 8, none⟩ (U x)).heap[B]? = some (.cells (partC ⟨2, who, sl, t0, t1, seed, cn, hd, updW c 0 x, k, v, 0, ws⟩) 51 (0, 0)) := by rw [zaa, if_pos rfl, b0, Option.map_some, zaf, HN]
  have z1 : (W0.setCell ⟨B, 8, none⟩ (U x)).heap[B + 1 + 1]? = some (.cells (partC zeroPart) 51 (0, 0)) := by rw [zaa, if_neg (by omega)]; exact z0
  have C1 : Ch [] w (W0.setCell ⟨B, 8, none⟩ (U x)) := C0.setCell (p := ⟨B, 8, none⟩) (.inr hBw) _
  obtain ⟨w1, hw1'⟩ : ∃ W, W0.setCell ⟨B, 8, none⟩ (U x) = W := ⟨_, rfl⟩
  rw [hw1'] at b1 z1 C1 ⊢
  clear hw1' b0 y0 z0 C0 HN ho1
  go_wp2
  refine bodyPost_ret (zde Tryz.results51 _ (B + 1 + 1) _ ⟨2, who, sl, t0, t1, seed, cn, hd, updW c 0 x, k, v, 1, ws⟩ rfl ?_) rfl ⟨rfl, (C1.setCell (p := ⟨B, 42, none⟩) (.inr hBw) _).onObj (p := B + 1 + 1) (.inr (by omega)) _⟩
  simp [go_sem, b1, z1]
theorem r22Take_2y (p : PartT) (hp : p.ph = 2) (ha : p.at_ = 1) (x : BitVec 64) (b : Bool) (w : World) : Calls Tryz.prog 51 #[.agg (partC p), .agg (seenC (N x) b)] w fun e w' => e = .returned (.agg (partC (takeS p x))) ∧ Ch [] w w' := by
  rw [takeS_2y hp ha]
  obtain ⟨ph, who, sl, t0, t1, seed, cn, hd, c, k, v, at_, ws⟩ := p
  dsimp only at hp ha ⊢
  subst hp ha
  have HN : (partC ⟨2, who, sl, t0, t1, seed, cn, hd, c, k, v, 1, ws⟩).setIfInBounds 9 (U x) = partC ⟨2, who, sl, t0, t1, seed, cn, hd, updW c 1 x, k, v, 1, ws⟩ := part_sc _ 1 (by omega) x
  obtain ⟨o1, ho1⟩ : ∃ o, (partC ⟨2, who, sl, t0, t1, seed, cn, hd, c, k, v, 1, ws⟩)[9]? = some o := ⟨_, part_gc _ 1 (by omega)⟩
  have L1 : ∀ w, Calls Tryz.prog 117 #[.agg (partC ⟨2, who, sl, t0, t1, seed, cn, hd, updW c 1 x, k, v, 2, ws⟩), .int .i64 0] w fun e w' => e = .returned (.agg (partC (onS ⟨2, who, sl, t0, t1, seed, cn, hd, updW c 1 x, k, v, 2, ws⟩ 0))) ∧ Ch [] w w' := fun w => r22on_any ⟨2, who, sl, t0, t1, seed, cn, hd, updW c 1 x, k, v, 2, ws⟩ 0 (by omega) w
  obtain ⟨dd, hdd⟩ : ∃ d, onS ⟨2, who, sl, t0, t1, seed, cn, hd, updW c 1 x, k, v, 2, ws⟩ 0 = d := ⟨_, rfl⟩
  rw [hdd] at L1
  have HD := Lib.hid hdd
  clear hdd
  obtain ⟨W0, hW0, C0, b0, y0, z0⟩ := rtake_world22 ⟨2, who, sl, t0, t1, seed, cn, hd, c, k, v, 1, ws⟩ (N x) b w
  go_enter Tryz.func51, Tryz.ntmps51
  go_upto_region 1 with (fail)
  try rw [hW0]
  clear hW0
  obtain ⟨B, hB⟩ : ∃ B, w.heap.size = B := ⟨_, rfl⟩
  rw [hB] at b0 y0 z0 ⊢
  have hBw : w.heap.size ≤ B := by omega
  clear hB
  go_upto_region 14 with (fail)
  have b1 : (W0.setCell ⟨B, 9, none⟩ (U x)).heap[B]? = some (.cells (partC ⟨2, who, sl, t0, t1, seed, cn, hd, updW c 1 x, k, v, 1, ws⟩) 51 (0, 0)) := by rw [zaa, if_pos rfl, b0, Option.map_some, zaf, HN]
  have z1 : (W0.setCell ⟨B, 9, none⟩ (U x)).heap[B + 1 + 1]? = some (.cells (partC zeroPart) 51 (0, 0)) := by rw [zaa, if_neg (by omega)]; exact z0
  have C1 : Ch [] w (W0.setCell ⟨B, 9, none⟩ (U x)) := C0.setCell (p := ⟨B, 9, none⟩) (.inr hBw) _
  obtain ⟨w1, hw1'⟩ : ∃ W, W0.setCell ⟨B, 9, none⟩ (U x) = W := ⟨_, rfl⟩
  rw [hw1'] at b1 z1 C1 ⊢
  clear hw1' b0 y0 z0 C0 HN ho1
  go_upto_region 15 with (fail)
  have b2 : (w1.setCell ⟨B, 42, none⟩ (I 2)).heap[B]? = some (.cells (partC ⟨2, who, sl, t0, t1, seed, cn, hd, updW c 1 x, k, v, 2, ws⟩) 51 (0, 0)) := by rw [zaa, if_pos rfl, b1, Option.map_some, zaf, zch]
  have z2 : (w1.setCell ⟨B, 42, none⟩ (I 2)).heap[B + 1 + 1]? = some (.cells (partC zeroPart) 51 (0, 0)) := by rw [zaa, if_neg (by omega)]; exact z1
  have C2 : Ch [] w (w1.setCell ⟨B, 42, none⟩ (I 2)) := C1.setCell (p := ⟨B, 42, none⟩) (.inr hBw) _
  obtain ⟨w2, hw2'⟩ : ∃ W, w1.setCell ⟨B, 42, none⟩ (I 2) = W := ⟨_, rfl⟩
  rw [hw2'] at b2 z2 C2 ⊢
  clear hw2' b1 z1 C1
  go_wp2_with fail
  refine (L1 _).mono ?_
  rintro e w4 ⟨rfl, hc4⟩
  have z4 := hkeep hc4 z2
  have C4 := C2.trans hc4
  clear b2 z2 C2 hc4 L1
  go_wp2
  refine bodyPost_ret (zde Tryz.results51 _ (B + 1 + 1) _ dd rfl ?_) rfl ⟨by rw [HD.out], C4.onObj (p := B + 1 + 1) (.inr (by omega)) _⟩
  rw [zab, if_pos rfl, z4, Option.map_some, zag]
theorem r22Take_3 (p : PartT) (hp : p.ph = 3) (j : Nat) (ha : p.at_ = (j : Int)) (hj : j < 16) (x : BitVec 64) (b : Bool) (w : World) : Calls Tryz.prog 51 #[.agg (partC p), .agg (seenC (N x) b)] w fun e w' => e = .returned (.agg (partC (takeS p x))) ∧ Ch [] w w' := by
  rw [takeS_3 hp]
  obtain ⟨ph, who, sl, t0, t1, seed, cn, hd, c, k, v, at_, ws⟩ := p
  dsimp only at hp ha ⊢
  subst hp ha
  have hjI : (j : Int) < 16 := by omega
  have hj0 : (0 : Int) ≤ j := by omega
  have hts : ((j : Int)).toNat = j := by omega
  rw [hts]
  have HN : (partC ⟨3, who, sl, t0, t1, seed, cn, hd, c, k, v, (j : Int), ws⟩).setIfInBounds (10 + j) (U x) = partC ⟨3, who, sl, t0, t1, seed, cn, hd, c, updW k j x, v, (j : Int), ws⟩ := part_sk _ j hj x
  obtain ⟨o1, ho1⟩ : ∃ o, (partC ⟨3, who, sl, t0, t1, seed, cn, hd, c, k, v, (j : Int), ws⟩)[10 + j]? = some o := ⟨_, part_gk _ j hj⟩
  obtain ⟨W0, hW0, C0, b0, y0, z0⟩ := rtake_world22 ⟨3, who, sl, t0, t1, seed, cn, hd, c, k, v, (j : Int), ws⟩ (N x) b w
  go_enter Tryz.func51, Tryz.ntmps51
  go_upto_region 1 with (fail)
  try rw [hW0]
  clear hW0
  obtain ⟨B, hB⟩ : ∃ B, w.heap.size = B := ⟨_, rfl⟩
  rw [hB] at b0 y0 z0 ⊢
  have hBw : w.heap.size ≤ B := by omega
  clear hB
  go_upto_region 28 with (fail)
  have b1 : ((W0.setCell ⟨B, 10 + j, none⟩ (U x)).setCell ⟨B, 0, none⟩ (I 4)).heap[B]? = some (.cells (partC ⟨4, who, sl, t0, t1, seed, cn, hd, c, updW k j x, v, (j : Int), ws⟩) 51 (0, 0)) := by rw [zaa, if_pos rfl, zaa, if_pos rfl, b0, Option.map_some, Option.map_some, zaf, zaf, HN, zcr]
  have z1 : ((W0.setCell ⟨B, 10 + j, none⟩ (U x)).setCell ⟨B, 0, none⟩ (I 4)).heap[B + 1 + 1]? = some (.cells (partC zeroPart) 51 (0, 0)) := by rw [zaa, if_neg (by omega), zaa, if_neg (by omega)]; exact z0
  have C1 : Ch [] w ((W0.setCell ⟨B, 10 + j, none⟩ (U x)).setCell ⟨B, 0, none⟩ (I 4)) := ((C0.setCell (p := ⟨B, 10 + j, none⟩) (.inr hBw) _).setCell (p := ⟨B, 0, none⟩) (.inr hBw) _)
  obtain ⟨w1, hw1'⟩ : ∃ W, (W0.setCell ⟨B, 10 + j, none⟩ (U x)).setCell ⟨B, 0, none⟩ (I 4) = W := ⟨_, rfl⟩
  rw [hw1'] at b1 z1 C1 ⊢
  clear hw1' b0 y0 z0 C0 HN ho1
  go_wp2
  refine bodyPost_ret (zde Tryz.results51 _ (B + 1 + 1) _ ⟨4, who, sl, t0, t1, seed, cn, hd, c, updW k j x, v, (j : Int), ws⟩ rfl ?_) rfl ⟨rfl, C1.onObj (p := B + 1 + 1) (.inr (by omega)) _⟩
  simp [go_sem, b1, z1]
theorem r22Take_4 (p : PartT) (hp : p.ph = 4) (j : Nat) (ha : p.at_ = (j : Int)) (hj : j < 16) (x : BitVec 64) (b : Bool) (w : World) : Calls Tryz.prog 51 #[.agg (partC p), .agg (seenC (N x) b)] w fun e w' => e = .returned (.agg (partC (takeS p x))) ∧ Ch [] w w' := by
  rw [takeS_4 hp]
  obtain ⟨ph, who, sl, t0, t1, seed, cn, hd, c, k, v, at_, ws⟩ := p
  dsimp only at hp ha ⊢
  subst hp ha
  have hjI : (j : Int) < 16 := by omega
  have hj0 : (0 : Int) ≤ j := by omega
  have hts : ((j : Int)).toNat = j := by omega
  rw [hts]
  have HN : (partC ⟨4, who, sl, t0, t1, seed, cn, hd, c, k, v, (j : Int), ws⟩).setIfInBounds (26 + j) (U x) = partC ⟨4, who, sl, t0, t1, seed, cn, hd, c, k, updW v j x, (j : Int), ws⟩ := part_sv _ j hj x
  obtain ⟨o1, ho1⟩ : ∃ o, (partC ⟨4, who, sl, t0, t1, seed, cn, hd, c, k, v, (j : Int), ws⟩)[26 + j]? = some o := ⟨_, part_gv _ j hj⟩
  have hw1 : IntKind.i64.wrap ((j : Int) + 1) = (j : Int) + 1 := by rw [IntKind.wrap_i64]; omega
  have L1 : ∀ w, Calls Tryz.prog 117 #[.agg (partC ⟨4, who, sl, t0, t1, seed, cn, hd, c, k, updW v j x, (j : Int), ws⟩), .int .i64 ((j : Int) + 1)] w fun e w' => e = .returned (.agg (partC (onS ⟨4, who, sl, t0, t1, seed, cn, hd, c, k, updW v j x, (j : Int), ws⟩ (j + 1)))) ∧ Ch [] w w' := fun w => r22on_any ⟨4, who, sl, t0, t1, seed, cn, hd, c, k, updW v j x, (j : Int), ws⟩ (j + 1) (by omega) w
  obtain ⟨dd, hdd⟩ : ∃ d, onS ⟨4, who, sl, t0, t1, seed, cn, hd, c, k, updW v j x, (j : Int), ws⟩ (j + 1) = d := ⟨_, rfl⟩
  rw [hdd] at L1
  have HD := Lib.hid hdd
  clear hdd
  obtain ⟨W0, hW0, C0, b0, y0, z0⟩ := rtake_world22 ⟨4, who, sl, t0, t1, seed, cn, hd, c, k, v, (j : Int), ws⟩ (N x) b w
  go_enter Tryz.func51, Tryz.ntmps51
  go_upto_region 1 with (fail)
  try rw [hW0]
  clear hW0
  obtain ⟨B, hB⟩ : ∃ B, w.heap.size = B := ⟨_, rfl⟩
  rw [hB] at b0 y0 z0 ⊢
  have hBw : w.heap.size ≤ B := by omega
  clear hB
  go_upto_region 21 with (fail)
  have b1 : (W0.setCell ⟨B, 26 + j, none⟩ (U x)).heap[B]? = some (.cells (partC ⟨4, who, sl, t0, t1, seed, cn, hd, c, k, updW v j x, (j : Int), ws⟩) 51 (0, 0)) := by rw [zaa, if_pos rfl, b0, Option.map_some, zaf, HN]
  have z1 : (W0.setCell ⟨B, 26 + j, none⟩ (U x)).heap[B + 1 + 1]? = some (.cells (partC zeroPart) 51 (0, 0)) := by rw [zaa, if_neg (by omega)]; exact z0
  have C1 : Ch [] w (W0.setCell ⟨B, 26 + j, none⟩ (U x)) := C0.setCell (p := ⟨B, 26 + j, none⟩) (.inr hBw) _
  obtain ⟨w1, hw1'⟩ : ∃ W, W0.setCell ⟨B, 26 + j, none⟩ (U x) = W := ⟨_, rfl⟩
  rw [hw1'] at b1 z1 C1 ⊢
  clear hw1' b0 y0 z0 C0 HN ho1
  go_wp2_with fail
  refine (L1 _).mono ?_
  rintro e w4 ⟨rfl, hc4⟩
  have z4 := hkeep hc4 z1
  have C4 := C1.trans hc4
  clear b1 z1 C1 hc4 L1
  go_wp2
  refine bodyPost_ret (zde Tryz.results51 _ (B + 1 + 1) _ dd rfl ?_) rfl ⟨by rw [HD.out], C4.onObj (p := B + 1 + 1) (.inr (by omega)) _⟩
  rw [zab, if_pos rfl, z4, Option.map_some, zag]
theorem r22Take_any (p : PartT) (hr : rightS p = true) (h6 : p.ph ≤ 6) (x : BitVec 64) (b : Bool) (w : World) : Calls Tryz.prog 51 #[.agg (partC p), .agg (seenC (N x) b)] w fun e w' => e = .returned (.agg (partC (takeS p x))) ∧ Ch [] w w' := by
  have R := (zdk p).1 hr
  have h0 := R.ph0
  have a2 := R.at2
  have a3 := R.at3
  have a6 := R.at6
  rcases (show p.ph = 0 ∨ p.ph = 1 ∨ p.ph = 2 ∨ p.ph = 3 ∨ p.ph = 4 ∨ p.ph = 5 ∨ p.ph = 6 by omega) with h | h | h | h | h | h | h
  · cases ho : oddB x with
    | true => exact r22Take_0y p h x ho b w
    | false => exact r22Take_0n p h x ho b w
  · by_cases h5 : 5 ≤ N (x &&& 255#64)
    · exact r22Take_1d p h x h5 b w
    · by_cases ho : N (1#64 <<< (x &&& 255#64).toNat) ≤ N (x >>> 8)
      · exact r22Take_1o p h x h5 ho b w
      · exact r22Take_1n p h x h5 ho b w
  · have := a2 h
    rcases (show p.at_ = 0 ∨ p.at_ = 1 by omega) with ha | ha
    · exact r22Take_2n p h ha x b w
    · exact r22Take_2y p h ha x b w
  · have := a3 (.inl h)
    exact r22Take_3 p h p.at_.toNat (by omega) (by omega) x b w
  · have := a3 (.inr h)
    exact r22Take_4 p h p.at_.toNat (by omega) (by omega) x b w
  · exact r22Take_5 p h x b w
  · have := a6 h
    by_cases ha : p.at_ = 79
    · exact r22Take_6y p h ha x b w
    · exact r22Take_6n p h p.at_.toNat (by omega) (by omega) x b w
end
end Go.Proofs.Hc
