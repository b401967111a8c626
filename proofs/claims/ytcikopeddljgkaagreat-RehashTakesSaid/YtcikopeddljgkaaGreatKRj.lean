/- Package rehash: what the phases ask for, and what comes of it but for reading (printed by gen_ways20.py). -/
import Derived.Test.YtcikopeddljgkaaGreatKRi
import Derived.Test.YtcikopeddljgkaaGreatKTj
import Derived.Test.YtcikopeddljgkaaGreatK0
set_option linter.unusedSimpArgs false
set_option linter.unusedVariables false
set_option maxHeartbeats 1000000
set_option maxRecDepth 100000
namespace Go.Proofs.Hc
open Go.RowKit
attribute [local go_sem] zbs zca zax zbc zbn zba zbm zbo zbu signed64 signed8 zar BitVec.ofInt_add BitVec.ofInt_mul ofInt_sub' zay zaz wide8 eqN neN zbz shr1 shr7 shr56
attribute [local go_sem high] zbb zbt
attribute [local go_sem] zag zbw zah zas zad zbe zaq zal zbl zan zbd zbf
attribute [local go_sem] load26 load73 load23 store26 build73
attribute [local go_sem ↓] lrow26 lrow73 lrow23 srow26 zero26 brow73 zac zaw zbg zaa zab
attribute [local go_sem] zai zav zat zbj zbk zbp zao zau zbq zbi zbh
attribute [local go_sem] nn2 nm2 nn3 nm3 nn4 nm4 nn5 nm5 nn6 nm6 nn7 nm7 nn8 nm8
section
attribute [local go_sem] acc_g0 acc_g1 acc_g2 acc_g4 acc_s0 acc_s1 acc_s2 acc_s4 zcv accC_one accC_all loadAcc storeAcc bacc0 bacc2 bacc3 bacc3u bacc4
attribute [local go_sem ↓] lrowAcc srowAcc browAcc zcn
attribute [local go_sem high] zak
attribute [local go_sem] zcq seenC_one seenC_all seenC_g0 loadSeen storeSeen buildSeen buildSeen0
attribute [local go_sem ↓] lrowSeen srowSeen browSeen zcr
attribute [local go_sem high] zam
attribute [local irreducible] seenC
attribute [local go_sem] zar zby
attribute [local go_sem] Oper.semAt_some zap
attribute [local go_sem] layC_idx lcell0 lcell1 lcell2 lcell3 lcell4 lcell5 lcell46
attribute [local go_sem] lay_g0 lay_g1 lay_g2 lay_g3 lay_g4 lay_g5 lay_g46 lay_s0 lay_s4 lay_s5 lay_s46 zck layC_one layC_all layC_ws boxLay loadLay storeLay build_lay box_lay buildLay0 buildLay2 buildLay3
attribute [local go_sem ↓] lrowLay srowLay browLay brow_lay zcs
attribute [local go_sem high] zaj
attribute [local irreducible] layC
attribute [local irreducible] accC
attribute [local go_sem high] tmod2_64w bit64w bit64zw
theorem boxSeen (x : Int) (b : Bool) (w : World) : (Instr.box 93 (.agg (seenC x b))).run Tryz.prog w = .ok (.pointer (some ⟨w.heap.size, 0, none⟩)) (w.alloc (.cells (seenC x b) 93)) := rfl
attribute [local go_sem] boxSeen
theorem lNeed0_any (p : LayT) (g : Nat) (s0 : 0 ≤ p.sl) (s1 : p.sl < 128) (w : World) (hg : w.heap[g]? = some (.cells (layC p) 163 (0, 0))) :
    Calls Tryz.prog 189 #[.pointer (some ⟨g, 0, none⟩)] w fun e w' => e = .returned (.agg (accC p.who 1 (16 + 40 * p.sl) 0)) ∧ Ch [] w w' := by
  have K1 := fun w hg => lLoad_any p g 0 s0 s1 (by omega) (by omega) w hg
  simp only [Int.add_zero] at K1
  have C0 : Ch [] w (w.alloc (.cells (accC 0 0 0 0) 87)) := (Ch.refl [] w).alloc _
  have z0 : (w.alloc (.cells (accC 0 0 0 0) 87)).heap[w.heap.size]? = some (.cells (accC 0 0 0 0) 87 (0, 0)) := by rw [zac, if_pos rfl]
  have g0 := hkeep C0 hg
  clear hg
  go_enter Tryz.func189, Tryz.ntmps189
  go_upto_region 1 with (fail)
  generalize w.alloc (.cells (accC 0 0 0 0) 87) = W0 at *
  go_wp2_with fail
  refine (K1 _ g0).mono ?_
  rintro e w1 ⟨rfl, hc1⟩
  have z1 := hkeep hc1 z0
  go_wp2
  refine bodyPost_ret (acc_result Tryz.results189 _ w.heap.size _ p.who 1 (16 + 40 * p.sl) 0 rfl ?_) rfl ⟨rfl, (C0.trans hc1).onObj (.inr (Nat.le_refl _)) _⟩
  rw [zab, if_pos rfl, z1, Option.map_some, zak]
theorem lNeed1_any (p : LayT) (g : Nat) (s0 : 0 ≤ p.sl) (s1 : p.sl < 128) (w : World) (hg : w.heap[g]? = some (.cells (layC p) 163 (0, 0))) :
    Calls Tryz.prog 192 #[.pointer (some ⟨g, 0, none⟩)] w fun e w' => e = .returned (.agg (accC p.who 2 (16 + 40 * p.sl) (N (p.count + 1#64)))) ∧ Ch [] w w' := by
  have K1 := fun w hg => lStore_any p g 0 (p.count + 1#64) s0 s1 (by omega) (by omega) w hg
  simp only [Int.add_zero] at K1
  have C0 : Ch [] w (w.alloc (.cells (accC 0 0 0 0) 87)) := (Ch.refl [] w).alloc _
  have z0 : (w.alloc (.cells (accC 0 0 0 0) 87)).heap[w.heap.size]? = some (.cells (accC 0 0 0 0) 87 (0, 0)) := by rw [zac, if_pos rfl]
  have g0 := hkeep C0 hg
  clear hg
  go_enter Tryz.func192, Tryz.ntmps192
  go_upto_region 1 with (fail)
  generalize w.alloc (.cells (accC 0 0 0 0) 87) = W0 at *
  go_wp2_with fail
  refine (K1 _ g0).mono ?_
  rintro e w1 ⟨rfl, hc1⟩
  have z1 := hkeep hc1 z0
  go_wp2
  refine bodyPost_ret (acc_result Tryz.results192 _ w.heap.size _ p.who 2 (16 + 40 * p.sl) (N (p.count + 1#64)) rfl ?_) rfl ⟨rfl, (C0.trans hc1).onObj (.inr (Nat.le_refl _)) _⟩
  rw [zab, if_pos rfl, z1, Option.map_some, zak]
theorem lNeed2_any (p : LayT) (g : Nat) (s0 : 0 ≤ p.sl) (s1 : p.sl < 128) (a0 : 0 ≤ p.at_) (a1 : p.at_ < 40) (w : World) (hg : w.heap[g]? = some (.cells (layC p) 163 (0, 0))) :
    Calls Tryz.prog 195 #[.pointer (some ⟨g, 0, none⟩)] w fun e w' => e = .returned (.agg (accC p.who 1 (16 + 40 * p.sl + p.at_) 0)) ∧ Ch [] w w' := by
  have K1 := fun w hg => lLoad_any p g p.at_ s0 s1 a0 a1 w hg
  have C0 : Ch [] w (w.alloc (.cells (accC 0 0 0 0) 87)) := (Ch.refl [] w).alloc _
  have z0 : (w.alloc (.cells (accC 0 0 0 0) 87)).heap[w.heap.size]? = some (.cells (accC 0 0 0 0) 87 (0, 0)) := by rw [zac, if_pos rfl]
  have g0 := hkeep C0 hg
  clear hg
  go_enter Tryz.func195, Tryz.ntmps195
  go_upto_region 1 with (fail)
  generalize w.alloc (.cells (accC 0 0 0 0) 87) = W0 at *
  go_wp2_with fail
  refine (K1 _ g0).mono ?_
  rintro e w1 ⟨rfl, hc1⟩
  have z1 := hkeep hc1 z0
  go_wp2
  refine bodyPost_ret (acc_result Tryz.results195 _ w.heap.size _ p.who 1 (16 + 40 * p.sl + p.at_) 0 rfl ?_) rfl ⟨rfl, (C0.trans hc1).onObj (.inr (Nat.le_refl _)) _⟩
  rw [zab, if_pos rfl, z1, Option.map_some, zak]
theorem lNeed4_any (p : LayT) (g : Nat) (s0 : 0 ≤ p.sl) (s1 : p.sl < 128) (w : World) (hg : w.heap[g]? = some (.cells (layC p) 163 (0, 0))) :
    Calls Tryz.prog 200 #[.pointer (some ⟨g, 0, none⟩)] w fun e w' => e = .returned (.agg (accC p.who 2 (16 + 40 * p.sl) (N (p.count + 2#64)))) ∧ Ch [] w w' := by
  have K1 := fun w hg => lStore_any p g 0 (p.count + 2#64) s0 s1 (by omega) (by omega) w hg
  simp only [Int.add_zero] at K1
  have C0 : Ch [] w (w.alloc (.cells (accC 0 0 0 0) 87)) := (Ch.refl [] w).alloc _
  have z0 : (w.alloc (.cells (accC 0 0 0 0) 87)).heap[w.heap.size]? = some (.cells (accC 0 0 0 0) 87 (0, 0)) := by rw [zac, if_pos rfl]
  have g0 := hkeep C0 hg
  clear hg
  go_enter Tryz.func200, Tryz.ntmps200
  go_upto_region 1 with (fail)
  generalize w.alloc (.cells (accC 0 0 0 0) 87) = W0 at *
  go_wp2_with fail
  refine (K1 _ g0).mono ?_
  rintro e w1 ⟨rfl, hc1⟩
  have z1 := hkeep hc1 z0
  go_wp2
  refine bodyPost_ret (acc_result Tryz.results200 _ w.heap.size _ p.who 2 (16 + 40 * p.sl) (N (p.count + 2#64)) rfl ?_) rfl ⟨rfl, (C0.trans hc1).onObj (.inr (Nat.le_refl _)) _⟩
  rw [zab, if_pos rfl, z1, Option.map_some, zak]
theorem lNeed3_any (p : LayT) (g j : Nat) (s0 : 0 ≤ p.sl) (s1 : p.sl < 128) (hj : p.at_ = (j : Int)) (hj4 : j < 40) (w : World) (hg : w.heap[g]? = some (.cells (layC p) 163 (0, 0))) :
    Calls Tryz.prog 198 #[.pointer (some ⟨g, 0, none⟩)] w fun e w' => e = .returned (.agg (accC p.who 2 (16 + 40 * p.sl + p.at_) (N (p.ws j)))) ∧ Ch [] w w' := by
  have K1 := fun w hg => lStore_any p g p.at_ (p.ws j) s0 s1 (by omega) (by omega) w hg
  have C0 : Ch [] w (w.alloc (.cells (accC 0 0 0 0) 87)) := (Ch.refl [] w).alloc _
  have z0 : (w.alloc (.cells (accC 0 0 0 0) 87)).heap[w.heap.size]? = some (.cells (accC 0 0 0 0) 87 (0, 0)) := by rw [zac, if_pos rfl]
  have g0 := hkeep C0 hg
  have hgn : ¬ g = w.heap.size := by have := (Array.getElem?_eq_some_iff.1 hg).1; omega
  have hjI : (j : Int) < 40 := by omega
  clear hg
  have hgw := lay_gw p j hj4
  have e5 : (layC p)[5]? = some (I (j : Int)) := by rw [lay_g5, hj]
  obtain ⟨cu, hcu⟩ : ∃ c, layC p = c := ⟨_, rfl⟩
  obtain ⟨x, hx⟩ : ∃ x, p.ws j = x := ⟨_, rfl⟩
  rw [hcu] at K1 e5 hgw g0
  rw [hx] at K1 hgw ⊢
  rw [hj] at K1 ⊢
  clear hcu hx hj hj4
  go_enter Tryz.func198, Tryz.ntmps198
  go_upto_region 1 with (fail)
  generalize w.alloc (.cells (accC 0 0 0 0) 87) = W0 at *
  have s2 : (fun W' : World => W'.heap[g]? = some (.cells cu 163 (0, 0))) W0.drew := g0
  have z2 : W0.drew.heap[w.heap.size]? = some (.cells (accC 0 0 0 0) 87 (0, 0)) := z0
  have C2 : Ch [] w W0.drew := C0.drew
  refine wp_region_held_drew (S := fun W' => W'.heap[g]? = some (.cells cu 163 (0, 0))) (by kernel_rfl) s2 ?_
  intro _
  simp only [List.size_toArray, List.length_cons, List.length_nil, Nat.reduceAdd]
  clear z0 g0 C0
  generalize W0.drew = w2 at *
  refine tk 0 3 ?_ rfl s2 ?_ ?_; rotate_left
  · intro _ _; go_simp; try with_reducible rfl
  try go_frame
  refine tk 1 4 ?_ rfl s2 ?_ ?_; rotate_left
  · intro _ _; go_simp; try with_reducible rfl
  try go_frame
  refine tk 2 5 ?_ rfl s2 ?_ ?_; rotate_left
  · intro _ _; go_simp; try with_reducible rfl
  try go_frame
  refine tk 3 6 ?_ rfl s2 ?_ ?_; rotate_left
  · intro _ _; go_simp; try with_reducible rfl
  try go_frame
  refine tk 4 7 ?_ rfl s2 ?_ ?_; rotate_left
  · intro _ _; go_simp; try with_reducible rfl
  try go_frame
  refine tk 5 8 ?_ rfl s2 ?_ ?_; rotate_left
  · intro _ _; go_simp; try with_reducible rfl
  try go_frame
  refine tk 6 9 ?_ rfl s2 ?_ ?_; rotate_left
  · intro _ _; go_simp; try with_reducible rfl
  try go_frame
  refine tk 7 10 ?_ rfl s2 ?_ ?_; rotate_left
  · intro _ _; go_simp; try with_reducible rfl
  try go_frame
  refine tk 8 11 ?_ rfl s2 ?_ ?_; rotate_left
  · intro _ _; go_simp; try with_reducible rfl
  try go_frame
  refine tk 9 12 ?_ rfl s2 ?_ ?_; rotate_left
  · intro _ _; go_simp; try with_reducible rfl
  try go_frame
  refine tk 10 13 ?_ rfl s2 ?_ ?_; rotate_left
  · intro _ _; go_simp; try with_reducible rfl
  try go_frame
  refine tk 11 14 ?_ rfl s2 ?_ ?_; rotate_left
  · intro _ _; go_simp; try with_reducible rfl
  try go_frame
  refine tk 12 15 ?_ rfl s2 ?_ ?_; rotate_left
  · intro _ _; go_simp; try with_reducible rfl
  try go_frame
  refine tk 13 16 ?_ rfl s2 ?_ ?_; rotate_left
  · intro _ _; go_simp; try with_reducible rfl
  try go_frame
  refine tk 14 17 ?_ rfl s2 ?_ ?_; rotate_left
  · intro _ _; go_simp; try with_reducible rfl
  try go_frame
  refine tk 15 18 ?_ rfl s2 ?_ ?_; rotate_left
  · intro _ _; go_simp; try with_reducible rfl
  try go_frame
  refine tk 16 19 ?_ rfl s2 ?_ ?_; rotate_left
  · intro _ _; go_simp; try with_reducible rfl
  try go_frame
  refine rd 17 rfl (fun K hK => ?_); go_simp
  refine (K1 _ s2).mono ?_
  rintro e w3 ⟨rfl, hc3⟩
  have s3 := hkeep hc3 s2
  have z3 := hkeep hc3 z2
  have C3 := C2.trans hc3
  refine hK.out _ _ s3 (fun _ => ?_)
  clear hK K s2 z2 C2
  refine rd 18 rfl (fun K hK => ?_); go_simp
  refine hK.out _ _ ?_ (fun _ => ?_)
  · rw [zab, if_neg hgn]; exact s3
  clear hK K
  refine wpAnyH_done (by kernel_rfl) ?_ _
  go_wp2
  refine bodyPost_ret (acc_result Tryz.results198 _ w.heap.size _ p.who 2 (16 + 40 * p.sl + (j : Int)) (N x) rfl ?_) rfl ⟨rfl, C3.onObj (.inr (Nat.le_refl _)) _⟩
  rw [zab, if_pos rfl, z3, Option.map_some, zak]
theorem lThen0_yes (p : LayT) (g : Nat) (x : BitVec 64) (b : Bool) (ho : oddB x = false) (w : World) (hg : w.heap[g]? = some (.cells (layC p) 163 (0, 0))) :
    Calls Tryz.prog 191 #[.pointer (some ⟨g, 0, none⟩), .agg (seenC (N x) b)] w fun e w' => e = .returned (.tuple #[]) ∧ w'.heap[g]? = some (.cells (layC { p with ph := 1, count := x }) 163 (0, 0)) ∧ Ch [g] w w' := by
  have hgn : ¬ g = w.heap.size := by have := (Array.getElem?_eq_some_iff.1 hg).1; omega
  have C0 : Ch [g] w (w.alloc (.cells (seenC (N x) b) 93)) := (Ch.refl [g] w).alloc _
  go_enter Tryz.func191, Tryz.ntmps191
  go_upto_region 1 with (fail)
  have g0 : (w.alloc (.cells (seenC (N x) b) 93)).heap[g]? = some (.cells (layC p) 163 (0, 0)) := by rw [zac, if_neg hgn]; exact hg
  have y0 : (w.alloc (.cells (seenC (N x) b) 93)).heap[w.heap.size]? = some (.cells (seenC (N x) b) 93 (0, 0)) := by rw [zac, if_pos rfl]
  generalize w.alloc (.cells (seenC (N x) b) 93) = W0 at *
  generalize w.heap.size = B at *
  have hBg : ¬ B = g := fun e => hgn e.symm
  clear hg
  go_upto_region 3 with (fail)
  have g1 : (W0.setCell ⟨g, 0, none⟩ (I 6)).heap[g]? = some (.cells (layC { p with ph := 6 }) 163 (0, 0)) := by rw [zaa, if_pos rfl, g0, Option.map_some, zad, lay_s0]
  have y1 : (W0.setCell ⟨g, 0, none⟩ (I 6)).heap[B]? = some (.cells (seenC (N x) b) 93 (0, 0)) := by rw [zaa, if_neg hBg]; exact y0
  have C1 := C0.setCell (p := ⟨g, 0, none⟩) (.inl (by simp)) (I 6)
  clear g0 y0 C0
  obtain ⟨w1, hw1⟩ : ∃ W, W0.setCell ⟨g, 0, none⟩ (I 6) = W := ⟨_, rfl⟩
  rw [hw1] at g1 y1 C1 ⊢
  clear hw1
  have s2 : (fun W' : World => W'.heap[B]? = some (.cells (seenC (N x) b) 93 (0, 0))) w1.drew := y1
  have g2 : w1.drew.heap[g]? = _ := g1
  have C2 : Ch [g] w w1.drew := C1.drew
  refine wp_region_held_drew (S := fun W' => W'.heap[B]? = some (.cells (seenC (N x) b) 93 (0, 0))) (by kernel_rfl) s2 ?_
  intro _
  simp only [List.size_toArray, List.length_cons, List.length_nil, Nat.reduceAdd]
  clear g1 y1 C1
  generalize w1.drew = w2 at *
  refine tk 0 12 ?_ rfl s2 ?_ ?_; rotate_left
  · intro _ _; go_simp; try with_reducible rfl
  try go_frame
  refine tk 1 13 ?_ rfl s2 ?_ ?_; rotate_left
  · intro _ _; go_simp; try with_reducible rfl
  try go_frame
  refine tk 2 14 ?_ rfl s2 ?_ ?_; rotate_left
  · intro _ _; go_simp; try with_reducible rfl
  try go_frame
  refine tk 3 15 ?_ rfl s2 ?_ ?_; rotate_left
  · intro _ _; go_simp; try with_reducible rfl
  try go_frame
  refine tk 4 16 ?_ rfl s2 ?_ ?_; rotate_left
  · intro _ _; go_simp; try with_reducible rfl
  try go_frame
  refine tk 5 17 ?_ rfl s2 ?_ ?_; rotate_left
  · intro _ _; go_simp; try with_reducible rfl
  try go_frame
  refine tk 6 18 ?_ rfl s2 ?_ ?_; rotate_left
  · intro _ _; go_simp; try with_reducible rfl
  try go_frame
  refine rd 7 rfl (fun K hK => ?_); go_simp
  have s3 : (w2.setCell ⟨g, 0, none⟩ (I 1)).heap[B]? = some (.cells (seenC (N x) b) 93 (0, 0)) := by rw [zaa, if_neg hBg]; exact s2
  have g3 : (w2.setCell ⟨g, 0, none⟩ (I 1)).heap[g]? = some (.cells (layC { p with ph := 1 }) 163 (0, 0)) := by rw [zaa, if_pos rfl, g2, Option.map_some, zad, lay_s0]
  have C3 := C2.setCell (p := ⟨g, 0, none⟩) (.inl (by simp)) (I 1)
  refine hK.out _ _ s3 (fun _ => ?_)
  clear hK K s2 g2 C2
  generalize (w2.setCell ⟨g, 0, none⟩ (I 1)) = w3 at *
  refine tk 8 19 ?_ rfl s3 ?_ ?_; rotate_left
  · intro _ _; go_simp; try with_reducible rfl
  try go_frame
  refine tk 9 20 ?_ rfl s3 ?_ ?_; rotate_left
  · intro _ _; go_simp; try with_reducible rfl
  try go_frame
  refine tk 10 21 ?_ rfl s3 ?_ ?_; rotate_left
  · intro _ _; go_simp; try with_reducible rfl
  try go_frame
  refine rd 11 rfl (fun K hK => ?_); go_simp
  refine hK.out _ _ (by rw [zaa, if_neg hBg]; exact s3) (fun _ => ?_)
  clear hK K
  refine wpAnyH_done (by kernel_rfl) ?_ _
  go_wp2
  go_end0
  refine ⟨rfl, ?_, C3.setCell (p := ⟨g, 4, none⟩) (.inl (by simp)) _⟩
  rw [zaa, if_pos rfl, g3, Option.map_some, zad]
  exact congrArg (fun x => some (Obj.cells x 163 (0, 0))) (lay_s4 _ _)
theorem lThen0_no (p : LayT) (g : Nat) (x : BitVec 64) (b : Bool) (ho : oddB x = true) (w : World) (hg : w.heap[g]? = some (.cells (layC p) 163 (0, 0))) :
    Calls Tryz.prog 191 #[.pointer (some ⟨g, 0, none⟩), .agg (seenC (N x) b)] w fun e w' => e = .returned (.tuple #[]) ∧ w'.heap[g]? = some (.cells (layC { p with ph := 6 }) 163 (0, 0)) ∧ Ch [g] w w' := by
  have hgn : ¬ g = w.heap.size := by have := (Array.getElem?_eq_some_iff.1 hg).1; omega
  have C0 : Ch [g] w (w.alloc (.cells (seenC (N x) b) 93)) := (Ch.refl [g] w).alloc _
  go_enter Tryz.func191, Tryz.ntmps191
  go_upto_region 1 with (fail)
  have g0 : (w.alloc (.cells (seenC (N x) b) 93)).heap[g]? = some (.cells (layC p) 163 (0, 0)) := by rw [zac, if_neg hgn]; exact hg
  have y0 : (w.alloc (.cells (seenC (N x) b) 93)).heap[w.heap.size]? = some (.cells (seenC (N x) b) 93 (0, 0)) := by rw [zac, if_pos rfl]
  generalize w.alloc (.cells (seenC (N x) b) 93) = W0 at *
  generalize w.heap.size = B at *
  have hBg : ¬ B = g := fun e => hgn e.symm
  clear hg
  go_wp2
  go_end0
  refine ⟨rfl, ?_, ?_⟩
  · simp [go_sem, g0]
  · exact C0.setCell (p := ⟨g, 0, none⟩) (.inl (by simp)) _
theorem lThen1_any (p : LayT) (g : Nat) (x : BitVec 64) (b : Bool) (w : World) (hg : w.heap[g]? = some (.cells (layC p) 163 (0, 0))) :
    Calls Tryz.prog 194 #[.pointer (some ⟨g, 0, none⟩), .agg (seenC (N x) b)] w fun e w' => e = .returned (.tuple #[]) ∧ w'.heap[g]? = some (.cells (layC { p with ph := 2, at_ := 1 }) 163 (0, 0)) ∧ Ch [g] w w' := by
  have hgn : ¬ g = w.heap.size := by have := (Array.getElem?_eq_some_iff.1 hg).1; omega
  have C0 : Ch [g] w (w.alloc (.cells (seenC (N x) b) 93)) := (Ch.refl [g] w).alloc _
  go_enter Tryz.func194, Tryz.ntmps194
  go_wp2
  go_end0
  refine ⟨rfl, ?_, ?_⟩
  · simp [go_sem, hg, hgn]
  · exact (C0.setCell (p := ⟨g, 0, none⟩) (.inl (by simp)) _).setCell (p := ⟨g, 5, none⟩) (.inl (by simp)) _
theorem lThen4_any (p : LayT) (g : Nat) (x : BitVec 64) (b : Bool) (c : Nat) (w : World) (hg : w.heap[g]? = some (.cells (layC p) 163 (0, 0))) (hb : w.heap[c]? = some (.cells #[I 5] 3 (0, 0))) :
    Calls Tryz.prog 188 #[.pointer (some ⟨g, 0, none⟩), .agg (seenC (N x) b), .pointer (some ⟨c, 0, none⟩)] w fun e w' => e = .returned (.tuple #[]) ∧ w'.heap[g]? = some (.cells (layC { p with ph := 5 }) 163 (0, 0)) ∧ Ch [g] w w' := by
  have hgn : ¬ g = w.heap.size := by have := (Array.getElem?_eq_some_iff.1 hg).1; omega
  have C0 : Ch [g] w (w.alloc (.cells (seenC (N x) b) 93)) := (Ch.refl [g] w).alloc _
  have hcn : ¬ c = w.heap.size := by have := (Array.getElem?_eq_some_iff.1 hb).1; omega
  go_enter Tryz.func188, Tryz.ntmps188
  go_wp2
  go_end0
  refine ⟨rfl, ?_, ?_⟩
  · simp [go_sem, hg, hgn]
  · exact C0.setCell (p := ⟨g, 0, none⟩) (.inl (by simp)) _
theorem lThen3_last (p : LayT) (g : Nat) (x : BitVec 64) (b : Bool) (ha : p.at_ = 39) (w : World) (hg : w.heap[g]? = some (.cells (layC p) 163 (0, 0))) :
    Calls Tryz.prog 199 #[.pointer (some ⟨g, 0, none⟩), .agg (seenC (N x) b)] w fun e w' => e = .returned (.tuple #[]) ∧ w'.heap[g]? = some (.cells (layC { p with at_ := 40, ph := 4 }) 163 (0, 0)) ∧ Ch [g] w w' := by
  have hgn : ¬ g = w.heap.size := by have := (Array.getElem?_eq_some_iff.1 hg).1; omega
  have C0 : Ch [g] w (w.alloc (.cells (seenC (N x) b) 93)) := (Ch.refl [g] w).alloc _
  go_enter Tryz.func199, Tryz.ntmps199
  go_wp2
  go_end0
  refine ⟨rfl, ?_, ?_⟩
  · simp [go_sem, hg, hgn, ha]
  · exact (C0.setCell (p := ⟨g, 5, none⟩) (.inl (by simp)) _).setCell (p := ⟨g, 0, none⟩) (.inl (by simp)) _
theorem lThen3_more (p : LayT) (g : Nat) (x : BitVec 64) (b : Bool) (a0 : 1 ≤ p.at_) (a1 : p.at_ < 39) (w : World) (hg : w.heap[g]? = some (.cells (layC p) 163 (0, 0))) :
    Calls Tryz.prog 199 #[.pointer (some ⟨g, 0, none⟩), .agg (seenC (N x) b)] w fun e w' => e = .returned (.tuple #[]) ∧ w'.heap[g]? = some (.cells (layC { p with at_ := p.at_ + 1 }) 163 (0, 0)) ∧ Ch [g] w w' := by
  have hgn : ¬ g = w.heap.size := by have := (Array.getElem?_eq_some_iff.1 hg).1; omega
  have C0 : Ch [g] w (w.alloc (.cells (seenC (N x) b) 93)) := (Ch.refl [g] w).alloc _
  go_enter Tryz.func199, Tryz.ntmps199
  go_wp2
  go_end0
  refine ⟨rfl, ?_, ?_⟩
  · simp [go_sem, hg, hgn]
  · exact C0.setCell (p := ⟨g, 5, none⟩) (.inl (by simp)) _
end
end Go.Proofs.Hc
