/- Package split: need, Need. -/
import Derived.Test.YtcikopeddljgkaaGreatJVc
import Derived.Test.YtcikopeddljgkaaGreatJ0
set_option linter.unusedSimpArgs false
set_option linter.unusedVariables false
set_option maxHeartbeats 4000000
set_option maxRecDepth 100000
namespace Go.Proofs.Hc
open Go.RowKit
attribute [local go_sem] zbu zcc zax zbf zbo zbd zbn zbp zbw signed64 signed8 zap BitVec.ofInt_add BitVec.ofInt_mul ofInt_sub' zbb zbc wide8 eqN neN zca shr1 shr7 shr56
attribute [local go_sem high] zbe zbv
attribute [local go_sem] zaw zby zaj zas zaf zaz zar zak zbm zal zay zba
attribute [local go_sem] load26 load73 load23 store26 build73
attribute [local go_sem ↓] lrow26 lrow73 lrow23 srow26 zero26 brow73 zae zbk zbg zaa zab
attribute [local go_sem] zai zav zat zbj zbl zbr zaq zau zbs zbi zbh
attribute [local go_sem] nn2 nm2 nn3 nm3 nn4 nm4 nn5 nm5 nn6 nm6 nn7 nm7 nn8 nm8
section
attribute [local go_sem] acc_g0 acc_g1 acc_g2 acc_g4 acc_s0 acc_s1 acc_s2 acc_s4 accC_size accC_one accC_all loadAcc storeAcc bacc0 bacc2 bacc3 bacc3u bacc4
attribute [local go_sem ↓] lrowAcc srowAcc browAcc zeroAcc_run
attribute [local go_sem high] zah
attribute [local go_sem] zap zbq
attribute [local go_sem] Oper.semAt_some zao
attribute [local go_sem] zcj pacell0 pacell1 pacell2 pacell3 pacell4 pacell5 pacell6 pacell7 pacell42
attribute [local go_sem] zcs zcx zcp zcw zcv zdg zcu zdf zce zcr zdj zdc zch zbt zci zck boxPart loadPart storePart zcf zct buildPart0 buildPart4
attribute [local go_sem ↓] lrowPart srowPart browPart zcl zbz
attribute [local go_sem high] zag
attribute [local irreducible] partC
attribute [local irreducible] accC
theorem needS_right {p : PartT} {a : AccT} (h : needS p = some a) : RightS p ∧ p.ph ≤ 6 ∧ a = ⟨if p.ph = 5 ∨ p.ph = 6 then 2 else 1, whereS p, if p.ph = 5 then p.count + 1#64 else if p.ph = 6 then p.ws p.at_.toNat else 0#64⟩ := by
  unfold needS at h
  cases hb : (rightS p && decide (p.ph ≤ 6)) with
  | false => rw [hb, if_neg (by decide)] at h; cases h
  | true =>
    rw [hb, if_pos rfl] at h
    simp only [Bool.and_eq_true, decide_eq_true_eq] at hb
    exact ⟨(zdk p).1 hb.1, hb.2, (Option.some.inj h).symm⟩
theorem s22Need_load (p : PartT) (R : RightS p) (n : Nat) (hn : p.ph = (n : Int)) (h4 : n ≤ 4) (g : Nat) (w : World) (hg : w.heap[g]? = some (.cells (partC p) 179 (0, 0))) :
    Calls Tryz.prog 114 #[.pointer (some ⟨g, 0, none⟩)] w fun e w' => e = .returned (.agg (accC p.who 1 (whereS p) 0)) ∧ Ch [] w w' := by
  have L1 := fun wd h0 h1 w hg => s22Load_any p g wd R.sl0 R.sl1 h0 h1 w hg
  have hat2 := R.at2
  have hat3 := R.at3
  have C0 : Ch [] w (w.alloc (.cells (accC 0 0 0 0) 87)) := (Ch.refl [] w).alloc _
  have z0 : (w.alloc (.cells (accC 0 0 0 0) 87)).heap[w.heap.size]? = some (.cells (accC 0 0 0 0) 87 (0, 0)) := by rw [zae, if_pos rfl]
  have g0 := hkeep C0 hg
  have hgn : ¬ g = w.heap.size := by have := (Array.getElem?_eq_some_iff.1 hg).1; omega
  clear hg R
  obtain ⟨wh, hwh⟩ : ∃ x, whereS p = x := ⟨_, rfl⟩
  have hw2 := hwh
  unfold whereS at hw2
  rw [hwh]
  clear hwh
  have hc : ∃ wd, 0 ≤ wd ∧ wd < 40 ∧ 16 + 40 * p.sl + wd = wh ∧ ((n = 0 ∧ wd = 0) ∨ (n = 1 ∧ wd = 1) ∨ (n = 2 ∧ (0 ≤ p.at_ ∧ p.at_ < 16) ∧ wd = 4 + p.at_) ∨ (n = 3 ∧ (0 ≤ p.at_ ∧ p.at_ < 16) ∧ wd = 6 + p.at_) ∨ (n = 4 ∧ (0 ≤ p.at_ ∧ p.at_ < 16) ∧ wd = 22 + p.at_)) := by
    rw [hn] at hw2
    rcases (show n = 0 ∨ n = 1 ∨ n = 2 ∨ n = 3 ∨ n = 4 by omega) with rfl | rfl | rfl | rfl | rfl
    · simp at hw2; exact ⟨0, by omega, by omega, by omega, .inl ⟨rfl, rfl⟩⟩
    · simp at hw2; exact ⟨1, by omega, by omega, by omega, .inr (.inl ⟨rfl, rfl⟩)⟩
    · simp at hw2; have := hat2 hn; exact ⟨4 + p.at_, by omega, by omega, by omega, .inr (.inr (.inl ⟨rfl, ⟨by omega, by omega⟩, rfl⟩))⟩
    · simp at hw2; have := hat3 (.inl hn); exact ⟨6 + p.at_, by omega, by omega, by omega, .inr (.inr (.inr (.inl ⟨rfl, ⟨by omega, by omega⟩, rfl⟩)))⟩
    · simp at hw2; have := hat3 (.inr hn); exact ⟨22 + p.at_, by omega, by omega, by omega, .inr (.inr (.inr (.inr ⟨rfl, ⟨by omega, by omega⟩, rfl⟩)))⟩
  clear hw2 hat2 hat3 h4
  obtain ⟨wd, hwd0, hwd1, hwd, hc⟩ := hc
  have L2 := fun w hg => L1 wd hwd0 hwd1 w hg
  rw [hwd] at L2
  clear hwd L1
  go_enter Tryz.func114, Tryz.ntmps114
  go_upto_region 1 with (fail)
  obtain ⟨w0, hw0⟩ : ∃ W, w.alloc (.cells (accC 0 0 0 0) 87) = W := ⟨_, rfl⟩
  rw [hw0] at C0 z0 g0 ⊢
  clear hw0
  obtain ⟨B, hB⟩ : ∃ b, w.heap.size = b := ⟨_, rfl⟩
  rw [hB] at z0 hgn ⊢
  have hBw : w.heap.size ≤ B := by omega
  clear hB
  have x1 : 0 ≤ p.at_ ∧ p.at_ < 16 → IntKind.i64.wrap (4 + p.at_) = 4 + p.at_ := fun h => by rw [IntKind.wrap_i64]; omega
  have x2 : 0 ≤ p.at_ ∧ p.at_ < 16 → IntKind.i64.wrap (6 + p.at_) = 6 + p.at_ := fun h => by rw [IntKind.wrap_i64]; omega
  have x3 : 0 ≤ p.at_ ∧ p.at_ < 16 → IntKind.i64.wrap (22 + p.at_) = 22 + p.at_ := fun h => by rw [IntKind.wrap_i64]; omega
  rcases hc with ⟨rfl, rfl⟩ | ⟨rfl, rfl⟩ | ⟨rfl, h, rfl⟩ | ⟨rfl, h, rfl⟩ | ⟨rfl, h, rfl⟩
  all_goals
    try (have y1 := x1 h; have y2 := x2 h; have y3 := x3 h)
    clear x1 x2 x3 hwd0 hwd1
    go_wp2_with fail
    refine (L2 _ g0).mono ?_
    rintro e w1 ⟨rfl, hc1⟩
    have z1 := hkeep hc1 z0
    have C1 := C0.trans hc1
    clear z0 C0 hc1 g0 L2
    go_wp2
    refine bodyPost_ret (acc_result Tryz.results114 _ B _ p.who 1 wh 0 rfl ?_) rfl ⟨rfl, C1.onObj (.inr hBw) _⟩
    rw [zab, if_pos rfl, z1, Option.map_some, zah]
theorem s22Need_shut (p : PartT) (R : RightS p) (hp : p.ph = 5) (g : Nat) (w : World) (hg : w.heap[g]? = some (.cells (partC p) 179 (0, 0))) :
    Calls Tryz.prog 114 #[.pointer (some ⟨g, 0, none⟩)] w fun e w' => e = .returned (.agg (accC p.who 2 (16 + 40 * p.sl) (N (p.count + 1#64)))) ∧ Ch [] w w' := by
  have T1 := fun w hg => s22Store_any p g p.sl 0 (p.count + 1#64) R.sl0 R.sl1 (by omega) (by omega) w hg
  rw [show (16 : Int) + 40 * p.sl + 0 = 16 + 40 * p.sl by omega] at T1
  obtain ⟨A0, hA0⟩ : ∃ x, (16 : Int) + 40 * p.sl = x := ⟨_, rfl⟩
  obtain ⟨wh, hwh⟩ : ∃ x, p.who = x := ⟨_, rfl⟩
  obtain ⟨nw, hnw⟩ : ∃ x, p.count + 1#64 = x := ⟨_, rfl⟩
  rw [hA0, hwh, hnw] at T1 ⊢
  clear hA0 hwh R
  have C0 : Ch [] w (w.alloc (.cells (accC 0 0 0 0) 87)) := (Ch.refl [] w).alloc _
  have z0 : (w.alloc (.cells (accC 0 0 0 0) 87)).heap[w.heap.size]? = some (.cells (accC 0 0 0 0) 87 (0, 0)) := by rw [zae, if_pos rfl]
  have g0 := hkeep C0 hg
  have hgn : ¬ g = w.heap.size := by have := (Array.getElem?_eq_some_iff.1 hg).1; omega
  clear hg
  go_enter Tryz.func114, Tryz.ntmps114
  go_upto_region 1 with (fail)
  obtain ⟨w0, hw0⟩ : ∃ W, w.alloc (.cells (accC 0 0 0 0) 87) = W := ⟨_, rfl⟩
  rw [hw0] at C0 z0 g0 ⊢
  clear hw0
  obtain ⟨B, hB⟩ : ∃ b, w.heap.size = b := ⟨_, rfl⟩
  rw [hB] at z0 hgn ⊢
  have hBw : w.heap.size ≤ B := by omega
  clear hB
  go_upto_region 11 with (fail)
  have s1 : (fun W' : World => W'.heap[g]? = some (.cells (partC p) 179 (0, 0))) w0.drew := g0
  have z1 : w0.drew.heap[B]? = some (.cells (accC 0 0 0 0) 87 (0, 0)) := z0
  have C1 : Ch [] w w0.drew := C0.drew
  refine wp_region_held_drew (S := fun W' => W'.heap[g]? = some (.cells (partC p) 179 (0, 0))) (by kernel_rfl) s1 ?_
  intro _
  simp only [List.size_toArray, List.length_cons, List.length_nil, Nat.reduceAdd]
  clear z0 g0 C0
  generalize w0.drew = w1 at *
  refine tk 0 46 ?_ rfl s1 ?_ ?_; rotate_left
  · intro _ _; go_simp; try with_reducible rfl
  try go_frame
  refine tk 1 47 ?_ rfl s1 ?_ ?_; rotate_left
  · intro _ _; go_simp; try with_reducible rfl
  try go_frame
  refine tk 2 48 ?_ rfl s1 ?_ ?_; rotate_left
  · intro _ _; go_simp; try with_reducible rfl
  try go_frame
  refine tk 3 49 ?_ rfl s1 ?_ ?_; rotate_left
  · intro _ _; go_simp; try with_reducible rfl
  try go_frame
  refine tk 4 50 ?_ rfl s1 ?_ ?_; rotate_left
  · intro _ _; go_simp; try with_reducible rfl
  try go_frame
  refine tk 5 51 ?_ rfl s1 ?_ ?_; rotate_left
  · intro _ _; go_simp; try with_reducible rfl
  try go_frame
  refine tk 6 52 ?_ rfl s1 ?_ ?_; rotate_left
  · intro _ _; go_simp; try with_reducible rfl
  try go_frame
  refine tk 7 53 ?_ rfl s1 ?_ ?_; rotate_left
  · intro _ _; go_simp; try with_reducible rfl
  try go_frame
  refine tk 8 54 ?_ rfl s1 ?_ ?_; rotate_left
  · intro _ _; go_simp; try with_reducible rfl
  try go_frame
  refine tk 9 55 ?_ rfl s1 ?_ ?_; rotate_left
  · intro _ _; go_simp; try with_reducible rfl
  try go_frame
  refine tk 10 56 ?_ rfl s1 ?_ ?_; rotate_left
  · intro _ _; go_simp; try with_reducible rfl
  try go_frame
  refine tk 11 57 ?_ rfl s1 ?_ ?_; rotate_left
  · intro _ _; go_simp; try with_reducible rfl
  try go_frame
  try rw [hnw]
  refine rd 12 rfl (fun K hK => ?_); go_simp
  try rw [hnw]
  refine (T1 _ s1).mono ?_
  rintro e w2 ⟨rfl, hc2⟩
  have s2 := hkeep hc2 s1
  have z2 := hkeep hc2 z1
  have C2 := C1.trans hc2
  refine hK.out _ _ s2 (fun _ => ?_)
  clear hK K s1 z1 C1 hc2 T1
  refine rd 13 rfl (fun K hK => ?_); go_simp
  have s3 : (World.onObj w2 B (laidAt 0 (accC wh 2 A0 (N nw)))).heap[g]? = some (.cells (partC p) 179 (0, 0)) := by rw [zab, if_neg hgn]; exact s2
  have z3 : (World.onObj w2 B (laidAt 0 (accC wh 2 A0 (N nw)))).heap[B]? = some (.cells (accC wh 2 A0 (N nw)) 87 (0, 0)) := by rw [zab, if_pos rfl, z2, Option.map_some, zah]
  have C3 : Ch [] w (World.onObj w2 B (laidAt 0 (accC wh 2 A0 (N nw)))) := C2.onObj (.inr hBw) _
  refine hK.out _ _ s3 (fun _ => ?_)
  clear hK K s2 z2 C2 s3
  generalize World.onObj w2 B (laidAt 0 (accC wh 2 A0 (N nw))) = w3 at *
  refine wpAnyH_done (by kernel_rfl) ?_ _
  go_wp2
  exact bodyPost_ret (acc_result Tryz.results114 _ B _ wh 2 A0 (N nw) rfl z3) rfl ⟨rfl, C3⟩
theorem s22Need_lay (p : PartT) (R : RightS p) (hp : p.ph = 6) (j q r : Nat) (ha : p.at_ = (j : Int)) (hj : j < 80) (hq : j / 40 = q) (hr : j % 40 = r) (to : Int) (hto : (if j < 40 then p.t0 else p.t1) = to) (g : Nat) (w : World) (hg : w.heap[g]? = some (.cells (partC p) 179 (0, 0))) :
    Calls Tryz.prog 114 #[.pointer (some ⟨g, 0, none⟩)] w fun e w' => e = .returned (.agg (accC p.who 2 (16 + 40 * to + (r : Int)) (N (p.ws j)))) ∧ Ch [] w w' := by
  have hr0 : 0 ≤ to ∧ to < 128 := by rw [← hto]; split; exact ⟨R.a0, R.a1⟩; exact ⟨R.b0, R.b1⟩
  have T1 := fun w hg => s22Store_any p g to (r : Int) (p.ws j) hr0.1 hr0.2 (by omega) (by omega) w hg
  have e2 : (partC p)[3 + q]? = some (I to) := by
    by_cases h : j < 40
    · rw [show q = 0 by omega, zcw, ← hto, if_pos h]
    · rw [show q = 1 by omega, zcv, ← hto, if_neg h]
  have e3 : (partC p)[43 + q * 40 + r]? = some (U (p.ws j)) := by rw [show 43 + q * 40 + r = 43 + j by omega]; exact part_gw p j hj
  have d1 : (j : Int) / 40 = (q : Int) := by omega
  have d2 : (j : Int) % 40 = (r : Int) := by omega
  have d3 : IntKind.i64.wrap (q : Int) = (q : Int) := by rw [IntKind.wrap_i64]; omega
  have d4 : (j : Int).tdiv 40 = (q : Int) := by rw [Int.tdiv_eq_ediv_of_nonneg (by omega)]; exact d1
  have d5 : (j : Int).tmod 40 = (r : Int) := by rw [Int.tmod_eq_emod_of_nonneg (by omega)]; exact d2
  have q0 : (0 : Int) ≤ q := by omega
  have q1 : (q : Int) < 2 := by omega
  have r0 : (0 : Int) ≤ r := by omega
  have r1 : (r : Int) < 40 := by omega
  have j0 : (0 : Int) ≤ j := by omega
  obtain ⟨wh, hwh⟩ : ∃ x, p.who = x := ⟨_, rfl⟩
  obtain ⟨nw, hnw⟩ : ∃ x, p.ws j = x := ⟨_, rfl⟩
  obtain ⟨A0, hA0⟩ : ∃ x, (16 : Int) + 40 * to + (r : Int) = x := ⟨_, rfl⟩
  rw [hA0, hwh, hnw] at T1 ⊢
  rw [hnw] at e3
  clear hA0 hwh hnw hto hr0 R hq hr
  have C0 : Ch [] w (w.alloc (.cells (accC 0 0 0 0) 87)) := (Ch.refl [] w).alloc _
  have z0 : (w.alloc (.cells (accC 0 0 0 0) 87)).heap[w.heap.size]? = some (.cells (accC 0 0 0 0) 87 (0, 0)) := by rw [zae, if_pos rfl]
  have g0 := hkeep C0 hg
  have hgn : ¬ g = w.heap.size := by have := (Array.getElem?_eq_some_iff.1 hg).1; omega
  clear hg
  go_enter Tryz.func114, Tryz.ntmps114
  go_upto_region 1 with (fail)
  obtain ⟨w0, hw0⟩ : ∃ W, w.alloc (.cells (accC 0 0 0 0) 87) = W := ⟨_, rfl⟩
  rw [hw0] at C0 z0 g0 ⊢
  clear hw0
  obtain ⟨B, hB⟩ : ∃ b, w.heap.size = b := ⟨_, rfl⟩
  rw [hB] at z0 hgn ⊢
  have hBw : w.heap.size ≤ B := by omega
  clear hB
  go_upto_region 13 with (fail)
  have s1 : (fun W' : World => W'.heap[g]? = some (.cells (partC p) 179 (0, 0))) w0.drew := g0
  have z1 : w0.drew.heap[B]? = some (.cells (accC 0 0 0 0) 87 (0, 0)) := z0
  have C1 : Ch [] w w0.drew := C0.drew
  refine wp_region_held_drew (S := fun W' => W'.heap[g]? = some (.cells (partC p) 179 (0, 0))) (by kernel_rfl) s1 ?_
  intro _
  simp only [List.size_toArray, List.length_cons, List.length_nil, Nat.reduceAdd]
  clear z0 g0 C0
  generalize w0.drew = w1 at *
  refine tk 0 61 ?_ rfl s1 ?_ ?_; rotate_left
  · intro _ _; go_simp; try with_reducible rfl
  try go_frame
  refine tk 1 62 ?_ rfl s1 ?_ ?_; rotate_left
  · intro _ _; go_simp; try with_reducible rfl
  try go_frame
  refine tk 2 63 ?_ rfl s1 ?_ ?_; rotate_left
  · intro _ _; go_simp; try with_reducible rfl
  try go_frame
  refine tk 3 64 ?_ rfl s1 ?_ ?_; rotate_left
  · intro _ _; go_simp; try with_reducible rfl
  try go_frame
  refine tk 4 65 ?_ rfl s1 ?_ ?_; rotate_left
  · intro _ _; go_simp; try with_reducible rfl
  try go_frame
  refine tk 5 66 ?_ rfl s1 ?_ ?_; rotate_left
  · intro _ _; go_simp; try with_reducible rfl
  try go_frame
  refine tk 6 67 ?_ rfl s1 ?_ ?_; rotate_left
  · intro _ _; go_simp; try with_reducible rfl
  try go_frame
  refine tk 7 68 ?_ rfl s1 ?_ ?_; rotate_left
  · intro _ _; go_simp; try with_reducible rfl
  try go_frame
  refine tk 8 69 ?_ rfl s1 ?_ ?_; rotate_left
  · intro _ _; go_simp; try with_reducible rfl
  try go_frame
  refine tk 9 70 ?_ rfl s1 ?_ ?_; rotate_left
  · intro _ _; go_simp; try with_reducible rfl
  try go_frame
  refine tk 10 71 ?_ rfl s1 ?_ ?_; rotate_left
  · intro _ _; go_simp; try with_reducible rfl
  try go_frame
  refine tk 11 72 ?_ rfl s1 ?_ ?_; rotate_left
  · intro _ _; go_simp; try with_reducible rfl
  try go_frame
  refine tk 12 3 ?_ rfl s1 ?_ ?_; rotate_left
  · intro _ _; go_simp; try with_reducible rfl
  try go_frame
  refine tk 13 4 ?_ rfl s1 ?_ ?_; rotate_left
  · intro _ _; go_simp; try with_reducible rfl
  try go_frame
  refine wpAnyH_done (by kernel_rfl) ?_ _
  go_upto_region 14 with (fail)
  have s2 : (fun W' : World => W'.heap[g]? = some (.cells (partC p) 179 (0, 0))) w1.drew := s1
  have z2 : w1.drew.heap[B]? = some (.cells (accC 0 0 0 0) 87 (0, 0)) := z1
  have C2 : Ch [] w w1.drew := C1.drew
  refine wp_region_held_drew (S := fun W' => W'.heap[g]? = some (.cells (partC p) 179 (0, 0))) (by kernel_rfl) s2 ?_
  intro _
  simp only [List.size_toArray, List.length_cons, List.length_nil, Nat.reduceAdd]
  clear z1 s1 C1
  generalize w1.drew = w4 at *
  refine tk 0 73 ?_ rfl s2 ?_ ?_; rotate_left
  · intro _ _; go_simp; try with_reducible rfl
  try go_frame
  refine tk 1 74 ?_ rfl s2 ?_ ?_; rotate_left
  · intro _ _; go_simp; try with_reducible rfl
  try go_frame
  refine tk 2 75 ?_ rfl s2 ?_ ?_; rotate_left
  · intro _ _; go_simp; try with_reducible rfl
  try go_frame
  refine tk 3 76 ?_ rfl s2 ?_ ?_; rotate_left
  · intro _ _; go_simp; try with_reducible rfl
  try go_frame
  refine tk 4 77 ?_ rfl s2 ?_ ?_; rotate_left
  · intro _ _; go_simp; try with_reducible rfl
  try go_frame
  refine tk 5 78 ?_ rfl s2 ?_ ?_; rotate_left
  · intro _ _; go_simp; try with_reducible rfl
  try go_frame
  refine tk 6 79 ?_ rfl s2 ?_ ?_; rotate_left
  · intro _ _; go_simp; try with_reducible rfl
  try go_frame
  refine tk 7 80 ?_ rfl s2 ?_ ?_; rotate_left
  · intro _ _; go_simp; try with_reducible rfl
  try go_frame
  refine tk 8 81 ?_ rfl s2 ?_ ?_; rotate_left
  · intro _ _; go_simp; try with_reducible rfl
  try go_frame
  refine tk 9 82 ?_ rfl s2 ?_ ?_; rotate_left
  · intro _ _; go_simp; try with_reducible rfl
  try go_frame
  refine tk 10 83 ?_ rfl s2 ?_ ?_; rotate_left
  · intro _ _; go_simp; try with_reducible rfl
  try go_frame
  refine tk 11 84 ?_ rfl s2 ?_ ?_; rotate_left
  · intro _ _; go_simp; try with_reducible rfl
  try go_frame
  refine tk 12 85 ?_ rfl s2 ?_ ?_; rotate_left
  · intro _ _; go_simp; try with_reducible rfl
  try go_frame
  refine tk 13 86 ?_ rfl s2 ?_ ?_; rotate_left
  · intro _ _; go_simp; try with_reducible rfl
  try go_frame
  refine tk 14 87 ?_ rfl s2 ?_ ?_; rotate_left
  · intro _ _; go_simp; try with_reducible rfl
  try go_frame
  refine tk 15 88 ?_ rfl s2 ?_ ?_; rotate_left
  · intro _ _; go_simp; try with_reducible rfl
  try go_frame
  refine tk 16 89 ?_ rfl s2 ?_ ?_; rotate_left
  · intro _ _; go_simp; try with_reducible rfl
  try go_frame
  refine tk 17 90 ?_ rfl s2 ?_ ?_; rotate_left
  · intro _ _; go_simp; try with_reducible rfl
  try go_frame
  refine rd 18 rfl (fun K hK => ?_); go_simp
  refine (T1 _ s2).mono ?_
  rintro e w5 ⟨rfl, hc5⟩
  have s5 := hkeep hc5 s2
  have z5 := hkeep hc5 z2
  have C5 := C2.trans hc5
  refine hK.out _ _ s5 (fun _ => ?_)
  clear hK K s2 z2 C2 hc5 T1
  refine rd 19 rfl (fun K hK => ?_); go_simp
  have s3 : (World.onObj w5 B (laidAt 0 (accC wh 2 A0 (N nw)))).heap[g]? = some (.cells (partC p) 179 (0, 0)) := by rw [zab, if_neg hgn]; exact s5
  have z3 : (World.onObj w5 B (laidAt 0 (accC wh 2 A0 (N nw)))).heap[B]? = some (.cells (accC wh 2 A0 (N nw)) 87 (0, 0)) := by rw [zab, if_pos rfl, z5, Option.map_some, zah]
  have C3 : Ch [] w (World.onObj w5 B (laidAt 0 (accC wh 2 A0 (N nw)))) := C5.onObj (.inr hBw) _
  refine hK.out _ _ s3 (fun _ => ?_)
  clear hK K s5 z5 C5 s3
  generalize World.onObj w5 B (laidAt 0 (accC wh 2 A0 (N nw))) = w3 at *
  refine wpAnyH_done (by kernel_rfl) ?_ _
  go_wp2
  exact bodyPost_ret (acc_result Tryz.results114 _ B _ wh 2 A0 (N nw) rfl z3) rfl ⟨rfl, C3⟩
end
end Go.Proofs.Hc
