/- Package split: ctrl, value (printed by gen_ctrl22.py). -/
import Derived.Test.YtcikopeddljgkaaGreatJPt
import Derived.Test.YtcikopeddljgkaaGreatJ0
set_option linter.unusedSimpArgs false
set_option linter.unusedVariables false
set_option maxHeartbeats 1000000
set_option maxRecDepth 100000
namespace Go.Proofs.Hc
open Go.RowKit
attribute [local go_sem] zbu zcc zax zbf zbo zbd zbn zbp zbw signed64 signed8 zap BitVec.ofInt_add BitVec.ofInt_mul ofInt_sub' zbb zbc wide8 eqN neN zca shr1 shr7 shr56
attribute [local go_sem high] zbe zbv
attribute [local go_sem] zaw zby zaj zas zaf zaz zar zak zbm zal zay zba
attribute [local go_sem] load26 load73 load23 store26 build73
attribute [local go_sem ↓] lrow26 lrow73 lrow23 srow26 zero26 brow73 zae zbk zbg zaa zab
attribute [local go_sem] zai zav zat zbj zbl zbr zaq zau zbs zbi zbh
attribute [local go_sem] nn2 nm2 nn3 nm3 nn4 nm4 nn5 nm5 nn6 nm6 nn7 nm7 nn8 nm8
section
attribute [local go_sem] zap zbq
attribute [local go_sem] Oper.semAt_some zao
attribute [local go_sem] zcj pacell0 pacell1 pacell2 pacell3 pacell4 pacell5 pacell6 pacell7 pacell42
attribute [local go_sem] zcs zcx zcp zcw zcv zdg zcu zdf zce zcr zdj zdc zch zbt zci zck boxPart loadPart storePart zcf zct buildPart0 buildPart4
attribute [local go_sem ↓] lrowPart srowPart browPart zcl zbz
attribute [local go_sem high] zag
attribute [local irreducible] partC
theorem s22ctrl_any (p : PartT) (g : Nat) (x : BitVec 64) (a0 : 0 ≤ p.at_) (a1 : p.at_ < 2) (w : World) (hg : w.heap[g]? = some (.cells (partC p) 179 (0, 0))) :
    Calls Tryz.prog 175 #[.pointer (some ⟨g, 0, none⟩), U x] w fun e w' => e = .returned (.tuple #[]) ∧ w'.heap[g]? = some (.cells (partC (if p.at_ = 1 then onS { p with c := updW p.c 1 x, at_ := 2 } 0 else { p with c := updW p.c 0 x, at_ := 1 })) 179 (0, 0)) ∧ Ch [g] w w' := by
  obtain ⟨ph, who, sl, t0, t1, seed, cn, hd, c, k, v, at_, ws⟩ := p
  dsimp only at a0 a1 ⊢
  rcases (show at_ = 0 ∨ at_ = 1 by omega) with rfl | rfl
  · rw [if_neg (by decide)]
    have HN : (partC ⟨ph, who, sl, t0, t1, seed, cn, hd, c, k, v, 0, ws⟩).setIfInBounds (8) (U x) = partC ⟨ph, who, sl, t0, t1, seed, cn, hd, updW c 0 x, k, v, 0, ws⟩ := part_sc ⟨ph, who, sl, t0, t1, seed, cn, hd, c, k, v, 0, ws⟩ 0 (by omega) x
    obtain ⟨o, ho⟩ : ∃ o, (partC ⟨ph, who, sl, t0, t1, seed, cn, hd, c, k, v, 0, ws⟩)[8]? = some o := ⟨_, part_gc ⟨ph, who, sl, t0, t1, seed, cn, hd, c, k, v, 0, ws⟩ 0 (by omega)⟩
    have e42 := zce ⟨ph, who, sl, t0, t1, seed, cn, hd, c, k, v, 0, ws⟩
    have f42 := zce ⟨ph, who, sl, t0, t1, seed, cn, hd, updW c 0 x, k, v, 0, ws⟩
    dsimp only at e42 f42
    have H2 := zch ⟨ph, who, sl, t0, t1, seed, cn, hd, updW c 0 x, k, v, 0, ws⟩ 1
    dsimp only at H2
    obtain ⟨c0, hc0⟩ : ∃ c0, partC ⟨ph, who, sl, t0, t1, seed, cn, hd, c, k, v, 0, ws⟩ = c0 := ⟨_, rfl⟩
    obtain ⟨c1, hc1⟩ : ∃ c1, partC ⟨ph, who, sl, t0, t1, seed, cn, hd, updW c 0 x, k, v, 0, ws⟩ = c1 := ⟨_, rfl⟩
    obtain ⟨c2, hc2⟩ : ∃ c2, partC ⟨ph, who, sl, t0, t1, seed, cn, hd, updW c 0 x, k, v, 1, ws⟩ = c2 := ⟨_, rfl⟩
    rw [hc0] at HN ho e42 hg
    rw [hc1] at HN f42 H2
    rw [hc2] at H2 ⊢
    have h42 : c2[42]? = some (I 1) := by rw [← hc2]; exact zce ⟨ph, who, sl, t0, t1, seed, cn, hd, updW c 0 x, k, v, 1, ws⟩
    clear hc0 hc1 hc2
    go_enter Tryz.func175, Tryz.ntmps175
    go_upto_region 0 with (fail)
    have s1 : (fun W' => ∃ cs, W'.heap[g]? = some (.cells cs 179 (0, 0)) ∧ cs[42]? = some (I 0)) w.drew := ⟨c0, hg, e42⟩
    have g1 : w.drew.heap[g]? = some (.cells c0 179 (0, 0)) := hg
    have C1 : Ch [g] w w.drew := (Ch.refl [g] w).drew
    refine wp_region_held_drew (S := fun W' => ∃ cs, W'.heap[g]? = some (.cells cs 179 (0, 0)) ∧ cs[42]? = some (I 0)) (by kernel_rfl) s1 ?_
    intro _
    simp only [List.size_toArray, List.length_cons, List.length_nil, Nat.reduceAdd]
    obtain ⟨w1, hw1⟩ : ∃ W, w.drew = W := ⟨_, rfl⟩
    rw [hw1] at s1 g1 C1 ⊢
    clear hw1 hg
    refine tk 0 4 ?_ rfl s1 ?_ ?_; rotate_left
    · intro wq hSq; obtain ⟨cs, q1, q2⟩ := hSq; go_simp; try with_reducible rfl
    try go_frame
    refine tk 1 5 ?_ rfl s1 ?_ ?_; rotate_left
    · intro wq hSq; obtain ⟨cs, q1, q2⟩ := hSq; go_simp; try with_reducible rfl
    try go_frame
    refine tk 2 6 ?_ rfl s1 ?_ ?_; rotate_left
    · intro wq hSq; obtain ⟨cs, q1, q2⟩ := hSq; go_simp; try with_reducible rfl
    try go_frame
    refine tk 3 7 ?_ rfl s1 ?_ ?_; rotate_left
    · intro wq hSq; obtain ⟨cs, q1, q2⟩ := hSq; go_simp; try with_reducible rfl
    try go_frame
    refine tk 4 8 ?_ rfl s1 ?_ ?_; rotate_left
    · intro wq hSq; obtain ⟨cs, q1, q2⟩ := hSq; go_simp; try with_reducible rfl
    try go_frame
    refine tk 5 9 ?_ rfl s1 ?_ ?_; rotate_left
    · intro wq hSq; obtain ⟨cs, q1, q2⟩ := hSq; go_simp; try with_reducible rfl
    try go_frame
    refine tk 6 10 ?_ rfl s1 ?_ ?_; rotate_left
    · intro wq hSq; obtain ⟨cs, q1, q2⟩ := hSq; go_simp; try with_reducible rfl
    try go_frame
    refine tk 7 11 ?_ rfl s1 ?_ ?_; rotate_left
    · intro wq hSq; obtain ⟨cs, q1, q2⟩ := hSq; go_simp; try with_reducible rfl
    try go_frame
    refine tk 8 12 ?_ rfl s1 ?_ ?_; rotate_left
    · intro wq hSq; obtain ⟨cs, q1, q2⟩ := hSq; go_simp; try with_reducible rfl
    try go_frame
    refine tk 9 13 ?_ rfl s1 ?_ ?_; rotate_left
    · intro wq hSq; obtain ⟨cs, q1, q2⟩ := hSq; go_simp; try with_reducible rfl
    try go_frame
    refine tk 10 14 ?_ rfl s1 ?_ ?_; rotate_left
    · intro wq hSq; obtain ⟨cs, q1, q2⟩ := hSq; go_simp; try with_reducible rfl
    try go_frame
    refine rd 11 rfl (fun K hK => ?_); go_simp
    have g2 : (w1.setCell ⟨g, 8, none⟩ (U x)).heap[g]? = some (.cells c1 179 (0, 0)) := by rw [zaa, if_pos rfl, g1, Option.map_some, zaf, HN]
    have C2 : Ch [g] w (w1.setCell ⟨g, 8, none⟩ (U x)) := C1.setCell (p := ⟨g, 8, none⟩) (.inl (by simp)) _
    have s2 : (fun W' => ∃ cs, W'.heap[g]? = some (.cells cs 179 (0, 0)) ∧ cs[42]? = some (I 0)) (w1.setCell ⟨g, 8, none⟩ (U x)) := ⟨c1, g2, f42⟩
    refine hK.out _ _ s2 (fun _ => ?_)
    clear hK K s1 g1 C1 s2
    generalize w1.setCell ⟨g, 8, none⟩ (U x) = w2 at *
    refine wpAnyH_done (by kernel_rfl) ?_ _
    go_wp2
    go_end0
    exact ⟨rfl, by rw [zaa, if_pos rfl, g2, Option.map_some, zaf, H2], C2.setCell (p := ⟨g, 42, none⟩) (.inl (by simp)) _⟩
  · rw [if_pos rfl]
    have HN : (partC ⟨ph, who, sl, t0, t1, seed, cn, hd, c, k, v, 1, ws⟩).setIfInBounds (9) (U x) = partC ⟨ph, who, sl, t0, t1, seed, cn, hd, updW c 1 x, k, v, 1, ws⟩ := part_sc ⟨ph, who, sl, t0, t1, seed, cn, hd, c, k, v, 1, ws⟩ 1 (by omega) x
    obtain ⟨o, ho⟩ : ∃ o, (partC ⟨ph, who, sl, t0, t1, seed, cn, hd, c, k, v, 1, ws⟩)[9]? = some o := ⟨_, part_gc ⟨ph, who, sl, t0, t1, seed, cn, hd, c, k, v, 1, ws⟩ 1 (by omega)⟩
    have e42 := zce ⟨ph, who, sl, t0, t1, seed, cn, hd, c, k, v, 1, ws⟩
    have f42 := zce ⟨ph, who, sl, t0, t1, seed, cn, hd, updW c 1 x, k, v, 1, ws⟩
    dsimp only at e42 f42
    have H2 := zch ⟨ph, who, sl, t0, t1, seed, cn, hd, updW c 1 x, k, v, 1, ws⟩ 2
    dsimp only at H2
    have O1 := fun w hg => s22on_any ⟨ph, who, sl, t0, t1, seed, cn, hd, updW c 1 x, k, v, 2, ws⟩ 0 (by omega) g w hg
    obtain ⟨q, hq⟩ : ∃ q, onS ⟨ph, who, sl, t0, t1, seed, cn, hd, updW c 1 x, k, v, 2, ws⟩ 0 = q := ⟨_, rfl⟩
    rw [hq] at O1 ⊢
    clear hq
    obtain ⟨c0, hc0⟩ : ∃ c0, partC ⟨ph, who, sl, t0, t1, seed, cn, hd, c, k, v, 1, ws⟩ = c0 := ⟨_, rfl⟩
    obtain ⟨c1, hc1⟩ : ∃ c1, partC ⟨ph, who, sl, t0, t1, seed, cn, hd, updW c 1 x, k, v, 1, ws⟩ = c1 := ⟨_, rfl⟩
    obtain ⟨c2, hc2⟩ : ∃ c2, partC ⟨ph, who, sl, t0, t1, seed, cn, hd, updW c 1 x, k, v, 2, ws⟩ = c2 := ⟨_, rfl⟩
    rw [hc0] at HN ho e42 hg
    rw [hc1] at HN f42 H2
    rw [hc2] at H2 O1
    have h42 : c2[42]? = some (I 2) := by rw [← hc2]; exact zce ⟨ph, who, sl, t0, t1, seed, cn, hd, updW c 1 x, k, v, 2, ws⟩
    clear hc0 hc1 hc2
    go_enter Tryz.func175, Tryz.ntmps175
    go_upto_region 0 with (fail)
    have s1 : (fun W' => ∃ cs, W'.heap[g]? = some (.cells cs 179 (0, 0)) ∧ cs[42]? = some (I 1)) w.drew := ⟨c0, hg, e42⟩
    have g1 : w.drew.heap[g]? = some (.cells c0 179 (0, 0)) := hg
    have C1 : Ch [g] w w.drew := (Ch.refl [g] w).drew
    refine wp_region_held_drew (S := fun W' => ∃ cs, W'.heap[g]? = some (.cells cs 179 (0, 0)) ∧ cs[42]? = some (I 1)) (by kernel_rfl) s1 ?_
    intro _
    simp only [List.size_toArray, List.length_cons, List.length_nil, Nat.reduceAdd]
    obtain ⟨w1, hw1⟩ : ∃ W, w.drew = W := ⟨_, rfl⟩
    rw [hw1] at s1 g1 C1 ⊢
    clear hw1 hg
    refine tk 0 4 ?_ rfl s1 ?_ ?_; rotate_left
    · intro wq hSq; obtain ⟨cs, q1, q2⟩ := hSq; go_simp; try with_reducible rfl
    try go_frame
    refine tk 1 5 ?_ rfl s1 ?_ ?_; rotate_left
    · intro wq hSq; obtain ⟨cs, q1, q2⟩ := hSq; go_simp; try with_reducible rfl
    try go_frame
    refine tk 2 6 ?_ rfl s1 ?_ ?_; rotate_left
    · intro wq hSq; obtain ⟨cs, q1, q2⟩ := hSq; go_simp; try with_reducible rfl
    try go_frame
    refine tk 3 7 ?_ rfl s1 ?_ ?_; rotate_left
    · intro wq hSq; obtain ⟨cs, q1, q2⟩ := hSq; go_simp; try with_reducible rfl
    try go_frame
    refine tk 4 8 ?_ rfl s1 ?_ ?_; rotate_left
    · intro wq hSq; obtain ⟨cs, q1, q2⟩ := hSq; go_simp; try with_reducible rfl
    try go_frame
    refine tk 5 9 ?_ rfl s1 ?_ ?_; rotate_left
    · intro wq hSq; obtain ⟨cs, q1, q2⟩ := hSq; go_simp; try with_reducible rfl
    try go_frame
    refine tk 6 10 ?_ rfl s1 ?_ ?_; rotate_left
    · intro wq hSq; obtain ⟨cs, q1, q2⟩ := hSq; go_simp; try with_reducible rfl
    try go_frame
    refine tk 7 11 ?_ rfl s1 ?_ ?_; rotate_left
    · intro wq hSq; obtain ⟨cs, q1, q2⟩ := hSq; go_simp; try with_reducible rfl
    try go_frame
    refine tk 8 12 ?_ rfl s1 ?_ ?_; rotate_left
    · intro wq hSq; obtain ⟨cs, q1, q2⟩ := hSq; go_simp; try with_reducible rfl
    try go_frame
    refine tk 9 13 ?_ rfl s1 ?_ ?_; rotate_left
    · intro wq hSq; obtain ⟨cs, q1, q2⟩ := hSq; go_simp; try with_reducible rfl
    try go_frame
    refine tk 10 14 ?_ rfl s1 ?_ ?_; rotate_left
    · intro wq hSq; obtain ⟨cs, q1, q2⟩ := hSq; go_simp; try with_reducible rfl
    try go_frame
    refine rd 11 rfl (fun K hK => ?_); go_simp
    have g2 : (w1.setCell ⟨g, 9, none⟩ (U x)).heap[g]? = some (.cells c1 179 (0, 0)) := by rw [zaa, if_pos rfl, g1, Option.map_some, zaf, HN]
    have C2 : Ch [g] w (w1.setCell ⟨g, 9, none⟩ (U x)) := C1.setCell (p := ⟨g, 9, none⟩) (.inl (by simp)) _
    have s2 : (fun W' => ∃ cs, W'.heap[g]? = some (.cells cs 179 (0, 0)) ∧ cs[42]? = some (I 1)) (w1.setCell ⟨g, 9, none⟩ (U x)) := ⟨c1, g2, f42⟩
    refine hK.out _ _ s2 (fun _ => ?_)
    clear hK K s1 g1 C1 s2
    generalize w1.setCell ⟨g, 9, none⟩ (U x) = w2 at *
    refine wpAnyH_done (by kernel_rfl) ?_ _
    go_upto_region 2 with (fail)
    have g3 : (w2.setCell ⟨g, 42, none⟩ (I 2)).heap[g]? = some (.cells c2 179 (0, 0)) := by rw [zaa, if_pos rfl, g2, Option.map_some, zaf, H2]
    have C3 : Ch [g] w (w2.setCell ⟨g, 42, none⟩ (I 2)) := C2.setCell (p := ⟨g, 42, none⟩) (.inl (by simp)) _
    obtain ⟨w3, hw3⟩ : ∃ W, w2.setCell ⟨g, 42, none⟩ (I 2) = W := ⟨_, rfl⟩
    first | rw [hw3] at g3 C3 ⊢ | (trace_state; fail)
    clear hw3 g2 C2
    go_wp2_with fail
    refine (O1 _ g3).mono ?_
    rintro e w4 ⟨rfl, g4, hc4⟩
    go_wp2
    go_end0
    exact ⟨rfl, g4, C3.trans hc4⟩
theorem s22value_any (p : PartT) (g j : Nat) (x : BitVec 64) (ha : p.at_ = (j : Int)) (hj : j < 16) (w : World) (hg : w.heap[g]? = some (.cells (partC p) 179 (0, 0))) :
    Calls Tryz.prog 177 #[.pointer (some ⟨g, 0, none⟩), U x] w fun e w' => e = .returned (.tuple #[]) ∧ w'.heap[g]? = some (.cells (partC (onS { p with v := updW p.v j x } (j + 1))) 179 (0, 0)) ∧ Ch [g] w w' := by
  obtain ⟨ph, who, sl, t0, t1, seed, cn, hd, c, k, v, at_, ws⟩ := p
  dsimp only at ha ⊢
  subst ha
  have HN : (partC ⟨ph, who, sl, t0, t1, seed, cn, hd, c, k, v, (j : Int), ws⟩).setIfInBounds (26 + j) (U x) = partC ⟨ph, who, sl, t0, t1, seed, cn, hd, c, k, updW v j x, (j : Int), ws⟩ := part_sv ⟨ph, who, sl, t0, t1, seed, cn, hd, c, k, v, (j : Int), ws⟩ j hj x
  obtain ⟨o, ho⟩ : ∃ o, (partC ⟨ph, who, sl, t0, t1, seed, cn, hd, c, k, v, (j : Int), ws⟩)[26 + j]? = some o := ⟨_, part_gv ⟨ph, who, sl, t0, t1, seed, cn, hd, c, k, v, (j : Int), ws⟩ j hj⟩
  have e42 := zce ⟨ph, who, sl, t0, t1, seed, cn, hd, c, k, v, (j : Int), ws⟩
  have f42 := zce ⟨ph, who, sl, t0, t1, seed, cn, hd, c, k, updW v j x, (j : Int), ws⟩
  dsimp only at e42 f42
  have O1 := fun w hg => s22on_any ⟨ph, who, sl, t0, t1, seed, cn, hd, c, k, updW v j x, (j : Int), ws⟩ (j + 1) (by omega) g w hg
  obtain ⟨q, hq⟩ : ∃ q, onS ⟨ph, who, sl, t0, t1, seed, cn, hd, c, k, updW v j x, (j : Int), ws⟩ (j + 1) = q := ⟨_, rfl⟩
  rw [hq] at O1 ⊢
  clear hq
  obtain ⟨c0, hc0⟩ : ∃ c0, partC ⟨ph, who, sl, t0, t1, seed, cn, hd, c, k, v, (j : Int), ws⟩ = c0 := ⟨_, rfl⟩
  obtain ⟨c1, hc1⟩ : ∃ c1, partC ⟨ph, who, sl, t0, t1, seed, cn, hd, c, k, updW v j x, (j : Int), ws⟩ = c1 := ⟨_, rfl⟩
  rw [hc0] at HN ho e42 hg
  rw [hc1] at HN f42 O1
  clear hc0 hc1
  have hjI : (j : Int) < 16 := by omega
  have hj0 : (0 : Int) ≤ j := by omega
  have hw1 : IntKind.i64.wrap ((j : Int) + 1) = ((j + 1 : Nat) : Int) := by rw [IntKind.wrap_i64]; omega
  go_enter Tryz.func177, Tryz.ntmps177
  go_upto_region 0 with (fail)
  have s1 : (fun W' => ∃ cs, W'.heap[g]? = some (.cells cs 179 (0, 0)) ∧ cs[42]? = some (I (j : Int))) w.drew := ⟨c0, hg, e42⟩
  have g1 : w.drew.heap[g]? = some (.cells c0 179 (0, 0)) := hg
  have C1 : Ch [g] w w.drew := (Ch.refl [g] w).drew
  refine wp_region_held_drew (S := fun W' => ∃ cs, W'.heap[g]? = some (.cells cs 179 (0, 0)) ∧ cs[42]? = some (I (j : Int))) (by kernel_rfl) s1 ?_
  intro _
  simp only [List.size_toArray, List.length_cons, List.length_nil, Nat.reduceAdd]
  obtain ⟨w1, hw1⟩ : ∃ W, w.drew = W := ⟨_, rfl⟩
  rw [hw1] at s1 g1 C1 ⊢
  clear hw1 hg
  refine tk 0 4 ?_ rfl s1 ?_ ?_; rotate_left
  · intro wq hSq; obtain ⟨cs, q1, q2⟩ := hSq; go_simp; try with_reducible rfl
  try go_frame
  refine tk 1 5 ?_ rfl s1 ?_ ?_; rotate_left
  · intro wq hSq; obtain ⟨cs, q1, q2⟩ := hSq; go_simp; try with_reducible rfl
  try go_frame
  refine tk 2 6 ?_ rfl s1 ?_ ?_; rotate_left
  · intro wq hSq; obtain ⟨cs, q1, q2⟩ := hSq; go_simp; try with_reducible rfl
  try go_frame
  refine tk 3 7 ?_ rfl s1 ?_ ?_; rotate_left
  · intro wq hSq; obtain ⟨cs, q1, q2⟩ := hSq; go_simp; try with_reducible rfl
  try go_frame
  refine tk 4 8 ?_ rfl s1 ?_ ?_; rotate_left
  · intro wq hSq; obtain ⟨cs, q1, q2⟩ := hSq; go_simp; try with_reducible rfl
  try go_frame
  refine tk 5 9 ?_ rfl s1 ?_ ?_; rotate_left
  · intro wq hSq; obtain ⟨cs, q1, q2⟩ := hSq; go_simp; try with_reducible rfl
  try go_frame
  refine tk 6 10 ?_ rfl s1 ?_ ?_; rotate_left
  · intro wq hSq; obtain ⟨cs, q1, q2⟩ := hSq; go_simp; try with_reducible rfl
  try go_frame
  refine tk 7 11 ?_ rfl s1 ?_ ?_; rotate_left
  · intro wq hSq; obtain ⟨cs, q1, q2⟩ := hSq; go_simp; try with_reducible rfl
  try go_frame
  refine tk 8 12 ?_ rfl s1 ?_ ?_; rotate_left
  · intro wq hSq; obtain ⟨cs, q1, q2⟩ := hSq; go_simp; try with_reducible rfl
  try go_frame
  refine tk 9 13 ?_ rfl s1 ?_ ?_; rotate_left
  · intro wq hSq; obtain ⟨cs, q1, q2⟩ := hSq; go_simp; try with_reducible rfl
  try go_frame
  refine tk 10 14 ?_ rfl s1 ?_ ?_; rotate_left
  · intro wq hSq; obtain ⟨cs, q1, q2⟩ := hSq; go_simp; try with_reducible rfl
  try go_frame
  refine rd 11 rfl (fun K hK => ?_); go_simp
  have g2 : (w1.setCell ⟨g, 26 + j, none⟩ (U x)).heap[g]? = some (.cells c1 179 (0, 0)) := by rw [zaa, if_pos rfl, g1, Option.map_some, zaf, HN]
  have C2 : Ch [g] w (w1.setCell ⟨g, 26 + j, none⟩ (U x)) := C1.setCell (p := ⟨g, 26 + j, none⟩) (.inl (by simp)) _
  have s2 : (fun W' => ∃ cs, W'.heap[g]? = some (.cells cs 179 (0, 0)) ∧ cs[42]? = some (I (j : Int))) (w1.setCell ⟨g, 26 + j, none⟩ (U x)) := ⟨c1, g2, f42⟩
  refine hK.out _ _ s2 (fun _ => ?_)
  clear hK K s1 g1 C1 s2
  generalize w1.setCell ⟨g, 26 + j, none⟩ (U x) = w2 at *
  refine wpAnyH_done (by kernel_rfl) ?_ _
  go_wp2_with fail
  refine (O1 _ g2).mono ?_
  rintro e w4 ⟨rfl, g4, hc4⟩
  go_wp2
  go_end0
  exact ⟨rfl, g4, C2.trans hc4⟩
end
end Go.Proofs.Hc
