/- Package split: parts, head, key. -/
import Derived.Test.YtcikopeddljgkaaGreatKPc
import Derived.Test.YtcikopeddljgkaaGreatK0
set_option linter.unusedSimpArgs false
set_option linter.unusedVariables false
set_option maxHeartbeats 1000000
set_option maxRecDepth 100000
namespace Go.Proofs.Hc
open Go.RowKit
attribute [local go_sem] zbr zby zau zba zbl zay zbk zbm zbu signed64 signed8 zas BitVec.ofInt_add BitVec.ofInt_mul ofInt_sub' zaw zax wide8 eqN neN zbx shr1 shr7 shr56
attribute [local go_sem high] zaz zbt
attribute [local go_sem] zan zbv zae zal zad zbd zao zag zbj zaj zbc zbe
attribute [local go_sem] load26 load73 load23 store26 build73
attribute [local go_sem ↓] lrow26 lrow73 lrow23 srow26 zero26 brow73 zab zav zbb zaa zac
attribute [local go_sem] zah zaq zat zbf zbg zbp zam zar zbq zbi zbh
attribute [local go_sem] nn2 nm2 nn3 nm3 nn4 nm4 nn5 nm5 nn6 nm6 nn7 nm7 nn8 nm8
section
attribute [local go_sem] zas zbo
attribute [local go_sem] Oper.semAt_some zak
attribute [local go_sem] zch pacell0 pacell1 pacell2 pacell3 pacell4 pacell5 pacell6 pacell7 pacell42
attribute [local go_sem] zcv zdi zde zcz zcy zdd zdh zdc zcc zcp zdj zdg zck zbn zcg zci boxPart loadPart storePart zcd zcs buildPart0 buildPart4
attribute [local go_sem ↓] lrowPart srowPart browPart zcj zbw
attribute [local go_sem high] zap
attribute [local irreducible] partC
theorem and255_lt (x : BitVec 64) : N (x &&& 255#64) < 256 := by
  unfold N
  have h := Nat.and_two_pow_sub_one_eq_mod x.toNat 8
  rw [BitVec.toNat_and, show (255#64 : BitVec 64).toNat = 2 ^ 8 - 1 from rfl, h]
  have := Nat.mod_lt x.toNat (show 0 < 2 ^ 8 by decide)
  have e : (2 : Nat) ^ 8 = 256 := rfl
  omega
theorem wrap255 (x : BitVec 64) : IntKind.i64.wrap (N (x &&& 255#64)) = N (x &&& 255#64) := by
  rw [IntKind.wrap_i64]
  have := and255_lt x
  have := N_nonneg (x &&& 255#64)
  omega
attribute [local go_sem] wrap255
theorem s22parts_any (p : PartT) (g : Nat) (w : World) (hg : w.heap[g]? = some (.cells (partC p) 179 (0, 0))) :
    Calls Tryz.prog 233 #[.pointer (some ⟨g, 0, none⟩)] w fun e w' => e = .returned (.tuple #[I (N (p.head &&& 255#64)), U (p.head >>> 8)]) ∧ Ch [] w w' := by
  go_enter Tryz.func233, Tryz.ntmps233
  go_upto_region 1 with (fail)
  have s1 : (fun W' : World => W'.heap[g]? = some (.cells (partC p) 179 (0, 0))) w.drew := hg
  have C1 : Ch [] w w.drew := (Ch.refl [] w).drew
  refine wp_region_held_drew (S := fun W' => W'.heap[g]? = some (.cells (partC p) 179 (0, 0))) (by kernel_rfl) s1 ?_
  intro _
  simp only [List.size_toArray, List.length_cons, List.length_nil, Nat.reduceAdd]
  obtain ⟨w1, hw1⟩ : ∃ W, w.drew = W := ⟨_, rfl⟩
  rw [hw1] at s1 C1 ⊢
  clear hw1 hg
  refine tk 0 4 ?_ rfl s1 ?_ ?_; rotate_left
  · intro _ _; go_simp; try with_reducible rfl
  try go_frame
  refine tk 1 5 ?_ rfl s1 ?_ ?_; rotate_left
  · intro _ _; go_simp; try with_reducible rfl
  try go_frame
  refine tk 2 6 ?_ rfl s1 ?_ ?_; rotate_left
  · intro _ _; go_simp; try with_reducible rfl
  try go_frame
  refine tk 3 7 ?_ rfl s1 ?_ ?_; rotate_left
  · intro _ _; go_simp; try with_reducible rfl
  try go_frame
  refine tk 4 8 ?_ rfl s1 ?_ ?_; rotate_left
  · intro _ _; go_simp; try with_reducible rfl
  try go_frame
  refine tk 5 9 ?_ rfl s1 ?_ ?_; rotate_left
  · intro _ _; go_simp; try with_reducible rfl
  try go_frame
  refine tk 6 10 ?_ rfl s1 ?_ ?_; rotate_left
  · intro _ _; go_simp; try with_reducible rfl
  try go_frame
  refine tk 7 11 ?_ rfl s1 ?_ ?_; rotate_left
  · intro _ _; go_simp; try with_reducible rfl
  try go_frame
  refine tk 8 12 ?_ rfl s1 ?_ ?_; rotate_left
  · intro _ _; go_simp; try with_reducible rfl
  try go_frame
  refine tk 9 13 ?_ rfl s1 ?_ ?_; rotate_left
  · intro _ _; go_simp; try with_reducible rfl
  try go_frame
  refine tk 10 14 ?_ rfl s1 ?_ ?_; rotate_left
  · intro _ _; go_simp; try with_reducible rfl
  try go_frame
  refine tk 11 15 ?_ rfl s1 ?_ ?_; rotate_left
  · intro _ _; go_simp; try with_reducible rfl
  try go_frame
  refine tk 12 16 ?_ rfl s1 ?_ ?_; rotate_left
  · intro _ _; go_simp; try with_reducible rfl
  try go_frame
  refine tk 13 2 ?_ rfl s1 ?_ ?_; rotate_left
  · intro _ _; go_simp; try with_reducible rfl
  try go_frame
  refine tk 14 3 ?_ rfl s1 ?_ ?_; rotate_left
  · intro _ _; go_simp; try with_reducible rfl
  try go_frame
  refine wpAnyH_done (by kernel_rfl) ?_ _
  go_wp2
  exact bodyPost_ret (by simp [results, Tryz.results233, go_sem]; exact shr8 _) rfl ⟨rfl, C1⟩
theorem s22key_any (p : PartT) (g j : Nat) (x : BitVec 64) (ha : p.at_ = (j : Int)) (hj : j < 16) (w : World) (hg : w.heap[g]? = some (.cells (partC p) 179 (0, 0))) :
    Calls Tryz.prog 176 #[.pointer (some ⟨g, 0, none⟩), U x] w fun e w' => e = .returned (.tuple #[]) ∧ w'.heap[g]? = some (.cells (partC { p with k := updW p.k j x, ph := 4 }) 179 (0, 0)) ∧ Ch [g] w w' := by
  obtain ⟨ph, who, sl, t0, t1, seed, cn, hd, c, k, v, at_, ws⟩ := p
  dsimp only at ha ⊢
  subst ha
  have HN := part_sk ⟨ph, who, sl, t0, t1, seed, cn, hd, c, k, v, (j : Int), ws⟩ j hj x
  have H0 := zcp ⟨ph, who, sl, t0, t1, seed, cn, hd, c, updW k j x, v, (j : Int), ws⟩ 4
  dsimp only at HN H0
  have e42 : (partC ⟨ph, who, sl, t0, t1, seed, cn, hd, c, k, v, (j : Int), ws⟩)[42]? = some (I (j : Int)) := zcc _
  obtain ⟨o1, ho1⟩ : ∃ y, (partC ⟨ph, who, sl, t0, t1, seed, cn, hd, c, k, v, (j : Int), ws⟩)[10 + j]? = some y := ⟨_, part_gk _ j hj⟩
  obtain ⟨o2, ho2⟩ : ∃ y, (partC ⟨ph, who, sl, t0, t1, seed, cn, hd, c, updW k j x, v, (j : Int), ws⟩)[0]? = some y := ⟨_, zcv _⟩
  obtain ⟨c0, hc0⟩ : ∃ z, partC ⟨ph, who, sl, t0, t1, seed, cn, hd, c, k, v, (j : Int), ws⟩ = z := ⟨_, rfl⟩
  obtain ⟨c1, hc1⟩ : ∃ z, partC ⟨ph, who, sl, t0, t1, seed, cn, hd, c, updW k j x, v, (j : Int), ws⟩ = z := ⟨_, rfl⟩
  obtain ⟨c2, hc2⟩ : ∃ z, partC ⟨4, who, sl, t0, t1, seed, cn, hd, c, updW k j x, v, (j : Int), ws⟩ = z := ⟨_, rfl⟩
  rw [hc0] at HN ho1 hg e42
  rw [hc1] at HN H0 ho2
  rw [hc2] at H0 ⊢
  clear hc0 hc1 hc2
  have hjI : (j : Int) < 16 := by omega
  have hj0 : (0 : Int) ≤ j := by omega
  go_enter Tryz.func176, Tryz.ntmps176
  have f1 : c1[42]? = some (I (j : Int)) := by rw [← HN, Array.getElem?_setIfInBounds, if_neg (by omega)]; exact e42
  have f2 : c2[42]? = some (I (j : Int)) := by rw [← H0, Array.getElem?_setIfInBounds, if_neg (by omega)]; exact f1
  have s1 : (fun W' => ∃ cs, W'.heap[g]? = some (.cells cs 179 (0, 0)) ∧ cs[42]? = some (I (j : Int))) w.drew := ⟨c0, hg, e42⟩
  have g1 : w.drew.heap[g]? = some (.cells c0 179 (0, 0)) := hg
  have C1 : Ch [g] w w.drew := (Ch.refl [g] w).drew
  refine wp_region_held_drew (S := fun W' => ∃ cs, W'.heap[g]? = some (.cells cs 179 (0, 0)) ∧ cs[42]? = some (I (j : Int))) (by kernel_rfl) s1 ?_
  intro _
  simp only [List.size_toArray, List.length_cons, List.length_nil, Nat.reduceAdd]
  obtain ⟨w1, hw1⟩ : ∃ W, w.drew = W := ⟨_, rfl⟩
  rw [hw1] at s1 g1 C1 ⊢
  clear hw1 hg
  refine tk 0 4 ?_ rfl s1 ?_ ?_; rotate_left
  · intro wq hSq; obtain ⟨cs, q1, q2⟩ := hSq; go_simp; try with_reducible rfl
  try go_frame
  refine tk 1 5 ?_ rfl s1 ?_ ?_; rotate_left
  · intro wq hSq; obtain ⟨cs, q1, q2⟩ := hSq; go_simp; try with_reducible rfl
  try go_frame
  refine tk 2 6 ?_ rfl s1 ?_ ?_; rotate_left
  · intro wq hSq; obtain ⟨cs, q1, q2⟩ := hSq; go_simp; try with_reducible rfl
  try go_frame
  refine tk 3 7 ?_ rfl s1 ?_ ?_; rotate_left
  · intro wq hSq; obtain ⟨cs, q1, q2⟩ := hSq; go_simp; try with_reducible rfl
  try go_frame
  refine tk 4 8 ?_ rfl s1 ?_ ?_; rotate_left
  · intro wq hSq; obtain ⟨cs, q1, q2⟩ := hSq; go_simp; try with_reducible rfl
  try go_frame
  refine tk 5 9 ?_ rfl s1 ?_ ?_; rotate_left
  · intro wq hSq; obtain ⟨cs, q1, q2⟩ := hSq; go_simp; try with_reducible rfl
  try go_frame
  refine tk 6 10 ?_ rfl s1 ?_ ?_; rotate_left
  · intro wq hSq; obtain ⟨cs, q1, q2⟩ := hSq; go_simp; try with_reducible rfl
  try go_frame
  refine tk 7 11 ?_ rfl s1 ?_ ?_; rotate_left
  · intro wq hSq; obtain ⟨cs, q1, q2⟩ := hSq; go_simp; try with_reducible rfl
  try go_frame
  refine tk 8 12 ?_ rfl s1 ?_ ?_; rotate_left
  · intro wq hSq; obtain ⟨cs, q1, q2⟩ := hSq; go_simp; try with_reducible rfl
  try go_frame
  refine tk 9 13 ?_ rfl s1 ?_ ?_; rotate_left
  · intro wq hSq; obtain ⟨cs, q1, q2⟩ := hSq; go_simp; try with_reducible rfl
  try go_frame
  refine tk 10 14 ?_ rfl s1 ?_ ?_; rotate_left
  · intro wq hSq; obtain ⟨cs, q1, q2⟩ := hSq; go_simp; try with_reducible rfl
  try go_frame
  refine tk 11 15 ?_ rfl s1 ?_ ?_; rotate_left
  · intro wq hSq; obtain ⟨cs, q1, q2⟩ := hSq; go_simp; try with_reducible rfl
  try go_frame
  refine rd 12 rfl (fun K hK => ?_); go_simp
  have g2 : (w1.setCell ⟨g, 10 + j, none⟩ (U x)).heap[g]? = some (.cells c1 179 (0, 0)) := by rw [zaa, if_pos rfl, g1, Option.map_some, zad, HN]
  have C2 : Ch [g] w (w1.setCell ⟨g, 10 + j, none⟩ (U x)) := C1.setCell (p := ⟨g, 10 + j, none⟩) (.inl (by simp)) _
  have s2 : (fun W' => ∃ cs, W'.heap[g]? = some (.cells cs 179 (0, 0)) ∧ cs[42]? = some (I (j : Int))) (w1.setCell ⟨g, 10 + j, none⟩ (U x)) := ⟨c1, g2, f1⟩
  refine hK.out _ _ s2 (fun _ => ?_)
  clear hK K s1 g1 C1
  generalize w1.setCell ⟨g, 10 + j, none⟩ (U x) = w2 at *
  refine tk 13 16 ?_ rfl s2 ?_ ?_; rotate_left
  · intro _ _; go_simp; try with_reducible rfl
  try go_frame
  refine tk 14 17 ?_ rfl s2 ?_ ?_; rotate_left
  · intro _ _; go_simp; try with_reducible rfl
  try go_frame
  refine tk 15 18 ?_ rfl s2 ?_ ?_; rotate_left
  · intro _ _; go_simp; try with_reducible rfl
  try go_frame
  refine rd 16 rfl (fun K hK => ?_); go_simp
  have g3 : (w2.setCell ⟨g, 0, none⟩ (I 4)).heap[g]? = some (.cells c2 179 (0, 0)) := by rw [zaa, if_pos rfl, g2, Option.map_some, zad, H0]
  have C3 : Ch [g] w (w2.setCell ⟨g, 0, none⟩ (I 4)) := C2.setCell (p := ⟨g, 0, none⟩) (.inl (by simp)) _
  have s3 : (fun W' => ∃ cs, W'.heap[g]? = some (.cells cs 179 (0, 0)) ∧ cs[42]? = some (I (j : Int))) (w2.setCell ⟨g, 0, none⟩ (I 4)) := ⟨c2, g3, f2⟩
  refine hK.out _ _ s3 (fun _ => ?_)
  clear hK K s2 g2 C2 s3
  generalize w2.setCell ⟨g, 0, none⟩ (I 4) = w3 at *
  refine wpAnyH_done (by kernel_rfl) ?_ _
  first | (go_wp2; go_end0) | go_end0
  exact ⟨rfl, g3, C3⟩
end
end Go.Proofs.Hc
