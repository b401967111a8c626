/- Package split: parts, head, key. -/
import Derived.Test.YtcikopeddljgkaaGreatKPc
import Derived.Test.YtcikopeddljgkaaGreatK0
set_option linter.unusedSimpArgs false
set_option linter.unusedVariables false
set_option maxHeartbeats 2000000
set_option maxRecDepth 100000
namespace Go.Proofs.Hc
open Go.RowKit
attribute [local go_sem] zbr zcd zat zaz zbn zax zbm zbo zbw signed64 signed8 zar BitVec.ofInt_add BitVec.ofInt_mul ofInt_sub' zav zaw wide8 eqN neN zcc shr1 shr7 shr56
attribute [local go_sem high] zay zbv
attribute [local go_sem] zau zbx zai zal zac zbd zan zah zbk zaj zbc zbe
attribute [local go_sem] load26 load73 load23 store26 build73
attribute [local go_sem ↓] lrow26 lrow73 lrow23 srow26 zero26 brow73 zab zba zbb zaa zae
attribute [local go_sem] zag zap zaf zbf zbi zbp zam zaq zbq zbh zbg
attribute [local go_sem] nn2 nm2 nn3 nm3 nn4 nm4 nn5 nm5 nn6 nm6 nn7 nm7 nn8 nm8
section
attribute [local go_sem] zar zbj
attribute [local go_sem] Oper.semAt_some zak
attribute [local go_sem] zci pacell0 pacell1 pacell2 pacell3 pacell4 pacell5 pacell6 pacell7 pacell42
attribute [local go_sem] zcv zdi zdc zcy zcx zdb zdh zda zcf zct part_s6 zdg zco zbl zch zcj boxPart loadPart storePart zce zcq buildPart0 buildPart4
attribute [local go_sem ↓] lrowPart srowPart browPart zck zbs
attribute [local go_sem high] zas
attribute [local irreducible] partC
theorem and255_lt (x : BitVec 64) : N (x &&& 255#64) < 256 := by
  unfold N
  have h := Nat.and_two_pow_sub_one_eq_mod x.toNat 8
  rw [BitVec.toNat_and, show (255#64 : BitVec 64).toNat = 2 ^ 8 - 1 from rfl, h]
  have := Nat.mod_lt x.toNat (show 0 < 2 ^ 8 by decide)
  have e : (2 : Nat) ^ 8 = 256 := rfl
  omega
theorem wrap255 (x : BitVec 64) : IntKind.i64.wrap (N (x &&& 255#64)) = N (x &&& 255#64) := by
  rw [IntKind.wrap_i64]
  have := and255_lt x
  have := N_nonneg (x &&& 255#64)
  omega
attribute [local go_sem] wrap255
theorem s22parts_any (p : PartT) (g : Nat) (w : World) (hg : w.heap[g]? = some (.cells (partC p) 179 (0, 0))) :
    Calls Tryz.prog 233 #[.pointer (some ⟨g, 0, none⟩)] w fun e w' => e = .returned (.tuple #[I (N (p.head &&& 255#64)), U (p.head >>> 8)]) ∧ Ch [] w w' := by
  go_enter Tryz.func233, Tryz.ntmps233
  go_upto_region 1 with (fail)
  have s1 : (fun W' : World => W'.heap[g]? = some (.cells (partC p) 179 (0, 0))) w.drew := hg
  have C1 : Ch [] w w.drew := (Ch.refl [] w).drew
  refine wp_region_held_drew (S := fun W' => W'.heap[g]? = some (.cells (partC p) 179 (0, 0))) (by kernel_rfl) s1 ?_
  intro _
  simp only [List.size_toArray, List.length_cons, List.length_nil, Nat.reduceAdd]
  obtain ⟨w1, hw1⟩ : ∃ W, w.drew = W := ⟨_, rfl⟩
  rw [hw1] at s1 C1 ⊢
  clear hw1 hg
  refine tk 0 4 ?_ rfl s1 ?_ ?_; rotate_left
  · intro _ _; go_simp; try with_reducible rfl
  try go_frame
  refine tk 1 5 ?_ rfl s1 ?_ ?_; rotate_left
  · intro _ _; go_simp; try with_reducible rfl
  try go_frame
  refine tk 2 6 ?_ rfl s1 ?_ ?_; rotate_left
  · intro _ _; go_simp; try with_reducible rfl
  try go_frame
  refine tk 3 7 ?_ rfl s1 ?_ ?_; rotate_left
  · intro _ _; go_simp; try with_reducible rfl
  try go_frame
  refine tk 4 8 ?_ rfl s1 ?_ ?_; rotate_left
  · intro _ _; go_simp; try with_reducible rfl
  try go_frame
  refine tk 5 9 ?_ rfl s1 ?_ ?_; rotate_left
  · intro _ _; go_simp; try with_reducible rfl
  try go_frame
  refine tk 6 10 ?_ rfl s1 ?_ ?_; rotate_left
  · intro _ _; go_simp; try with_reducible rfl
  try go_frame
  refine tk 7 11 ?_ rfl s1 ?_ ?_; rotate_left
  · intro _ _; go_simp; try with_reducible rfl
  try go_frame
  refine tk 8 12 ?_ rfl s1 ?_ ?_; rotate_left
  · intro _ _; go_simp; try with_reducible rfl
  try go_frame
  refine tk 9 13 ?_ rfl s1 ?_ ?_; rotate_left
  · intro _ _; go_simp; try with_reducible rfl
  try go_frame
  refine tk 10 14 ?_ rfl s1 ?_ ?_; rotate_left
  · intro _ _; go_simp; try with_reducible rfl
  try go_frame
  refine tk 11 15 ?_ rfl s1 ?_ ?_; rotate_left
  · intro _ _; go_simp; try with_reducible rfl
  try go_frame
  refine tk 12 16 ?_ rfl s1 ?_ ?_; rotate_left
  · intro _ _; go_simp; try with_reducible rfl
  try go_frame
  refine tk 13 2 ?_ rfl s1 ?_ ?_; rotate_left
  · intro _ _; go_simp; try with_reducible rfl
  try go_frame
  refine tk 14 3 ?_ rfl s1 ?_ ?_; rotate_left
  · intro _ _; go_simp; try with_reducible rfl
  try go_frame
  refine wpAnyH_done (by kernel_rfl) ?_ _
  go_wp2
  exact bodyPost_ret (by simp [results, Tryz.results233, go_sem]; exact shr8 _) rfl ⟨rfl, C1⟩
theorem s22key_any (p : PartT) (g j : Nat) (x : BitVec 64) (ha : p.at_ = (j : Int)) (hj : j < 16) (w : World) (hg : w.heap[g]? = some (.cells (partC p) 179 (0, 0))) :
    Calls Tryz.prog 176 #[.pointer (some ⟨g, 0, none⟩), U x] w fun e w' => e = .returned (.tuple #[]) ∧ w'.heap[g]? = some (.cells (partC { p with k := updW p.k j x, ph := 4 }) 179 (0, 0)) ∧ Ch [g] w w' := by
  obtain ⟨ph, who, sl, t0, t1, seed, cn, hd, c, k, v, at_, ws⟩ := p
  dsimp only at ha ⊢
  subst ha
  have HN := part_sk ⟨ph, who, sl, t0, t1, seed, cn, hd, c, k, v, (j : Int), ws⟩ j hj x
  have H0 := zct ⟨ph, who, sl, t0, t1, seed, cn, hd, c, updW k j x, v, (j : Int), ws⟩ 4
  dsimp only at HN H0
  have e42 : (partC ⟨ph, who, sl, t0, t1, seed, cn, hd, c, k, v, (j : Int), ws⟩)[42]? = some (I (j : Int)) := zcf _
  obtain ⟨o1, ho1⟩ : ∃ y, (partC ⟨ph, who, sl, t0, t1, seed, cn, hd, c, k, v, (j : Int), ws⟩)[10 + j]? = some y := ⟨_, part_gk _ j hj⟩
  obtain ⟨o2, ho2⟩ : ∃ y, (partC ⟨ph, who, sl, t0, t1, seed, cn, hd, c, updW k j x, v, (j : Int), ws⟩)[0]? = some y := ⟨_, zcv _⟩
  obtain ⟨c0, hc0⟩ : ∃ z, partC ⟨ph, who, sl, t0, t1, seed, cn, hd, c, k, v, (j : Int), ws⟩ = z := ⟨_, rfl⟩
  obtain ⟨c1, hc1⟩ : ∃ z, partC ⟨ph, who, sl, t0, t1, seed, cn, hd, c, updW k j x, v, (j : Int), ws⟩ = z := ⟨_, rfl⟩
  obtain ⟨c2, hc2⟩ : ∃ z, partC ⟨4, who, sl, t0, t1, seed, cn, hd, c, updW k j x, v, (j : Int), ws⟩ = z := ⟨_, rfl⟩
  rw [hc0] at HN ho1 hg e42
  rw [hc1] at HN H0 ho2
  rw [hc2] at H0 ⊢
  clear hc0 hc1 hc2
  have hjI : (j : Int) < 16 := by omega
  have hj0 : (0 : Int) ≤ j := by omega
  go_enter Tryz.func176, Tryz.ntmps176
  have f1 : c1[42]? = some (I (j : Int)) := by rw [← HN, Array.getElem?_setIfInBounds, if_neg (by omega)]; exact e42
  have f2 : c2[42]? = some (I (j : Int)) := by rw [← H0, Array.getElem?_setIfInBounds, if_neg (by omega)]; exact f1
  have s1 : (fun W' => ∃ cs, W'.heap[g]? = some (.cells cs 179 (0, 0)) ∧ cs[42]? = some (I (j : Int))) w.drew := ⟨c0, hg, e42⟩
  have g1 : w.drew.heap[g]? = some (.cells c0 179 (0, 0)) := hg
  have C1 : Ch [g] w w.drew := (Ch.refl [g] w).drew
  refine wp_region_held_drew (S := fun W' => ∃ cs, W'.heap[g]? = some (.cells cs 179 (0, 0)) ∧ cs[42]? = some (I (j : Int))) (by kernel_rfl) s1 ?_
  intro _
  simp only [List.size_toArray, List.length_cons, List.length_nil, Nat.reduceAdd]
  obtain ⟨w1, hw1⟩ : ∃ W, w.drew = W := ⟨_, rfl⟩
  rw [hw1] at s1 g1 C1 ⊢
  clear hw1 hg
  refine tk 0 4 ?_ rfl s1 ?_ ?_; rotate_left
  · intro wq hSq; obtain ⟨cs, q1, q2⟩ := hSq; go_simp; try with_reducible rfl
  try go_frame
  refine tk 1 5 ?_ rfl s1 ?_ ?_; rotate_left
  · intro wq hSq; obtain ⟨cs, q1, q2⟩ := hSq; go_simp; try with_reducible rfl
  try go_frame
  refine tk 2 6 ?_ rfl s1 ?_ ?_; rotate_left
  · intro wq hSq; obtain ⟨cs, q1, q2⟩ := hSq; go_simp; try with_reducible rfl
  try go_frame
  refine tk 3 7 ?_ rfl s1 ?_ ?_; rotate_left
  · intro wq hSq; obtain ⟨cs, q1, q2⟩ := hSq; go_simp; try with_reducible rfl
  try go_frame
  refine tk 4 8 ?_ rfl s1 ?_ ?_; rotate_left
  · intro wq hSq; obtain ⟨cs, q1, q2⟩ := hSq; go_simp; try with_reducible rfl
  try go_frame
  refine tk 5 9 ?_ rfl s1 ?_ ?_; rotate_left
  · intro wq hSq; obtain ⟨cs, q1, q2⟩ := hSq; go_simp; try with_reducible rfl
  try go_frame
  refine tk 6 10 ?_ rfl s1 ?_ ?_; rotate_left
  · intro wq hSq; obtain ⟨cs, q1, q2⟩ := hSq; go_simp; try with_reducible rfl
  try go_frame
  refine tk 7 11 ?_ rfl s1 ?_ ?_; rotate_left
  · intro wq hSq; obtain ⟨cs, q1, q2⟩ := hSq; go_simp; try with_reducible rfl
  try go_frame
  refine tk 8 12 ?_ rfl s1 ?_ ?_; rotate_left
  · intro wq hSq; obtain ⟨cs, q1, q2⟩ := hSq; go_simp; try with_reducible rfl
  try go_frame
  refine tk 9 13 ?_ rfl s1 ?_ ?_; rotate_left
  · intro wq hSq; obtain ⟨cs, q1, q2⟩ := hSq; go_simp; try with_reducible rfl
  try go_frame
  refine tk 10 14 ?_ rfl s1 ?_ ?_; rotate_left
  · intro wq hSq; obtain ⟨cs, q1, q2⟩ := hSq; go_simp; try with_reducible rfl
  try go_frame
  refine tk 11 15 ?_ rfl s1 ?_ ?_; rotate_left
  · intro wq hSq; obtain ⟨cs, q1, q2⟩ := hSq; go_simp; try with_reducible rfl
  try go_frame
  refine rd 12 rfl (fun K hK => ?_); go_simp
  have g2 : (w1.setCell ⟨g, 10 + j, none⟩ (U x)).heap[g]? = some (.cells c1 179 (0, 0)) := by rw [zaa, if_pos rfl, g1, Option.map_some, zac, HN]
  have C2 : Ch [g] w (w1.setCell ⟨g, 10 + j, none⟩ (U x)) := C1.setCell (p := ⟨g, 10 + j, none⟩) (.inl (by simp)) _
  have s2 : (fun W' => ∃ cs, W'.heap[g]? = some (.cells cs 179 (0, 0)) ∧ cs[42]? = some (I (j : Int))) (w1.setCell ⟨g, 10 + j, none⟩ (U x)) := ⟨c1, g2, f1⟩
  refine hK.out _ _ s2 (fun _ => ?_)
  clear hK K s1 g1 C1
  generalize w1.setCell ⟨g, 10 + j, none⟩ (U x) = w2 at *
  refine tk 13 16 ?_ rfl s2 ?_ ?_; rotate_left
  · intro _ _; go_simp; try with_reducible rfl
  try go_frame
  refine tk 14 17 ?_ rfl s2 ?_ ?_; rotate_left
  · intro _ _; go_simp; try with_reducible rfl
  try go_frame
  refine tk 15 18 ?_ rfl s2 ?_ ?_; rotate_left
  · intro _ _; go_simp; try with_reducible rfl
  try go_frame
  refine rd 16 rfl (fun K hK => ?_); go_simp
  have g3 : (w2.setCell ⟨g, 0, none⟩ (I 4)).heap[g]? = some (.cells c2 179 (0, 0)) := by rw [zaa, if_pos rfl, g2, Option.map_some, zac, H0]
  have C3 : Ch [g] w (w2.setCell ⟨g, 0, none⟩ (I 4)) := C2.setCell (p := ⟨g, 0, none⟩) (.inl (by simp)) _
  have s3 : (fun W' => ∃ cs, W'.heap[g]? = some (.cells cs 179 (0, 0)) ∧ cs[42]? = some (I (j : Int))) (w2.setCell ⟨g, 0, none⟩ (I 4)) := ⟨c2, g3, f2⟩
  refine hK.out _ _ s3 (fun _ => ?_)
  clear hK K s2 g2 C2 s3
  generalize w2.setCell ⟨g, 0, none⟩ (I 4) = w3 at *
  refine wpAnyH_done (by kernel_rfl) ?_ _
  first | (go_wp2; go_end0) | go_end0
  exact ⟨rfl, g3, C3⟩
end
section
attribute [local go_sem] zar zbj
attribute [local go_sem] Oper.semAt_some zak
attribute [local go_sem] zci pacell0 pacell1 pacell2 pacell3 pacell4 pacell5 pacell6 pacell7 pacell42
attribute [local go_sem] zcv zdi zdc zcy zcx zdb zdh zda zcf zct part_s6 zdg zco zbl zch zcj boxPart loadPart storePart zce zcq buildPart0 buildPart4
attribute [local go_sem ↓] lrowPart srowPart browPart zck zbs
attribute [local go_sem high] zas
attribute [local irreducible] partC
theorem build_half (d : Int) (p : BitVec 64) (w : World) : (buildRow 26 #[(1, I d), (2, U p)]).run Tryz.prog w = .ok (.agg (tcells ⟨0#64, d, p, 0, 0, fun _ => 0#64, fun _ => 0#64, fun _ => 0#64⟩)) w := by kernel_rfl
theorem mul2_64 (x : BitVec 64) : IntKind.u64.wrap (2 * N x) = N (2#64 * x) := by
  rw [IntKind.wrap_u64]; unfold N; rw [BitVec.toNat_mul, show (2#64).toNat = 2 from rfl]; omega
attribute [local go_sem] mul2_64
attribute [local go_sem ↓] brow26
theorem firstS_eq (p : PartT) (h : BitVec 64) : firstS p h = hasT ⟨0#64, N (p.head &&& 255#64) + 1, 2#64 * (p.head >>> 8), 0, 0, fun _ => 0#64, fun _ => 0#64, fun _ => 0#64⟩ h := rfl
theorem s22first_any (p : PartT) (g : Nat) (h : BitVec 64) (w : World) (hg : w.heap[g]? = some (.cells (partC p) 179 (0, 0))) :
    Calls Tryz.prog 311 #[.pointer (some ⟨g, 0, none⟩), U h] w fun e w' => e = .returned (.bool (firstS p h)) ∧ Ch [] w w' := by
  have P1 := s22parts_any p g w hg
  rw [firstS_eq]
  have hd : N (p.head &&& 255#64) < 256 := and255_lt p.head
  have hd0 : 0 ≤ N (p.head &&& 255#64) := by unfold N; omega
  obtain ⟨d, hdd⟩ : ∃ d, N (p.head &&& 255#64) = d := ⟨_, rfl⟩
  obtain ⟨y, hy⟩ : ∃ y, p.head >>> 8 = y := ⟨_, rfl⟩
  rw [hdd, hy] at P1
  rw [hdd] at hd hd0
  rw [hdd, hy]
  clear hdd hy
  have d1 : IntKind.i64.wrap (d + 1) = d + 1 := by rw [IntKind.wrap_i64]; omega
  have H1 := fun w => has_any ⟨0#64, d + 1, 2#64 * y, 0, 0, fun _ => 0#64, fun _ => 0#64, fun _ => 0#64⟩ h w
  obtain ⟨tc, htc⟩ : ∃ t : Tab, (⟨0#64, d + 1, 2#64 * y, 0, 0, fun _ => 0#64, fun _ => 0#64, fun _ => 0#64⟩ : Tab) = t := ⟨_, rfl⟩
  have B1 := fun w => build_half (d + 1) (2#64 * y) w
  rw [htc] at B1 H1 ⊢
  clear htc
  go_enter Tryz.func311, Tryz.ntmps311
  go_wp2_with fail
  refine P1.mono ?_
  rintro e w2 ⟨rfl, hc2⟩
  go_wp2_with fail
  refine (H1 _).mono ?_
  rintro e w3 ⟨rfl, hc3⟩
  go_wp2
  go_ret
  exact ⟨rfl, hc2.trans hc3⟩
end
section
attribute [local go_sem] zar zbj
attribute [local go_sem] Oper.semAt_some zak
attribute [local go_sem] zci pacell0 pacell1 pacell2 pacell3 pacell4 pacell5 pacell6 pacell7 pacell42
attribute [local go_sem] zcv zdi zdc zcy zcx zdb zdh zda zcf zct part_s6 zdg zco zbl zch zcj boxPart loadPart storePart zce zcq buildPart0 buildPart4
attribute [local go_sem ↓] lrowPart srowPart browPart zck zbs
attribute [local go_sem high] zas
attribute [local irreducible] partC
theorem slabs_cases (a b c : Int) : (slabsS a b c = false ∧ (a < 0 ∨ 0 ≤ a ∧ (128 ≤ a ∨ a < 128 ∧ (b < 0 ∨ 0 ≤ b ∧ (128 ≤ b ∨ b < 128 ∧ ((a == b) = true ∨ (a == b) = false ∧ (c < 0 ∨ 0 ≤ c ∧ (128 ≤ c ∨ c < 128 ∧ ((b == c) = true ∨ (b == c) = false ∧ (a == c) = true))))))))) ∨
    slabsS a b c = true ∧ (0 ≤ a ∧ a < 128) ∧ (0 ≤ b ∧ b < 128) ∧ (0 ≤ c ∧ c < 128) ∧ (a == b) = false ∧ (b == c) = false ∧ (a == c) = false := by
  cases h : slabsS a b c with
  | true =>
    have := (slabsS_iff a b c).1 h
    right
    refine ⟨rfl, this.1, this.2.1, this.2.2.1, ?_, ?_, ?_⟩ <;> simp <;> omega
  | false =>
    left
    refine ⟨rfl, ?_⟩
    have hn : ¬ ((0 ≤ a ∧ a < 128) ∧ (0 ≤ b ∧ b < 128) ∧ (0 ≤ c ∧ c < 128) ∧ a ≠ b ∧ a ≠ c ∧ b ≠ c) := fun hh => by rw [(slabsS_iff a b c).2 hh] at h; cases h
    simp only [beq_iff_eq, beq_eq_false_iff_ne]
    omega
theorem pSlabs_any (a b c : Int) (r c3 : Nat) (w : World) (hr : w.heap[r]? = some (.cells #[I a, I b, I c] 3 (0, 0))) : Calls Tryz.prog 113 #[.slice (some ⟨r, 0, none⟩) 3 c3] w fun e w' => e = .returned (.bool (slabsS a b c)) ∧ w = w' := by
  obtain ⟨z, hz⟩ : ∃ z, slabsS a b c = z := ⟨_, rfl⟩
  have hcs := slabs_cases a b c
  rw [hz] at hcs ⊢
  clear hz
  rcases hcs with ⟨rfl, h | ⟨h0, h | ⟨h1, h | ⟨h2, h | ⟨h3, h | ⟨h4, h | ⟨h5, h | ⟨h6, h | ⟨h7, h8⟩⟩⟩⟩⟩⟩⟩⟩⟩ | ⟨rfl, ⟨h0, h1⟩, ⟨h2, h3⟩, ⟨h4, h5⟩, h6, h7, h8⟩
  all_goals
    go_enter Tryz.func113, Tryz.ntmps113
    go_wp2
    refine wp_loop_rounds 4 ?_
    rw [rounds_succ]
    go_wp2
    try (rw [rounds_succ]; go_wp2)
    try (rw [rounds_succ]; go_wp2)
    try (rw [rounds_succ]; go_wp2)
    go_ret
    exact ⟨rfl, rfl⟩
end
end Go.Proofs.Hc
