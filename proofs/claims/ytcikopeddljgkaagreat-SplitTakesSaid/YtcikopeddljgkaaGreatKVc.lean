/- Package layout: Cell; package write: Check. -/
import Derived.Test.YtcikopeddljgkaaGreatKHdi
import Derived.Test.YtcikopeddljgkaaGreatK0
set_option linter.unusedSimpArgs false
set_option linter.unusedVariables false
set_option maxHeartbeats 1000000
set_option maxRecDepth 100000
namespace Go.Proofs.Hc
open Go.RowKit
attribute [local go_sem] zbv zcb zba zbf zbr zbd zbq zbs zbx signed64 signed8 zap BitVec.ofInt_add BitVec.ofInt_mul ofInt_sub' zbb zbc wide8 eqN neN zca shr1 shr7 shr56
attribute [local go_sem high] zbe zbw
attribute [local go_sem] zaw zby zaj zas zae zay zar zak zbn zam zax zaz
attribute [local go_sem] load26 load73 load23 store26 build73
attribute [local go_sem ↓] lrow26 lrow73 lrow23 srow26 zero26 brow73 zac zbk zbg zaa zab
attribute [local go_sem] zai zav zau zbj zbl zbo zaq zat zbp zbi zbh
attribute [local go_sem] nn2 nm2 nn3 nm3 nn4 nm4 nn5 nm5 nn6 nm6 nn7 nm7 nn8 nm8
section
attribute [local go_sem] zap zbt
attribute [local go_sem] Oper.semAt_some zao
attribute [local go_sem] pen_g0 pen_g1 pen_g2 pen_g3 pen_g4 pen_g5 pen_g6 pen_g7 pen_g8 pen_g9 pen_g10 pen_g11 pen_g12 pen_g13 pen_g14 pen_g15 pen_g16 pen_g17 penC_size penC_one penC_all
attribute [local irreducible] penC
theorem tmod2_64w (x : BitVec 64) : (N x).tmod 2 = N (x &&& 1#64) := by
  rw [Int.tmod_eq_emod_of_nonneg (N_nonneg x)]
  unfold N
  rw [BitVec.toNat_and]
  show ((x.toNat : Int) % 2) = ((x.toNat &&& (2 ^ 1 - 1) : Nat) : Int)
  rw [Nat.and_two_pow_sub_one_eq_mod]; rfl
theorem bit64w (x : BitVec 64) : (N (x &&& 1#64) == 1) = oddB x := by
  have h : (N (x &&& 1#64) == N (1#64)) = ((x &&& 1#64) == 1#64) := eqN _ _
  exact h
theorem bit64zw (x : BitVec 64) : (N (x &&& 1#64) == 0) = !oddB x := by
  rw [← bit64w]
  have h : N (x &&& 1#64) = 0 ∨ N (x &&& 1#64) = 1 := by rw [← tmod2_64w, Int.tmod_eq_emod_of_nonneg (N_nonneg x)]; omega
  rcases h with h | h <;> rw [h] <;> rfl
attribute [local go_sem high] tmod2_64w bit64w bit64zw
theorem brow170 (ps : Array (Nat × Value)) : Instr.build 281 ps = buildRow 281 ps := rfl
theorem build170 (p : PenT) (w : World) : (buildRow 281 #[(0, .agg (penC p))]).run Tryz.prog w = .ok (.agg (penC p)) w := by kernel_rfl
theorem box170 (p : PenT) (w : World) : (Instr.box 281 (.agg (penC p))).run Tryz.prog w = .ok (.pointer (some ⟨w.heap.size, 0, none⟩)) (w.alloc (.cells (penC p) 281)) := rfl
attribute [local go_sem] build170 box170 boxPen loadPen storePen
attribute [local go_sem ↓] brow170 lrowPen srowPen
theorem cell_ok (n k : Int) (h0 : 0 ≤ n) (h1 : n < 128) (h2 : 0 ≤ k) (h3 : k < 40) (w : World) : Calls Tryz.prog 44 #[I n, I k] w fun e w' => e = .returned (.tuple #[I (16 + 40 * n + k), I 0]) ∧ w = w' := by
  go_enter Tryz.func44, Tryz.ntmps44
  go_wp2
  go_ret2
  exact ⟨by rw [show 16 + 40 * n + k = 16 + n * 40 + k by omega]; rfl, rfl⟩
end
section
attribute [local go_sem] zap zbt
attribute [local go_sem] Oper.semAt_some zao
attribute [local go_sem] zcj pacell0 pacell1 pacell2 pacell3 pacell4 pacell5 pacell6 pacell7 pacell42
attribute [local go_sem] zcr zcw zct zdc zdb part_g5 zcv zdl zcf zcq part_s6 zde zch zbu zci zck boxPart loadPart storePart zce zcs buildPart0 buildPart4
attribute [local go_sem ↓] lrowPart srowPart browPart zcl zbz
attribute [local go_sem high] zag
attribute [local irreducible] partC
attribute [local go_sem high] tmod2_64w bit64w bit64zw
def lookS (p : PartT) (x : BitVec 64) : PartT := if oddB x then { p with ph := 8 } else { p with ph := 1, count := x }
theorem s22look_any (p : PartT) (g : Nat) (x : BitVec 64) (w : World) (hg : w.heap[g]? = some (.cells (partC p) 179 (0, 0))) :
    Calls Tryz.prog 173 #[.pointer (some ⟨g, 0, none⟩), U x] w fun e w' => e = .returned (.tuple #[]) ∧ w'.heap[g]? = some (.cells (partC (lookS p x)) 179 (0, 0)) ∧ Ch [g] w w' := by
  unfold lookS
  cases ho : oddB x with
  | true =>
    rw [if_pos rfl]
    go_enter Tryz.func173, Tryz.ntmps173
    go_wp2
    go_end0
    exact ⟨rfl, by simp [go_sem, hg], (Ch.refl [g] w).setCell (p := ⟨g, 0, none⟩) (.inl (by simp)) _⟩
  | false =>
    rw [if_neg (by decide)]
    go_enter Tryz.func173, Tryz.ntmps173
    go_wp2
    go_end0
    exact ⟨rfl, by simp [go_sem, hg], (((Ch.refl [g] w).setCell (p := ⟨g, 0, none⟩) (.inl (by simp)) _).setCell (p := ⟨g, 0, none⟩) (.inl (by simp)) _).setCell (p := ⟨g, 6, none⟩) (.inl (by simp)) _⟩
theorem s22shut_any (p : PartT) (g : Nat) (x : BitVec 64) (w : World) (hg : w.heap[g]? = some (.cells (partC p) 179 (0, 0))) :
    Calls Tryz.prog 178 #[.pointer (some ⟨g, 0, none⟩), U x] w fun e w' => e = .returned (.tuple #[]) ∧ w'.heap[g]? = some (.cells (partC { p with at_ := 0, ph := 6 }) 179 (0, 0)) ∧ Ch [g] w w' := by
  go_enter Tryz.func178, Tryz.ntmps178
  go_wp2
  go_end0
  exact ⟨rfl, by simp [go_sem, hg], ((Ch.refl [g] w).setCell (p := ⟨g, 42, none⟩) (.inl (by simp)) _).setCell (p := ⟨g, 0, none⟩) (.inl (by simp)) _⟩
theorem s22lay_any (p : PartT) (g : Nat) (x : BitVec 64) (a0 : 0 ≤ p.at_) (a1 : p.at_ < 80) (hp : p.ph = 6) (w : World) (hg : w.heap[g]? = some (.cells (partC p) 179 (0, 0))) :
    Calls Tryz.prog 179 #[.pointer (some ⟨g, 0, none⟩), U x] w fun e w' => e = .returned (.tuple #[]) ∧ w'.heap[g]? = some (.cells (partC { p with at_ := p.at_ + 1, ph := if p.at_ = 79 then 7 else 6 }) 179 (0, 0)) ∧ Ch [g] w w' := by
  obtain ⟨ph, who, sl, t0, t1, seed, cn, hd, c, k, v, at_, ws⟩ := p
  dsimp only at a0 a1 hp ⊢
  subst hp
  have hw1 : IntKind.i64.wrap (at_ + 1) = at_ + 1 := by rw [IntKind.wrap_i64]; omega
  by_cases h : at_ = 79
  · subst h
    rw [if_pos rfl]
    go_enter Tryz.func179, Tryz.ntmps179
    go_wp2
    go_end0
    exact ⟨rfl, by simp [go_sem, hg], ((Ch.refl [g] w).setCell (p := ⟨g, 42, none⟩) (.inl (by simp)) _).setCell (p := ⟨g, 0, none⟩) (.inl (by simp)) _⟩
  · rw [if_neg h]
    have hne : (at_ + 1 == 80) = false := by simp; omega
    go_enter Tryz.func179, Tryz.ntmps179
    go_wp2
    go_end0
    exact ⟨rfl, by simp [go_sem, hg], (Ch.refl [g] w).setCell (p := ⟨g, 42, none⟩) (.inl (by simp)) _⟩
end
section
attribute [local go_sem] zap zbt
attribute [local go_sem] Oper.semAt_some zao
attribute [local go_sem] zcj pacell0 pacell1 pacell2 pacell3 pacell4 pacell5 pacell6 pacell7 pacell42
attribute [local go_sem] zcr zcw zct zdc zdb part_g5 zcv zdl zcf zcq part_s6 zde zch zbu zci zck boxPart loadPart storePart zce zcs buildPart0 buildPart4
attribute [local go_sem ↓] lrowPart srowPart browPart zcl zbz
attribute [local go_sem high] zag
attribute [local irreducible] partC
theorem and255_lt (x : BitVec 64) : N (x &&& 255#64) < 256 := by
  unfold N
  have h := Nat.and_two_pow_sub_one_eq_mod x.toNat 8
  rw [BitVec.toNat_and, show (255#64 : BitVec 64).toNat = 2 ^ 8 - 1 from rfl, h]
  have := Nat.mod_lt x.toNat (show 0 < 2 ^ 8 by decide)
  have e : (2 : Nat) ^ 8 = 256 := rfl
  omega
theorem wrap255 (x : BitVec 64) : IntKind.i64.wrap (N (x &&& 255#64)) = N (x &&& 255#64) := by
  rw [IntKind.wrap_i64]
  have := and255_lt x
  have := N_nonneg (x &&& 255#64)
  omega
attribute [local go_sem] wrap255
theorem s22parts_any (p : PartT) (g : Nat) (w : World) (hg : w.heap[g]? = some (.cells (partC p) 179 (0, 0))) :
    Calls Tryz.prog 233 #[.pointer (some ⟨g, 0, none⟩)] w fun e w' => e = .returned (.tuple #[I (N (p.head &&& 255#64)), U (p.head >>> 8)]) ∧ Ch [] w w' := by
  go_enter Tryz.func233, Tryz.ntmps233
  go_upto_region 1 with (fail)
  have s1 : (fun W' : World => W'.heap[g]? = some (.cells (partC p) 179 (0, 0))) w.drew := hg
  have C1 : Ch [] w w.drew := (Ch.refl [] w).drew
  refine wp_region_held_drew (S := fun W' => W'.heap[g]? = some (.cells (partC p) 179 (0, 0))) (by kernel_rfl) s1 ?_
  intro _
  simp only [List.size_toArray, List.length_cons, List.length_nil, Nat.reduceAdd]
  obtain ⟨w1, hw1⟩ : ∃ W, w.drew = W := ⟨_, rfl⟩
  rw [hw1] at s1 C1 ⊢
  clear hw1 hg
  refine tk 0 4 ?_ rfl s1 ?_ ?_; rotate_left
  · intro _ _; go_simp; try with_reducible rfl
  try go_frame
  refine tk 1 5 ?_ rfl s1 ?_ ?_; rotate_left
  · intro _ _; go_simp; try with_reducible rfl
  try go_frame
  refine tk 2 6 ?_ rfl s1 ?_ ?_; rotate_left
  · intro _ _; go_simp; try with_reducible rfl
  try go_frame
  refine tk 3 7 ?_ rfl s1 ?_ ?_; rotate_left
  · intro _ _; go_simp; try with_reducible rfl
  try go_frame
  refine tk 4 8 ?_ rfl s1 ?_ ?_; rotate_left
  · intro _ _; go_simp; try with_reducible rfl
  try go_frame
  refine tk 5 9 ?_ rfl s1 ?_ ?_; rotate_left
  · intro _ _; go_simp; try with_reducible rfl
  try go_frame
  refine tk 6 10 ?_ rfl s1 ?_ ?_; rotate_left
  · intro _ _; go_simp; try with_reducible rfl
  try go_frame
  refine tk 7 11 ?_ rfl s1 ?_ ?_; rotate_left
  · intro _ _; go_simp; try with_reducible rfl
  try go_frame
  refine tk 8 12 ?_ rfl s1 ?_ ?_; rotate_left
  · intro _ _; go_simp; try with_reducible rfl
  try go_frame
  refine tk 9 13 ?_ rfl s1 ?_ ?_; rotate_left
  · intro _ _; go_simp; try with_reducible rfl
  try go_frame
  refine tk 10 14 ?_ rfl s1 ?_ ?_; rotate_left
  · intro _ _; go_simp; try with_reducible rfl
  try go_frame
  refine tk 11 15 ?_ rfl s1 ?_ ?_; rotate_left
  · intro _ _; go_simp; try with_reducible rfl
  try go_frame
  refine tk 12 16 ?_ rfl s1 ?_ ?_; rotate_left
  · intro _ _; go_simp; try with_reducible rfl
  try go_frame
  refine tk 13 2 ?_ rfl s1 ?_ ?_; rotate_left
  · intro _ _; go_simp; try with_reducible rfl
  try go_frame
  refine tk 14 3 ?_ rfl s1 ?_ ?_; rotate_left
  · intro _ _; go_simp; try with_reducible rfl
  try go_frame
  refine wpAnyH_done (by kernel_rfl) ?_ _
  go_wp2
  exact bodyPost_ret (by simp [results, Tryz.results233, go_sem]; exact shr8 _) rfl ⟨rfl, C1⟩
theorem s22key_any (p : PartT) (g j : Nat) (x : BitVec 64) (ha : p.at_ = (j : Int)) (hj : j < 16) (w : World) (hg : w.heap[g]? = some (.cells (partC p) 179 (0, 0))) :
    Calls Tryz.prog 176 #[.pointer (some ⟨g, 0, none⟩), U x] w fun e w' => e = .returned (.tuple #[]) ∧ w'.heap[g]? = some (.cells (partC { p with k := updW p.k j x, ph := 4 }) 179 (0, 0)) ∧ Ch [g] w w' := by
  obtain ⟨ph, who, sl, t0, t1, seed, cn, hd, c, k, v, at_, ws⟩ := p
  dsimp only at ha ⊢
  subst ha
  have HN := part_sk ⟨ph, who, sl, t0, t1, seed, cn, hd, c, k, v, (j : Int), ws⟩ j hj x
  have H0 := zcq ⟨ph, who, sl, t0, t1, seed, cn, hd, c, updW k j x, v, (j : Int), ws⟩ 4
  dsimp only at HN H0
  have e42 : (partC ⟨ph, who, sl, t0, t1, seed, cn, hd, c, k, v, (j : Int), ws⟩)[42]? = some (I (j : Int)) := zcf _
  obtain ⟨o1, ho1⟩ : ∃ y, (partC ⟨ph, who, sl, t0, t1, seed, cn, hd, c, k, v, (j : Int), ws⟩)[10 + j]? = some y := ⟨_, part_gk _ j hj⟩
  obtain ⟨o2, ho2⟩ : ∃ y, (partC ⟨ph, who, sl, t0, t1, seed, cn, hd, c, updW k j x, v, (j : Int), ws⟩)[0]? = some y := ⟨_, zcr _⟩
  obtain ⟨c0, hc0⟩ : ∃ z, partC ⟨ph, who, sl, t0, t1, seed, cn, hd, c, k, v, (j : Int), ws⟩ = z := ⟨_, rfl⟩
  obtain ⟨c1, hc1⟩ : ∃ z, partC ⟨ph, who, sl, t0, t1, seed, cn, hd, c, updW k j x, v, (j : Int), ws⟩ = z := ⟨_, rfl⟩
  obtain ⟨c2, hc2⟩ : ∃ z, partC ⟨4, who, sl, t0, t1, seed, cn, hd, c, updW k j x, v, (j : Int), ws⟩ = z := ⟨_, rfl⟩
  rw [hc0] at HN ho1 hg e42
  rw [hc1] at HN H0 ho2
  rw [hc2] at H0 ⊢
  clear hc0 hc1 hc2
  have hjI : (j : Int) < 16 := by omega
  have hj0 : (0 : Int) ≤ j := by omega
  go_enter Tryz.func176, Tryz.ntmps176
  have f1 : c1[42]? = some (I (j : Int)) := by rw [← HN, Array.getElem?_setIfInBounds, if_neg (by omega)]; exact e42
  have f2 : c2[42]? = some (I (j : Int)) := by rw [← H0, Array.getElem?_setIfInBounds, if_neg (by omega)]; exact f1
  have s1 : (fun W' => ∃ cs, W'.heap[g]? = some (.cells cs 179 (0, 0)) ∧ cs[42]? = some (I (j : Int))) w.drew := ⟨c0, hg, e42⟩
  have g1 : w.drew.heap[g]? = some (.cells c0 179 (0, 0)) := hg
  have C1 : Ch [g] w w.drew := (Ch.refl [g] w).drew
  refine wp_region_held_drew (S := fun W' => ∃ cs, W'.heap[g]? = some (.cells cs 179 (0, 0)) ∧ cs[42]? = some (I (j : Int))) (by kernel_rfl) s1 ?_
  intro _
  simp only [List.size_toArray, List.length_cons, List.length_nil, Nat.reduceAdd]
  obtain ⟨w1, hw1⟩ : ∃ W, w.drew = W := ⟨_, rfl⟩
  rw [hw1] at s1 g1 C1 ⊢
  clear hw1 hg
  refine tk 0 4 ?_ rfl s1 ?_ ?_; rotate_left
  · intro wq hSq; obtain ⟨cs, q1, q2⟩ := hSq; go_simp; try with_reducible rfl
  try go_frame
  refine tk 1 5 ?_ rfl s1 ?_ ?_; rotate_left
  · intro wq hSq; obtain ⟨cs, q1, q2⟩ := hSq; go_simp; try with_reducible rfl
  try go_frame
  refine tk 2 6 ?_ rfl s1 ?_ ?_; rotate_left
  · intro wq hSq; obtain ⟨cs, q1, q2⟩ := hSq; go_simp; try with_reducible rfl
  try go_frame
  refine tk 3 7 ?_ rfl s1 ?_ ?_; rotate_left
  · intro wq hSq; obtain ⟨cs, q1, q2⟩ := hSq; go_simp; try with_reducible rfl
  try go_frame
  refine tk 4 8 ?_ rfl s1 ?_ ?_; rotate_left
  · intro wq hSq; obtain ⟨cs, q1, q2⟩ := hSq; go_simp; try with_reducible rfl
  try go_frame
  refine tk 5 9 ?_ rfl s1 ?_ ?_; rotate_left
  · intro wq hSq; obtain ⟨cs, q1, q2⟩ := hSq; go_simp; try with_reducible rfl
  try go_frame
  refine tk 6 10 ?_ rfl s1 ?_ ?_; rotate_left
  · intro wq hSq; obtain ⟨cs, q1, q2⟩ := hSq; go_simp; try with_reducible rfl
  try go_frame
  refine tk 7 11 ?_ rfl s1 ?_ ?_; rotate_left
  · intro wq hSq; obtain ⟨cs, q1, q2⟩ := hSq; go_simp; try with_reducible rfl
  try go_frame
  refine tk 8 12 ?_ rfl s1 ?_ ?_; rotate_left
  · intro wq hSq; obtain ⟨cs, q1, q2⟩ := hSq; go_simp; try with_reducible rfl
  try go_frame
  refine tk 9 13 ?_ rfl s1 ?_ ?_; rotate_left
  · intro wq hSq; obtain ⟨cs, q1, q2⟩ := hSq; go_simp; try with_reducible rfl
  try go_frame
  refine tk 10 14 ?_ rfl s1 ?_ ?_; rotate_left
  · intro wq hSq; obtain ⟨cs, q1, q2⟩ := hSq; go_simp; try with_reducible rfl
  try go_frame
  refine tk 11 15 ?_ rfl s1 ?_ ?_; rotate_left
  · intro wq hSq; obtain ⟨cs, q1, q2⟩ := hSq; go_simp; try with_reducible rfl
  try go_frame
  refine rd 12 rfl (fun K hK => ?_); go_simp
  have g2 : (w1.setCell ⟨g, 10 + j, none⟩ (U x)).heap[g]? = some (.cells c1 179 (0, 0)) := by rw [zaa, if_pos rfl, g1, Option.map_some, zae, HN]
  have C2 : Ch [g] w (w1.setCell ⟨g, 10 + j, none⟩ (U x)) := C1.setCell (p := ⟨g, 10 + j, none⟩) (.inl (by simp)) _
  have s2 : (fun W' => ∃ cs, W'.heap[g]? = some (.cells cs 179 (0, 0)) ∧ cs[42]? = some (I (j : Int))) (w1.setCell ⟨g, 10 + j, none⟩ (U x)) := ⟨c1, g2, f1⟩
  refine hK.out _ _ s2 (fun _ => ?_)
  clear hK K s1 g1 C1
  generalize w1.setCell ⟨g, 10 + j, none⟩ (U x) = w2 at *
  refine tk 13 16 ?_ rfl s2 ?_ ?_; rotate_left
  · intro _ _; go_simp; try with_reducible rfl
  try go_frame
  refine tk 14 17 ?_ rfl s2 ?_ ?_; rotate_left
  · intro _ _; go_simp; try with_reducible rfl
  try go_frame
  refine tk 15 18 ?_ rfl s2 ?_ ?_; rotate_left
  · intro _ _; go_simp; try with_reducible rfl
  try go_frame
  refine rd 16 rfl (fun K hK => ?_); go_simp
  have g3 : (w2.setCell ⟨g, 0, none⟩ (I 4)).heap[g]? = some (.cells c2 179 (0, 0)) := by rw [zaa, if_pos rfl, g2, Option.map_some, zae, H0]
  have C3 : Ch [g] w (w2.setCell ⟨g, 0, none⟩ (I 4)) := C2.setCell (p := ⟨g, 0, none⟩) (.inl (by simp)) _
  have s3 : (fun W' => ∃ cs, W'.heap[g]? = some (.cells cs 179 (0, 0)) ∧ cs[42]? = some (I (j : Int))) (w2.setCell ⟨g, 0, none⟩ (I 4)) := ⟨c2, g3, f2⟩
  refine hK.out _ _ s3 (fun _ => ?_)
  clear hK K s2 g2 C2 s3
  generalize w2.setCell ⟨g, 0, none⟩ (I 4) = w3 at *
  refine wpAnyH_done (by kernel_rfl) ?_ _
  first | (go_wp2; go_end0) | go_end0
  exact ⟨rfl, g3, C3⟩
end
section
attribute [local go_sem] zap zbt
attribute [local go_sem] Oper.semAt_some zao
attribute [local go_sem] zcj pacell0 pacell1 pacell2 pacell3 pacell4 pacell5 pacell6 pacell7 pacell42
attribute [local go_sem] zcr zcw zct zdc zdb part_g5 zcv zdl zcf zcq part_s6 zde zch zbu zci zck boxPart loadPart storePart zce zcs buildPart0 buildPart4
attribute [local go_sem ↓] lrowPart srowPart browPart zcl zbz
attribute [local go_sem high] zag
attribute [local irreducible] partC
theorem build_half (d : Int) (p : BitVec 64) (w : World) : (buildRow 26 #[(1, I d), (2, U p)]).run Tryz.prog w = .ok (.agg (tcells ⟨0#64, d, p, 0, 0, fun _ => 0#64, fun _ => 0#64, fun _ => 0#64⟩)) w := by kernel_rfl
theorem mul2_64 (x : BitVec 64) : IntKind.u64.wrap (2 * N x) = N (2#64 * x) := by
  rw [IntKind.wrap_u64]; unfold N; rw [BitVec.toNat_mul, show (2#64).toNat = 2 from rfl]; omega
attribute [local go_sem] mul2_64
attribute [local go_sem ↓] brow26
theorem firstS_eq (p : PartT) (h : BitVec 64) : firstS p h = hasT ⟨0#64, N (p.head &&& 255#64) + 1, 2#64 * (p.head >>> 8), 0, 0, fun _ => 0#64, fun _ => 0#64, fun _ => 0#64⟩ h := rfl
theorem s22first_any (p : PartT) (g : Nat) (h : BitVec 64) (w : World) (hg : w.heap[g]? = some (.cells (partC p) 179 (0, 0))) :
    Calls Tryz.prog 311 #[.pointer (some ⟨g, 0, none⟩), U h] w fun e w' => e = .returned (.bool (firstS p h)) ∧ Ch [] w w' := by
  have P1 := s22parts_any p g w hg
  rw [firstS_eq]
  have hd : N (p.head &&& 255#64) < 256 := and255_lt p.head
  have hd0 : 0 ≤ N (p.head &&& 255#64) := by unfold N; omega
  obtain ⟨d, hdd⟩ : ∃ d, N (p.head &&& 255#64) = d := ⟨_, rfl⟩
  obtain ⟨y, hy⟩ : ∃ y, p.head >>> 8 = y := ⟨_, rfl⟩
  rw [hdd, hy] at P1
  rw [hdd] at hd hd0
  rw [hdd, hy]
  clear hdd hy
  have d1 : IntKind.i64.wrap (d + 1) = d + 1 := by rw [IntKind.wrap_i64]; omega
  have H1 := fun w => has_any ⟨0#64, d + 1, 2#64 * y, 0, 0, fun _ => 0#64, fun _ => 0#64, fun _ => 0#64⟩ h w
  obtain ⟨tc, htc⟩ : ∃ t : Tab, (⟨0#64, d + 1, 2#64 * y, 0, 0, fun _ => 0#64, fun _ => 0#64, fun _ => 0#64⟩ : Tab) = t := ⟨_, rfl⟩
  have B1 := fun w => build_half (d + 1) (2#64 * y) w
  rw [htc] at B1 H1 ⊢
  clear htc
  go_enter Tryz.func311, Tryz.ntmps311
  go_wp2_with fail
  refine P1.mono ?_
  rintro e w2 ⟨rfl, hc2⟩
  go_wp2_with fail
  refine (H1 _).mono ?_
  rintro e w3 ⟨rfl, hc3⟩
  go_wp2
  go_ret
  exact ⟨rfl, hc2.trans hc3⟩
end
section
attribute [local go_sem] acc_g0 acc_g1 acc_g2 acc_g4 acc_s0 acc_s1 acc_s2 acc_s4 zdg accC_one accC_all loadAcc storeAcc bacc0 bacc2 bacc3 bacc3u bacc4
attribute [local go_sem ↓] lrowAcc srowAcc browAcc zcu
attribute [local go_sem high] zah
attribute [local go_sem] zcx seenC_one seenC_all seenC_g0 loadSeen storeSeen buildSeen buildSeen0
attribute [local go_sem ↓] lrowSeen srowSeen browSeen zcy
attribute [local go_sem high] zal
attribute [local irreducible] seenC
attribute [local go_sem] zap zbt
attribute [local go_sem] Oper.semAt_some zao
attribute [local go_sem] layC_idx lcell0 lcell1 lcell2 lcell3 lcell4 lcell5 lcell46
attribute [local go_sem] lay_g0 lay_g1 lay_g2 lay_g3 lay_g4 lay_g5 lay_g46 lay_s0 lay_s4 lay_s5 lay_s46 layC_size layC_one layC_all layC_ws boxLay loadLay storeLay build_lay box_lay buildLay0 buildLay2 buildLay3
attribute [local go_sem ↓] lrowLay srowLay browLay brow_lay zeroLay_run
attribute [local go_sem high] laidAt_lay
attribute [local irreducible] layC
attribute [local irreducible] accC
attribute [local go_sem high] tmod2_64w bit64w bit64zw
theorem boxSeen (x : Int) (b : Bool) (w : World) : (Instr.box 93 (.agg (seenC x b))).run Tryz.prog w = .ok (.pointer (some ⟨w.heap.size, 0, none⟩)) (w.alloc (.cells (seenC x b) 93)) := rfl
attribute [local go_sem] boxSeen
end
section
attribute [local go_sem] acc_g0 acc_g1 acc_g2 acc_g4 acc_s0 acc_s1 acc_s2 acc_s4 zdg accC_one accC_all loadAcc storeAcc bacc0 bacc2 bacc3 bacc3u bacc4
attribute [local go_sem ↓] lrowAcc srowAcc browAcc zcu
attribute [local go_sem high] zah
attribute [local go_sem] zap zbt
attribute [local go_sem] Oper.semAt_some zao
attribute [local go_sem] zcj pacell0 pacell1 pacell2 pacell3 pacell4 pacell5 pacell6 pacell7 pacell42
attribute [local go_sem] zcr zcw zct zdc zdb part_g5 zcv zdl zcf zcq part_s6 zde zch zbu zci zck boxPart loadPart storePart zce zcs buildPart0 buildPart4
attribute [local go_sem ↓] lrowPart srowPart browPart zcl zbz
attribute [local go_sem high] zag
attribute [local irreducible] partC
attribute [local irreducible] accC
theorem s22Load_any (p : PartT) (g : Nat) (wd : Int) (s0 : 0 ≤ p.sl) (s1 : p.sl < 128) (h0 : 0 ≤ wd) (h1 : wd < 40) (w : World) (hg : w.heap[g]? = some (.cells (partC p) 179 (0, 0))) :
    Calls Tryz.prog 171 #[.pointer (some ⟨g, 0, none⟩), I wd] w fun e w' => e = .returned (.agg (accC p.who 1 (16 + 40 * p.sl + wd) 0)) ∧ Ch [] w w' := by
  have K1 := fun w => cell_ok p.sl wd s0 s1 h0 h1 w
  have C0 : Ch [] w (w.alloc (.cells (accC 0 0 0 0) 87)) := (Ch.refl [] w).alloc _
  have z0 : (w.alloc (.cells (accC 0 0 0 0) 87)).heap[w.heap.size]? = some (.cells (accC 0 0 0 0) 87 (0, 0)) := by rw [zac, if_pos rfl]
  have g0 := hkeep C0 hg
  have hgn : ¬ g = w.heap.size := by have := (Array.getElem?_eq_some_iff.1 hg).1; omega
  clear hg
  go_enter Tryz.func171, Tryz.ntmps171
  go_upto_region 1 with (fail)
  obtain ⟨w0, hw0⟩ : ∃ W, w.alloc (.cells (accC 0 0 0 0) 87) = W := ⟨_, rfl⟩
  rw [hw0] at C0 z0 g0 ⊢
  clear hw0
  obtain ⟨B, hB⟩ : ∃ b, w.heap.size = b := ⟨_, rfl⟩
  rw [hB] at z0 hgn ⊢
  have hBw : w.heap.size ≤ B := by omega
  clear hB
  go_wp2_with (go_at_call 44; refine (K1 _).mono ?_; rintro e w' ⟨rfl, rfl⟩)
  refine bodyPost_ret (acc_result Tryz.results171 _ B _ p.who 1 (16 + 40 * p.sl + wd) 0 rfl ?_) rfl ⟨rfl, C0.onObj (.inr hBw) _⟩
  rw [zab, if_pos rfl, z0, Option.map_some, zah]
theorem s22Store_any (p : PartT) (g : Nat) (sl wd : Int) (x : BitVec 64) (s0 : 0 ≤ sl) (s1 : sl < 128) (h0 : 0 ≤ wd) (h1 : wd < 40) (w : World) (hg : w.heap[g]? = some (.cells (partC p) 179 (0, 0))) :
    Calls Tryz.prog 172 #[.pointer (some ⟨g, 0, none⟩), I sl, I wd, U x] w fun e w' => e = .returned (.agg (accC p.who 2 (16 + 40 * sl + wd) (N x))) ∧ Ch [] w w' := by
  have K1 := fun w => cell_ok sl wd s0 s1 h0 h1 w
  have C0 : Ch [] w (w.alloc (.cells (accC 0 0 0 0) 87)) := (Ch.refl [] w).alloc _
  have z0 : (w.alloc (.cells (accC 0 0 0 0) 87)).heap[w.heap.size]? = some (.cells (accC 0 0 0 0) 87 (0, 0)) := by rw [zac, if_pos rfl]
  have g0 := hkeep C0 hg
  have hgn : ¬ g = w.heap.size := by have := (Array.getElem?_eq_some_iff.1 hg).1; omega
  clear hg
  go_enter Tryz.func172, Tryz.ntmps172
  go_upto_region 1 with (fail)
  obtain ⟨w0, hw0⟩ : ∃ W, w.alloc (.cells (accC 0 0 0 0) 87) = W := ⟨_, rfl⟩
  rw [hw0] at C0 z0 g0 ⊢
  clear hw0
  obtain ⟨B, hB⟩ : ∃ b, w.heap.size = b := ⟨_, rfl⟩
  rw [hB] at z0 hgn ⊢
  have hBw : w.heap.size ≤ B := by omega
  clear hB
  go_wp2_with (go_at_call 44; refine (K1 _).mono ?_; rintro e w' ⟨rfl, rfl⟩)
  refine bodyPost_ret (acc_result Tryz.results172 _ B _ p.who 2 (16 + 40 * sl + wd) (N x) rfl ?_) rfl ⟨rfl, C0.onObj (.inr hBw) _⟩
  rw [zab, if_pos rfl, z0, Option.map_some, zah]
end
section
attribute [local go_sem] acc_g0 acc_g1 acc_g2 acc_g4 acc_s0 acc_s1 acc_s2 acc_s4 zdg accC_one accC_all loadAcc storeAcc bacc0 bacc2 bacc3 bacc3u bacc4
attribute [local go_sem ↓] lrowAcc srowAcc browAcc zcu
attribute [local go_sem high] zah
attribute [local go_sem] zap zbt
attribute [local go_sem] Oper.semAt_some zao
attribute [local go_sem] zcj pacell0 pacell1 pacell2 pacell3 pacell4 pacell5 pacell6 pacell7 pacell42
attribute [local go_sem] zcr zcw zct zdc zdb part_g5 zcv zdl zcf zcq part_s6 zde zch zbu zci zck boxPart loadPart storePart zce zcs buildPart0 buildPart4
attribute [local go_sem ↓] lrowPart srowPart browPart zcl zbz
attribute [local go_sem high] zag
attribute [local irreducible] partC
attribute [local go_sem] box26 zcc cell0 cell1 cell2 cell3 cell4 zcn zcm
attribute [local irreducible] accC tcells
attribute [local go_sem high] zco tmod2_64w bit64w bit64zw
theorem eqin_part (p : PartT) (w : World) : (Op.equalIn 10000 51 (.agg (partC p)) (.agg (partC p))).run Tryz.prog w = .ok true w := self_part 9996 p w
attribute [local go_sem] guardPart
attribute [local go_sem ↓] eqin_part eql_part neq_part
theorem build2i_21 (w : World) : (Instr.build 45 #[(0, .int .i64 2), (1, .int .i64 1)]).run Tryz.prog w = .ok (.agg #[.int .i64 2, .int .i64 1]) w := by kernel_rfl
attribute [local go_sem] build2i_21
theorem eq_rows22 {l : List (BitVec 64)} {n : Nat} (hn : n ≤ 900000) (hl : l.length = n) (R R2 c d : Nat) (cur cur2 : Array Value) (h1 : WordsAt cur l) (h2 : WordsAt cur2 l) (w : World) (hb : w.heap[R]? = some (.cells cur 22 (0, 0))) (hb2 : w.heap[R2]? = some (.cells cur2 22 (0, 0))) :
    Calls Tryz.prog 31 #[.slice (some ⟨R, 0, none⟩) n c, .slice (some ⟨R2, 0, none⟩) n d] w fun e w' => e = .returned (.bool true) ∧ Ch [] w w' := by
  subst hl
  exact eqWords_any l _ _ c d cur cur2 w hn h1 (fun _ => ⟨R, rfl⟩) (fun r h => by cases h; exact hb) h2 (fun _ => ⟨R2, rfl⟩) (fun r h => by cases h; exact hb2)
end
end Go.Proofs.Hc
