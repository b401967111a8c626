/- Rows of words. -/
import Derived.Test.YtcikopeddljgkaaGreatJHdi
import Derived.Test.YtcikopeddljgkaaGreatJ0
set_option linter.unusedSimpArgs false
set_option linter.unusedVariables false
set_option maxHeartbeats 1000000
set_option maxRecDepth 100000
namespace Go.Proofs.Hc
open Go.RowKit
def wcells (l : List (BitVec 64)) : Array Value := (l.map fun x => U x).toArray
def WordsAt (cur : Array Value) (l : List (BitVec 64)) : Prop := ∀ (j : Nat) (x : BitVec 64), l[j]? = some x → cur[j]? = some (U x)
theorem wcells_at (l : List (BitVec 64)) : WordsAt (wcells l) l := by
  intro j x h
  unfold wcells; simp [h]
theorem wcells_size (l : List (BitVec 64)) : (wcells l).size = l.length := by unfold wcells; simp
theorem wcells_list (l : List (BitVec 64)) : (wcells l).toList = l.map fun x => U x := by unfold wcells; simp
theorem wcells_set (l : List (BitVec 64)) (j : Nat) (x : BitVec 64) : (wcells l).setIfInBounds j (U x) = wcells (l.set j x) := by
  unfold wcells
  simp [List.setIfInBounds_toArray, List.map_set]
end Go.Proofs.Hc
namespace Go.Proofs.Hc
open Go.RowKit
attribute [local go_sem] zbu zcc zax zbf zbo zbd zbn zbp zbw signed64 signed8 zap BitVec.ofInt_add BitVec.ofInt_mul ofInt_sub' zbb zbc wide8 eqN neN zca shr1 shr7 shr56
attribute [local go_sem high] zbe zbv
attribute [local go_sem] zaw zby zaj zas zaf zaz zar zak zbm zal zay zba
attribute [local go_sem] load26 load73 load23 store26 build73
attribute [local go_sem ↓] lrow26 lrow73 lrow23 srow26 zero26 brow73 zae zbk zbg zaa zab
attribute [local go_sem] zai zav zat zbj zbl zbr zaq zau zbs zbi zbh
attribute [local go_sem] nn2 nm2 nn3 nm3 nn4 nm4 nn5 nm5 nn6 nm6 nn7 nm7 nn8 nm8
section
attribute [local go_sem] zap zbq
attribute [local go_sem] Oper.semAt_some zao
attribute [local go_sem] pen_g0 pen_g1 pen_g2 pen_g3 pen_g4 pen_g5 pen_g6 pen_g7 pen_g8 pen_g9 pen_g10 pen_g11 pen_g12 pen_g13 pen_g14 pen_g15 pen_g16 pen_g17 penC_size penC_one penC_all
attribute [local irreducible] penC
theorem tmod2_64w (x : BitVec 64) : (N x).tmod 2 = N (x &&& 1#64) := by
  rw [Int.tmod_eq_emod_of_nonneg (N_nonneg x)]
  unfold N
  rw [BitVec.toNat_and]
  show ((x.toNat : Int) % 2) = ((x.toNat &&& (2 ^ 1 - 1) : Nat) : Int)
  rw [Nat.and_two_pow_sub_one_eq_mod]; rfl
theorem bit64w (x : BitVec 64) : (N (x &&& 1#64) == 1) = oddB x := by
  have h : (N (x &&& 1#64) == N (1#64)) = ((x &&& 1#64) == 1#64) := eqN _ _
  exact h
theorem bit64zw (x : BitVec 64) : (N (x &&& 1#64) == 0) = !oddB x := by
  rw [← bit64w]
  have h : N (x &&& 1#64) = 0 ∨ N (x &&& 1#64) = 1 := by rw [← tmod2_64w, Int.tmod_eq_emod_of_nonneg (N_nonneg x)]; omega
  rcases h with h | h <;> rw [h] <;> rfl
attribute [local go_sem high] tmod2_64w bit64w bit64zw
theorem brow170 (ps : Array (Nat × Value)) : Instr.build 281 ps = buildRow 281 ps := rfl
theorem build170 (p : PenT) (w : World) : (buildRow 281 #[(0, .agg (penC p))]).run Tryz.prog w = .ok (.agg (penC p)) w := by kernel_rfl
theorem box170 (p : PenT) (w : World) : (Instr.box 281 (.agg (penC p))).run Tryz.prog w = .ok (.pointer (some ⟨w.heap.size, 0, none⟩)) (w.alloc (.cells (penC p) 281)) := rfl
attribute [local go_sem] build170 box170 boxPen loadPen storePen
attribute [local go_sem ↓] brow170 lrowPen srowPen
theorem cell_ok (n k : Int) (h0 : 0 ≤ n) (h1 : n < 128) (h2 : 0 ≤ k) (h3 : k < 40) (w : World) : Calls Tryz.prog 44 #[I n, I k] w fun e w' => e = .returned (.tuple #[I (16 + 40 * n + k), I 0]) ∧ w = w' := by
  go_enter Tryz.func44, Tryz.ntmps44
  go_wp2
  go_ret2
  exact ⟨by rw [show 16 + 40 * n + k = 16 + n * 40 + k by omega]; rfl, rfl⟩
end
section
attribute [local go_sem] zap zbq
attribute [local go_sem] Oper.semAt_some zao
attribute [local go_sem] pen_g0 pen_g1 pen_g2 pen_g3 pen_g4 pen_g5 pen_g6 pen_g7 pen_g8 pen_g9 pen_g10 pen_g11 pen_g12 pen_g13 pen_g14 pen_g15 pen_g16 pen_g17 penC_size penC_one penC_all
attribute [local irreducible] penC
attribute [local go_sem] pen_s0 pen_s1 pen_s2 pen_s3 pen_s4 pen_s5 pen_s6 pen_s7 pen_s8 pen_s9 pen_s10 pen_s11 pen_s12 pen_s13 pen_s14 pen_s15 pen_s16 pen_s17
theorem wzeroPen_run (w : World) : (zeroValue 123).run Tryz.prog w = .ok (.agg (penC zeroPen)) w := by kernel_rfl
theorem wlaidAt_pen (p q : PenT) (T : TypeId) (fr : Nat × Nat) : laidAt 0 (penC q) (.cells (penC p) T fr) = .cells (penC q) T fr := by
  rw [zak, laid_whole _ _ (by rw [penC_size, penC_size])]
theorem browPen (ps : Array (Nat × Value)) : Instr.build 123 ps = buildRow 123 ps := rfl
theorem buildPen0 (w : World) : (buildRow 123 #[]).run Tryz.prog w = .ok (.agg (penC zeroPen)) w := by kernel_rfl
attribute [local go_sem] build170 box170 boxPen loadPen storePen buildPen0
attribute [local go_sem ↓] brow170 lrowPen srowPen wzeroPen_run browPen
attribute [local go_sem high] wlaidAt_pen
end
section
attribute [local go_sem] zap zbq
attribute [local go_sem] Oper.semAt_some zao
attribute [local go_sem] pen_g0 pen_g1 pen_g2 pen_g3 pen_g4 pen_g5 pen_g6 pen_g7 pen_g8 pen_g9 pen_g10 pen_g11 pen_g12 pen_g13 pen_g14 pen_g15 pen_g16 pen_g17 penC_size penC_one penC_all
attribute [local irreducible] penC
attribute [local go_sem] pen_s0 pen_s1 pen_s2 pen_s3 pen_s4 pen_s5 pen_s6 pen_s7 pen_s8 pen_s9 pen_s10 pen_s11 pen_s12 pen_s13 pen_s14 pen_s15 pen_s16 pen_s17
attribute [local go_sem] boxPen loadPen storePen buildPen0
attribute [local go_sem ↓] lrowPen srowPen wzeroPen_run browPen
attribute [local go_sem high] wlaidAt_pen
def RowIn (w : World) (v : Value) (n : Nat) (l : List (BitVec 64)) : Prop := ∃ r c cur, v = .slice (some ⟨r, 0, none⟩) n c ∧ l.length = n ∧ w.heap[r]? = some (.cells cur 22 (0, 0)) ∧ WordsAt cur l
theorem RowIn.keep {w w' : World} {v : Value} {n : Nat} {l : List (BitVec 64)} (h : RowIn w v n l) (c : Ch [] w w') : RowIn w' v n l := by
  obtain ⟨r, d, cur, rfl, hn, hW, hA⟩ := h
  exact ⟨r, d, cur, rfl, hn, hkeep c hW, hA⟩
end
section
attribute [local go_sem] zap zbq
attribute [local go_sem] Oper.semAt_some zao
attribute [local go_sem] zcj pacell0 pacell1 pacell2 pacell3 pacell4 pacell5 pacell6 pacell7 pacell42
attribute [local go_sem] zcs zcx zcp zcw zcv zdg zcu zdf zce zcr zdj zdc zch zbt zci zck boxPart loadPart storePart zcf zct buildPart0 buildPart4
attribute [local go_sem ↓] lrowPart srowPart browPart zcl zbz
attribute [local go_sem high] zag
attribute [local irreducible] partC
attribute [local go_sem high] tmod2_64w bit64w bit64zw
def lookS (p : PartT) (x : BitVec 64) : PartT := if oddB x then { p with ph := 8 } else { p with ph := 1, count := x }
theorem s22look_any (p : PartT) (g : Nat) (x : BitVec 64) (w : World) (hg : w.heap[g]? = some (.cells (partC p) 179 (0, 0))) :
    Calls Tryz.prog 173 #[.pointer (some ⟨g, 0, none⟩), U x] w fun e w' => e = .returned (.tuple #[]) ∧ w'.heap[g]? = some (.cells (partC (lookS p x)) 179 (0, 0)) ∧ Ch [g] w w' := by
  unfold lookS
  cases ho : oddB x with
  | true =>
    rw [if_pos rfl]
    go_enter Tryz.func173, Tryz.ntmps173
    go_wp2
    go_end0
    exact ⟨rfl, by simp [go_sem, hg], (Ch.refl [g] w).setCell (p := ⟨g, 0, none⟩) (.inl (by simp)) _⟩
  | false =>
    rw [if_neg (by decide)]
    go_enter Tryz.func173, Tryz.ntmps173
    go_wp2
    go_end0
    exact ⟨rfl, by simp [go_sem, hg], (((Ch.refl [g] w).setCell (p := ⟨g, 0, none⟩) (.inl (by simp)) _).setCell (p := ⟨g, 0, none⟩) (.inl (by simp)) _).setCell (p := ⟨g, 6, none⟩) (.inl (by simp)) _⟩
theorem s22shut_any (p : PartT) (g : Nat) (x : BitVec 64) (w : World) (hg : w.heap[g]? = some (.cells (partC p) 179 (0, 0))) :
    Calls Tryz.prog 178 #[.pointer (some ⟨g, 0, none⟩), U x] w fun e w' => e = .returned (.tuple #[]) ∧ w'.heap[g]? = some (.cells (partC { p with at_ := 0, ph := 6 }) 179 (0, 0)) ∧ Ch [g] w w' := by
  go_enter Tryz.func178, Tryz.ntmps178
  go_wp2
  go_end0
  exact ⟨rfl, by simp [go_sem, hg], ((Ch.refl [g] w).setCell (p := ⟨g, 42, none⟩) (.inl (by simp)) _).setCell (p := ⟨g, 0, none⟩) (.inl (by simp)) _⟩
theorem s22lay_any (p : PartT) (g : Nat) (x : BitVec 64) (a0 : 0 ≤ p.at_) (a1 : p.at_ < 80) (hp : p.ph = 6) (w : World) (hg : w.heap[g]? = some (.cells (partC p) 179 (0, 0))) :
    Calls Tryz.prog 179 #[.pointer (some ⟨g, 0, none⟩), U x] w fun e w' => e = .returned (.tuple #[]) ∧ w'.heap[g]? = some (.cells (partC { p with at_ := p.at_ + 1, ph := if p.at_ = 79 then 7 else 6 }) 179 (0, 0)) ∧ Ch [g] w w' := by
  obtain ⟨ph, who, sl, t0, t1, seed, cn, hd, c, k, v, at_, ws⟩ := p
  dsimp only at a0 a1 hp ⊢
  subst hp
  have hw1 : IntKind.i64.wrap (at_ + 1) = at_ + 1 := by rw [IntKind.wrap_i64]; omega
  by_cases h : at_ = 79
  · subst h
    rw [if_pos rfl]
    go_enter Tryz.func179, Tryz.ntmps179
    go_wp2
    go_end0
    exact ⟨rfl, by simp [go_sem, hg], ((Ch.refl [g] w).setCell (p := ⟨g, 42, none⟩) (.inl (by simp)) _).setCell (p := ⟨g, 0, none⟩) (.inl (by simp)) _⟩
  · rw [if_neg h]
    have hne : (at_ + 1 == 80) = false := by simp; omega
    go_enter Tryz.func179, Tryz.ntmps179
    go_wp2
    go_end0
    exact ⟨rfl, by simp [go_sem, hg], (Ch.refl [g] w).setCell (p := ⟨g, 42, none⟩) (.inl (by simp)) _⟩
end
section
attribute [local go_sem] zap zbq
attribute [local go_sem] Oper.semAt_some zao
attribute [local go_sem] zcj pacell0 pacell1 pacell2 pacell3 pacell4 pacell5 pacell6 pacell7 pacell42
attribute [local go_sem] zcs zcx zcp zcw zcv zdg zcu zdf zce zcr zdj zdc zch zbt zci zck boxPart loadPart storePart zcf zct buildPart0 buildPart4
attribute [local go_sem ↓] lrowPart srowPart browPart zcl zbz
attribute [local go_sem high] zag
attribute [local irreducible] partC
theorem and255_lt (x : BitVec 64) : N (x &&& 255#64) < 256 := by
  unfold N
  have h := Nat.and_two_pow_sub_one_eq_mod x.toNat 8
  rw [BitVec.toNat_and, show (255#64 : BitVec 64).toNat = 2 ^ 8 - 1 from rfl, h]
  have := Nat.mod_lt x.toNat (show 0 < 2 ^ 8 by decide)
  have e : (2 : Nat) ^ 8 = 256 := rfl
  omega
theorem wrap255 (x : BitVec 64) : IntKind.i64.wrap (N (x &&& 255#64)) = N (x &&& 255#64) := by
  rw [IntKind.wrap_i64]
  have := and255_lt x
  have := N_nonneg (x &&& 255#64)
  omega
attribute [local go_sem] wrap255
theorem s22parts_any (p : PartT) (g : Nat) (w : World) (hg : w.heap[g]? = some (.cells (partC p) 179 (0, 0))) :
    Calls Tryz.prog 233 #[.pointer (some ⟨g, 0, none⟩)] w fun e w' => e = .returned (.tuple #[I (N (p.head &&& 255#64)), U (p.head >>> 8)]) ∧ Ch [] w w' := by
  go_enter Tryz.func233, Tryz.ntmps233
  go_upto_region 1 with (fail)
  have s1 : (fun W' : World => W'.heap[g]? = some (.cells (partC p) 179 (0, 0))) w.drew := hg
  have C1 : Ch [] w w.drew := (Ch.refl [] w).drew
  refine wp_region_held_drew (S := fun W' => W'.heap[g]? = some (.cells (partC p) 179 (0, 0))) (by kernel_rfl) s1 ?_
  intro _
  simp only [List.size_toArray, List.length_cons, List.length_nil, Nat.reduceAdd]
  obtain ⟨w1, hw1⟩ : ∃ W, w.drew = W := ⟨_, rfl⟩
  rw [hw1] at s1 C1 ⊢
  clear hw1 hg
  refine tk 0 4 ?_ rfl s1 ?_ ?_; rotate_left
  · intro _ _; go_simp; try with_reducible rfl
  try go_frame
  refine tk 1 5 ?_ rfl s1 ?_ ?_; rotate_left
  · intro _ _; go_simp; try with_reducible rfl
  try go_frame
  refine tk 2 6 ?_ rfl s1 ?_ ?_; rotate_left
  · intro _ _; go_simp; try with_reducible rfl
  try go_frame
  refine tk 3 7 ?_ rfl s1 ?_ ?_; rotate_left
  · intro _ _; go_simp; try with_reducible rfl
  try go_frame
  refine tk 4 8 ?_ rfl s1 ?_ ?_; rotate_left
  · intro _ _; go_simp; try with_reducible rfl
  try go_frame
  refine tk 5 9 ?_ rfl s1 ?_ ?_; rotate_left
  · intro _ _; go_simp; try with_reducible rfl
  try go_frame
  refine tk 6 10 ?_ rfl s1 ?_ ?_; rotate_left
  · intro _ _; go_simp; try with_reducible rfl
  try go_frame
  refine tk 7 11 ?_ rfl s1 ?_ ?_; rotate_left
  · intro _ _; go_simp; try with_reducible rfl
  try go_frame
  refine tk 8 12 ?_ rfl s1 ?_ ?_; rotate_left
  · intro _ _; go_simp; try with_reducible rfl
  try go_frame
  refine tk 9 13 ?_ rfl s1 ?_ ?_; rotate_left
  · intro _ _; go_simp; try with_reducible rfl
  try go_frame
  refine tk 10 14 ?_ rfl s1 ?_ ?_; rotate_left
  · intro _ _; go_simp; try with_reducible rfl
  try go_frame
  refine tk 11 15 ?_ rfl s1 ?_ ?_; rotate_left
  · intro _ _; go_simp; try with_reducible rfl
  try go_frame
  refine tk 12 16 ?_ rfl s1 ?_ ?_; rotate_left
  · intro _ _; go_simp; try with_reducible rfl
  try go_frame
  refine tk 13 2 ?_ rfl s1 ?_ ?_; rotate_left
  · intro _ _; go_simp; try with_reducible rfl
  try go_frame
  refine tk 14 3 ?_ rfl s1 ?_ ?_; rotate_left
  · intro _ _; go_simp; try with_reducible rfl
  try go_frame
  refine wpAnyH_done (by kernel_rfl) ?_ _
  go_wp2
  exact bodyPost_ret (by simp [results, Tryz.results233, go_sem]; exact shr8 _) rfl ⟨rfl, C1⟩
theorem s22key_any (p : PartT) (g j : Nat) (x : BitVec 64) (ha : p.at_ = (j : Int)) (hj : j < 16) (w : World) (hg : w.heap[g]? = some (.cells (partC p) 179 (0, 0))) :
    Calls Tryz.prog 176 #[.pointer (some ⟨g, 0, none⟩), U x] w fun e w' => e = .returned (.tuple #[]) ∧ w'.heap[g]? = some (.cells (partC { p with k := updW p.k j x, ph := 4 }) 179 (0, 0)) ∧ Ch [g] w w' := by
  obtain ⟨ph, who, sl, t0, t1, seed, cn, hd, c, k, v, at_, ws⟩ := p
  dsimp only at ha ⊢
  subst ha
  have HN := part_sk ⟨ph, who, sl, t0, t1, seed, cn, hd, c, k, v, (j : Int), ws⟩ j hj x
  have H0 := zcr ⟨ph, who, sl, t0, t1, seed, cn, hd, c, updW k j x, v, (j : Int), ws⟩ 4
  dsimp only at HN H0
  have e42 : (partC ⟨ph, who, sl, t0, t1, seed, cn, hd, c, k, v, (j : Int), ws⟩)[42]? = some (I (j : Int)) := zce _
  obtain ⟨o1, ho1⟩ : ∃ y, (partC ⟨ph, who, sl, t0, t1, seed, cn, hd, c, k, v, (j : Int), ws⟩)[10 + j]? = some y := ⟨_, part_gk _ j hj⟩
  obtain ⟨o2, ho2⟩ : ∃ y, (partC ⟨ph, who, sl, t0, t1, seed, cn, hd, c, updW k j x, v, (j : Int), ws⟩)[0]? = some y := ⟨_, zcs _⟩
  obtain ⟨c0, hc0⟩ : ∃ z, partC ⟨ph, who, sl, t0, t1, seed, cn, hd, c, k, v, (j : Int), ws⟩ = z := ⟨_, rfl⟩
  obtain ⟨c1, hc1⟩ : ∃ z, partC ⟨ph, who, sl, t0, t1, seed, cn, hd, c, updW k j x, v, (j : Int), ws⟩ = z := ⟨_, rfl⟩
  obtain ⟨c2, hc2⟩ : ∃ z, partC ⟨4, who, sl, t0, t1, seed, cn, hd, c, updW k j x, v, (j : Int), ws⟩ = z := ⟨_, rfl⟩
  rw [hc0] at HN ho1 hg e42
  rw [hc1] at HN H0 ho2
  rw [hc2] at H0 ⊢
  clear hc0 hc1 hc2
  have hjI : (j : Int) < 16 := by omega
  have hj0 : (0 : Int) ≤ j := by omega
  go_enter Tryz.func176, Tryz.ntmps176
  have f1 : c1[42]? = some (I (j : Int)) := by rw [← HN, Array.getElem?_setIfInBounds, if_neg (by omega)]; exact e42
  have f2 : c2[42]? = some (I (j : Int)) := by rw [← H0, Array.getElem?_setIfInBounds, if_neg (by omega)]; exact f1
  have s1 : (fun W' => ∃ cs, W'.heap[g]? = some (.cells cs 179 (0, 0)) ∧ cs[42]? = some (I (j : Int))) w.drew := ⟨c0, hg, e42⟩
  have g1 : w.drew.heap[g]? = some (.cells c0 179 (0, 0)) := hg
  have C1 : Ch [g] w w.drew := (Ch.refl [g] w).drew
  refine wp_region_held_drew (S := fun W' => ∃ cs, W'.heap[g]? = some (.cells cs 179 (0, 0)) ∧ cs[42]? = some (I (j : Int))) (by kernel_rfl) s1 ?_
  intro _
  simp only [List.size_toArray, List.length_cons, List.length_nil, Nat.reduceAdd]
  obtain ⟨w1, hw1⟩ : ∃ W, w.drew = W := ⟨_, rfl⟩
  rw [hw1] at s1 g1 C1 ⊢
  clear hw1 hg
  refine tk 0 4 ?_ rfl s1 ?_ ?_; rotate_left
  · intro wq hSq; obtain ⟨cs, q1, q2⟩ := hSq; go_simp; try with_reducible rfl
  try go_frame
  refine tk 1 5 ?_ rfl s1 ?_ ?_; rotate_left
  · intro wq hSq; obtain ⟨cs, q1, q2⟩ := hSq; go_simp; try with_reducible rfl
  try go_frame
  refine tk 2 6 ?_ rfl s1 ?_ ?_; rotate_left
  · intro wq hSq; obtain ⟨cs, q1, q2⟩ := hSq; go_simp; try with_reducible rfl
  try go_frame
  refine tk 3 7 ?_ rfl s1 ?_ ?_; rotate_left
  · intro wq hSq; obtain ⟨cs, q1, q2⟩ := hSq; go_simp; try with_reducible rfl
  try go_frame
  refine tk 4 8 ?_ rfl s1 ?_ ?_; rotate_left
  · intro wq hSq; obtain ⟨cs, q1, q2⟩ := hSq; go_simp; try with_reducible rfl
  try go_frame
  refine tk 5 9 ?_ rfl s1 ?_ ?_; rotate_left
  · intro wq hSq; obtain ⟨cs, q1, q2⟩ := hSq; go_simp; try with_reducible rfl
  try go_frame
  refine tk 6 10 ?_ rfl s1 ?_ ?_; rotate_left
  · intro wq hSq; obtain ⟨cs, q1, q2⟩ := hSq; go_simp; try with_reducible rfl
  try go_frame
  refine tk 7 11 ?_ rfl s1 ?_ ?_; rotate_left
  · intro wq hSq; obtain ⟨cs, q1, q2⟩ := hSq; go_simp; try with_reducible rfl
  try go_frame
  refine tk 8 12 ?_ rfl s1 ?_ ?_; rotate_left
  · intro wq hSq; obtain ⟨cs, q1, q2⟩ := hSq; go_simp; try with_reducible rfl
  try go_frame
  refine tk 9 13 ?_ rfl s1 ?_ ?_; rotate_left
  · intro wq hSq; obtain ⟨cs, q1, q2⟩ := hSq; go_simp; try with_reducible rfl
  try go_frame
  refine tk 10 14 ?_ rfl s1 ?_ ?_; rotate_left
  · intro wq hSq; obtain ⟨cs, q1, q2⟩ := hSq; go_simp; try with_reducible rfl
  try go_frame
  refine tk 11 15 ?_ rfl s1 ?_ ?_; rotate_left
  · intro wq hSq; obtain ⟨cs, q1, q2⟩ := hSq; go_simp; try with_reducible rfl
  try go_frame
  refine rd 12 rfl (fun K hK => ?_); go_simp
  have g2 : (w1.setCell ⟨g, 10 + j, none⟩ (U x)).heap[g]? = some (.cells c1 179 (0, 0)) := by rw [zaa, if_pos rfl, g1, Option.map_some, zaf, HN]
  have C2 : Ch [g] w (w1.setCell ⟨g, 10 + j, none⟩ (U x)) := C1.setCell (p := ⟨g, 10 + j, none⟩) (.inl (by simp)) _
  have s2 : (fun W' => ∃ cs, W'.heap[g]? = some (.cells cs 179 (0, 0)) ∧ cs[42]? = some (I (j : Int))) (w1.setCell ⟨g, 10 + j, none⟩ (U x)) := ⟨c1, g2, f1⟩
  refine hK.out _ _ s2 (fun _ => ?_)
  clear hK K s1 g1 C1
  generalize w1.setCell ⟨g, 10 + j, none⟩ (U x) = w2 at *
  refine tk 13 16 ?_ rfl s2 ?_ ?_; rotate_left
  · intro _ _; go_simp; try with_reducible rfl
  try go_frame
  refine tk 14 17 ?_ rfl s2 ?_ ?_; rotate_left
  · intro _ _; go_simp; try with_reducible rfl
  try go_frame
  refine tk 15 18 ?_ rfl s2 ?_ ?_; rotate_left
  · intro _ _; go_simp; try with_reducible rfl
  try go_frame
  refine rd 16 rfl (fun K hK => ?_); go_simp
  have g3 : (w2.setCell ⟨g, 0, none⟩ (I 4)).heap[g]? = some (.cells c2 179 (0, 0)) := by rw [zaa, if_pos rfl, g2, Option.map_some, zaf, H0]
  have C3 : Ch [g] w (w2.setCell ⟨g, 0, none⟩ (I 4)) := C2.setCell (p := ⟨g, 0, none⟩) (.inl (by simp)) _
  have s3 : (fun W' => ∃ cs, W'.heap[g]? = some (.cells cs 179 (0, 0)) ∧ cs[42]? = some (I (j : Int))) (w2.setCell ⟨g, 0, none⟩ (I 4)) := ⟨c2, g3, f2⟩
  refine hK.out _ _ s3 (fun _ => ?_)
  clear hK K s2 g2 C2 s3
  generalize w2.setCell ⟨g, 0, none⟩ (I 4) = w3 at *
  refine wpAnyH_done (by kernel_rfl) ?_ _
  first | (go_wp2; go_end0) | go_end0
  exact ⟨rfl, g3, C3⟩
end
section
attribute [local go_sem] zap zbq
attribute [local go_sem] Oper.semAt_some zao
attribute [local go_sem] zcj pacell0 pacell1 pacell2 pacell3 pacell4 pacell5 pacell6 pacell7 pacell42
attribute [local go_sem] zcs zcx zcp zcw zcv zdg zcu zdf zce zcr zdj zdc zch zbt zci zck boxPart loadPart storePart zcf zct buildPart0 buildPart4
attribute [local go_sem ↓] lrowPart srowPart browPart zcl zbz
attribute [local go_sem high] zag
attribute [local irreducible] partC
theorem build_half (d : Int) (p : BitVec 64) (w : World) : (buildRow 26 #[(1, I d), (2, U p)]).run Tryz.prog w = .ok (.agg (tcells ⟨0#64, d, p, 0, 0, fun _ => 0#64, fun _ => 0#64, fun _ => 0#64⟩)) w := by kernel_rfl
theorem mul2_64 (x : BitVec 64) : IntKind.u64.wrap (2 * N x) = N (2#64 * x) := by
  rw [IntKind.wrap_u64]; unfold N; rw [BitVec.toNat_mul, show (2#64).toNat = 2 from rfl]; omega
attribute [local go_sem] mul2_64
attribute [local go_sem ↓] brow26
theorem firstS_eq (p : PartT) (h : BitVec 64) : firstS p h = hasT ⟨0#64, N (p.head &&& 255#64) + 1, 2#64 * (p.head >>> 8), 0, 0, fun _ => 0#64, fun _ => 0#64, fun _ => 0#64⟩ h := rfl
theorem s22first_any (p : PartT) (g : Nat) (h : BitVec 64) (w : World) (hg : w.heap[g]? = some (.cells (partC p) 179 (0, 0))) :
    Calls Tryz.prog 311 #[.pointer (some ⟨g, 0, none⟩), U h] w fun e w' => e = .returned (.bool (firstS p h)) ∧ Ch [] w w' := by
  have P1 := s22parts_any p g w hg
  rw [firstS_eq]
  have hd : N (p.head &&& 255#64) < 256 := and255_lt p.head
  have hd0 : 0 ≤ N (p.head &&& 255#64) := by unfold N; omega
  obtain ⟨d, hdd⟩ : ∃ d, N (p.head &&& 255#64) = d := ⟨_, rfl⟩
  obtain ⟨y, hy⟩ : ∃ y, p.head >>> 8 = y := ⟨_, rfl⟩
  rw [hdd, hy] at P1
  rw [hdd] at hd hd0
  rw [hdd, hy]
  clear hdd hy
  have d1 : IntKind.i64.wrap (d + 1) = d + 1 := by rw [IntKind.wrap_i64]; omega
  have H1 := fun w => has_any ⟨0#64, d + 1, 2#64 * y, 0, 0, fun _ => 0#64, fun _ => 0#64, fun _ => 0#64⟩ h w
  obtain ⟨tc, htc⟩ : ∃ t : Tab, (⟨0#64, d + 1, 2#64 * y, 0, 0, fun _ => 0#64, fun _ => 0#64, fun _ => 0#64⟩ : Tab) = t := ⟨_, rfl⟩
  have B1 := fun w => build_half (d + 1) (2#64 * y) w
  rw [htc] at B1 H1 ⊢
  clear htc
  go_enter Tryz.func311, Tryz.ntmps311
  go_wp2_with fail
  refine P1.mono ?_
  rintro e w2 ⟨rfl, hc2⟩
  go_wp2_with fail
  refine (H1 _).mono ?_
  rintro e w3 ⟨rfl, hc3⟩
  go_wp2
  go_ret
  exact ⟨rfl, hc2.trans hc3⟩
end
section
attribute [local go_sem] Oper.semAt_some zao
theorem eqWords_any (l : List (BitVec 64)) (a b : Option Addr) (c d : Nat) (cur cur2 : Array Value) (w : World) (hl : l.length ≤ 900000)
    (hpa : WordsAt cur l) (ha : 0 < l.length → ∃ r, a = some ⟨r, 0, none⟩) (hr : ∀ r, a = some ⟨r, 0, none⟩ → w.heap[r]? = some (.cells cur 22 (0, 0)))
    (hpb : WordsAt cur2 l) (hb : 0 < l.length → ∃ r, b = some ⟨r, 0, none⟩) (hs : ∀ r, b = some ⟨r, 0, none⟩ → w.heap[r]? = some (.cells cur2 22 (0, 0))) :
    Calls Tryz.prog 31 #[.slice a l.length c, .slice b l.length d] w fun e w' => e = .returned (.bool true) ∧ Ch [] w w' := by
  have HP := Lib.hid hpa
  have HA := Lib.hid ha
  have HR := Lib.hid hr
  have HPB := Lib.hid hpb
  have HAB := Lib.hid hb
  have HRB := Lib.hid hs
  clear hpa ha hr hpb hb hs
  go_enter Tryz.func31, Tryz.ntmps31
  go_wp2
  go_loopw [13] (fun i wr => ∃ j : Nat, i = .int .i64 j ∧ j ≤ l.length ∧ Ch [] w wr) (fun i _ => l.length - (intOf i).toNat)
  case atStart => exact ⟨0, rfl, Nat.zero_le _, Ch.refl _ _⟩
  case round =>
    obtain ⟨j, hj, hjl, hcr⟩ := hrel
    subst hj
    rcases Nat.lt_or_ge j l.length with hlt | hge
    · obtain ⟨r, hra⟩ := HA.out (by omega)
      obtain ⟨q, hqb⟩ := HAB.out (by omega)
      obtain ⟨y, hy⟩ : ∃ y, l[j]? = some y := ⟨l[j]'hlt, List.getElem?_eq_getElem hlt⟩
      have hrow : cur[j]? = some (U y) := HP.out j y hy
      have hrow2 : cur2[j]? = some (U y) := HPB.out j y hy
      subst hra hqb
      have hrr : wr.heap[r]? = some (.cells cur 22 (0, 0)) := hkeep hcr (HR.out r rfl)
      have hqq : wr.heap[q]? = some (.cells cur2 22 (0, 0)) := hkeep hcr (HRB.out q rfl)
      have hdec : decide (j < l.length) = true := by simpa using hlt
      have hg0 : ∀ g : Gar wr, (g.1).heap[q]? = some (.cells cur2 22 (0, 0)) := fun g => hkeep g.2 hqq
      have hg1 : ∀ g : Gar wr, (g.1).heap[r]? = some (.cells cur 22 (0, 0)) := fun g => hkeep g.2 hrr
      clear hy
      go_wp2
      refine wp_region_gar (by kernel_rfl) (by kernel_rfl) ?_
      repeat (go_big_quiet_step (fail))
      refine wpQuiet_nil ?_
      rintro w1 ⟨g1, hw1⟩
      have hc1 : Ch [] w w1 := hcr.trans (by rw [hw1]; exact g1.2)
      clear hw1 g1 hg0 hg1
      go_wp2
      go_roundw
      case rel => exact ⟨j + 1, by go_num, hlt, hc1⟩
      case measure => simp [intOf]; omega
    · have hj : j = l.length := by omega
      subst hj
      go_wp2
      go_ret
      exact ⟨rfl, hcr⟩
theorem words_oneZ (l : List (BitVec 64)) : ∀ u ∈ l.map (fun x => U x), u.oneCell' = true := by
  intro u hu
  obtain ⟨y, _, rfl⟩ := List.mem_map.1 hu
  rfl
theorem cloneWords_any (l : List (BitVec 64)) (x : Addr) (c : Nat) (w : World) (hl : l.length ≤ 900000) (h : ∀ w', Ch [] w w' → ∀ j u, (l.map fun x => U x)[j]? = some u → w'.cell? (x.add j) = some u) :
    Calls Tryz.prog 54 #[.slice (some x) l.length c] w fun e w' => ∃ a' c', e = .returned (.slice a' l.length c') ∧ w'.ownsRow w.heap.size 22 1 (.slice a' l.length c') l.length (l.map fun x => U x) ∧ Ch [] w w' := by
  have q22 : ∀ (w : World) (a : Option Addr) (n c n' c' : Nat), (binOp .eql 44 (.slice a n c) (.slice none n' c')).run Tryz.prog w = .ok (.bool a.isNone) w := fun w a n c n' c' => Lib.run_eql_slice_nil w _ _ a n c n' c' Tryz.underlying44
  obtain ⟨i0, hi, hz0, hz1, hz2⟩ := info_parts infoU
  have hmade : (w.alloc (.cells #[] 22)).ownsRow w.heap.size 22 1 (.slice (some ⟨w.heap.size, 0, none⟩) 0 0) 0 [] := World.ownsRow_made w #[] 0 (Nat.le_refl _) (Nat.zero_le _) (by simp)
  have hcA : Ch [] w (w.alloc (.cells #[] 22)) := (Ch.refl [] w).alloc _
  obtain ⟨v', w1, hrun, hown, hgr, _⟩ := run_append_own (P := Tryz.prog) (w.alloc (.cells #[] 22)) w.heap.size 44 44 22 i0 (U 0#64) 1 8 Tryz.underlying44 hi hz0 hz1 hz2 rfl (by decide) _ 0 [] hmade x l.length c (l.map fun x => U x) (by simp) (h _ hcA) (words_oneZ l) (by unfold maxLen; omega) (by omega) (by simp)
  rw [Nat.zero_add, List.nil_append] at hown
  have hc1 : Ch [] w w1 := hcA.trans2 (Ch.of_grown (S := [w.heap.size]) hgr (fun k hk => by simp [Value.ownBlock] at hk; simp [hk])) (by simp)
  have bs : ∀ w : World, (Instr.buildSlice 44 0 #[]).run Tryz.prog w = .ok (.slice (some ⟨w.heap.size, 0, none⟩) 0 0) (w.alloc (.cells #[] 22)) := fun w => by kernel_rfl
  have HO := Lib.hid hown
  have HC := Lib.hid hc1
  clear hmade hcA hgr hown hc1 h
  go_enter Tryz.func54, Tryz.ntmps54
  go_wp2_with (at_builtin; refine Lib.wpList_append_run _ rfl _ _ 44 44 rfl _ _ rfl rfl _ _ hrun ?_)
  go_ret
  obtain ⟨a', c', rfl⟩ := own_form HO.out
  exact ⟨a', c', rfl, HO.out, HC.out⟩
end
end Go.Proofs.Hc
namespace Go.Proofs.Hc
open Go.RowKit
theorem row_out {w : World} {base : Nat} {v : Value} {L : List (BitVec 64)} {n : Nat} (hn : L.length = n) (h1 : 1 ≤ n) (ho : w.ownsRow base 22 1 v n (L.map fun x => U x)) :
    ∃ R c cur, v = .slice (some ⟨R, 0, none⟩) n c ∧ base ≤ R ∧ n ≤ c ∧ WordsAt cur L ∧ w.heap[R]? = some (.cells cur 22 (0, 0)) := by
  obtain ⟨hlen, ⟨_, h0⟩ | ⟨r, c, cur, rfl, hb, hW, h56, hcm, hsz, hel⟩⟩ := ho
  · omega
  · refine ⟨r, c, cur, rfl, hb, h56, fun j x hj => ?_, hW⟩
    have hjn : j < n := by have := (List.getElem?_eq_some_iff.1 hj).1; omega
    have h1 : (L.map fun x => U x)[j]? = some (U x) := by rw [List.getElem?_map, hj]; rfl
    rw [← hel, List.getElem?_take, if_pos (by omega), Array.getElem?_toList] at h1
    exact h1
end Go.Proofs.Hc
