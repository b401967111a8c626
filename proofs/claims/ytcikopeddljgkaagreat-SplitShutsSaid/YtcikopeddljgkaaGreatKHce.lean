/- Package cells: Do. -/
import Derived.Test.YtcikopeddljgkaaGreatKHcd
import Derived.Test.YtcikopeddljgkaaGreatK0
set_option linter.unusedSimpArgs false
set_option linter.unusedVariables false
set_option maxHeartbeats 4000000
set_option maxRecDepth 100000
namespace Go.Proofs.Hc
open Go.RowKit
variable {me : Int}
attribute [local go_sem] zbr zby zau zba zbl zay zbk zbm zbu signed64 signed8 zas BitVec.ofInt_add BitVec.ofInt_mul ofInt_sub' zaw zax wide8 eqN neN zbx shr1 shr7 shr56
attribute [local go_sem high] zaz zbt
attribute [local go_sem] zan zbv zae zal zad zbd zao zag zbj zaj zbc zbe
attribute [local go_sem] load26 load73 load23 store26 build73
attribute [local go_sem ↓] lrow26 lrow73 lrow23 srow26 zero26 brow73 zab zav zbb zaa zac
attribute [local go_sem] zah zaq zat zbf zbg zbp zam zar zbq zbi zbh
attribute [local go_sem] nn2 nm2 nn3 nm3 nn4 nm4 nn5 nm5 nn6 nm6 nn7 nm7 nn8 nm8
attribute [local go_sem] acc_g0 acc_g1 acc_g2 acc_g4 acc_s0 acc_s1 acc_s2 acc_s4 zcu accC_one accC_all loadAcc storeAcc bacc0 bacc2 bacc3 bacc3u bacc4
attribute [local go_sem ↓] lrowAcc srowAcc browAcc zct
attribute [local go_sem high] zce
attribute [local go_sem] loadAcs storeAcs buildAcs boxAcs boxAcc meth_load meth_swap
attribute [local go_sem ↓] lrowAcs srowAcs browAcs zeroAcs_run
attribute [local go_sem] zcw seenC_one seenC_all seenC_g0 loadSeen storeSeen buildSeen buildSeen0
attribute [local go_sem ↓] lrowSeen srowSeen browSeen zdk
attribute [local go_sem high] zcq
attribute [local irreducible] seenC
attribute [local go_sem] Oper.semAt_some zak zas
attribute [local irreducible] accC
theorem do_results {fn : Func} {p q u : Tmp} (h : fn.results = #[.tmp p, .cell q 93, .tmp u]) (tmps : Array Value) (b : Nat) (w : World) (x : Int) (d : Bool) (v y : Value) (hp : tmps.getD p undef = v) (hq : tmps.getD q undef = .pointer (some ⟨b, 0, none⟩)) (hu : tmps.getD u undef = y)
    (hb : w.heap[b]? = some (.cells (seenC x d) 93 (0, 0))) : (results fn tmps).run Tryz.prog w = .ok (.tuple #[v, .agg (seenC x d), y]) w := by
  have hl := run_loadVar_row (P := Tryz.prog) w b 93 93 (seenC x d) (0, 0) _ hb Tryz.underlying93 rfl (by rw [zcw]; kernel_rfl)
  have hp' : tmps[p]?.getD undef = v := by simpa using hp
  have hq' : tmps[q]?.getD undef = .pointer (some ⟨b, 0, none⟩) := by simpa using hq
  have hu' : tmps[u]?.getD undef = y := by simpa using hu
  simp [results, h, hp', hq', hu', asAddr, hl]
theorem Do_core (hm0 : 0 ≤ me) (hm7 : me < 8) (k j : Nat) (d : Int) (x z : BitVec 64) (l : List (BitVec 64)) (g c : Nat) (cur : Array Value) (w : World) (hk : 1 ≤ k) (hk4 : k ≤ 4) (hj : j < l.length) (hl : l.length ≤ 8192) (hx : l[j]? = some x)
    (hb : w.heap[g]? = some (.cells cur 22 (0, 0))) (hw : WordsAt cur l)
    (X1 : ∀ (r : Nat) (w : World), w.heap[r]? = some (.cells (wcells l) 22 (0, 0)) → Calls Tryz.prog 185 #[.agg (accC me k j d), .iface 268 (.agg #[.slice (some ⟨r, j, none⟩) 1 1])] w (DoesPost w r j (wcells l) x z)) :
    Calls Tryz.prog 118 #[.slice (some ⟨g, 0, none⟩) l.length c, .agg (accC me k j d)] w fun e w' => ∃ R, e = .returned (.tuple #[.slice (some ⟨R, 0, none⟩) l.length l.length, .agg (seenC (N x) true), I 0]) ∧ w.heap.size ≤ R ∧ w'.heap[R]? = some (.cells (wcells (l.set j z)) 22 (0, 0)) ∧ Ch [] w w' := by
  have K1 := fun w => cCheck_ok hm0 hm7 k j l.length d (by omega) (by omega) (by omega) (by omega) (by omega) (by omega) w
  have O1 := fun w h => cOwn_any l g c cur w (by omega) h hw
  rw [← wcells_set]
  obtain ⟨n, hn⟩ : ∃ n, l.length = n := ⟨_, rfl⟩
  rw [hn] at K1 O1 hj hl ⊢
  have hsz : (wcells l).size = n := by rw [wcells_size, hn]
  generalize wcells l = cu at *
  have C0 : Ch [] w (World.onObj (((w.alloc (.cells (accC me k j d) 87)).alloc (.cells (seenC 0 false) 93)).alloc (.cells (accC 0 0 0 0) 264)) (w.heap.size + 1 + 1) (laidAt 0 (accC me k j d))) := ((((Ch.refl [] w).alloc _).alloc _).alloc _).onObj (p := w.heap.size + 1 + 1) (.inr (by omega)) _
  have z0 : (World.onObj (((w.alloc (.cells (accC me k j d) 87)).alloc (.cells (seenC 0 false) 93)).alloc (.cells (accC 0 0 0 0) 264)) (w.heap.size + 1 + 1) (laidAt 0 (accC me k j d))).heap[w.heap.size + 1]? = some (.cells (seenC 0 false) 93 (0, 0)) := by
    rw [zac, if_neg (by omega), zab, if_neg (by simp), zab, if_pos (by simp)]
  have x0 : (World.onObj (((w.alloc (.cells (accC me k j d) 87)).alloc (.cells (seenC 0 false) 93)).alloc (.cells (accC 0 0 0 0) 264)) (w.heap.size + 1 + 1) (laidAt 0 (accC me k j d))).heap[w.heap.size]? = some (.cells (accC me k j d) 87 (0, 0)) := by
    rw [zac, if_neg (by omega), zab, if_neg (by simp; omega), zab, if_neg (by simp), zab, if_pos rfl]
  have a0 : (World.onObj (((w.alloc (.cells (accC me k j d) 87)).alloc (.cells (seenC 0 false) 93)).alloc (.cells (accC 0 0 0 0) 264)) (w.heap.size + 1 + 1) (laidAt 0 (accC me k j d))).heap[w.heap.size + 1 + 1]? = some (.cells (accC me k j d) 264 (0, 0)) := by
    rw [zac, if_pos rfl, zab, if_pos (by simp), Option.map_some, zce]
  have g0' := hkeep C0 hb
  clear hb hw hx hn hk hk4 hm0 hm7
  go_enter Tryz.func118, Tryz.ntmps118
  go_wp2_with fail
  generalize World.onObj (((w.alloc (.cells (accC me k j d) 87)).alloc (.cells (seenC 0 false) 93)).alloc (.cells (accC 0 0 0 0) 264)) (w.heap.size + 1 + 1) (laidAt 0 (accC me k j d)) = W0 at *
  refine (K1 _).mono ?_
  rintro e w1 ⟨rfl, hc1⟩
  have z1 := hkeep hc1 z0
  have x1 := hkeep hc1 x0
  have a1 := hkeep hc1 a0
  have g1 := hkeep hc1 g0'
  have C1 := C0.trans hc1
  clear z0 x0 a0 g0' C0 hc1
  go_wp2_with fail
  refine (O1 _ g1).mono ?_
  rintro e w2 ⟨rfl, hR, hc2⟩
  have z2 := hkeep hc2 z1
  have x2 := hkeep hc2 x1
  have a2 := hkeep hc2 a1
  have C2 := C1.trans hc2
  have hRw := C1.size
  have hRz : w.heap.size + 1 ≠ w1.heap.size := by have := (Array.getElem?_eq_some_iff.1 z1).1; omega
  have hRx : w.heap.size ≠ w1.heap.size := by have := (Array.getElem?_eq_some_iff.1 x1).1; omega
  have hRa : w.heap.size + 1 + 1 ≠ w1.heap.size := by have := (Array.getElem?_eq_some_iff.1 a1).1; omega
  generalize w1.heap.size = R at *
  clear z1 x1 a1 g1 C1 hc2 K1 O1
  go_wp2
  obtain ⟨B, hB⟩ : ∃ B, w.heap.size = B := ⟨_, rfl⟩
  rw [hB] at z2 x2 a2 hRw hRz hRx hRa ⊢
  have HB := Lib.hid hB
  clear hB
  have s3 : (fun W' : World => W'.heap[B]? = some (.cells (accC me k j d) 87 (0, 0)) ∧ W'.heap[B + 1 + 1]? = some (.cells (accC me k j d) 264 (0, 0))) w2.drew := ⟨x2, a2⟩
  have z3 : w2.drew.heap[B + 1]? = some (.cells (seenC 0 false) 93 (0, 0)) := z2
  have r3 : w2.drew.heap[R]? = some (.cells cu 22 (0, 0)) := hR
  have C3 : Ch [] w w2.drew := C2.drew
  refine wp_region_held_drew (S := fun W' => W'.heap[B]? = some (.cells (accC me k j d) 87 (0, 0)) ∧ W'.heap[B + 1 + 1]? = some (.cells (accC me k j d) 264 (0, 0))) (by kernel_rfl) s3 ?_
  intro _
  simp only [List.size_toArray, List.length_cons, List.length_nil, Nat.reduceAdd]
  clear z2 x2 a2 hR C2
  generalize w2.drew = w3 at *
  have hj1 : IntKind.i64.wrap ((j : Int) + 1) = (j : Int) + 1 := IntWalk.i64_in _ (by omega)
  have hj2 : 0 ≤ (j : Int) + 1 := by omega
  have hj3 : ((j : Int) + 1).toNat = j + 1 := by omega
  have hj4 : (j : Int) + 1 ≤ (n : Int) := by omega
  refine tk 0 23 ?_ rfl s3 ?_ ?_; rotate_left
  · intro wq hSq; obtain ⟨q1, q2⟩ := hSq; go_simp; try with_reducible rfl
  try go_frame
  refine tk 1 24 ?_ rfl s3 ?_ ?_; rotate_left
  · intro wq hSq; obtain ⟨q1, q2⟩ := hSq; go_simp; try with_reducible rfl
  try go_frame
  refine tk 2 25 ?_ rfl s3 ?_ ?_; rotate_left
  · intro wq hSq; obtain ⟨q1, q2⟩ := hSq; go_simp; try with_reducible rfl
  try go_frame
  refine tk 3 26 ?_ rfl s3 ?_ ?_; rotate_left
  · intro wq hSq; obtain ⟨q1, q2⟩ := hSq; go_simp; try with_reducible rfl
  try go_frame
  refine tk 4 27 ?_ rfl s3 ?_ ?_; rotate_left
  · intro wq hSq; obtain ⟨q1, q2⟩ := hSq; go_simp; try with_reducible rfl
  try go_frame
  refine tk 5 28 ?_ rfl s3 ?_ ?_; rotate_left
  · intro wq hSq; obtain ⟨q1, q2⟩ := hSq; go_simp; try with_reducible rfl
  try go_frame
  refine tk 6 29 ?_ rfl s3 ?_ ?_; rotate_left
  · intro wq hSq; obtain ⟨q1, q2⟩ := hSq; go_simp; try with_reducible rfl
  try go_frame
  refine tk 7 30 ?_ rfl s3 ?_ ?_; rotate_left
  · intro wq hSq; obtain ⟨q1, q2⟩ := hSq; go_simp; try with_reducible rfl
  try go_frame
  refine tk 8 31 ?_ rfl s3 ?_ ?_; rotate_left
  · intro wq hSq; obtain ⟨q1, q2⟩ := hSq; go_simp; try with_reducible rfl
  try go_frame
  refine tk 9 32 ?_ rfl s3 ?_ ?_; rotate_left
  · intro wq hSq; obtain ⟨q1, q2⟩ := hSq; go_simp; try with_reducible rfl
  try go_frame
  refine tk 10 33 ?_ rfl s3 ?_ ?_; rotate_left
  · intro wq hSq; obtain ⟨q1, q2⟩ := hSq; go_simp; try with_reducible rfl
  try go_frame
  refine tk 11 34 ?_ rfl s3 ?_ ?_; rotate_left
  · intro wq hSq; obtain ⟨q1, q2⟩ := hSq; go_simp; try with_reducible rfl
  try go_frame
  refine tk 12 35 ?_ rfl s3 ?_ ?_; rotate_left
  · intro wq hSq; obtain ⟨q1, q2⟩ := hSq; go_simp; try with_reducible rfl
  try go_frame
  clear hj1 hj2 hj3 hj4
  refine wpAnyH_ready (rs := [13, 14]) (by kernel_rfl) (by simp) ?_
  refine AllReadyH.cons rfl (fun K hK => ?_) (AllReadyH.cons (o := ⟨some 10, _, _, _, _, none⟩) rfl (fun K hK => ?_) AllReadyH.nil)
  · go_simp
    refine (X1 R _ r3).mono ?_
    rintro e w4 ⟨rfl, hc4, r4⟩
    have s4 : w4.heap[B]? = some (.cells (accC me k j d) 87 (0, 0)) ∧ w4.heap[B + 1 + 1]? = some (.cells (accC me k j d) 264 (0, 0)) := ⟨(hc4.block _ (Array.getElem?_eq_some_iff.1 s3.1).1 (by simp; omega)).trans s3.1, (hc4.block _ (Array.getElem?_eq_some_iff.1 s3.2).1 (by simp; omega)).trans s3.2⟩
    have z4 : w4.heap[B + 1]? = some (.cells (seenC 0 false) 93 (0, 0)) := (hc4.block _ (Array.getElem?_eq_some_iff.1 z3).1 (by simp; omega)).trans z3
    have C4 : Ch [] w w4 := C3.trans2 hc4 (by simp; rw [HB.out]; omega)
    refine hK.out _ _ s4 (fun _ => ?_)
    clear hK K hc4
    refine rd (o := ⟨some 10, _, _, _, _, none⟩) 14 rfl (fun K hK => ?_); go_simp
    have hcA : Ch [] w4 (w4.alloc (.cells (seenC 0 false) 93)) := (Ch.refl [] w4).alloc _
    have s5 : (w4.alloc (.cells (seenC 0 false) 93)).heap[B]? = some (.cells (accC me k j d) 87 (0, 0)) ∧ (w4.alloc (.cells (seenC 0 false) 93)).heap[B + 1 + 1]? = some (.cells (accC me k j d) 264 (0, 0)) := ⟨hkeep hcA s4.1, hkeep hcA s4.2⟩
    have z5 := hkeep hcA z4
    have r5 := hkeep hcA r4
    have C5 := C4.trans hcA
    have a5 : (w4.alloc (.cells (seenC 0 false) 93)).heap[w4.heap.size]? = some (.cells (seenC 0 false) 93 (0, 0)) := by rw [zab, if_pos rfl]
    have hAz : B + 1 ≠ w4.heap.size := by have := (Array.getElem?_eq_some_iff.1 z4).1; omega
    have hAB : B ≠ w4.heap.size := by have := (Array.getElem?_eq_some_iff.1 s4.1).1; omega
    have hAB2 : B + 1 + 1 ≠ w4.heap.size := by have := (Array.getElem?_eq_some_iff.1 s4.2).1; omega
    have hAR : R ≠ w4.heap.size := by have := (Array.getElem?_eq_some_iff.1 r4).1; omega
    have hAw : w.heap.size ≤ w4.heap.size := C4.size
    refine hK.out _ _ s5 (fun _ => ?_)
    clear hK K hcA
    generalize (w4.alloc (.cells (seenC 0 false) 93)) = w5 at *
    generalize w4.heap.size = A at *
    refine rd 15 rfl (fun K hK => ?_); go_simp
    have s7 : (World.onObj w5 A (laidAt 0 (seenC (N x) true))).heap[B]? = some (.cells (accC me k j d) 87 (0, 0)) ∧ (World.onObj w5 A (laidAt 0 (seenC (N x) true))).heap[B + 1 + 1]? = some (.cells (accC me k j d) 264 (0, 0)) := by
      rw [zac, if_neg hAB, zac, if_neg hAB2]; exact s5
    have z7 : (World.onObj w5 A (laidAt 0 (seenC (N x) true))).heap[B + 1]? = some (.cells (seenC 0 false) 93 (0, 0)) := by rw [zac, if_neg hAz]; exact z5
    have r7 : (World.onObj w5 A (laidAt 0 (seenC (N x) true))).heap[R]? = some (.cells (cu.setIfInBounds j (U z)) 22 (0, 0)) := by rw [zac, if_neg hAR]; exact r5
    have a7 : (World.onObj w5 A (laidAt 0 (seenC (N x) true))).heap[A]? = some (.cells (seenC (N x) true) 93 (0, 0)) := by rw [zac, if_pos rfl, a5, Option.map_some, zcq]
    have C7 : Ch [] w (World.onObj w5 A (laidAt 0 (seenC (N x) true))) := C5.onObj (.inr hAw) _
    refine hK.out _ _ s7 (fun _ => ?_)
    clear hK K
    generalize (World.onObj w5 A (laidAt 0 (seenC (N x) true))) = w7 at *
    refine wpAnyH_done (by kernel_rfl) ?_ _
    go_wp2
    have s9 : (fun W' : World => W'.heap[A]? = some (.cells (seenC (N x) true) 93 (0, 0))) w7.drew := a7
    have z9 : w7.drew.heap[B + 1]? = some (.cells (seenC 0 false) 93 (0, 0)) := z7
    have r9 : w7.drew.heap[R]? = some (.cells (cu.setIfInBounds j (U z)) 22 (0, 0)) := r7
    have C9 : Ch [] w w7.drew := C7.drew
    refine wp_region_held_drew (S := fun W' => W'.heap[A]? = some (.cells (seenC (N x) true) 93 (0, 0))) (by kernel_rfl) s9 ?_
    intro _
    simp only [List.size_toArray, List.length_cons, List.length_nil, Nat.reduceAdd]
    clear a7 z7 r7 C7 s7
    generalize w7.drew = w9 at *
    refine tk 0 37 ?_ rfl s9 ?_ ?_; rotate_left
    · intro _ _; go_simp; try with_reducible rfl
    try go_frame
    refine tk 1 38 ?_ rfl s9 ?_ ?_; rotate_left
    · intro _ _; go_simp; try with_reducible rfl
    try go_frame
    refine tk 2 4 ?_ rfl s9 ?_ ?_; rotate_left
    · intro _ _; go_simp; try with_reducible rfl
    try go_frame
    refine rd 3 rfl (fun K hK => ?_); go_simp
    have s10 : (World.onObj w9 (B + 1) (laidAt 0 (seenC (N x) true))).heap[A]? = some (.cells (seenC (N x) true) 93 (0, 0)) := by rw [zac, if_neg (fun e => hAz e.symm)]; exact s9
    have z10 : (World.onObj w9 (B + 1) (laidAt 0 (seenC (N x) true))).heap[B + 1]? = some (.cells (seenC (N x) true) 93 (0, 0)) := by rw [zac, if_pos rfl, z9, Option.map_some, zcq]
    have r10 : (World.onObj w9 (B + 1) (laidAt 0 (seenC (N x) true))).heap[R]? = some (.cells (cu.setIfInBounds j (U z)) 22 (0, 0)) := by rw [zac, if_neg (fun e => hRz e.symm)]; exact r9
    have C10 : Ch [] w (World.onObj w9 (B + 1) (laidAt 0 (seenC (N x) true))) := C9.onObj (.inr (by rw [HB.out]; omega)) _
    refine hK.out _ _ s10 (fun _ => ?_)
    clear hK K
    generalize World.onObj w9 (B + 1) (laidAt 0 (seenC (N x) true)) = w10 at *
    refine tk 4 6 ?_ rfl s10 ?_ ?_; rotate_left
    · intro _ _; go_simp; try with_reducible rfl
    try go_frame
    refine wpAnyH_done (by kernel_rfl) ?_ _
    go_wp2
    refine bodyPost_ret (do_results Tryz.results118 _ (B + 1) _ (N x) true _ _ rfl rfl rfl z10) rfl ⟨R, rfl, by rw [HB.out]; exact hRw, r10, C10⟩
  · go_simp
    have hcA : Ch [] w3 (w3.alloc (.cells (seenC 0 false) 93)) := (Ch.refl [] w3).alloc _
    have s4 : (w3.alloc (.cells (seenC 0 false) 93)).heap[B]? = some (.cells (accC me k j d) 87 (0, 0)) ∧ (w3.alloc (.cells (seenC 0 false) 93)).heap[B + 1 + 1]? = some (.cells (accC me k j d) 264 (0, 0)) := ⟨hkeep hcA s3.1, hkeep hcA s3.2⟩
    have z4 := hkeep hcA z3
    have r4 := hkeep hcA r3
    have C4 := C3.trans hcA
    have a4 : (w3.alloc (.cells (seenC 0 false) 93)).heap[w3.heap.size]? = some (.cells (seenC 0 false) 93 (0, 0)) := by rw [zab, if_pos rfl]
    have hAz : B + 1 ≠ w3.heap.size := by have := (Array.getElem?_eq_some_iff.1 z3).1; omega
    have hAB : B ≠ w3.heap.size := by have := (Array.getElem?_eq_some_iff.1 s3.1).1; omega
    have hAB2 : B + 1 + 1 ≠ w3.heap.size := by have := (Array.getElem?_eq_some_iff.1 s3.2).1; omega
    have hAR : R ≠ w3.heap.size := by have := (Array.getElem?_eq_some_iff.1 r3).1; omega
    have hAw : w.heap.size ≤ w3.heap.size := C3.size
    refine hK.out _ _ s4 (fun _ => ?_)
    clear hK K hcA
    generalize (w3.alloc (.cells (seenC 0 false) 93)) = w4 at *
    generalize w3.heap.size = A at *
    refine rd 13 rfl (fun K hK => ?_); go_simp
    refine (X1 R _ r4).mono ?_
    rintro e w5 ⟨rfl, hc5, r5⟩
    have s5 : w5.heap[B]? = some (.cells (accC me k j d) 87 (0, 0)) ∧ w5.heap[B + 1 + 1]? = some (.cells (accC me k j d) 264 (0, 0)) := ⟨(hc5.block _ (Array.getElem?_eq_some_iff.1 s4.1).1 (by simp; omega)).trans s4.1, (hc5.block _ (Array.getElem?_eq_some_iff.1 s4.2).1 (by simp; omega)).trans s4.2⟩
    have z5 : w5.heap[B + 1]? = some (.cells (seenC 0 false) 93 (0, 0)) := (hc5.block _ (Array.getElem?_eq_some_iff.1 z4).1 (by simp; omega)).trans z4
    have C5 : Ch [] w w5 := C4.trans2 hc5 (by simp; rw [HB.out]; omega)
    have a5 : w5.heap[A]? = some (.cells (seenC 0 false) 93 (0, 0)) := (hc5.block _ (Array.getElem?_eq_some_iff.1 a4).1 (by simp; omega)).trans a4
    refine hK.out _ _ s5 (fun _ => ?_)
    clear hK K hc5
    refine rd 15 rfl (fun K hK => ?_); go_simp
    have s7 : (World.onObj w5 A (laidAt 0 (seenC (N x) true))).heap[B]? = some (.cells (accC me k j d) 87 (0, 0)) ∧ (World.onObj w5 A (laidAt 0 (seenC (N x) true))).heap[B + 1 + 1]? = some (.cells (accC me k j d) 264 (0, 0)) := by
      rw [zac, if_neg hAB, zac, if_neg hAB2]; exact s5
    have z7 : (World.onObj w5 A (laidAt 0 (seenC (N x) true))).heap[B + 1]? = some (.cells (seenC 0 false) 93 (0, 0)) := by rw [zac, if_neg hAz]; exact z5
    have r7 : (World.onObj w5 A (laidAt 0 (seenC (N x) true))).heap[R]? = some (.cells (cu.setIfInBounds j (U z)) 22 (0, 0)) := by rw [zac, if_neg hAR]; exact r5
    have a7 : (World.onObj w5 A (laidAt 0 (seenC (N x) true))).heap[A]? = some (.cells (seenC (N x) true) 93 (0, 0)) := by rw [zac, if_pos rfl, a5, Option.map_some, zcq]
    have C7 : Ch [] w (World.onObj w5 A (laidAt 0 (seenC (N x) true))) := C5.onObj (.inr hAw) _
    refine hK.out _ _ s7 (fun _ => ?_)
    clear hK K
    generalize (World.onObj w5 A (laidAt 0 (seenC (N x) true))) = w7 at *
    refine wpAnyH_done (by kernel_rfl) ?_ _
    go_wp2
    have s9 : (fun W' : World => W'.heap[A]? = some (.cells (seenC (N x) true) 93 (0, 0))) w7.drew := a7
    have z9 : w7.drew.heap[B + 1]? = some (.cells (seenC 0 false) 93 (0, 0)) := z7
    have r9 : w7.drew.heap[R]? = some (.cells (cu.setIfInBounds j (U z)) 22 (0, 0)) := r7
    have C9 : Ch [] w w7.drew := C7.drew
    refine wp_region_held_drew (S := fun W' => W'.heap[A]? = some (.cells (seenC (N x) true) 93 (0, 0))) (by kernel_rfl) s9 ?_
    intro _
    simp only [List.size_toArray, List.length_cons, List.length_nil, Nat.reduceAdd]
    clear a7 z7 r7 C7 s7
    generalize w7.drew = w9 at *
    refine tk 0 37 ?_ rfl s9 ?_ ?_; rotate_left
    · intro _ _; go_simp; try with_reducible rfl
    try go_frame
    refine tk 1 38 ?_ rfl s9 ?_ ?_; rotate_left
    · intro _ _; go_simp; try with_reducible rfl
    try go_frame
    refine tk 2 4 ?_ rfl s9 ?_ ?_; rotate_left
    · intro _ _; go_simp; try with_reducible rfl
    try go_frame
    refine rd 3 rfl (fun K hK => ?_); go_simp
    have s10 : (World.onObj w9 (B + 1) (laidAt 0 (seenC (N x) true))).heap[A]? = some (.cells (seenC (N x) true) 93 (0, 0)) := by rw [zac, if_neg (fun e => hAz e.symm)]; exact s9
    have z10 : (World.onObj w9 (B + 1) (laidAt 0 (seenC (N x) true))).heap[B + 1]? = some (.cells (seenC (N x) true) 93 (0, 0)) := by rw [zac, if_pos rfl, z9, Option.map_some, zcq]
    have r10 : (World.onObj w9 (B + 1) (laidAt 0 (seenC (N x) true))).heap[R]? = some (.cells (cu.setIfInBounds j (U z)) 22 (0, 0)) := by rw [zac, if_neg (fun e => hRz e.symm)]; exact r9
    have C10 : Ch [] w (World.onObj w9 (B + 1) (laidAt 0 (seenC (N x) true))) := C9.onObj (.inr (by rw [HB.out]; omega)) _
    refine hK.out _ _ s10 (fun _ => ?_)
    clear hK K
    generalize World.onObj w9 (B + 1) (laidAt 0 (seenC (N x) true)) = w10 at *
    refine tk 4 6 ?_ rfl s10 ?_ ?_; rotate_left
    · intro _ _; go_simp; try with_reducible rfl
    try go_frame
    refine wpAnyH_done (by kernel_rfl) ?_ _
    go_wp2
    refine bodyPost_ret (do_results Tryz.results118 _ (B + 1) _ (N x) true _ _ rfl rfl rfl z10) rfl ⟨R, rfl, by rw [HB.out]; exact hRw, r10, C10⟩
end Go.Proofs.Hc
