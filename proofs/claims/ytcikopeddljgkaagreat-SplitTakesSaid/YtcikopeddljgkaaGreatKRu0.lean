/- Layer 19, who writes: the model. Plain law, no program in sight. -/
import Derived.Test.YtcikopeddljgkaaGreatKSa
import Derived.Test.YtcikopeddljgkaaGreatK0
set_option linter.unusedSimpArgs false
set_option linter.unusedVariables false
set_option maxHeartbeats 4000000
set_option maxRecDepth 100000
namespace Go.Proofs.Hc
open Go.RowKit
structure PenT where
  ph : Int
  sl : Int
  op : Int
  key : BitVec 64
  a : BitVec 64
  b : BitVec 64
  hash : BitVec 64
  count : BitVec 64
  can : BitVec 64
  live : BitVec 64
  grp : Int
  ctrl : BitVec 64
  left : BitVec 8
  free : Int
  fctrl : BitVec 64
  slot : Int
  val : BitVec 64
  found : Bool
def penC (p : PenT) : Array Value := #[I p.ph, I p.sl, I p.op, U p.key, U p.a, U p.b, U p.hash, U p.count, U p.can, U p.live, I p.grp, U p.ctrl, Y p.left, I p.free, U p.fctrl, I p.slot, U p.val, .bool p.found]
theorem penC_size (p : PenT) : (penC p).size = 18 := rfl
theorem penC_one (p : PenT) : allOne (penC p) = true := by unfold allOne penC; simp [Value.oneCell']
theorem penC_all (p : PenT) : (penC p).extract 0 18 = penC p := by have := Array.extract_size (xs := penC p); rwa [penC_size] at this
def oddB (x : BitVec 64) : Bool := (x &&& 1#64) == 1#64
structure AccT where
  kind : Int
  at_ : Int
  new : BitVec 64
def doP (c : List (BitVec 64)) (x : AccT) : Option (List (BitVec 64) × BitVec 64) :=
  match c[x.at_.toNat]? with
  | none => none
  | some w => some (if x.kind = 1 then c else if x.kind = 2 then c.set x.at_.toNat x.new else c.set x.at_.toNat (w + x.new), w)
end Go.Proofs.Hc
namespace Go.Proofs.Hc
open Go.RowKit
variable {me : Int}
attribute [local go_sem] zbv zcb zba zbf zbr zbd zbq zbs zbx signed64 signed8 zap BitVec.ofInt_add BitVec.ofInt_mul ofInt_sub' zbb zbc wide8 eqN neN zca shr1 shr7 shr56
attribute [local go_sem high] zbe zbw
attribute [local go_sem] zaw zby zaj zas zae zay zar zak zbn zam zax zaz
attribute [local go_sem] load26 load73 load23 store26 build73
attribute [local go_sem ↓] lrow26 lrow73 lrow23 srow26 zero26 brow73 zac zbk zbg zaa zab
attribute [local go_sem] zai zav zau zbj zbl zbo zaq zat zbp zbi zbh
attribute [local go_sem] nn2 nm2 nn3 nm3 nn4 nm4 nn5 nm5 nn6 nm6 nn7 nm7 nn8 nm8
attribute [local go_sem] acc_g0 acc_g1 acc_g2 acc_g4 acc_s0 acc_s1 acc_s2 acc_s4 zdg accC_one accC_all loadAcc storeAcc bacc0 bacc2 bacc3 bacc3u bacc4
attribute [local go_sem ↓] lrowAcc srowAcc browAcc zcu
attribute [local go_sem high] zah
attribute [local go_sem] loadAcs storeAcs buildAcs boxAcs boxAcc meth_load meth_swap
attribute [local go_sem ↓] lrowAcs srowAcs browAcs zeroAcs_run
attribute [local go_sem] zcx seenC_one seenC_all seenC_g0 loadSeen storeSeen buildSeen buildSeen0
attribute [local go_sem ↓] lrowSeen srowSeen browSeen zcy
attribute [local go_sem high] zal
attribute [local irreducible] seenC
attribute [local go_sem] Oper.semAt_some zao zap
attribute [local irreducible] accC
theorem do_results {fn : Func} {p q u : Tmp} (h : fn.results = #[.tmp p, .cell q 93, .tmp u]) (tmps : Array Value) (b : Nat) (w : World) (x : Int) (d : Bool) (v y : Value) (hp : tmps.getD p undef = v) (hq : tmps.getD q undef = .pointer (some ⟨b, 0, none⟩)) (hu : tmps.getD u undef = y)
    (hb : w.heap[b]? = some (.cells (seenC x d) 93 (0, 0))) : (results fn tmps).run Tryz.prog w = .ok (.tuple #[v, .agg (seenC x d), y]) w := by
  have hl := run_loadVar_row (P := Tryz.prog) w b 93 93 (seenC x d) (0, 0) _ hb Tryz.underlying93 rfl (by rw [zcx]; kernel_rfl)
  have hp' : tmps[p]?.getD undef = v := by simpa using hp
  have hq' : tmps[q]?.getD undef = .pointer (some ⟨b, 0, none⟩) := by simpa using hq
  have hu' : tmps[u]?.getD undef = y := by simpa using hu
  simp [results, h, hp', hq', hu', asAddr, hl]
theorem Do_core (hm0 : 0 ≤ me) (hm7 : me < 8) (k j : Nat) (d : Int) (x z : BitVec 64) (l : List (BitVec 64)) (g c : Nat) (cur : Array Value) (w : World) (hk : 1 ≤ k) (hk4 : k ≤ 4) (hj : j < l.length) (hl : l.length ≤ 8192) (hx : l[j]? = some x)
    (hb : w.heap[g]? = some (.cells cur 22 (0, 0))) (hw : WordsAt cur l)
    (X1 : ∀ (r : Nat) (w : World), w.heap[r]? = some (.cells (wcells l) 22 (0, 0)) → Calls Tryz.prog 185 #[.agg (accC me k j d), .iface 268 (.agg #[.slice (some ⟨r, j, none⟩) 1 1])] w (DoesPost w r j (wcells l) x z)) :
    Calls Tryz.prog 118 #[.slice (some ⟨g, 0, none⟩) l.length c, .agg (accC me k j d)] w fun e w' => ∃ R, e = .returned (.tuple #[.slice (some ⟨R, 0, none⟩) l.length l.length, .agg (seenC (N x) true), I 0]) ∧ w.heap.size ≤ R ∧ w'.heap[R]? = some (.cells (wcells (l.set j z)) 22 (0, 0)) ∧ Ch [] w w' := by
  have K1 := fun w => cCheck_ok hm0 hm7 k j l.length d (by omega) (by omega) (by omega) (by omega) (by omega) (by omega) w
  have O1 := fun w h => cOwn_any l g c cur w (by omega) h hw
  rw [← wcells_set]
  obtain ⟨n, hn⟩ : ∃ n, l.length = n := ⟨_, rfl⟩
  rw [hn] at K1 O1 hj hl ⊢
  have hsz : (wcells l).size = n := by rw [wcells_size, hn]
  generalize wcells l = cu at *
  have C0 : Ch [] w (World.onObj (((w.alloc (.cells (accC me k j d) 87)).alloc (.cells (seenC 0 false) 93)).alloc (.cells (accC 0 0 0 0) 264)) (w.heap.size + 1 + 1) (laidAt 0 (accC me k j d))) := ((((Ch.refl [] w).alloc _).alloc _).alloc _).onObj (p := w.heap.size + 1 + 1) (.inr (by omega)) _
  have z0 : (World.onObj (((w.alloc (.cells (accC me k j d) 87)).alloc (.cells (seenC 0 false) 93)).alloc (.cells (accC 0 0 0 0) 264)) (w.heap.size + 1 + 1) (laidAt 0 (accC me k j d))).heap[w.heap.size + 1]? = some (.cells (seenC 0 false) 93 (0, 0)) := by
    rw [zab, if_neg (by omega), zac, if_neg (by simp), zac, if_pos (by simp)]
  have x0 : (World.onObj (((w.alloc (.cells (accC me k j d) 87)).alloc (.cells (seenC 0 false) 93)).alloc (.cells (accC 0 0 0 0) 264)) (w.heap.size + 1 + 1) (laidAt 0 (accC me k j d))).heap[w.heap.size]? = some (.cells (accC me k j d) 87 (0, 0)) := by
    rw [zab, if_neg (by omega), zac, if_neg (by simp; omega), zac, if_neg (by simp), zac, if_pos rfl]
  have a0 : (World.onObj (((w.alloc (.cells (accC me k j d) 87)).alloc (.cells (seenC 0 false) 93)).alloc (.cells (accC 0 0 0 0) 264)) (w.heap.size + 1 + 1) (laidAt 0 (accC me k j d))).heap[w.heap.size + 1 + 1]? = some (.cells (accC me k j d) 264 (0, 0)) := by
    rw [zab, if_pos rfl, zac, if_pos (by simp), Option.map_some, zah]
  have g0' := hkeep C0 hb
  clear hb hw hx hn hk hk4 hm0 hm7
  go_enter Tryz.func118, Tryz.ntmps118
  go_wp2_with fail
  generalize World.onObj (((w.alloc (.cells (accC me k j d) 87)).alloc (.cells (seenC 0 false) 93)).alloc (.cells (accC 0 0 0 0) 264)) (w.heap.size + 1 + 1) (laidAt 0 (accC me k j d)) = W0 at *
  refine (K1 _).mono ?_
  rintro e w1 ⟨rfl, hc1⟩
  have z1 := hkeep hc1 z0
  have x1 := hkeep hc1 x0
  have a1 := hkeep hc1 a0
  have g1 := hkeep hc1 g0'
  have C1 := C0.trans hc1
  clear z0 x0 a0 g0' C0 hc1
  go_wp2_with fail
  refine (O1 _ g1).mono ?_
  rintro e w2 ⟨rfl, hR, hc2⟩
  have z2 := hkeep hc2 z1
  have x2 := hkeep hc2 x1
  have a2 := hkeep hc2 a1
  have C2 := C1.trans hc2
  have hRw := C1.size
  have hRz : w.heap.size + 1 ≠ w1.heap.size := by have := (Array.getElem?_eq_some_iff.1 z1).1; omega
  have hRx : w.heap.size ≠ w1.heap.size := by have := (Array.getElem?_eq_some_iff.1 x1).1; omega
  have hRa : w.heap.size + 1 + 1 ≠ w1.heap.size := by have := (Array.getElem?_eq_some_iff.1 a1).1; omega
  generalize w1.heap.size = R at *
  clear z1 x1 a1 g1 C1 hc2 K1 O1
  go_wp2
  obtain ⟨B, hB⟩ : ∃ B, w.heap.size = B := ⟨_, rfl⟩
  rw [hB] at z2 x2 a2 hRw hRz hRx hRa ⊢
  have HB := Lib.hid hB
  clear hB
  have s3 : (fun W' : World => W'.heap[B]? = some (.cells (accC me k j d) 87 (0, 0)) ∧ W'.heap[B + 1 + 1]? = some (.cells (accC me k j d) 264 (0, 0))) w2.drew := ⟨x2, a2⟩
  have z3 : w2.drew.heap[B + 1]? = some (.cells (seenC 0 false) 93 (0, 0)) := z2
  have r3 : w2.drew.heap[R]? = some (.cells cu 22 (0, 0)) := hR
  have C3 : Ch [] w w2.drew := C2.drew
  refine wp_region_held_drew (S := fun W' => W'.heap[B]? = some (.cells (accC me k j d) 87 (0, 0)) ∧ W'.heap[B + 1 + 1]? = some (.cells (accC me k j d) 264 (0, 0))) (by kernel_rfl) s3 ?_
  intro _
  simp only [List.size_toArray, List.length_cons, List.length_nil, Nat.reduceAdd]
  clear z2 x2 a2 hR C2
  generalize w2.drew = w3 at *
  have hj1 : IntKind.i64.wrap ((j : Int) + 1) = (j : Int) + 1 := IntWalk.i64_in _ (by omega)
  have hj2 : 0 ≤ (j : Int) + 1 := by omega
  have hj3 : ((j : Int) + 1).toNat = j + 1 := by omega
  have hj4 : (j : Int) + 1 ≤ (n : Int) := by omega
  refine tk 0 23 ?_ rfl s3 ?_ ?_; rotate_left
  · intro wq hSq; obtain ⟨q1, q2⟩ := hSq; go_simp; try with_reducible rfl
  try go_frame
  refine tk 1 24 ?_ rfl s3 ?_ ?_; rotate_left
  · intro wq hSq; obtain ⟨q1, q2⟩ := hSq; go_simp; try with_reducible rfl
  try go_frame
  refine tk 2 25 ?_ rfl s3 ?_ ?_; rotate_left
  · intro wq hSq; obtain ⟨q1, q2⟩ := hSq; go_simp; try with_reducible rfl
  try go_frame
  refine tk 3 26 ?_ rfl s3 ?_ ?_; rotate_left
  · intro wq hSq; obtain ⟨q1, q2⟩ := hSq; go_simp; try with_reducible rfl
  try go_frame
  refine tk 4 27 ?_ rfl s3 ?_ ?_; rotate_left
  · intro wq hSq; obtain ⟨q1, q2⟩ := hSq; go_simp; try with_reducible rfl
  try go_frame
  refine tk 5 28 ?_ rfl s3 ?_ ?_; rotate_left
  · intro wq hSq; obtain ⟨q1, q2⟩ := hSq; go_simp; try with_reducible rfl
  try go_frame
  refine tk 6 29 ?_ rfl s3 ?_ ?_; rotate_left
  · intro wq hSq; obtain ⟨q1, q2⟩ := hSq; go_simp; try with_reducible rfl
  try go_frame
  refine tk 7 30 ?_ rfl s3 ?_ ?_; rotate_left
  · intro wq hSq; obtain ⟨q1, q2⟩ := hSq; go_simp; try with_reducible rfl
  try go_frame
  refine tk 8 31 ?_ rfl s3 ?_ ?_; rotate_left
  · intro wq hSq; obtain ⟨q1, q2⟩ := hSq; go_simp; try with_reducible rfl
  try go_frame
  refine tk 9 32 ?_ rfl s3 ?_ ?_; rotate_left
  · intro wq hSq; obtain ⟨q1, q2⟩ := hSq; go_simp; try with_reducible rfl
  try go_frame
  refine tk 10 33 ?_ rfl s3 ?_ ?_; rotate_left
  · intro wq hSq; obtain ⟨q1, q2⟩ := hSq; go_simp; try with_reducible rfl
  try go_frame
  refine tk 11 34 ?_ rfl s3 ?_ ?_; rotate_left
  · intro wq hSq; obtain ⟨q1, q2⟩ := hSq; go_simp; try with_reducible rfl
  try go_frame
  refine tk 12 35 ?_ rfl s3 ?_ ?_; rotate_left
  · intro wq hSq; obtain ⟨q1, q2⟩ := hSq; go_simp; try with_reducible rfl
  try go_frame
  clear hj1 hj2 hj3 hj4
  refine wpAnyH_ready (rs := [13, 14]) (by kernel_rfl) (by simp) ?_
  refine AllReadyH.cons rfl (fun K hK => ?_) (AllReadyH.cons (o := ⟨some 10, _, _, _, _, none⟩) rfl (fun K hK => ?_) AllReadyH.nil)
  · go_simp
    refine (X1 R _ r3).mono ?_
    rintro e w4 ⟨rfl, hc4, r4⟩
    have s4 : w4.heap[B]? = some (.cells (accC me k j d) 87 (0, 0)) ∧ w4.heap[B + 1 + 1]? = some (.cells (accC me k j d) 264 (0, 0)) := ⟨(hc4.block _ (Array.getElem?_eq_some_iff.1 s3.1).1 (by simp; omega)).trans s3.1, (hc4.block _ (Array.getElem?_eq_some_iff.1 s3.2).1 (by simp; omega)).trans s3.2⟩
    have z4 : w4.heap[B + 1]? = some (.cells (seenC 0 false) 93 (0, 0)) := (hc4.block _ (Array.getElem?_eq_some_iff.1 z3).1 (by simp; omega)).trans z3
    have C4 : Ch [] w w4 := C3.trans2 hc4 (by simp; rw [HB.out]; omega)
    refine hK.out _ _ s4 (fun _ => ?_)
    clear hK K hc4
    refine rd (o := ⟨some 10, _, _, _, _, none⟩) 14 rfl (fun K hK => ?_); go_simp
    have hcA : Ch [] w4 (w4.alloc (.cells (seenC 0 false) 93)) := (Ch.refl [] w4).alloc _
    have s5 : (w4.alloc (.cells (seenC 0 false) 93)).heap[B]? = some (.cells (accC me k j d) 87 (0, 0)) ∧ (w4.alloc (.cells (seenC 0 false) 93)).heap[B + 1 + 1]? = some (.cells (accC me k j d) 264 (0, 0)) := ⟨hkeep hcA s4.1, hkeep hcA s4.2⟩
    have z5 := hkeep hcA z4
    have r5 := hkeep hcA r4
    have C5 := C4.trans hcA
    have a5 : (w4.alloc (.cells (seenC 0 false) 93)).heap[w4.heap.size]? = some (.cells (seenC 0 false) 93 (0, 0)) := by rw [zac, if_pos rfl]
    have hAz : B + 1 ≠ w4.heap.size := by have := (Array.getElem?_eq_some_iff.1 z4).1; omega
    have hAB : B ≠ w4.heap.size := by have := (Array.getElem?_eq_some_iff.1 s4.1).1; omega
    have hAB2 : B + 1 + 1 ≠ w4.heap.size := by have := (Array.getElem?_eq_some_iff.1 s4.2).1; omega
    have hAR : R ≠ w4.heap.size := by have := (Array.getElem?_eq_some_iff.1 r4).1; omega
    have hAw : w.heap.size ≤ w4.heap.size := C4.size
    refine hK.out _ _ s5 (fun _ => ?_)
    clear hK K hcA
    generalize (w4.alloc (.cells (seenC 0 false) 93)) = w5 at *
    generalize w4.heap.size = A at *
    refine rd 15 rfl (fun K hK => ?_); go_simp
    have s7 : (World.onObj w5 A (laidAt 0 (seenC (N x) true))).heap[B]? = some (.cells (accC me k j d) 87 (0, 0)) ∧ (World.onObj w5 A (laidAt 0 (seenC (N x) true))).heap[B + 1 + 1]? = some (.cells (accC me k j d) 264 (0, 0)) := by
      rw [zab, if_neg hAB, zab, if_neg hAB2]; exact s5
    have z7 : (World.onObj w5 A (laidAt 0 (seenC (N x) true))).heap[B + 1]? = some (.cells (seenC 0 false) 93 (0, 0)) := by rw [zab, if_neg hAz]; exact z5
    have r7 : (World.onObj w5 A (laidAt 0 (seenC (N x) true))).heap[R]? = some (.cells (cu.setIfInBounds j (U z)) 22 (0, 0)) := by rw [zab, if_neg hAR]; exact r5
    have a7 : (World.onObj w5 A (laidAt 0 (seenC (N x) true))).heap[A]? = some (.cells (seenC (N x) true) 93 (0, 0)) := by rw [zab, if_pos rfl, a5, Option.map_some, zal]
    have C7 : Ch [] w (World.onObj w5 A (laidAt 0 (seenC (N x) true))) := C5.onObj (.inr hAw) _
    refine hK.out _ _ s7 (fun _ => ?_)
    clear hK K
    generalize (World.onObj w5 A (laidAt 0 (seenC (N x) true))) = w7 at *
    refine wpAnyH_done (by kernel_rfl) ?_ _
    go_wp2
    have s9 : (fun W' : World => W'.heap[A]? = some (.cells (seenC (N x) true) 93 (0, 0))) w7.drew := a7
    have z9 : w7.drew.heap[B + 1]? = some (.cells (seenC 0 false) 93 (0, 0)) := z7
    have r9 : w7.drew.heap[R]? = some (.cells (cu.setIfInBounds j (U z)) 22 (0, 0)) := r7
    have C9 : Ch [] w w7.drew := C7.drew
    refine wp_region_held_drew (S := fun W' => W'.heap[A]? = some (.cells (seenC (N x) true) 93 (0, 0))) (by kernel_rfl) s9 ?_
    intro _
    simp only [List.size_toArray, List.length_cons, List.length_nil, Nat.reduceAdd]
    clear a7 z7 r7 C7 s7
    generalize w7.drew = w9 at *
    refine tk 0 37 ?_ rfl s9 ?_ ?_; rotate_left
    · intro _ _; go_simp; try with_reducible rfl
    try go_frame
    refine tk 1 38 ?_ rfl s9 ?_ ?_; rotate_left
    · intro _ _; go_simp; try with_reducible rfl
    try go_frame
    refine tk 2 4 ?_ rfl s9 ?_ ?_; rotate_left
    · intro _ _; go_simp; try with_reducible rfl
    try go_frame
    refine rd 3 rfl (fun K hK => ?_); go_simp
    have s10 : (World.onObj w9 (B + 1) (laidAt 0 (seenC (N x) true))).heap[A]? = some (.cells (seenC (N x) true) 93 (0, 0)) := by rw [zab, if_neg (fun e => hAz e.symm)]; exact s9
    have z10 : (World.onObj w9 (B + 1) (laidAt 0 (seenC (N x) true))).heap[B + 1]? = some (.cells (seenC (N x) true) 93 (0, 0)) := by rw [zab, if_pos rfl, z9, Option.map_some, zal]
    have r10 : (World.onObj w9 (B + 1) (laidAt 0 (seenC (N x) true))).heap[R]? = some (.cells (cu.setIfInBounds j (U z)) 22 (0, 0)) := by rw [zab, if_neg (fun e => hRz e.symm)]; exact r9
    have C10 : Ch [] w (World.onObj w9 (B + 1) (laidAt 0 (seenC (N x) true))) := C9.onObj (.inr (by rw [HB.out]; omega)) _
    refine hK.out _ _ s10 (fun _ => ?_)
    clear hK K
    generalize World.onObj w9 (B + 1) (laidAt 0 (seenC (N x) true)) = w10 at *
    refine tk 4 6 ?_ rfl s10 ?_ ?_; rotate_left
    · intro _ _; go_simp; try with_reducible rfl
    try go_frame
    refine wpAnyH_done (by kernel_rfl) ?_ _
    go_wp2
    refine bodyPost_ret (do_results Tryz.results118 _ (B + 1) _ (N x) true _ _ rfl rfl rfl z10) rfl ⟨R, rfl, by rw [HB.out]; exact hRw, r10, C10⟩
  · go_simp
    have hcA : Ch [] w3 (w3.alloc (.cells (seenC 0 false) 93)) := (Ch.refl [] w3).alloc _
    have s4 : (w3.alloc (.cells (seenC 0 false) 93)).heap[B]? = some (.cells (accC me k j d) 87 (0, 0)) ∧ (w3.alloc (.cells (seenC 0 false) 93)).heap[B + 1 + 1]? = some (.cells (accC me k j d) 264 (0, 0)) := ⟨hkeep hcA s3.1, hkeep hcA s3.2⟩
    have z4 := hkeep hcA z3
    have r4 := hkeep hcA r3
    have C4 := C3.trans hcA
    have a4 : (w3.alloc (.cells (seenC 0 false) 93)).heap[w3.heap.size]? = some (.cells (seenC 0 false) 93 (0, 0)) := by rw [zac, if_pos rfl]
    have hAz : B + 1 ≠ w3.heap.size := by have := (Array.getElem?_eq_some_iff.1 z3).1; omega
    have hAB : B ≠ w3.heap.size := by have := (Array.getElem?_eq_some_iff.1 s3.1).1; omega
    have hAB2 : B + 1 + 1 ≠ w3.heap.size := by have := (Array.getElem?_eq_some_iff.1 s3.2).1; omega
    have hAR : R ≠ w3.heap.size := by have := (Array.getElem?_eq_some_iff.1 r3).1; omega
    have hAw : w.heap.size ≤ w3.heap.size := C3.size
    refine hK.out _ _ s4 (fun _ => ?_)
    clear hK K hcA
    generalize (w3.alloc (.cells (seenC 0 false) 93)) = w4 at *
    generalize w3.heap.size = A at *
    refine rd 13 rfl (fun K hK => ?_); go_simp
    refine (X1 R _ r4).mono ?_
    rintro e w5 ⟨rfl, hc5, r5⟩
    have s5 : w5.heap[B]? = some (.cells (accC me k j d) 87 (0, 0)) ∧ w5.heap[B + 1 + 1]? = some (.cells (accC me k j d) 264 (0, 0)) := ⟨(hc5.block _ (Array.getElem?_eq_some_iff.1 s4.1).1 (by simp; omega)).trans s4.1, (hc5.block _ (Array.getElem?_eq_some_iff.1 s4.2).1 (by simp; omega)).trans s4.2⟩
    have z5 : w5.heap[B + 1]? = some (.cells (seenC 0 false) 93 (0, 0)) := (hc5.block _ (Array.getElem?_eq_some_iff.1 z4).1 (by simp; omega)).trans z4
    have C5 : Ch [] w w5 := C4.trans2 hc5 (by simp; rw [HB.out]; omega)
    have a5 : w5.heap[A]? = some (.cells (seenC 0 false) 93 (0, 0)) := (hc5.block _ (Array.getElem?_eq_some_iff.1 a4).1 (by simp; omega)).trans a4
    refine hK.out _ _ s5 (fun _ => ?_)
    clear hK K hc5
    refine rd 15 rfl (fun K hK => ?_); go_simp
    have s7 : (World.onObj w5 A (laidAt 0 (seenC (N x) true))).heap[B]? = some (.cells (accC me k j d) 87 (0, 0)) ∧ (World.onObj w5 A (laidAt 0 (seenC (N x) true))).heap[B + 1 + 1]? = some (.cells (accC me k j d) 264 (0, 0)) := by
      rw [zab, if_neg hAB, zab, if_neg hAB2]; exact s5
    have z7 : (World.onObj w5 A (laidAt 0 (seenC (N x) true))).heap[B + 1]? = some (.cells (seenC 0 false) 93 (0, 0)) := by rw [zab, if_neg hAz]; exact z5
    have r7 : (World.onObj w5 A (laidAt 0 (seenC (N x) true))).heap[R]? = some (.cells (cu.setIfInBounds j (U z)) 22 (0, 0)) := by rw [zab, if_neg hAR]; exact r5
    have a7 : (World.onObj w5 A (laidAt 0 (seenC (N x) true))).heap[A]? = some (.cells (seenC (N x) true) 93 (0, 0)) := by rw [zab, if_pos rfl, a5, Option.map_some, zal]
    have C7 : Ch [] w (World.onObj w5 A (laidAt 0 (seenC (N x) true))) := C5.onObj (.inr hAw) _
    refine hK.out _ _ s7 (fun _ => ?_)
    clear hK K
    generalize (World.onObj w5 A (laidAt 0 (seenC (N x) true))) = w7 at *
    refine wpAnyH_done (by kernel_rfl) ?_ _
    go_wp2
    have s9 : (fun W' : World => W'.heap[A]? = some (.cells (seenC (N x) true) 93 (0, 0))) w7.drew := a7
    have z9 : w7.drew.heap[B + 1]? = some (.cells (seenC 0 false) 93 (0, 0)) := z7
    have r9 : w7.drew.heap[R]? = some (.cells (cu.setIfInBounds j (U z)) 22 (0, 0)) := r7
    have C9 : Ch [] w w7.drew := C7.drew
    refine wp_region_held_drew (S := fun W' => W'.heap[A]? = some (.cells (seenC (N x) true) 93 (0, 0))) (by kernel_rfl) s9 ?_
    intro _
    simp only [List.size_toArray, List.length_cons, List.length_nil, Nat.reduceAdd]
    clear a7 z7 r7 C7 s7
    generalize w7.drew = w9 at *
    refine tk 0 37 ?_ rfl s9 ?_ ?_; rotate_left
    · intro _ _; go_simp; try with_reducible rfl
    try go_frame
    refine tk 1 38 ?_ rfl s9 ?_ ?_; rotate_left
    · intro _ _; go_simp; try with_reducible rfl
    try go_frame
    refine tk 2 4 ?_ rfl s9 ?_ ?_; rotate_left
    · intro _ _; go_simp; try with_reducible rfl
    try go_frame
    refine rd 3 rfl (fun K hK => ?_); go_simp
    have s10 : (World.onObj w9 (B + 1) (laidAt 0 (seenC (N x) true))).heap[A]? = some (.cells (seenC (N x) true) 93 (0, 0)) := by rw [zab, if_neg (fun e => hAz e.symm)]; exact s9
    have z10 : (World.onObj w9 (B + 1) (laidAt 0 (seenC (N x) true))).heap[B + 1]? = some (.cells (seenC (N x) true) 93 (0, 0)) := by rw [zab, if_pos rfl, z9, Option.map_some, zal]
    have r10 : (World.onObj w9 (B + 1) (laidAt 0 (seenC (N x) true))).heap[R]? = some (.cells (cu.setIfInBounds j (U z)) 22 (0, 0)) := by rw [zab, if_neg (fun e => hRz e.symm)]; exact r9
    have C10 : Ch [] w (World.onObj w9 (B + 1) (laidAt 0 (seenC (N x) true))) := C9.onObj (.inr (by rw [HB.out]; omega)) _
    refine hK.out _ _ s10 (fun _ => ?_)
    clear hK K
    generalize World.onObj w9 (B + 1) (laidAt 0 (seenC (N x) true)) = w10 at *
    refine tk 4 6 ?_ rfl s10 ?_ ?_; rotate_left
    · intro _ _; go_simp; try with_reducible rfl
    try go_frame
    refine wpAnyH_done (by kernel_rfl) ?_ _
    go_wp2
    refine bodyPost_ret (do_results Tryz.results118 _ (B + 1) _ (N x) true _ _ rfl rfl rfl z10) rfl ⟨R, rfl, by rw [HB.out]; exact hRw, r10, C10⟩
end Go.Proofs.Hc
namespace Go.Proofs.Hc
open Go.RowKit
variable {me : Int}
attribute [local go_sem] zbv zcb zba zbf zbr zbd zbq zbs zbx signed64 signed8 zap BitVec.ofInt_add BitVec.ofInt_mul ofInt_sub' zbb zbc wide8 eqN neN zca shr1 shr7 shr56
attribute [local go_sem high] zbe zbw
attribute [local go_sem] zaw zby zaj zas zae zay zar zak zbn zam zax zaz
attribute [local go_sem] load26 load73 load23 store26 build73
attribute [local go_sem ↓] lrow26 lrow73 lrow23 srow26 zero26 brow73 zac zbk zbg zaa zab
attribute [local go_sem] zai zav zau zbj zbl zbo zaq zat zbp zbi zbh
attribute [local go_sem] nn2 nm2 nn3 nm3 nn4 nm4 nn5 nm5 nn6 nm6 nn7 nm7 nn8 nm8
attribute [local go_sem] acc_g0 acc_g1 acc_g2 acc_g4 acc_s0 acc_s1 acc_s2 acc_s4 zdg accC_one accC_all loadAcc storeAcc bacc0 bacc2 bacc3 bacc3u bacc4
attribute [local go_sem ↓] lrowAcc srowAcc browAcc zcu
attribute [local go_sem high] zah
attribute [local go_sem] loadAcs storeAcs buildAcs boxAcs boxAcc meth_load meth_swap
attribute [local go_sem ↓] lrowAcs srowAcs browAcs zeroAcs_run
attribute [local go_sem] zcx seenC_one seenC_all seenC_g0 loadSeen storeSeen buildSeen buildSeen0
attribute [local go_sem ↓] lrowSeen srowSeen browSeen zcy
attribute [local go_sem high] zal
attribute [local irreducible] seenC
attribute [local go_sem] Oper.semAt_some zao zap
attribute [local irreducible] accC
theorem Do_bad (hm0 : 0 ≤ me) (hm7 : me < 8) (k : Int) (a d : Int) (n g c : Nat) (w : World) (hk : 1 ≤ k) (hk4 : k ≤ 4) (ha : (n : Int) ≤ a) (hn1 : 1 ≤ n) (hl : n ≤ 8192) :
    Calls Tryz.prog 118 #[.slice (some ⟨g, 0, none⟩) n c, .agg (accC me k a d)] w fun e w' => e = .returned (.tuple #[.slice none 0 0, .agg (seenC 0 false), I 2]) ∧ Ch [] w w' := by
  have K1 := fun w => cCheck_at hm0 hm7 k a n d hk hk4 (by omega) ha (by omega) (by omega) w
  have C0 : Ch [] w (World.onObj (((w.alloc (.cells (accC me k a d) 87)).alloc (.cells (seenC 0 false) 93)).alloc (.cells (accC 0 0 0 0) 264)) (w.heap.size + 1 + 1) (laidAt 0 (accC me k a d))) := ((((Ch.refl [] w).alloc _).alloc _).alloc _).onObj (p := w.heap.size + 1 + 1) (.inr (by omega)) _
  have z0 : (World.onObj (((w.alloc (.cells (accC me k a d) 87)).alloc (.cells (seenC 0 false) 93)).alloc (.cells (accC 0 0 0 0) 264)) (w.heap.size + 1 + 1) (laidAt 0 (accC me k a d))).heap[w.heap.size + 1]? = some (.cells (seenC 0 false) 93 (0, 0)) := by
    rw [zab, if_neg (by omega), zac, if_neg (by simp), zac, if_pos (by simp)]
  clear hk hk4 ha hn1 hl
  go_enter Tryz.func118, Tryz.ntmps118
  go_wp2_with fail
  generalize World.onObj (((w.alloc (.cells (accC me k a d) 87)).alloc (.cells (seenC 0 false) 93)).alloc (.cells (accC 0 0 0 0) 264)) (w.heap.size + 1 + 1) (laidAt 0 (accC me k a d)) = W0 at *
  refine (K1 _).mono ?_
  rintro e w1 ⟨rfl, hc1⟩
  have z1 := hkeep hc1 z0
  have C1 := C0.trans hc1
  go_wp2
  refine bodyPost_ret (do_results Tryz.results118 _ (w.heap.size + 1) _ 0 false _ _ rfl rfl rfl ?_) rfl ⟨rfl, C1.onObj (p := w.heap.size + 1) (.inr (by omega)) _⟩
  simp [go_sem, z1]
def RowAt_ (w0 w : World) (R : Nat) (l : List (BitVec 64)) : Prop := w0.heap.size ≤ R ∧ w.heap[R]? = some (.cells (wcells l) 22 (0, 0))
def DoPost (w : World) (l : List (BitVec 64)) (a : AccT) (e : Ending) (w' : World) : Prop :=
  match doP l a with
  | none => e = .returned (.tuple #[.slice none 0 0, .agg (seenC 0 false), I 2]) ∧ Ch [] w w'
  | some y => ∃ R, e = .returned (.tuple #[.slice (some ⟨R, 0, none⟩) l.length l.length, .agg (seenC (N y.2) true), I 0]) ∧ RowAt_ w w' R y.1 ∧ y.1.length = l.length ∧ Ch [] w w'
theorem Do_who (hm0 : 0 ≤ me) (hm7 : me < 8) (l : List (BitVec 64)) (a : AccT) (g c : Nat) (cur : Array Value) (w : World) (hk : a.kind = 1 ∨ a.kind = 2 ∨ a.kind = 4) (ha : 0 ≤ a.at_) (h1 : 1 ≤ l.length) (hl : l.length ≤ 8192)
    (hb : w.heap[g]? = some (.cells cur 22 (0, 0))) (hw : WordsAt cur l) :
    Calls Tryz.prog 118 #[.slice (some ⟨g, 0, none⟩) l.length c, .agg (accC me a.kind a.at_ (N a.new))] w (DoPost w l a) := by
  obtain ⟨kd, at_, new⟩ := a
  simp only at hk ha ⊢
  obtain ⟨j, rfl⟩ := Int.eq_ofNat_of_zero_le ha
  rcases Nat.lt_or_ge j l.length with hj | hj
  · obtain ⟨x, hx⟩ : ∃ x, l[j]? = some x := ⟨l[j]'hj, List.getElem?_eq_getElem hj⟩
    have key : ∀ (k : Nat) (z : BitVec 64), kd = (k : Int) → 1 ≤ k → k ≤ 4 → (doP l ⟨kd, (j : Int), new⟩ = some (l.set j z, x)) →
        (∀ (r : Nat) (w : World), w.heap[r]? = some (.cells (wcells l) 22 (0, 0)) → Calls Tryz.prog 185 #[.agg (accC me k j (N new)), .iface 268 (.agg #[.slice (some ⟨r, j, none⟩) 1 1])] w (DoesPost w r j (wcells l) x z)) →
        Calls Tryz.prog 118 #[.slice (some ⟨g, 0, none⟩) l.length c, .agg (accC me kd j (N new))] w (DoPost w l ⟨kd, (j : Int), new⟩) := by
      intro k z hkd h1k h4k hd hX
      subst hkd
      refine (Do_core hm0 hm7 k j (N new) x z l g c cur w h1k h4k hj hl hx hb hw hX).mono ?_
      rintro e w' ⟨R, rfl, hR, hRow, hC⟩
      unfold DoPost
      rw [hd]
      exact ⟨R, rfl, ⟨hR, hRow⟩, by simp, hC⟩
    have hset : l.set j x = l := by
      apply List.ext_getElem?
      intro i
      rw [List.getElem?_set]
      by_cases h : j = i
      · subst h; rw [if_pos rfl, if_pos hj, hx]
      · rw [if_neg h]
    rcases hk with rfl | rfl | rfl
    · refine key 1 x rfl (by omega) (by omega) ?_ (fun r w h => does_1 j (N new) x r j (wcells l) w h (wcells_at l j x hx))
      simp [doP, hx, hset]
    · refine key 2 new rfl (by omega) (by omega) ?_ (fun r w h => does_2 j new x r j (wcells l) w h (wcells_at l j x hx))
      simp [doP, hx]
    · refine key 4 (x + new) rfl (by omega) (by omega) ?_ (fun r w h => does_4 j new x r j (wcells l) w h (wcells_at l j x hx))
      simp [doP, hx]
  · refine (Do_bad hm0 hm7 kd j (N new) l.length g c w (by omega) (by omega) (by omega) h1 hl).mono ?_
    rintro e w' ⟨rfl, hC⟩
    unfold DoPost
    have hd : doP l ⟨kd, (j : Int), new⟩ = none := by
      simp [doP, List.getElem?_eq_none hj]
    rw [hd]
    exact ⟨rfl, hC⟩
end Go.Proofs.Hc
namespace Go.Proofs.Hc
open Go.RowKit
attribute [local go_sem] zbv zcb zba zbf zbr zbd zbq zbs zbx signed64 signed8 zap BitVec.ofInt_add BitVec.ofInt_mul ofInt_sub' zbb zbc wide8 eqN neN zca shr1 shr7 shr56
attribute [local go_sem high] zbe zbw
attribute [local go_sem] zaw zby zaj zas zae zay zar zak zbn zam zax zaz
attribute [local go_sem] load26 load73 load23 store26 build73
attribute [local go_sem ↓] lrow26 lrow73 lrow23 srow26 zero26 brow73 zac zbk zbg zaa zab
attribute [local go_sem] zai zav zau zbj zbl zbo zaq zat zbp zbi zbh
attribute [local go_sem] nn2 nm2 nn3 nm3 nn4 nm4 nn5 nm5 nn6 nm6 nn7 nm7 nn8 nm8
section
attribute [local go_sem] zap
theorem pen_g0 (p : PenT) : (penC p)[0]? = some (I p.ph) := rfl
theorem pen_g1 (p : PenT) : (penC p)[1]? = some (I p.sl) := rfl
theorem pen_g2 (p : PenT) : (penC p)[2]? = some (I p.op) := rfl
theorem pen_g3 (p : PenT) : (penC p)[3]? = some (U p.key) := rfl
theorem pen_g4 (p : PenT) : (penC p)[4]? = some (U p.a) := rfl
theorem pen_g5 (p : PenT) : (penC p)[5]? = some (U p.b) := rfl
theorem pen_g6 (p : PenT) : (penC p)[6]? = some (U p.hash) := rfl
theorem pen_g7 (p : PenT) : (penC p)[7]? = some (U p.count) := rfl
theorem pen_g8 (p : PenT) : (penC p)[8]? = some (U p.can) := rfl
theorem pen_g9 (p : PenT) : (penC p)[9]? = some (U p.live) := rfl
theorem pen_g10 (p : PenT) : (penC p)[10]? = some (I p.grp) := rfl
theorem pen_g11 (p : PenT) : (penC p)[11]? = some (U p.ctrl) := rfl
theorem pen_g12 (p : PenT) : (penC p)[12]? = some (Y p.left) := rfl
theorem pen_g13 (p : PenT) : (penC p)[13]? = some (I p.free) := rfl
theorem pen_g14 (p : PenT) : (penC p)[14]? = some (U p.fctrl) := rfl
theorem pen_g15 (p : PenT) : (penC p)[15]? = some (I p.slot) := rfl
theorem pen_g16 (p : PenT) : (penC p)[16]? = some (U p.val) := rfl
theorem pen_g17 (p : PenT) : (penC p)[17]? = some (.bool p.found) := rfl
theorem boxPen (p : PenT) (w : World) : (Instr.box 123 (.agg (penC p))).run Tryz.prog w = .ok (.pointer (some ⟨w.heap.size, 0, none⟩)) (w.alloc (.cells (penC p) 123)) := rfl
theorem loadPen (g o : Nat) (w : World) : (loadRow 123 ⟨g, o, none⟩).run Tryz.prog w = rowRes Tryz.prog 123 g o w ((w.heap[g]?).bind (rowAt o 18)) :=
  run_row Tryz.underlying123 rfl (by kernel_rfl) g o w
theorem storePen (g o : Nat) (vs : Array Value) (w : World) : (storeRow 123 ⟨g, o, none⟩ (.agg vs)).run Tryz.prog w = layRes Tryz.prog 123 g o vs w (((w.heap[g]?).map (canLay o 18 vs)).getD false) :=
  run_lay (by kernel_rfl) g o vs w
theorem lrowPen (a : Addr) : loadVar 123 a = loadRow 123 a := rfl
theorem srowPen (a : Addr) (v : Value) : storeVar 123 a v = storeRow 123 a v := rfl
attribute [local go_sem] pen_g0 pen_g1 pen_g2 pen_g3 pen_g4 pen_g5 pen_g6 pen_g7 pen_g8 pen_g9 pen_g10 pen_g11 pen_g12 pen_g13 pen_g14 pen_g15 pen_g16 pen_g17 penC_size penC_one penC_all boxPen loadPen storePen
attribute [local go_sem ↓] lrowPen srowPen
attribute [local irreducible] penC
theorem rSlab_any (n : Int) (w : World) : Calls Tryz.prog 38 #[I n] w fun e w' => e = .returned (.bool (decide (0 ≤ n) && decide (n < 128))) ∧ w = w' := by
  rcases Int.lt_or_le n 0 with h | h
  · go_enter Tryz.func38, Tryz.ntmps38
    go_wp2
    go_ret
    exact ⟨by first | (simp; done) | (simp; omega), rfl⟩
  · rcases Int.lt_or_le n 128 with h2 | h2
    · go_enter Tryz.func38, Tryz.ntmps38
      go_wp2
      go_ret
      exact ⟨by simp [h, h2], rfl⟩
    · go_enter Tryz.func38, Tryz.ntmps38
      go_wp2
      go_ret
      exact ⟨by first | (simp [h]; done) | (simp [h]; omega), rfl⟩
theorem rCell_any (n k : Int) (h0 : 0 ≤ n) (h1 : n < 128) (h2 : 0 ≤ k) (h3 : k ≤ 40) (w : World) : Calls Tryz.prog 40 #[I n, I k] w fun e w' => e = .returned (I (16 + 40 * n + k)) ∧ w = w' := by
  go_enter Tryz.func40, Tryz.ntmps40
  go_wp2
  go_ret
  exact ⟨rfl, rfl⟩
end
end Go.Proofs.Hc
namespace Go.Proofs.Hc
open Go.RowKit
structure PartT where
  ph : Int
  who : Int
  sl : Int
  t0 : Int
  t1 : Int
  seed : BitVec 64
  count : BitVec 64
  head : BitVec 64
  c : Nat → BitVec 64
  k : Nat → BitVec 64
  v : Nat → BitVec 64
  at_ : Int
  ws : Nat → BitVec 64
def zeroPart : PartT := ⟨0, 0, 0, 0, 0, 0#64, 0#64, 0#64, fun _ => 0#64, fun _ => 0#64, fun _ => 0#64, 0, fun _ => 0#64⟩
def inSlab (x : Int) : Bool := decide (0 ≤ x) && decide (x < 128)
def slabsS (a b c : Int) : Bool := (inSlab a && inSlab b && inSlab c) && (!(a == b) && !(a == c) && !(b == c))
def mostS (ph : Int) : Option Int := if ph = 2 then some 2 else if ph = 3 ∨ ph = 4 then some 16 else if ph = 6 then some 80 else none
def atS (p : PartT) : Bool := match mostS p.ph with
  | some n => decide (0 ≤ p.at_) && decide (p.at_ < n)
  | none => true
def rightS (p : PartT) : Bool := (decide (0 ≤ p.ph) && decide (p.ph ≤ 9)) && (decide (0 ≤ p.who) && decide (p.who < 8)) && slabsS p.sl p.t0 p.t1 && !oddB p.count && atS p
structure RightS (p : PartT) : Prop where
  ph0 : 0 ≤ p.ph
  ph9 : p.ph ≤ 9
  who0 : 0 ≤ p.who
  who7 : p.who < 8
  sl0 : 0 ≤ p.sl
  sl1 : p.sl < 128
  a0 : 0 ≤ p.t0
  a1 : p.t0 < 128
  b0 : 0 ≤ p.t1
  b1 : p.t1 < 128
  sa : p.sl ≠ p.t0
  sb : p.sl ≠ p.t1
  ab : p.t0 ≠ p.t1
  even : oddB p.count = false
  at2 : p.ph = 2 → 0 ≤ p.at_ ∧ p.at_ < 2
  at3 : p.ph = 3 ∨ p.ph = 4 → 0 ≤ p.at_ ∧ p.at_ < 16
  at6 : p.ph = 6 → 0 ≤ p.at_ ∧ p.at_ < 80
theorem slabsS_iff (a b c : Int) : slabsS a b c = true ↔ (0 ≤ a ∧ a < 128) ∧ (0 ≤ b ∧ b < 128) ∧ (0 ≤ c ∧ c < 128) ∧ a ≠ b ∧ a ≠ c ∧ b ≠ c := by
  unfold slabsS inSlab
  simp only [Bool.and_eq_true, decide_eq_true_eq, Bool.not_eq_true', beq_eq_false_iff_ne]
  constructor
  · rintro ⟨⟨⟨h1, h2⟩, h3⟩, ⟨h4, h5⟩, h6⟩; exact ⟨h1, h2, h3, h4, h5, h6⟩
  · rintro ⟨h1, h2, h3, h4, h5, h6⟩; exact ⟨⟨⟨h1, h2⟩, h3⟩, ⟨h4, h5⟩, h6⟩
theorem atS_iff (p : PartT) : atS p = true ↔ (p.ph = 2 → 0 ≤ p.at_ ∧ p.at_ < 2) ∧ (p.ph = 3 ∨ p.ph = 4 → 0 ≤ p.at_ ∧ p.at_ < 16) ∧ (p.ph = 6 → 0 ≤ p.at_ ∧ p.at_ < 80) := by
  unfold atS mostS
  by_cases h2 : p.ph = 2
  · rw [if_pos h2]
    simp only [Bool.and_eq_true, decide_eq_true_eq]
    exact ⟨fun h => ⟨fun _ => h, fun h' => by omega, fun h' => by omega⟩, fun h => h.1 h2⟩
  · rw [if_neg h2]
    by_cases h3 : p.ph = 3 ∨ p.ph = 4
    · rw [if_pos h3]
      simp only [Bool.and_eq_true, decide_eq_true_eq]
      exact ⟨fun h => ⟨fun h' => absurd h' h2, fun _ => h, fun h' => by omega⟩, fun h => h.2.1 h3⟩
    · rw [if_neg h3]
      by_cases h6 : p.ph = 6
      · rw [if_pos h6]
        simp only [Bool.and_eq_true, decide_eq_true_eq]
        exact ⟨fun h => ⟨fun h' => absurd h' h2, fun h' => absurd h' h3, fun _ => h⟩, fun h => h.2.2 h6⟩
      · rw [if_neg h6]
        exact ⟨fun _ => ⟨fun h' => absurd h' h2, fun h' => absurd h' h3, fun h' => absurd h' h6⟩, fun _ => rfl⟩
theorem rightS_iff (p : PartT) : rightS p = true ↔ RightS p := by
  unfold rightS
  rw [Bool.and_eq_true, Bool.and_eq_true, Bool.and_eq_true, Bool.and_eq_true, slabsS_iff, atS_iff]
  simp only [Bool.and_eq_true, decide_eq_true_eq, Bool.not_eq_true']
  constructor
  · rintro ⟨⟨⟨⟨h1, h2⟩, h3, h4, h5, h6, h7, h8⟩, h9⟩, h10, h11, h12⟩
    exact ⟨h1.1, h1.2, h2.1, h2.2, h3.1, h3.2, h4.1, h4.2, h5.1, h5.2, h6, h7, h8, h9, h10, h11, h12⟩
  · intro h
    exact ⟨⟨⟨⟨⟨h.ph0, h.ph9⟩, h.who0, h.who7⟩, ⟨h.sl0, h.sl1⟩, ⟨h.a0, h.a1⟩, ⟨h.b0, h.b1⟩, h.sa, h.sb, h.ab⟩, h.even⟩, h.at2, h.at3, h.at6⟩
def whereS (p : PartT) : Int :=
  if p.ph = 1 then 17 + 40 * p.sl else if p.ph = 2 then 20 + 40 * p.sl + p.at_ else if p.ph = 3 then 22 + 40 * p.sl + p.at_ else if p.ph = 4 then 38 + 40 * p.sl + p.at_
  else if p.ph = 6 then 16 + 40 * (if p.at_ < 40 then p.t0 else p.t1) + p.at_ % 40 else 16 + 40 * p.sl
def needS (p : PartT) : Option AccT :=
  if rightS p && decide (p.ph ≤ 6) then some ⟨if p.ph = 5 ∨ p.ph = 6 then 2 else 1, whereS p, if p.ph = 5 then p.count + 1#64 else if p.ph = 6 then p.ws p.at_.toNat else 0#64⟩ else none
def gotS (p : PartT) : Tab := ⟨0#64, 0, 0#64, 0, 0, p.c, p.k, p.v⟩
def deepS (p : PartT) : Int := ((p.head &&& 255#64).toNat : Int)
def preS (p : PartT) : BitVec 64 := p.head >>> 8
def firstS (p : PartT) (h : BitVec 64) : Bool := hasT (bareT 0#64 (deepS p + 1) (2#64 * preS p)) h
def halfS (p : PartT) (i : Nat) : Except Int Tab :=
  match newE (deepS p + 1) (2#64 * preS p + BitVec.ofNat 64 i) with
  | .error e => .error e
  | .ok t => laidT p.seed t ((pairsT (gotS p)).filter fun x => firstS p (hashOf p.seed x.1) == (i == 0))
def halvesS (p : PartT) : Option (Nat → BitVec 64) :=
  match halfS p 0, halfS p 1 with
  | .ok a, .ok b => some fun i => if i < 40 then tword a i else tword b (i - 40)
  | _, _ => none
def nextS (p : PartT) (from_ : Nat) : Option Nat := (List.range 16).find? fun j => decide (from_ ≤ j) && fullJ (gotS p) j
def onS (p : PartT) (from_ : Nat) : PartT :=
  match nextS p from_ with
  | some j => { p with at_ := (j : Int), ph := 3 }
  | none => match halvesS p with
    | some ws => { p with ws := ws, ph := 5 }
    | none => { p with ph := 9 }
def headS (p : PartT) (w : BitVec 64) : PartT :=
  if decide (5 ≤ (w &&& 255#64).toNat) || ((w >>> 8) >>> (w &&& 255#64).toNat != 0#64) then { p with head := w, at_ := 0, ph := 9 } else { p with head := w, at_ := 0, ph := 2 }
def takeS (p : PartT) (w : BitVec 64) : PartT :=
  if p.ph = 0 then (if oddB w then { p with ph := 8 } else { p with ph := 1, count := w })
  else if p.ph = 1 then headS p w
  else if p.ph = 2 then (if p.at_ = 1 then onS { p with c := updW p.c 1 w, at_ := 2 } 0 else { p with c := updW p.c 0 w, at_ := 1 })
  else if p.ph = 3 then { p with k := updW p.k p.at_.toNat w, ph := 4 }
  else if p.ph = 4 then onS { p with v := updW p.v p.at_.toNat w } (p.at_.toNat + 1)
  else if p.ph = 5 then { p with at_ := 0, ph := 6 }
  else { p with at_ := p.at_ + 1, ph := if p.at_ = 79 then 7 else 6 }
def stepS (c : List (BitVec 64)) (p : PartT) : Option (List (BitVec 64) × PartT) :=
  match needS p with
  | none => some (c, p)
  | some x => (doP c x).map fun y => (y.1, takeS p y.2)
def manyS (p : PartT) : Int := if rightS p then (if p.ph = 5 then 81 else if p.ph = 6 then 80 - p.at_ else 0) else 0
end Go.Proofs.Hc
namespace Go.Proofs.Hc
open Go.RowKit
def onR (p : PartT) : Option Nat → Option (Nat → BitVec 64) → PartT
  | some j, _ => { p with at_ := (j : Int), ph := 3 }
  | none, some ws => { p with ws := ws, ph := 5 }
  | none, none => { p with ph := 9 }
theorem onS_def (p : PartT) (from_ : Nat) : onS p from_ = onR p (nextS p from_) (halvesS p) := by
  unfold onS
  generalize nextS p from_ = a
  generalize halvesS p = b
  cases a with
  | some j => rfl
  | none => cases b <;> rfl
theorem needS_some {p : PartT} {a : AccT} (h : needS p = some a) : rightS p = true ∧ p.ph ≤ 6 := by
  unfold needS at h
  cases hb : (rightS p && decide (p.ph ≤ 6)) with
  | false => rw [hb, if_neg (by decide)] at h; cases h
  | true => simpa using hb
def accS (p : PartT) : AccT := ⟨if p.ph = 5 ∨ p.ph = 6 then 2 else 1, whereS p, if p.ph = 5 then p.count + 1#64 else if p.ph = 6 then p.ws p.at_.toNat else 0#64⟩
theorem needS_is {p : PartT} (hr : rightS p = true) (h6 : p.ph ≤ 6) : needS p = some (accS p) := by
  unfold needS accS
  rw [if_pos (by simp [hr, h6])]
theorem needS_none {p : PartT} (h : ¬ (rightS p = true ∧ p.ph ≤ 6)) : needS p = none := by
  unfold needS
  rw [if_neg (by simpa using h)]
theorem whereS_in {p : PartT} (R : RightS p) (h6 : p.ph ≤ 6) : 0 ≤ whereS p ∧ ∃ s, (s = p.sl ∨ s = p.t0 ∨ s = p.t1) ∧ whereS p ≤ 55 + 40 * s := by
  have h0 := R.ph0
  have h2 := R.at2
  have h3 := R.at3
  have h6' := R.at6
  have hs := R.sl0
  have ha := R.a0
  have hb := R.b0
  unfold whereS
  by_cases c1 : p.ph = 1
  · rw [if_pos c1]; exact ⟨by omega, p.sl, .inl rfl, by omega⟩
  rw [if_neg c1]
  by_cases c2 : p.ph = 2
  · rw [if_pos c2]; have := h2 c2; exact ⟨by omega, p.sl, .inl rfl, by omega⟩
  rw [if_neg c2]
  by_cases c3 : p.ph = 3
  · rw [if_pos c3]; have := h3 (.inl c3); exact ⟨by omega, p.sl, .inl rfl, by omega⟩
  rw [if_neg c3]
  by_cases c4 : p.ph = 4
  · rw [if_pos c4]; have := h3 (.inr c4); exact ⟨by omega, p.sl, .inl rfl, by omega⟩
  rw [if_neg c4]
  by_cases c6 : p.ph = 6
  · rw [if_pos c6]
    have := h6' c6
    by_cases c : p.at_ < 40
    · rw [if_pos c]; exact ⟨by omega, p.t0, .inr (.inl rfl), by omega⟩
    · rw [if_neg c]; exact ⟨by omega, p.t1, .inr (.inr rfl), by omega⟩
  rw [if_neg c6]
  exact ⟨by omega, p.sl, .inl rfl, by omega⟩
structure ThereS (n : Nat) (p : PartT) : Prop where
  sl : 56 + 40 * p.sl ≤ (n : Int)
  t0 : 56 + 40 * p.t0 ≤ (n : Int)
  t1 : 56 + 40 * p.t1 ≤ (n : Int)
inductive RunsS : List (BitVec 64) → PartT → Nat → List (BitVec 64) → PartT → Prop
  | done {l p} : 6 < p.ph → RunsS l p 0 l p
  | step {l p y k l' p'} : p.ph ≤ 6 → rightS p = true → doP l (accS p) = some y → RunsS y.1 (takeS p y.2) k l' p' → RunsS l p (k + 1) l' p'
theorem RunsS.inv {l l' : List (BitVec 64)} {p p' : PartT} {k : Nat} (h : RunsS l p k l' p') : (6 < p.ph ∧ k = 0 ∧ l' = l ∧ p' = p) ∨ ∃ y k1, p.ph ≤ 6 ∧ k = k1 + 1 ∧ rightS p = true ∧ doP l (accS p) = some y ∧ RunsS y.1 (takeS p y.2) k1 l' p' := by
  cases h with
  | done h => exact .inl ⟨h, rfl, rfl, rfl⟩
  | step h6 hr hy hx => exact .inr ⟨_, _, h6, rfl, hr, hy, hx⟩
theorem accS_row {l : List (BitVec 64)} {p : PartT} {y : List (BitVec 64) × BitVec 64} (R : RightS p) (h6 : p.ph ≤ 6) (hy : doP l (accS p) = some y) :
    ∃ j : Nat, (accS p).at_ = (j : Int) ∧ j < l.length ∧ l[j]? = some y.2 ∧ ((accS p).kind = 1 ∧ y.1 = l ∨ (accS p).kind = 2 ∧ y.1 = l.set j (accS p).new) := by
  obtain ⟨j, hj⟩ := Int.eq_ofNat_of_zero_le (whereS_in R h6).1
  have hk : (accS p).kind = 1 ∨ (accS p).kind = 2 := by
    by_cases h : p.ph = 5 ∨ p.ph = 6
    · right; exact if_pos h
    · left; exact if_neg h
  unfold doP at hy
  have e : (accS p).at_.toNat = j := by show (whereS p).toNat = j; omega
  rw [e] at hy
  split at hy
  · cases hy
  · rename_i w hw
    have hy := Option.some.inj hy
    subst hy
    refine ⟨j, hj, (List.getElem?_eq_some_iff.1 hw).1, hw, ?_⟩
    rcases hk with h | h
    · exact .inl ⟨h, if_pos h⟩
    · refine .inr ⟨h, ?_⟩
      show (if (accS p).kind = 1 then _ else _) = _
      rw [if_neg (by omega), if_pos h]
end Go.Proofs.Hc
namespace Go.Proofs.Hc
open Go.RowKit
attribute [local go_sem] zaw zby zaj zas zae zay zar zak zbn zam zax zaz
attribute [local go_sem] load26 load73 load23 store26 build73
attribute [local go_sem ↓] lrow26 lrow73 lrow23 srow26 zero26 brow73 zac zbk zbg zaa zab
attribute [local go_sem] zai zav zau zbj zbl zbo zaq zat zbp zbi zbh
attribute [local go_sem] nn2 nm2 nn3 nm3 nn4 nm4 nn5 nm5 nn6 nm6 nn7 nm7 nn8 nm8
attribute [local go_sem] zcx seenC_one seenC_all seenC_g0 loadSeen storeSeen buildSeen buildSeen0
attribute [local go_sem ↓] lrowSeen srowSeen browSeen zcy
attribute [local go_sem high] zal
attribute [local irreducible] seenC
theorem seen_put (x : Int) (b : Bool) (w : World) : (World.onObj (w.alloc (.cells (seenC 0 false) 93)) w.heap.size (laidAt 0 (seenC x b))).heap[w.heap.size]? = some (.cells (seenC x b) 93 (0, 0)) := by
  rw [zab, if_pos rfl, zac, if_pos rfl, Option.map_some, zal]
theorem seen_put_ch (x : Int) (b : Bool) (w : World) : Ch [] w (World.onObj (w.alloc (.cells (seenC 0 false) 93)) w.heap.size (laidAt 0 (seenC x b))) := ((Ch.refl [] w).alloc _).onObj (.inr (Nat.le_refl _)) _
end Go.Proofs.Hc
