/- The reference of layer 2: Right, with, Do. -/
import Derived.Test.YtcikopeddljgkaaGreatJPx
import Derived.Test.YtcikopeddljgkaaGreatJ0
set_option linter.unusedSimpArgs false
set_option linter.unusedVariables false
set_option maxHeartbeats 2000000
set_option maxRecDepth 100000
namespace Go.Proofs.Hc
open Go.RowKit
theorem seenC_g1 (x : Int) (d : Bool) : (seenC x d)[1]? = some (.bool d) := rfl
attribute [local go_sem] zbu zcc zax zbf zbo zbd zbn zbp zbw signed64 signed8 zap BitVec.ofInt_add BitVec.ofInt_mul ofInt_sub' zbb zbc wide8 eqN neN zca shr1 shr7 shr56
attribute [local go_sem high] zbe zbv
attribute [local go_sem] zaw zby zaj zas zaf zaz zar zak zbm zal zay zba
attribute [local go_sem] load26 load73 load23 store26 build73
attribute [local go_sem ↓] lrow26 lrow73 lrow23 srow26 zero26 brow73 zae zbk zbg zaa zab
attribute [local go_sem] zai zav zat zbj zbl zbr zaq zau zbs zbi zbh
attribute [local go_sem] nn2 nm2 nn3 nm3 nn4 nm4 nn5 nm5 nn6 nm6 nn7 nm7 nn8 nm8
attribute [local go_sem] nn2 nm2 nn3 nm3 nn4 nm4 nn5 nm5 nn6 nm6 nn7 nm7 nn8 nm8
attribute [local go_sem] acc_g0 acc_g1 acc_g2 acc_g4 acc_s0 acc_s1 acc_s2 acc_s4 accC_size accC_one accC_all loadAcc storeAcc bacc0 bacc2 bacc3 bacc3u bacc4
attribute [local go_sem ↓] lrowAcc srowAcc browAcc zeroAcc_run
attribute [local go_sem high] zah
attribute [local go_sem] seenC_size seenC_one seenC_all seenC_g0 loadSeen storeSeen buildSeen buildSeen0
attribute [local go_sem ↓] lrowSeen srowSeen browSeen zeroSeen_run
attribute [local go_sem high] zam
attribute [local irreducible] seenC
attribute [local irreducible] accC
attribute [local go_sem] boxSeen boxAcc seenC_g1
theorem r02Right_any (a : Option Addr) (n c : Nat) (w : World) : Calls Tryz.prog 27 #[.slice a n c] w fun e w' => e = .returned (.bool (decide (1 ≤ n) && decide (n ≤ 8192))) ∧ w = w' := by
  rcases Nat.eq_zero_or_pos n with h | h
  · subst h
    go_enter Tryz.func27, Tryz.ntmps27
    go_wp2
    go_ret
    exact ⟨rfl, rfl⟩
  · have h1 : (1 : Int) ≤ n := by omega
    have e1 : decide (1 ≤ n) = true := decide_eq_true h
    rcases Nat.lt_or_ge 8192 n with h2 | h2
    · have h3 : ¬ (n : Int) ≤ 8192 := by omega
      have e2 : decide (n ≤ 8192) = false := decide_eq_false (by omega)
      rw [e1, e2]
      clear h h2 e1 e2
      go_enter Tryz.func27, Tryz.ntmps27
      go_wp2
      go_ret
      exact ⟨rfl, rfl⟩
    · have h3 : (n : Int) ≤ 8192 := by omega
      have e2 : decide (n ≤ 8192) = true := decide_eq_true h2
      rw [e1, e2]
      clear h h2 e1 e2
      go_enter Tryz.func27, Tryz.ntmps27
      go_wp2
      go_ret
      exact ⟨rfl, rfl⟩
theorem words_set {cur : Array Value} {l : List (BitVec 64)} {j : Nat} {x : BitVec 64} (hw : WordsAt cur l) : WordsAt (cur.setIfInBounds j (U x)) (l.set j x) := by
  intro i y hi
  rw [List.getElem?_set] at hi
  rw [Array.getElem?_setIfInBounds]
  by_cases h : j = i
  · subst h
    rw [if_pos rfl] at hi
    by_cases hl : j < l.length
    · rw [if_pos hl] at hi
      have hi := Option.some.inj hi
      subst hi
      have := hw j _ (List.getElem?_eq_getElem hl)
      rw [if_pos rfl, if_pos (Array.getElem?_eq_some_iff.1 this).1]
    · rw [if_neg hl] at hi
      cases hi
  · rw [if_neg h] at hi ⊢
    exact hw i y hi
theorem r02With_any (l : List (BitVec 64)) (n g c : Nat) (cur : Array Value) (j : Nat) (x : BitVec 64) (w : World) (hj : j < n) (hn : l.length = n) (hl : n ≤ 8192) (hb : w.heap[g]? = some (.cells cur 22 (0, 0))) (hw : WordsAt cur l) :
    Calls Tryz.prog 186 #[.slice (some ⟨g, 0, none⟩) n c, I (j : Int), U x] w fun e w' => ∃ R c2 cur2, e = .returned (.slice (some ⟨R, 0, none⟩) n c2) ∧ w.heap.size ≤ R ∧ WordsAt cur2 (l.set j x) ∧ w'.heap[R]? = some (.cells cur2 22 (0, 0)) ∧ Ch [] w w' := by
  obtain ⟨i0, hi, hz0, hz1, hz2⟩ := info_parts infoU
  have hmade : (w.alloc (.cells #[] 22)).ownsRow w.heap.size 22 1 (.slice (some ⟨w.heap.size, 0, none⟩) 0 0) 0 [] := World.ownsRow_made w #[] 0 (Nat.le_refl _) (Nat.zero_le _) (by simp)
  have hcA : Ch [] w (w.alloc (.cells #[] 22)) := (Ch.refl [] w).alloc _
  have hcell : ∀ i u, (l.map fun x => U x)[i]? = some u → (w.alloc (.cells #[] 22)).cell? ((⟨g, 0, none⟩ : Addr).add i) = some u := fun i u hi => by
    rw [List.getElem?_map] at hi
    obtain ⟨y, hy, rfl⟩ := Option.map_eq_some_iff.1 hi
    rw [Addr.add_lit, zaw, hkeep hcA hb, Option.bind_some, zaj, Nat.zero_add]
    exact hw i y hy
  obtain ⟨v', w1, hrun, hown, hgr, _⟩ := run_append_own (P := Tryz.prog) (w.alloc (.cells #[] 22)) w.heap.size 44 44 22 i0 (U 0#64) 1 8 Tryz.underlying44 hi hz0 hz1 hz2 rfl (by decide) _ 0 [] hmade ⟨g, 0, none⟩ n c (l.map fun x => U x) (by simp [hn]) hcell (words_oneZ l) (by unfold maxLen; omega) (by omega) (by simp)
  rw [Nat.zero_add, List.nil_append] at hown
  have hc1 : Ch [] w w1 := hcA.trans2 (Ch.of_grown (S := [w.heap.size]) hgr (fun k hk => by simp [Value.ownBlock] at hk; simp [hk])) (by simp)
  have bs : ∀ w : World, (Instr.buildSlice 44 0 #[]).run Tryz.prog w = .ok (.slice (some ⟨w.heap.size, 0, none⟩) 0 0) (w.alloc (.cells #[] 22)) := fun w => by kernel_rfl
  obtain ⟨R, c2, cur2, rfl, hR, hc2, hcur2, hW2⟩ := row_out hn (by omega) hown
  obtain ⟨y, hy⟩ : ∃ y, l[j]? = some y := ⟨l[j]'(by omega), List.getElem?_eq_getElem (by omega)⟩
  have hcj : cur2[j]? = some (U y) := hcur2 j y hy
  have hjI : (j : Int) < n := by omega
  have hnI : (n : Int) ≤ 8192 := by omega
  have HC := Lib.hid hc1
  have HR := Lib.hid hR
  have HW := Lib.hid hcur2
  clear hmade hcA hgr hown hc1 hcell hw hb hR hcur2 hy
  go_enter Tryz.func186, Tryz.ntmps186
  go_wp2_with (at_builtin; refine Lib.wpList_append_run _ rfl _ _ 44 44 rfl _ _ rfl rfl _ _ hrun ?_)
  go_ret
  refine ⟨R, c2, cur2.setIfInBounds j (U x), rfl, HR.out, words_set HW.out, by simp [go_sem, hW2], HC.out.setCell (p := ⟨R, j, none⟩) (.inr HR.out) _⟩
theorem seen_results {fn : Func} {p q : Tmp} (h : fn.results = #[.tmp p, .cell q 93]) (tmps : Array Value) (b : Nat) (w : World) (x : Int) (d : Bool) (v : Value) (hp : tmps.getD p undef = v) (hq : tmps.getD q undef = .pointer (some ⟨b, 0, none⟩))
    (hb : w.heap[b]? = some (.cells (seenC x d) 93 (0, 0))) : (results fn tmps).run Tryz.prog w = .ok (.tuple #[v, .agg (seenC x d)]) w := by
  have hl := run_loadVar_row (P := Tryz.prog) w b 93 93 (seenC x d) (0, 0) _ hb Tryz.underlying93 rfl (by rw [seenC_size]; kernel_rfl)
  have hp' : tmps[p]?.getD undef = v := by simpa using hp
  have hq' : tmps[q]?.getD undef = .pointer (some ⟨b, 0, none⟩) := by simpa using hq
  simp [results, h, hp', hq', asAddr, hl]
theorem do_world (a b c d : Int) (w : World) : ∃ W, (w.alloc (.cells (accC a b c d) 87)).alloc (.cells (seenC 0 false) 93) = W ∧ Ch [] w W ∧ W.heap[w.heap.size]? = some (.cells (accC a b c d) 87 (0, 0)) ∧ W.heap[w.heap.size + 1]? = some (.cells (seenC 0 false) 93 (0, 0)) ∧ W.heap.size = w.heap.size + 2 :=
  ⟨_, rfl, ((Ch.refl [] w).alloc _).alloc _, by rw [zae, if_neg (by simp), zae, if_pos rfl], by rw [zae, if_pos (by simp)], by simp⟩
theorem r02Do_load (n g c : Nat) (cur : Array Value) (who : Int) (j : Nat) (nw : Int) (x : BitVec 64) (w : World) (hj : j < n) (hl : n ≤ 8192) (hb : w.heap[g]? = some (.cells cur 22 (0, 0))) (hx : cur[j]? = some (U x)) :
    Calls Tryz.prog 119 #[.slice (some ⟨g, 0, none⟩) n c, .agg (accC who 1 (j : Int) nw)] w fun e w' => e = .returned (.tuple #[.slice (some ⟨g, 0, none⟩) n c, .agg (seenC (N x) true)]) ∧ Ch [] w w' := by
  obtain ⟨w0, hw0, C0, a0, y0, hs0⟩ := do_world who 1 (j : Int) nw w
  have b0 := hkeep C0 hb
  have hjI : (j : Int) < n := by omega
  have hnI : (n : Int) ≤ 8192 := by omega
  obtain ⟨A0, hA0⟩ : ∃ A, w.heap.size = A := ⟨_, rfl⟩
  clear hb hl hs0
  go_enter Tryz.func119, Tryz.ntmps119
  go_upto_region 1 with (fail)
  try rw [hw0]
  clear hw0
  rw [hA0] at a0 y0
  have hA : w.heap.size ≤ A0 := by omega
  clear hA0
  have ng := nsz b0
  have na := nsz a0
  have ny : ¬ A0 + 1 = w0.heap.size := by have := zad y0; omega
  go_upto_region 3 with (fail)
  have hc1 := seen_put_ch (N x) true w0
  have d1 := seen_put (N x) true w0
  have b1 := hkeep hc1 b0
  have a1 := hkeep hc1 a0
  have y1 := hkeep hc1 y0
  have C1 := C0.trans hc1
  clear b0 a0 y0 C0 hc1
  obtain ⟨w1, hw1⟩ : ∃ W, World.onObj (w0.alloc (.cells (seenC 0 false) 93)) w0.heap.size (laidAt 0 (seenC (N x) true)) = W := ⟨_, rfl⟩
  rw [hw1] at d1 b1 a1 y1 C1 ⊢
  clear hw1
  obtain ⟨D, hD⟩ : ∃ D, w0.heap.size = D := ⟨_, rfl⟩
  rw [hD] at d1 ng na ny ⊢
  clear hD
  go_upto_region 4 with (fail)
  have s1 : (fun W' : World => W'.heap[D]? = some (.cells (seenC (N x) true) 93 (0, 0))) w1.drew := d1
  have y2 : w1.drew.heap[A0 + 1]? = some (.cells (seenC 0 false) 93 (0, 0)) := y1
  have C2 : Ch [] w w1.drew := C1.drew
  refine wp_region_held_drew (S := fun W' => W'.heap[D]? = some (.cells (seenC (N x) true) 93 (0, 0))) (by kernel_rfl) s1 ?_
  intro _
  simp only [List.size_toArray, List.length_cons, List.length_nil, Nat.reduceAdd]
  clear d1 y1 b1 a1 C1
  generalize w1.drew = w2 at *
  refine tk 0 33 ?_ rfl s1 ?_ ?_; rotate_left
  · intro _ _; go_simp; try with_reducible rfl
  try go_frame
  refine tk 1 34 ?_ rfl s1 ?_ ?_; rotate_left
  · intro _ _; go_simp; try with_reducible rfl
  try go_frame
  refine tk 2 4 ?_ rfl s1 ?_ ?_; rotate_left
  · intro _ _; go_simp; try with_reducible rfl
  try go_frame
  refine rd 3 rfl (fun K hK => ?_); go_simp
  have y3 : (World.onObj w2 (A0 + 1) (laidAt 0 (seenC (N x) true))).heap[A0 + 1]? = some (.cells (seenC (N x) true) 93 (0, 0)) := by rw [zab, if_pos rfl, y2, Option.map_some, zam]
  have s3 : (World.onObj w2 (A0 + 1) (laidAt 0 (seenC (N x) true))).heap[D]? = some (.cells (seenC (N x) true) 93 (0, 0)) := by rw [zab, if_neg (fun e => ny e.symm)]; exact s1
  have C3 : Ch [] w (World.onObj w2 (A0 + 1) (laidAt 0 (seenC (N x) true))) := C2.onObj (.inr (by omega)) _
  refine hK.out _ _ s3 (fun _ => ?_)
  clear hK K s1 y2 C2 s3
  generalize World.onObj w2 (A0 + 1) (laidAt 0 (seenC (N x) true)) = w3 at *
  refine wpAnyH_done (by kernel_rfl) ?_ _
  go_wp2
  refine bodyPost_ret (seen_results Tryz.results119 _ (A0 + 1) _ _ _ _ rfl rfl y3) rfl ⟨rfl, C3⟩
theorem r02Do_store (l : List (BitVec 64)) (n g c : Nat) (cur : Array Value) (who : Int) (j : Nat) (nw x : BitVec 64) (w : World) (hj : j < n) (hn : l.length = n) (hl : n ≤ 8192) (hb : w.heap[g]? = some (.cells cur 22 (0, 0))) (hw : WordsAt cur l) (hx : l[j]? = some x) :
    Calls Tryz.prog 119 #[.slice (some ⟨g, 0, none⟩) n c, .agg (accC who 2 (j : Int) (N nw))] w fun e w' => ∃ R c2 cur2, e = .returned (.tuple #[.slice (some ⟨R, 0, none⟩) n c2, .agg (seenC (N x) true)]) ∧ WordsAt cur2 (l.set j nw) ∧ w'.heap[R]? = some (.cells cur2 22 (0, 0)) ∧ Ch [] w w' := by
  obtain ⟨w0, hw0, C0, a0, y0, hs0⟩ := do_world who 2 (j : Int) (N nw) w
  have V1 := fun w hb => r02With_any l n g c cur j nw w hj hn hl hb hw
  have b0 := hkeep C0 hb
  have hcx : cur[j]? = some (U x) := hw j x hx
  have hjI : (j : Int) < n := by omega
  have hnI : (n : Int) ≤ 8192 := by omega
  obtain ⟨L, hL⟩ : ∃ L, l.set j nw = L := ⟨_, rfl⟩
  rw [hL] at V1 ⊢
  clear hL
  obtain ⟨A0, hA0⟩ : ∃ A, w.heap.size = A := ⟨_, rfl⟩
  clear hb hl hs0 hw hx hn
  go_enter Tryz.func119, Tryz.ntmps119
  go_upto_region 1 with (fail)
  try rw [hw0]
  clear hw0
  rw [hA0] at a0 y0
  have hA : w.heap.size ≤ A0 := by omega
  clear hA0
  have ng := nsz b0
  have na := nsz a0
  have ny : ¬ A0 + 1 = w0.heap.size := by have := zad y0; omega
  go_upto_region 3 with (fail)
  have hc1 := seen_put_ch (N x) true w0
  have d1 := seen_put (N x) true w0
  have b1 := hkeep hc1 b0
  have a1 := hkeep hc1 a0
  have y1 := hkeep hc1 y0
  have C1 := C0.trans hc1
  clear b0 a0 y0 C0 hc1
  obtain ⟨w1, hw1⟩ : ∃ W, World.onObj (w0.alloc (.cells (seenC 0 false) 93)) w0.heap.size (laidAt 0 (seenC (N x) true)) = W := ⟨_, rfl⟩
  rw [hw1] at d1 b1 a1 y1 C1 ⊢
  clear hw1
  obtain ⟨D, hD⟩ : ∃ D, w0.heap.size = D := ⟨_, rfl⟩
  rw [hD] at d1 ng na ny ⊢
  clear hD
  go_upto_region 7 with (fail)
  have s1 : (fun W' : World => W'.heap[D]? = some (.cells (seenC (N x) true) 93 (0, 0)) ∧ W'.heap[A0]? = some (.cells (accC who 2 (j : Int) (N nw)) 87 (0, 0))) w1.drew := ⟨d1, a1⟩
  have y2 : w1.drew.heap[A0 + 1]? = some (.cells (seenC 0 false) 93 (0, 0)) := y1
  have b2 : w1.drew.heap[g]? = some (.cells cur 22 (0, 0)) := b1
  have C2 : Ch [] w w1.drew := C1.drew
  refine wp_region_held_drew (S := fun W' => W'.heap[D]? = some (.cells (seenC (N x) true) 93 (0, 0)) ∧ W'.heap[A0]? = some (.cells (accC who 2 (j : Int) (N nw)) 87 (0, 0))) (by kernel_rfl) s1 ?_
  intro _
  simp only [List.size_toArray, List.length_cons, List.length_nil, Nat.reduceAdd]
  clear d1 y1 b1 a1 C1
  generalize w1.drew = w2 at *
  refine tk 0 48 ?_ rfl s1 ?_ ?_; rotate_left
  · intro wq hSq; obtain ⟨q1, q2⟩ := hSq; go_simp; try with_reducible rfl
  try go_frame
  refine tk 1 49 ?_ rfl s1 ?_ ?_; rotate_left
  · intro wq hSq; obtain ⟨q1, q2⟩ := hSq; go_simp; try with_reducible rfl
  try go_frame
  refine tk 2 50 ?_ rfl s1 ?_ ?_; rotate_left
  · intro wq hSq; obtain ⟨q1, q2⟩ := hSq; go_simp; try with_reducible rfl
  try go_frame
  refine tk 3 51 ?_ rfl s1 ?_ ?_; rotate_left
  · intro wq hSq; obtain ⟨q1, q2⟩ := hSq; go_simp; try with_reducible rfl
  try go_frame
  refine tk 4 52 ?_ rfl s1 ?_ ?_; rotate_left
  · intro wq hSq; obtain ⟨q1, q2⟩ := hSq; go_simp; try with_reducible rfl
  try go_frame
  refine tk 6 54 ?_ rfl s1 ?_ ?_; rotate_left
  · intro wq hSq; obtain ⟨q1, q2⟩ := hSq; go_simp; try with_reducible rfl
  try go_frame
  refine rd 5 rfl (fun K hK => ?_); go_simp
  refine (V1 _ b2).mono ?_
  rintro e w4 ⟨R, c2, cur2, rfl, hRw, hW2, hR, hc4⟩
  have s4 : w4.heap[D]? = some (.cells (seenC (N x) true) 93 (0, 0)) ∧ w4.heap[A0]? = some (.cells (accC who 2 (j : Int) (N nw)) 87 (0, 0)) := ⟨hkeep hc4 s1.1, hkeep hc4 s1.2⟩
  have y4 := hkeep hc4 y2
  have C4 := C2.trans hc4
  refine hK.out _ _ s4 (fun _ => ?_)
  clear hK K s1 y2 C2 hc4 b2 V1 hRw
  refine tk 7 4 ?_ rfl s4 ?_ ?_; rotate_left
  · intro _ _; go_simp; try with_reducible rfl
  try go_frame
  refine rd 8 rfl (fun K hK => ?_); go_simp
  have y5 : (World.onObj w4 (A0 + 1) (laidAt 0 (seenC (N x) true))).heap[A0 + 1]? = some (.cells (seenC (N x) true) 93 (0, 0)) := by rw [zab, if_pos rfl, y4, Option.map_some, zam]
  have s5 : (World.onObj w4 (A0 + 1) (laidAt 0 (seenC (N x) true))).heap[D]? = some (.cells (seenC (N x) true) 93 (0, 0)) ∧ (World.onObj w4 (A0 + 1) (laidAt 0 (seenC (N x) true))).heap[A0]? = some (.cells (accC who 2 (j : Int) (N nw)) 87 (0, 0)) := ⟨by rw [zab, if_neg (fun e => ny e.symm)]; exact s4.1, by rw [zab, if_neg (by omega)]; exact s4.2⟩
  have r5 : (World.onObj w4 (A0 + 1) (laidAt 0 (seenC (N x) true))).heap[R]? = some (.cells cur2 22 (0, 0)) := by rw [zab, if_neg (zcq hR y4 (by decide))]; exact hR
  have C5 : Ch [] w (World.onObj w4 (A0 + 1) (laidAt 0 (seenC (N x) true))) := C4.onObj (.inr (by omega)) _
  refine hK.out _ _ s5 (fun _ => ?_)
  clear hK K s4 y4 C4 s5 hR
  generalize World.onObj w4 (A0 + 1) (laidAt 0 (seenC (N x) true)) = w5 at *
  refine wpAnyH_done (by kernel_rfl) ?_ _
  go_wp2
  refine bodyPost_ret (seen_results Tryz.results119 _ (A0 + 1) _ _ _ _ rfl rfl y5) rfl ⟨R, c2, cur2, rfl, hW2, r5, C5⟩
end Go.Proofs.Hc
