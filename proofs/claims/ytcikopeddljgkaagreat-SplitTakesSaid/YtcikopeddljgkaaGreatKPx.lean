/- Package split: Step. -/
import Derived.Test.YtcikopeddljgkaaGreatKPv
import Derived.Test.YtcikopeddljgkaaGreatK0
set_option linter.unusedSimpArgs false
set_option linter.unusedVariables false
set_option maxHeartbeats 2000000
set_option maxRecDepth 100000
namespace Go.Proofs.Hc
open Go.RowKit
attribute [local go_sem] zbv zcb zba zbf zbr zbd zbq zbs zbx signed64 signed8 zap BitVec.ofInt_add BitVec.ofInt_mul ofInt_sub' zbb zbc wide8 eqN neN zca shr1 shr7 shr56
attribute [local go_sem high] zbe zbw
attribute [local go_sem] zaw zby zaj zas zae zay zar zak zbn zam zax zaz
attribute [local go_sem] load26 load73 load23 store26 build73
attribute [local go_sem ↓] lrow26 lrow73 lrow23 srow26 zero26 brow73 zac zbk zbg zaa zab
attribute [local go_sem] zai zav zau zbj zbl zbo zaq zat zbp zbi zbh
attribute [local go_sem] nn2 nm2 nn3 nm3 nn4 nm4 nn5 nm5 nn6 nm6 nn7 nm7 nn8 nm8
section
attribute [local go_sem] acc_g0 acc_g1 acc_g2 acc_g4 acc_s0 acc_s1 acc_s2 acc_s4 zdg accC_one accC_all loadAcc storeAcc bacc0 bacc2 bacc3 bacc3u bacc4
attribute [local go_sem ↓] lrowAcc srowAcc browAcc zcu
attribute [local go_sem high] zah
attribute [local go_sem] zcx seenC_one seenC_all seenC_g0 loadSeen storeSeen buildSeen buildSeen0
attribute [local go_sem ↓] lrowSeen srowSeen browSeen zcy
attribute [local go_sem high] zal
attribute [local irreducible] seenC
attribute [local go_sem] zap zbt
attribute [local go_sem] Oper.semAt_some zao
attribute [local go_sem] zcj pacell0 pacell1 pacell2 pacell3 pacell4 pacell5 pacell6 pacell7 pacell42
attribute [local go_sem] zcr zcw zct zdc zdb part_g5 zcv zdl zcf zcq part_s6 zde zch zbu zci zck boxPart loadPart storePart zce zcs buildPart0 buildPart4
attribute [local go_sem ↓] lrowPart srowPart browPart zcl zbz
attribute [local go_sem high] zag
attribute [local irreducible] partC
attribute [local irreducible] accC
attribute [local go_sem] boxSeen
theorem s22step_results {fn : Func} {p q u : Tmp} (h : fn.results = #[.tmp p, .cell q 51, .tmp u]) (tmps : Array Value) (b : Nat) (w : World) (d : PartT) (v y : Value) (hp : tmps.getD p undef = v) (hq : tmps.getD q undef = .pointer (some ⟨b, 0, none⟩)) (hu : tmps.getD u undef = y)
    (hb : w.heap[b]? = some (.cells (partC d) 51 (0, 0))) : (results fn tmps).run Tryz.prog w = .ok (.tuple #[v, .agg (partC d), y]) w := by
  have hl := run_loadVar_row (P := Tryz.prog) w b 51 51 (partC d) (0, 0) _ hb Tryz.underlying51 rfl (by rw [zbu]; kernel_rfl)
  have hp' : tmps[p]?.getD undef = v := by simpa using hp
  have hq' : tmps[q]?.getD undef = .pointer (some ⟨b, 0, none⟩) := by simpa using hq
  have hu' : tmps[u]?.getD undef = y := by simpa using hu
  simp [results, h, hp', hq', hu', asAddr, hl]
theorem step_world22 (p : PartT) (w : World) : ∃ W, (w.alloc (.cells (partC p) 51)).alloc (.cells (partC zeroPart) 51) = W ∧ Ch [] w W ∧ W.heap[w.heap.size]? = some (.cells (partC p) 51 (0, 0)) ∧ W.heap[w.heap.size + 1]? = some (.cells (partC zeroPart) 51 (0, 0)) :=
  ⟨_, rfl, ((Ch.refl [] w).alloc _).alloc _, by rw [zac, if_neg (by simp), zac, if_pos rfl], by rw [zac, if_pos (by simp)]⟩
theorem accv_put22 (a b c d : Int) (w : World) : (World.onObj (w.alloc (.cells (accC 0 0 0 0) 87)) w.heap.size (laidAt 0 (accC a b c d))).heap[w.heap.size]? = some (.cells (accC a b c d) 87 (0, 0)) := by
  rw [zab, if_pos rfl, zac, if_pos rfl, Option.map_some, zah]
theorem zcp (a b c d : Int) (w : World) : Ch [] w (World.onObj (w.alloc (.cells (accC 0 0 0 0) 87)) w.heap.size (laidAt 0 (accC a b c d))) := ((Ch.refl [] w).alloc _).onObj (.inr (Nat.le_refl _)) _
theorem seen_put22 (x : Int) (b : Bool) (w : World) : (World.onObj (w.alloc (.cells (seenC 0 false) 93)) w.heap.size (laidAt 0 (seenC x b))).heap[w.heap.size]? = some (.cells (seenC x b) 93 (0, 0)) := by
  rw [zab, if_pos rfl, zac, if_pos rfl, Option.map_some, zal]
theorem zbm (x : Int) (b : Bool) (w : World) : Ch [] w (World.onObj (w.alloc (.cells (seenC 0 false) 93)) w.heap.size (laidAt 0 (seenC x b))) := ((Ch.refl [] w).alloc _).onObj (.inr (Nat.le_refl _)) _
theorem s22Step_empty (a : Option Addr) (c : Nat) (p : PartT)  (w : World) : Calls Tryz.prog 52 #[.slice a 0 c, .agg (partC p)] w fun e w' => e = .returned (.tuple #[.slice none 0 0, .agg (partC zeroPart), I 120]) ∧ Ch [] w w' := by
  have M1 := fun w => s22some_any a 0 c w
  simp only [show ¬ (1 ≤ 0) by omega, decide_false, Bool.false_and] at M1
  obtain ⟨w0, hW0, C0, b0, z0⟩ := step_world22 p w
  go_enter Tryz.func52, Tryz.ntmps52
  go_wp2_with fail
  try rw [hW0]
  clear hW0
  refine (M1 _).mono ?_
  rintro e w' ⟨rfl, rfl⟩
  obtain ⟨B, hB⟩ : ∃ B, w.heap.size = B := ⟨_, rfl⟩
  rw [hB] at b0 z0 ⊢
  have hBw : w.heap.size ≤ B := by omega
  clear hB M1
  go_wp2
  refine bodyPost_ret (s22step_results Tryz.results52 _ (B + 1) _ zeroPart _ _ rfl rfl rfl ?_) rfl ⟨rfl, C0.onObj (p := B + 1) (.inr (by omega)) _⟩
  rw [zab, if_pos rfl, z0, Option.map_some, zag]
theorem s22Step_bad (n g c : Nat) (cur : Array Value) (p : PartT) (hr : rightS p = false) (w : World) (h1 : 1 ≤ n) (hl : n ≤ 8192) (hb : w.heap[g]? = some (.cells cur 22 (0, 0))) : Calls Tryz.prog 52 #[.slice (some ⟨g, 0, none⟩) n c, .agg (partC p)] w fun e w' => e = .returned (.tuple #[.slice none 0 0, .agg (partC zeroPart), I 320]) ∧ Ch [] w w' := by
  have M1 := fun w => s22some_any (some ⟨g, 0, none⟩) n c w
  rw [decide_eq_true h1, decide_eq_true hl, Bool.and_true] at M1
  have R1 := fun w => pCheck_any p w
  rw [checkS_no hr] at R1
  clear hr
  obtain ⟨w0, hW0, C0, b0, z0⟩ := step_world22 p w
  have c0 := hkeep C0 hb
  clear hb h1 hl
  skip
  go_enter Tryz.func52, Tryz.ntmps52
  go_wp2_with fail
  try rw [hW0]
  clear hW0
  refine (M1 _).mono ?_
  rintro e w' ⟨rfl, rfl⟩
  obtain ⟨B, hB⟩ : ∃ B, w.heap.size = B := ⟨_, rfl⟩
  rw [hB] at b0 z0 ⊢
  have hBw : w.heap.size ≤ B := by omega
  clear hB M1
  go_wp2_with fail
  refine (R1 _).mono ?_
  rintro e w1 ⟨rfl, hc1⟩
  have b1 := hkeep (hc1) b0
  have z1 := hkeep (hc1) z0
  have c1 := hkeep (hc1) c0
  have C1 := C0.trans (hc1)
  clear b0 z0 c0 C0 hc1 
  clear R1
  go_wp2
  refine bodyPost_ret (s22step_results Tryz.results52 _ (B + 1) _ zeroPart _ _ rfl rfl rfl ?_) rfl ⟨rfl, C1.onObj (p := B + 1) (.inr (by omega)) _⟩
  rw [zab, if_pos rfl, z1, Option.map_some, zag]
theorem s22Step_over (l : List (BitVec 64)) (g c : Nat) (cur : Array Value) (p : PartT) (hr : rightS p = true) (hn : needS p = none) (w : World) (h1 : 1 ≤ l.length) (hl : l.length ≤ 8192) (hb : w.heap[g]? = some (.cells cur 22 (0, 0))) (hw : WordsAt cur l) : Calls Tryz.prog 52 #[.slice (some ⟨g, 0, none⟩) l.length c, .agg (partC p)] w fun e w' => ∃ R, e = .returned (.tuple #[.slice (some ⟨R, 0, none⟩) l.length l.length, .agg (partC p), I 0]) ∧ w.heap.size ≤ R ∧ w'.heap[R]? = some (.cells (wcells l) 22 (0, 0)) ∧ Ch [] w w' := by
  have O1 := fun w h => s22own_any l g c cur w (by omega) h hw
  obtain ⟨n, hnl⟩ : ∃ n, l.length = n := ⟨_, rfl⟩
  rw [hnl] at O1 h1 hl ⊢
  clear hw hnl
  have M1 := fun w => s22some_any (some ⟨g, 0, none⟩) n c w
  rw [decide_eq_true h1, decide_eq_true hl, Bool.and_true] at M1
  have R1 := fun w => pCheck_any p w
  rw [checkS_yes hr] at R1
  have N1 := fun w => s22Need_any p w
  rw [hn] at N1
  simp only [needSV] at N1
  clear hn
  clear hr
  obtain ⟨w0, hW0, C0, b0, z0⟩ := step_world22 p w
  have c0 := hkeep C0 hb
  clear hb h1 hl
  skip
  go_enter Tryz.func52, Tryz.ntmps52
  go_wp2_with fail
  try rw [hW0]
  clear hW0
  refine (M1 _).mono ?_
  rintro e w' ⟨rfl, rfl⟩
  obtain ⟨B, hB⟩ : ∃ B, w.heap.size = B := ⟨_, rfl⟩
  rw [hB] at b0 z0 ⊢
  have hBw : w.heap.size ≤ B := by omega
  clear hB M1
  go_wp2_with fail
  refine (R1 _).mono ?_
  rintro e w1 ⟨rfl, hc1⟩
  have b1 := hkeep (hc1) b0
  have z1 := hkeep (hc1) z0
  have c1 := hkeep (hc1) c0
  have C1 := C0.trans (hc1)
  clear b0 z0 c0 C0 hc1 
  clear R1
  go_wp2_with fail
  refine (N1 _).mono ?_
  rintro e w2 ⟨rfl, hc2⟩
  have b2 := hkeep (hc2) b1
  have z2 := hkeep (hc2) z1
  have c2 := hkeep (hc2) c1
  have C2 := C1.trans (hc2)
  clear b1 z1 c1 C1 hc2 
  clear N1
  have nb := nsz b2
  have nz : ¬ (B + 1) = w2.heap.size := by have := zad z2; omega
  have nc := nsz c2
  go_upto_region 6 with (fail)
  clear nb nz nc
  have hcp2 := zcp 0 0 0 0 w2
  have b3 := hkeep (hcp2) b2
  have z3 := hkeep (hcp2) z2
  have c3 := hkeep (hcp2) c2
  have C3 := C2.trans (hcp2)
  have a3 := accv_put22 0 0 0 0 w2
  have lbAA := zad b2
  have lzAA := zad z2
  have lcAA := zad c2
  have hlAA := C2.size
  clear b2 z2 c2 C2 hcp2
  obtain ⟨w3, hw3⟩ : ∃ W, World.onObj (w2.alloc (.cells (accC 0 0 0 0) 87)) w2.heap.size (laidAt 0 (accC 0 0 0 0)) = W := ⟨_, rfl⟩
  rw [hw3] at b3 z3 c3 a3 C3  ⊢
  clear hw3
  obtain ⟨AA, hbAA⟩ : ∃ b, w2.heap.size = b := ⟨_, rfl⟩
  rw [hbAA] at a3 hlAA lbAA lzAA lcAA ⊢
  clear hbAA
  go_upto_region 7 with (fail)
  have s1 : (fun W' : World => W'.heap[B]? = some (.cells (partC p) 51 (0, 0))) w3.drew := b3
  have z1 : w3.drew.heap[B + 1]? = some (.cells (partC zeroPart) 51 (0, 0)) := z3
  have c1 : w3.drew.heap[g]? = _ := c3
  have C1 : Ch [] w w3.drew := C3.drew
  refine wp_region_held_drew (S := fun W' => W'.heap[B]? = some (.cells (partC p) 51 (0, 0))) (by kernel_rfl) s1 ?_
  intro _
  simp only [List.size_toArray, List.length_cons, List.length_nil, Nat.reduceAdd]
  clear b3 z3 c3 a3 C3
  generalize w3.drew = w1 at *
  refine tk 0 30 ?_ rfl s1 ?_ ?_; rotate_left
  · intro _ _; go_simp; try with_reducible rfl
  try go_frame
  refine tk 2 32 ?_ rfl s1 ?_ ?_; rotate_left
  · intro _ _; go_simp; try with_reducible rfl
  try go_frame
  refine rd (o := ⟨some 31, _, _, _, _, none⟩) 1 rfl (fun K hK => ?_); go_simp
  refine (O1 _ c1).mono ?_
  rintro e w2 ⟨rfl, hR, hc2⟩
  have s2 := hkeep hc2 s1
  have z2 := hkeep hc2 z1
  have C2 := C1.trans hc2
  have hRw : w.heap.size ≤ w1.heap.size := C1.size
  have hzl := (Array.getElem?_eq_some_iff.1 z1).1
  refine hK.out _ _ s2 (fun _ => ?_)
  clear hK K hc2 s1 z1 c1 C1
  obtain ⟨R, hRe⟩ : ∃ R, w1.heap.size = R := ⟨_, rfl⟩
  rw [hRe] at hR hRw hzl ⊢
  have hRz : ¬ R = B + 1 := by omega
  clear hRe hzl
  refine tk 3 4 ?_ rfl s2 ?_ ?_; rotate_left
  · intro _ _; go_simp; try with_reducible rfl
  try go_frame
  refine rd 4 rfl (fun K hK => ?_); go_simp
  have s3 : (World.onObj w2 (B + 1) (laidAt 0 (partC p))).heap[B]? = some (.cells (partC p) 51 (0, 0)) := by rw [zab, if_neg (by omega)]; exact s2
  have z3 : (World.onObj w2 (B + 1) (laidAt 0 (partC p))).heap[B + 1]? = some (.cells (partC p) 51 (0, 0)) := by rw [zab, if_pos rfl, z2, Option.map_some, zag]
  have r3 := (zan (w := w2) (F := B + 1) (laidAt 0 (partC p)) hRz).trans hR
  have C3 : Ch [] w (World.onObj w2 (B + 1) (laidAt 0 (partC p))) := C2.onObj (.inr (by omega)) _
  refine hK.out _ _ s3 (fun _ => ?_)
  clear hK K s2 z2 hR C2
  generalize (World.onObj w2 (B + 1) (laidAt 0 (partC p))) = w3 at *
  refine tk 5 6 ?_ rfl s3 ?_ ?_; rotate_left
  · intro _ _; go_simp; try with_reducible rfl
  try go_frame
  refine wpAnyH_done (by kernel_rfl) ?_ _
  go_wp2
  exact bodyPost_ret (s22step_results Tryz.results52 _ (B + 1) _ p _ _ rfl rfl rfl z3) rfl ⟨R, rfl, hRw, r3, C3⟩
theorem s22Step_out (n g c : Nat) (cur : Array Value) (p : PartT) (kd at_ nw : Int) (hr : rightS p = true) (N1 : ∀ w, Calls Tryz.prog 47 #[.agg (partC p)] w fun e w' => e = .returned (.tuple #[.agg (accC p.who kd at_ nw), .bool true]) ∧ Ch [] w w') (D1 : ∀ w, w.heap[g]? = some (.cells cur 22 (0, 0)) → Calls Tryz.prog 118 #[.slice (some ⟨g, 0, none⟩) n c, .agg (accC p.who kd at_ nw)] w fun e w' => e = .returned (.tuple #[.slice none 0 0, .agg (seenC 0 false), I 2]) ∧ Ch [] w w') (w : World) (h1 : 1 ≤ n) (hl : n ≤ 8192) (hb : w.heap[g]? = some (.cells cur 22 (0, 0))) : Calls Tryz.prog 52 #[.slice (some ⟨g, 0, none⟩) n c, .agg (partC p)] w fun e w' => e = .returned (.tuple #[.slice none 0 0, .agg (partC zeroPart), I 2]) ∧ Ch [] w w' := by
  have M1 := fun w => s22some_any (some ⟨g, 0, none⟩) n c w
  rw [decide_eq_true h1, decide_eq_true hl, Bool.and_true] at M1
  have R1 := fun w => pCheck_any p w
  rw [checkS_yes hr] at R1
  clear hr
  obtain ⟨w0, hW0, C0, b0, z0⟩ := step_world22 p w
  have c0 := hkeep C0 hb
  clear hb h1 hl
  skip
  go_enter Tryz.func52, Tryz.ntmps52
  go_wp2_with fail
  try rw [hW0]
  clear hW0
  refine (M1 _).mono ?_
  rintro e w' ⟨rfl, rfl⟩
  obtain ⟨B, hB⟩ : ∃ B, w.heap.size = B := ⟨_, rfl⟩
  rw [hB] at b0 z0 ⊢
  have hBw : w.heap.size ≤ B := by omega
  clear hB M1
  go_wp2_with fail
  refine (R1 _).mono ?_
  rintro e w1 ⟨rfl, hc1⟩
  have b1 := hkeep (hc1) b0
  have z1 := hkeep (hc1) z0
  have c1 := hkeep (hc1) c0
  have C1 := C0.trans (hc1)
  clear b0 z0 c0 C0 hc1 
  clear R1
  go_wp2_with fail
  refine (N1 _).mono ?_
  rintro e w2 ⟨rfl, hc2⟩
  have b2 := hkeep (hc2) b1
  have z2 := hkeep (hc2) z1
  have c2 := hkeep (hc2) c1
  have C2 := C1.trans (hc2)
  clear b1 z1 c1 C1 hc2 
  clear N1
  have nb := nsz b2
  have nz : ¬ (B + 1) = w2.heap.size := by have := zad z2; omega
  have nc := nsz c2
  go_upto_region 6 with (fail)
  clear nb nz nc
  have hcp2 := zcp p.who kd at_ nw w2
  have b3 := hkeep (hcp2) b2
  have z3 := hkeep (hcp2) z2
  have c3 := hkeep (hcp2) c2
  have C3 := C2.trans (hcp2)
  have a3 := accv_put22 p.who kd at_ nw w2
  have lbAA := zad b2
  have lzAA := zad z2
  have lcAA := zad c2
  have hlAA := C2.size
  clear b2 z2 c2 C2 hcp2
  obtain ⟨w3, hw3⟩ : ∃ W, World.onObj (w2.alloc (.cells (accC 0 0 0 0) 87)) w2.heap.size (laidAt 0 (accC p.who kd at_ nw)) = W := ⟨_, rfl⟩
  rw [hw3] at b3 z3 c3 a3 C3  ⊢
  clear hw3
  obtain ⟨AA, hbAA⟩ : ∃ b, w2.heap.size = b := ⟨_, rfl⟩
  rw [hbAA] at a3 hlAA lbAA lzAA lcAA ⊢
  clear hbAA
  go_wp2_with fail
  refine (D1 _ c3).mono ?_
  rintro e w4 ⟨rfl, hc4⟩
  have b4 := hkeep (hc4) b3
  have z4 := hkeep (hc4) z3
  have c4 := hkeep (hc4) c3
  have a4 := hkeep (hc4) a3
  have C4 := C3.trans (hc4)
  clear b3 z3 c3 a3 C3 hc4 
  clear D1
  have nb := nsz b4
  have nz : ¬ (B + 1) = w4.heap.size := by have := zad z4; omega
  have nc := nsz c4
  have na := nsz a4
  go_upto_region 9 with (fail)
  clear nb nz nc na
  have hcp4 := zbm 0 false w4
  have b5 := hkeep (hcp4) b4
  have z5 := hkeep (hcp4) z4
  have c5 := hkeep (hcp4) c4
  have a5 := hkeep (hcp4) a4
  have C5 := C4.trans (hcp4)
  have y5 := seen_put22 0 false w4
  have lbYY := zad b4
  have lzYY := zad z4
  have lcYY := zad c4
  have laYY := zad a4
  have hlYY := C4.size
  clear b4 z4 c4 a4 C4 hcp4
  obtain ⟨w5, hw5⟩ : ∃ W, World.onObj (w4.alloc (.cells (seenC 0 false) 93)) w4.heap.size (laidAt 0 (seenC 0 false)) = W := ⟨_, rfl⟩
  rw [hw5] at b5 z5 c5 a5 y5 C5  ⊢
  clear hw5
  obtain ⟨YY, hbYY⟩ : ∃ b, w4.heap.size = b := ⟨_, rfl⟩
  rw [hbYY] at y5 hlYY lbYY lzYY lcYY laYY ⊢
  clear hbYY
  go_wp2
  refine bodyPost_ret (s22step_results Tryz.results52 _ (B + 1) _ zeroPart _ _ rfl rfl rfl ?_) rfl ⟨rfl, C5.onObj (p := B + 1) (.inr (by omega)) _⟩
  rw [zab, if_pos rfl, z5, Option.map_some, zag]
theorem s22Step_go (n g c : Nat) (cur : Array Value) (p : PartT) (cu2 : Array Value) (p2 : PartT) (kd at_ nw : Int) (x : BitVec 64) (hr : rightS p = true) (N1 : ∀ w, Calls Tryz.prog 47 #[.agg (partC p)] w fun e w' => e = .returned (.tuple #[.agg (accC p.who kd at_ nw), .bool true]) ∧ Ch [] w w') (D1 : ∀ w, w.heap[g]? = some (.cells cur 22 (0, 0)) → Calls Tryz.prog 118 #[.slice (some ⟨g, 0, none⟩) n c, .agg (accC p.who kd at_ nw)] w fun e w' => ∃ R, e = .returned (.tuple #[.slice (some ⟨R, 0, none⟩) n n, .agg (seenC (N x) true), I 0]) ∧ w.heap.size ≤ R ∧ w'.heap[R]? = some (.cells cu2 22 (0, 0)) ∧ Ch [] w w') (T1 : ∀ w, Calls Tryz.prog 50 #[.agg (partC p), .agg (seenC (N x) true)] w fun e w' => e = .returned (.tuple #[.agg (partC p2), I 0]) ∧ Ch [] w w') (w : World) (h1 : 1 ≤ n) (hl : n ≤ 8192) (hb : w.heap[g]? = some (.cells cur 22 (0, 0))) : Calls Tryz.prog 52 #[.slice (some ⟨g, 0, none⟩) n c, .agg (partC p)] w fun e w' => ∃ R, e = .returned (.tuple #[.slice (some ⟨R, 0, none⟩) n n, .agg (partC p2), I 0]) ∧ w.heap.size ≤ R ∧ w'.heap[R]? = some (.cells cu2 22 (0, 0)) ∧ Ch [] w w' := by
  have M1 := fun w => s22some_any (some ⟨g, 0, none⟩) n c w
  rw [decide_eq_true h1, decide_eq_true hl, Bool.and_true] at M1
  have R1 := fun w => pCheck_any p w
  rw [checkS_yes hr] at R1
  clear hr
  obtain ⟨w0, hW0, C0, b0, z0⟩ := step_world22 p w
  have c0 := hkeep C0 hb
  clear hb h1 hl
  skip
  go_enter Tryz.func52, Tryz.ntmps52
  go_wp2_with fail
  try rw [hW0]
  clear hW0
  refine (M1 _).mono ?_
  rintro e w' ⟨rfl, rfl⟩
  obtain ⟨B, hB⟩ : ∃ B, w.heap.size = B := ⟨_, rfl⟩
  rw [hB] at b0 z0 ⊢
  have hBw : w.heap.size ≤ B := by omega
  clear hB M1
  go_wp2_with fail
  refine (R1 _).mono ?_
  rintro e w1 ⟨rfl, hc1⟩
  have b1 := hkeep (hc1) b0
  have z1 := hkeep (hc1) z0
  have c1 := hkeep (hc1) c0
  have C1 := C0.trans (hc1)
  clear b0 z0 c0 C0 hc1 
  clear R1
  go_wp2_with fail
  refine (N1 _).mono ?_
  rintro e w2 ⟨rfl, hc2⟩
  have b2 := hkeep (hc2) b1
  have z2 := hkeep (hc2) z1
  have c2 := hkeep (hc2) c1
  have C2 := C1.trans (hc2)
  clear b1 z1 c1 C1 hc2 
  clear N1
  have nb := nsz b2
  have nz : ¬ (B + 1) = w2.heap.size := by have := zad z2; omega
  have nc := nsz c2
  go_upto_region 6 with (fail)
  clear nb nz nc
  have hcp2 := zcp p.who kd at_ nw w2
  have b3 := hkeep (hcp2) b2
  have z3 := hkeep (hcp2) z2
  have c3 := hkeep (hcp2) c2
  have C3 := C2.trans (hcp2)
  have a3 := accv_put22 p.who kd at_ nw w2
  have lbAA := zad b2
  have lzAA := zad z2
  have lcAA := zad c2
  have hlAA := C2.size
  clear b2 z2 c2 C2 hcp2
  obtain ⟨w3, hw3⟩ : ∃ W, World.onObj (w2.alloc (.cells (accC 0 0 0 0) 87)) w2.heap.size (laidAt 0 (accC p.who kd at_ nw)) = W := ⟨_, rfl⟩
  rw [hw3] at b3 z3 c3 a3 C3  ⊢
  clear hw3
  obtain ⟨AA, hbAA⟩ : ∃ b, w2.heap.size = b := ⟨_, rfl⟩
  rw [hbAA] at a3 hlAA lbAA lzAA lcAA ⊢
  clear hbAA
  go_wp2_with fail
  have hSn := C3.size
  refine (D1 _ c3).mono ?_
  rintro e w4 ⟨R, rfl, hRw0, r4, hc4⟩
  have b4 := hkeep (hc4) b3
  have z4 := hkeep (hc4) z3
  have c4 := hkeep (hc4) c3
  have a4 := hkeep (hc4) a3
  have C4 := C3.trans (hc4)
  clear b3 z3 c3 a3 C3 hc4 
  have hRw := Nat.le_trans hSn hRw0
  clear D1
  skip
  have nb := nsz b4
  have nz : ¬ (B + 1) = w4.heap.size := by have := zad z4; omega
  have nc := nsz c4
  have na := nsz a4
  have nr := nsz r4
  go_upto_region 9 with (fail)
  clear nb nz nc na nr
  have hcp4 := zbm (N x) true w4
  have b5 := hkeep (hcp4) b4
  have z5 := hkeep (hcp4) z4
  have c5 := hkeep (hcp4) c4
  have a5 := hkeep (hcp4) a4
  have r5 := hkeep (hcp4) r4
  have C5 := C4.trans (hcp4)
  have y5 := seen_put22 (N x) true w4
  have lbYY := zad b4
  have lzYY := zad z4
  have lcYY := zad c4
  have laYY := zad a4
  have lrYY := zad r4
  have hlYY := C4.size
  clear b4 z4 c4 a4 r4 C4 hcp4
  obtain ⟨w5, hw5⟩ : ∃ W, World.onObj (w4.alloc (.cells (seenC 0 false) 93)) w4.heap.size (laidAt 0 (seenC (N x) true)) = W := ⟨_, rfl⟩
  rw [hw5] at b5 z5 c5 a5 r5 y5 C5  ⊢
  clear hw5
  obtain ⟨YY, hbYY⟩ : ∃ b, w4.heap.size = b := ⟨_, rfl⟩
  rw [hbYY] at y5 hlYY lbYY lzYY lcYY laYY lrYY ⊢
  clear hbYY
  go_wp2_with fail
  refine (T1 _).mono ?_
  rintro e w6 ⟨rfl, hc6⟩
  have b6 := hkeep (hc6) b5
  have z6 := hkeep (hc6) z5
  have c6 := hkeep (hc6) c5
  have a6 := hkeep (hc6) a5
  have r6 := hkeep (hc6) r5
  have y6 := hkeep (hc6) y5
  have C6 := C5.trans (hc6)
  clear b5 z5 c5 a5 r5 y5 C5 hc6 
  clear T1
  have nb := nsz b6
  have nz : ¬ (B + 1) = w6.heap.size := by have := zad z6; omega
  have nc := nsz c6
  have na := nsz a6
  have nr := nsz r6
  have ny := nsz y6
  go_upto_region 12 with (fail)
  clear nb nz nc na nr ny
  have hcp6 := zaf p2 w6
  have b7 := hkeep (hcp6) b6
  have z7 := hkeep (hcp6) z6
  have c7 := hkeep (hcp6) c6
  have a7 := hkeep (hcp6) a6
  have r7 := hkeep (hcp6) r6
  have y7 := hkeep (hcp6) y6
  have C7 := C6.trans (hcp6)
  have t7 := zdi p2 w6
  have lbTT := zad b6
  have lzTT := zad z6
  have lcTT := zad c6
  have laTT := zad a6
  have lrTT := zad r6
  have lyTT := zad y6
  have hlTT := C6.size
  clear b6 z6 c6 a6 r6 y6 C6 hcp6
  obtain ⟨w7, hw7⟩ : ∃ W, World.onObj (w6.alloc (.cells (partC zeroPart) 51)) w6.heap.size (laidAt 0 (partC p2)) = W := ⟨_, rfl⟩
  rw [hw7] at b7 z7 c7 a7 r7 y7 t7 C7  ⊢
  clear hw7
  obtain ⟨TT, hbTT⟩ : ∃ b, w6.heap.size = b := ⟨_, rfl⟩
  rw [hbTT] at t7 hlTT lbTT lzTT lcTT laTT lrTT lyTT ⊢
  clear hbTT
  have s1 : (fun W' : World => W'.heap[TT]? = some (.cells (partC p2) 51 (0, 0))) w7.drew := t7
  have z1 : w7.drew.heap[B + 1]? = some (.cells (partC zeroPart) 51 (0, 0)) := z7
  have r1 : w7.drew.heap[R]? = _ := r7
  have C1 : Ch [] w w7.drew := C7.drew
  refine wp_region_held_drew (S := fun W' => W'.heap[TT]? = some (.cells (partC p2) 51 (0, 0))) (by kernel_rfl) s1 ?_
  intro _
  simp only [List.size_toArray, List.length_cons, List.length_nil, Nat.reduceAdd]
  clear b7 z7 c7 a7 r7 y7 t7 C7
  generalize w7.drew = w1 at *
  have hRz : ¬ R = B + 1 := zdd r1 z1 (by decide)
  have hTz : ¬ TT = B + 1 := by omega
  refine tk 0 49 ?_ rfl s1 ?_ ?_; rotate_left
  · intro _ _; go_simp; try with_reducible rfl
  try go_frame
  refine tk 1 50 ?_ rfl s1 ?_ ?_; rotate_left
  · intro _ _; go_simp; try with_reducible rfl
  try go_frame
  refine tk 2 51 ?_ rfl s1 ?_ ?_; rotate_left
  · intro _ _; go_simp; try with_reducible rfl
  try go_frame
  refine tk 3 4 ?_ rfl s1 ?_ ?_; rotate_left
  · intro _ _; go_simp; try with_reducible rfl
  try go_frame
  refine rd 4 rfl (fun K hK => ?_); go_simp
  have s3 : (World.onObj w1 (B + 1) (laidAt 0 (partC p2))).heap[TT]? = some (.cells (partC p2) 51 (0, 0)) := by rw [zab, if_neg hTz]; exact s1
  have z3 : (World.onObj w1 (B + 1) (laidAt 0 (partC p2))).heap[B + 1]? = some (.cells (partC p2) 51 (0, 0)) := by rw [zab, if_pos rfl, z1, Option.map_some, zag]
  have r3 := (zan (w := w1) (F := B + 1) (laidAt 0 (partC p2)) hRz).trans r1
  have C3 : Ch [] w (World.onObj w1 (B + 1) (laidAt 0 (partC p2))) := C1.onObj (.inr (by omega)) _
  refine hK.out _ _ s3 (fun _ => ?_)
  clear hK K s1 z1 r1 C1
  generalize (World.onObj w1 (B + 1) (laidAt 0 (partC p2))) = w3 at *
  refine tk 5 6 ?_ rfl s3 ?_ ?_; rotate_left
  · intro _ _; go_simp; try with_reducible rfl
  try go_frame
  refine wpAnyH_done (by kernel_rfl) ?_ _
  go_wp2
  exact bodyPost_ret (s22step_results Tryz.results52 _ (B + 1) _ p2 _ _ rfl rfl rfl z3) rfl ⟨R, rfl, hRw, r3, C3⟩
end
section
attribute [local go_sem] acc_g0 acc_g1 acc_g2 acc_g4 acc_s0 acc_s1 acc_s2 acc_s4 zdg accC_one accC_all loadAcc storeAcc bacc0 bacc2 bacc3 bacc3u bacc4
attribute [local go_sem ↓] lrowAcc srowAcc browAcc zcu
attribute [local go_sem high] zah
attribute [local go_sem] zcx seenC_one seenC_all seenC_g0 loadSeen storeSeen buildSeen buildSeen0
attribute [local go_sem ↓] lrowSeen srowSeen browSeen zcy
attribute [local go_sem high] zal
attribute [local irreducible] seenC
attribute [local go_sem] zap zbt
attribute [local go_sem] Oper.semAt_some zao
attribute [local go_sem] zcj pacell0 pacell1 pacell2 pacell3 pacell4 pacell5 pacell6 pacell7 pacell42
attribute [local go_sem] zcr zcw zct zdc zdb part_g5 zcv zdl zcf zcq part_s6 zde zch zbu zci zck boxPart loadPart storePart zce zcs buildPart0 buildPart4
attribute [local go_sem ↓] lrowPart srowPart browPart zcl zbz
attribute [local go_sem high] zag
attribute [local irreducible] partC
attribute [local irreducible] accC
attribute [local go_sem] boxSeen
def StepSPost (w : World) (l : List (BitVec 64)) (p : PartT) (e : Ending) (w' : World) : Prop :=
  match stepS l p with
  | none => e = .returned (.tuple #[.slice none 0 0, .agg (partC zeroPart), I 2]) ∧ Ch [] w w'
  | some y => ∃ R, e = .returned (.tuple #[.slice (some ⟨R, 0, none⟩) y.1.length y.1.length, .agg (partC y.2), I 0]) ∧ RowAt_ w w' R y.1 ∧ y.1.length = l.length ∧ Ch [] w w'
theorem doP_lenS {l : List (BitVec 64)} {a : AccT} {y : List (BitVec 64) × BitVec 64} (hd : doP l a = some y) : y.1.length = l.length := by
  unfold doP at hd
  split at hd
  · cases hd
  · have hd := Option.some.inj hd
    subst hd
    dsimp only
    split
    · rfl
    · split <;> simp
theorem accS_kind (p : PartT) : (accS p).kind = 1 ∨ (accS p).kind = 2 := by
  by_cases h : p.ph = 5 ∨ p.ph = 6
  · right; exact if_pos h
  · left; exact if_neg h
theorem s22Step_any (l : List (BitVec 64)) (g c : Nat) (cur : Array Value) (p : PartT) (w : World) (h1 : 1 ≤ l.length) (hl : l.length ≤ 8192) (hb : w.heap[g]? = some (.cells cur 22 (0, 0))) (hw : WordsAt cur l) (hr : rightS p = true) :
    Calls Tryz.prog 52 #[.slice (some ⟨g, 0, none⟩) l.length c, .agg (partC p)] w (StepSPost w l p) := by
  cases hn : needS p with
  | none =>
    refine (s22Step_over l g c cur p hr hn w h1 hl hb hw).mono ?_
    rintro e w' ⟨R, rfl, hR, hrow, hC⟩
    unfold StepSPost stepS
    rw [hn]
    exact ⟨R, rfl, ⟨hR, hrow⟩, rfl, hC⟩
  | some a =>
    have hp := needS_some hn
    have R := (rightS_iff p).1 hr
    have ha : a = accS p := by
      rw [needS_is hr hp.2] at hn
      exact (Option.some.inj hn).symm
    have N1 : ∀ w, Calls Tryz.prog 47 #[.agg (partC p)] w fun e w' => e = .returned (.tuple #[.agg (accC p.who a.kind a.at_ (N a.new)), .bool true]) ∧ Ch [] w w' := fun w => by
      have := s22Need_any p w
      rw [hn, needSV] at this
      exact this
    have hk : a.kind = 1 ∨ a.kind = 2 ∨ a.kind = 4 := by rw [ha]; rcases accS_kind p with h | h <;> omega
    have ha0 : 0 ≤ a.at_ := by rw [ha]; exact (whereS_in R hp.2).1
    have D1 : ∀ w, w.heap[g]? = some (.cells cur 22 (0, 0)) → Calls Tryz.prog 118 #[.slice (some ⟨g, 0, none⟩) l.length c, .agg (accC p.who a.kind a.at_ (N a.new))] w (DoPost w l a) := fun w h => Do_who R.who0 R.who7 l a g c cur w hk ha0 h1 hl h hw
    cases hd : doP l a with
    | none =>
      have D2 : ∀ w, w.heap[g]? = some (.cells cur 22 (0, 0)) → Calls Tryz.prog 118 #[.slice (some ⟨g, 0, none⟩) l.length c, .agg (accC p.who a.kind a.at_ (N a.new))] w fun e w' => e = .returned (.tuple #[.slice none 0 0, .agg (seenC 0 false), I 2]) ∧ Ch [] w w' := fun w h => (D1 w h).mono fun e w' hh => by unfold DoPost at hh; rw [hd] at hh; exact hh
      refine (s22Step_out l.length g c cur p a.kind a.at_ (N a.new) hr N1 D2 w h1 hl hb).mono ?_
      rintro e w' ⟨rfl, hC⟩
      unfold StepSPost stepS
      rw [hn]
      dsimp only
      rw [hd]
      exact ⟨rfl, hC⟩
    | some y =>
      have hyl := doP_lenS hd
      have D2 : ∀ w, w.heap[g]? = some (.cells cur 22 (0, 0)) → Calls Tryz.prog 118 #[.slice (some ⟨g, 0, none⟩) l.length c, .agg (accC p.who a.kind a.at_ (N a.new))] w fun e w' => ∃ Rr, e = .returned (.tuple #[.slice (some ⟨Rr, 0, none⟩) l.length l.length, .agg (seenC (N y.2) true), I 0]) ∧ w.heap.size ≤ Rr ∧ w'.heap[Rr]? = some (.cells (wcells y.1) 22 (0, 0)) ∧ Ch [] w w' := fun w h => (D1 w h).mono fun e w' hh => by
        unfold DoPost at hh
        rw [hd] at hh
        obtain ⟨Rr, he, hrow, _, hC⟩ := hh
        exact ⟨Rr, he, hrow.1, hrow.2, hC⟩
      refine (s22Step_go l.length g c cur p (wcells y.1) (takeS p y.2) a.kind a.at_ (N a.new) y.2 hr N1 D2 (fun w => s22Take_yes p hr hp.2 y.2 true w) w h1 hl hb).mono ?_
      rintro e w' ⟨R, rfl, hR, hrow, hC⟩
      unfold StepSPost stepS
      rw [hn]
      dsimp only
      rw [hd]
      exact ⟨R, by rw [hyl], ⟨hR, hrow⟩, hyl, hC⟩
theorem wp_scope_jumps22 {P : Program} {a : Act} {w : World} {Q : Exit → Act → World → Prop} {c rest : Code} (l : Nat) (J : Act → World → Prop) (μ : Act → World → Nat) (hf : findLabel c l = some (Code.skip.seq rest))
    (pass : ∀ a w, J a w → rest.wp P (Exit.jump l (fun a' w' => J a' w' ∧ μ a' w' < μ a w) Q) a w)
    (first : (∀ a w, J a w → rest.wp P (Exit.jump l J Q) a w) → c.wp P (Exit.jump l J Q) a w) : (Code.scope c).wp P Q a w :=
  wp_scope_jumps l J μ hf (first fun a w h => wp_mono (pass a w h) (fun e a w h => by cases e <;> first | exact h | exact ⟨h.1, h.2.1⟩)) (fun a w h => wp_seq (wp_skip (pass a w h)))
theorem jump_ret22 (l : Nat) (J : Act → World → Prop) (Q : Exit → Act → World → Prop) (a : Act) (w : World) : Exit.jump l J Q .ret a w = Q .ret a w := rfl
theorem index3_0 (a b c : Value) (w : World) : (Instr.index 158 (.agg #[a, b, c]) (.int .i64 0)).run Tryz.prog w = .ok a w := by kernel_rfl
theorem index3_1 (a b c : Value) (w : World) : (Instr.index 158 (.agg #[a, b, c]) (.int .i64 1)).run Tryz.prog w = .ok b w := by kernel_rfl
theorem index3_2 (a b c : Value) (w : World) : (Instr.index 158 (.agg #[a, b, c]) (.int .i64 2)).run Tryz.prog w = .ok c w := by kernel_rfl
attribute [local go_sem] index3_0 index3_1 index3_2
theorem run22_results {fn : Func} {p q u v : Tmp} (h : fn.results = #[.tmp p, .cell q 51, .tmp u, .tmp v]) (tmps : Array Value) (b : Nat) (w : World) (d : PartT) (x y z : Value) (hp : tmps.getD p undef = x) (hq : tmps.getD q undef = .pointer (some ⟨b, 0, none⟩)) (hu : tmps.getD u undef = y) (hv : tmps.getD v undef = z)
    (hb : w.heap[b]? = some (.cells (partC d) 51 (0, 0))) : (results fn tmps).run Tryz.prog w = .ok (.tuple #[x, .agg (partC d), y, z]) w := by
  have hl := run_loadVar_row (P := Tryz.prog) w b 51 51 (partC d) (0, 0) _ hb Tryz.underlying51 rfl (by rw [zbu]; kernel_rfl)
  have hp' : tmps[p]?.getD undef = x := by simpa using hp
  have hq' : tmps[q]?.getD undef = .pointer (some ⟨b, 0, none⟩) := by simpa using hq
  have hu' : tmps[u]?.getD undef = y := by simpa using hu
  have hv' : tmps[v]?.getD undef = z := by simpa using hv
  simp [results, h, hp', hq', hu', hv', asAddr, hl]
theorem run22_b (p : PartT) (w : World) : ((w.alloc (.cells (partC p) 51)).alloc (.cells (partC zeroPart) 51)).heap[w.heap.size]? = some (.cells (partC p) 51 (0, 0)) := by
  rw [zac, if_neg (by simp), zac, if_pos rfl]
theorem run22_z (p : PartT) (w : World) : ((w.alloc (.cells (partC p) 51)).alloc (.cells (partC zeroPart) 51)).heap[w.heap.size + 1]? = some (.cells (partC zeroPart) 51 (0, 0)) := by
  rw [zac, if_pos (by simp)]
theorem cell_there (s : Int) (s0 : 0 ≤ s) (s1 : s < 128) : ∃ z : Int, z = 55 + 40 * s ∧ ∀ w, Calls Tryz.prog 44 #[I s, I 39] w fun e w' => e = .returned (.tuple #[I z, I 0]) ∧ w = w' :=
  ⟨16 + 40 * s + 39, by omega, fun w => cell_ok s 39 s0 s1 (by omega) (by omega) w⟩
end
end Go.Proofs.Hc
