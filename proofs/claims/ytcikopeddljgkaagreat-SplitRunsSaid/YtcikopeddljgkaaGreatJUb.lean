/- The reference of layer 22: Slabs, Right, Has. -/
import Derived.Test.YtcikopeddljgkaaGreatJTd
import Derived.Test.YtcikopeddljgkaaGreatJUc
import Derived.Test.YtcikopeddljgkaaGreatJWd
import Derived.Test.YtcikopeddljgkaaGreatJ0
set_option linter.unusedSimpArgs false
set_option linter.unusedVariables false
set_option maxHeartbeats 16000000
set_option maxRecDepth 100000
namespace Go.Proofs.Hc
open Go.RowKit
attribute [local go_sem] zbu zcc zax zbf zbo zbd zbn zbp zbw signed64 signed8 zap BitVec.ofInt_add BitVec.ofInt_mul ofInt_sub' zbb zbc wide8 eqN neN zca shr1 shr7 shr56
attribute [local go_sem high] zbe zbv
attribute [local go_sem] zaw zby zaj zas zaf zaz zar zak zbm zal zay zba
attribute [local go_sem] load26 load73 load23 store26 build73
attribute [local go_sem ↓] lrow26 lrow73 lrow23 srow26 zero26 brow73 zae zbk zbg zaa zab
attribute [local go_sem] zai zav zat zbj zbl zbr zaq zau zbs zbi zbh
attribute [local go_sem] nn2 nm2 nn3 nm3 nn4 nm4 nn5 nm5 nn6 nm6 nn7 nm7 nn8 nm8
section
attribute [local go_sem] zap zbq
attribute [local go_sem] Oper.semAt_some zao
attribute [local go_sem] zcj pacell0 pacell1 pacell2 pacell3 pacell4 pacell5 pacell6 pacell7 pacell42
attribute [local go_sem] zcs zcx zcp zcw zcv zdg zcu zdf zce zcr zdj zdc zch zbt zci zck boxPart loadPart storePart zcf zct buildPart0 buildPart4
attribute [local go_sem ↓] lrowPart srowPart browPart zcl zbz
attribute [local go_sem high] zag
attribute [local irreducible] partC
attribute [local go_sem high] tmod2_64w bit64w bit64zw
theorem rslab_in (n : Int) (w : World) : Calls Tryz.prog 38 #[I n] w fun e w' => e = .returned (.bool (inSlab n)) ∧ w = w' := rSlab_any n w
theorem slabs_cases22 (a b c : Int) : (inSlab a = false ∧ slabsS a b c = false) ∨ inSlab a = true ∧ ((inSlab b = false ∧ slabsS a b c = false) ∨ inSlab b = true ∧ ((inSlab c = false ∧ slabsS a b c = false) ∨ inSlab c = true ∧
    ((a = b ∧ slabsS a b c = false) ∨ (a == b) = false ∧ ((a = c ∧ slabsS a b c = false) ∨ (a == c) = false ∧ ((b = c ∧ slabsS a b c = false) ∨ (b == c) = false ∧ slabsS a b c = true))))) := by
  unfold slabsS
  cases ha : inSlab a <;> cases hb : inSlab b <;> cases hc : inSlab c <;> simp
  by_cases h1 : a = b
  · left; exact ⟨h1, fun h => absurd h1 h⟩
  · refine .inr ⟨h1, ?_⟩
    by_cases h2 : a = c
    · left; exact ⟨h2, fun _ h => absurd h2 h⟩
    · refine .inr ⟨h2, ?_⟩
      by_cases h3 : b = c
      · left; exact ⟨h3, fun _ _ => h3⟩
      · exact .inr ⟨h3, ⟨h1, h2⟩, h3⟩
theorem r22Slabs_any (a b c : Int) (w : World) : Calls Tryz.prog 25 #[I a, .agg #[I b, I c]] w fun e w' => e = .returned (.bool (slabsS a b c)) ∧ Ch [] w w' := by
  have Ka := fun w => rslab_in a w
  have Kb := fun w => rslab_in b w
  have Kc := fun w => rslab_in c w
  have hcs := slabs_cases22 a b c
  obtain ⟨ba, hba⟩ : ∃ x, inSlab a = x := ⟨_, rfl⟩
  obtain ⟨bb, hbb⟩ : ∃ x, inSlab b = x := ⟨_, rfl⟩
  obtain ⟨bc, hbc⟩ : ∃ x, inSlab c = x := ⟨_, rfl⟩
  obtain ⟨z, hz⟩ : ∃ x, slabsS a b c = x := ⟨_, rfl⟩
  rw [hba] at Ka
  rw [hbb] at Kb
  rw [hbc] at Kc
  rw [hba, hbb, hbc, hz] at hcs
  rw [hz]
  clear hba hbb hbc hz
  rcases hcs with ⟨rfl, rfl⟩ | ⟨rfl, ⟨rfl, rfl⟩ | ⟨rfl, ⟨rfl, rfl⟩ | ⟨rfl, ⟨rfl, rfl⟩ | ⟨h1, ⟨rfl, rfl⟩ | ⟨h2, ⟨rfl, rfl⟩ | ⟨h3, rfl⟩⟩⟩⟩⟩⟩
  all_goals
    first
    | have h1' : (a != b) = true := by rw [bne, h1]; rfl
    | skip
    first
    | have h2' : (a != c) = true := by rw [bne, h2]; rfl
    | skip
    first
    | have h3' : (b != c) = true := by rw [bne, h3]; rfl
    | skip
    go_enter Tryz.func25, Tryz.ntmps25
    go_wp2_with (go_at_call 38; first | ((with_reducible refine (Ka _).mono ?_); rintro e w' ⟨rfl, rfl⟩) | ((with_reducible refine (Kb _).mono ?_); rintro e w' ⟨rfl, rfl⟩) | ((with_reducible refine (Kc _).mono ?_); rintro e w' ⟨rfl, rfl⟩))
    go_ret
    exact ⟨rfl, by first | exact (Ch.refl [] w).alloc _ | exact ((Ch.refl [] w).alloc _).alloc _ | exact Ch.refl _ _⟩
theorem r22Has_any (p : PartT) (w : World) : Calls Tryz.prog 45 #[.agg (partC p)] w fun e w' => e = .returned (.bool (decide (p.ph ≤ 6))) ∧ Ch [] w w' := by
  go_enter Tryz.func45, Tryz.ntmps45
  go_wp2
  go_ret
  exact ⟨rfl, (Ch.refl [] w).alloc _⟩
end
section
attribute [local go_sem] acc_g0 acc_g1 acc_g2 acc_g4 acc_s0 acc_s1 acc_s2 acc_s4 accC_size accC_one accC_all loadAcc storeAcc bacc0 bacc2 bacc3 bacc3u bacc4
attribute [local go_sem ↓] lrowAcc srowAcc browAcc zeroAcc_run
attribute [local go_sem high] zah
attribute [local go_sem] seenC_size seenC_one seenC_all seenC_g0 loadSeen storeSeen buildSeen buildSeen0
attribute [local go_sem ↓] lrowSeen srowSeen browSeen zeroSeen_run
attribute [local go_sem high] zam
attribute [local irreducible] seenC
attribute [local go_sem] zap zbq
attribute [local go_sem] Oper.semAt_some zao
attribute [local go_sem] zcj pacell0 pacell1 pacell2 pacell3 pacell4 pacell5 pacell6 pacell7 pacell42
attribute [local go_sem] zcs zcx zcp zcw zcv zdg zcu zdf zce zcr zdj zdc zch zbt zci zck boxPart loadPart storePart zcf zct buildPart0 buildPart4
attribute [local go_sem ↓] lrowPart srowPart browPart zcl zbz
attribute [local go_sem high] zag
attribute [local irreducible] partC
attribute [local irreducible] accC
attribute [local go_sem] boxSeen boxAcc
theorem r02Do_S {l : List (BitVec 64)} {p : PartT} {y : List (BitVec 64) × BitVec 64} (R : RightS p) (h6 : p.ph ≤ 6) (hy : doP l (accS p) = some y) (n : Nat) (hn : l.length = n) (hl : n ≤ 8192) (g c : Nat) (cur : Array Value) (hw : WordsAt cur l) (w : World) (hb : w.heap[g]? = some (.cells cur 22 (0, 0))) :
    Calls Tryz.prog 119 #[.slice (some ⟨g, 0, none⟩) n c, .agg (accC p.who (accS p).kind (accS p).at_ (N (accS p).new))] w fun e w' => ∃ R c2 cur2, e = .returned (.tuple #[.slice (some ⟨R, 0, none⟩) n c2, .agg (seenC (N y.2) true)]) ∧ WordsAt cur2 y.1 ∧ w'.heap[R]? = some (.cells cur2 22 (0, 0)) ∧ Ch [] w w' := by
  obtain ⟨j, hj, hjl, hx, ⟨hk, he⟩ | ⟨hk, he⟩⟩ := accS_row R h6 hy
  · rw [hk, hj, he]
    refine (r02Do_load n g c cur p.who j _ y.2 w (by omega) hl hb (hw j _ hx)).mono ?_
    rintro e w' ⟨rfl, hC⟩
    exact ⟨g, c, cur, rfl, hw, hkeep hC hb, hC⟩
  · rw [hk, hj, he]
    exact r02Do_store l n g c cur p.who j _ y.2 w (by omega) hn hl hb hw hx
theorem pl22_results {fn : Func} {p q : Tmp} (h : fn.results = #[.tmp p, .cell q 51]) (tmps : Array Value) (b : Nat) (w : World) (d : PartT) (v : Value) (hp : tmps.getD p undef = v) (hq : tmps.getD q undef = .pointer (some ⟨b, 0, none⟩))
    (hb : w.heap[b]? = some (.cells (partC d) 51 (0, 0))) : (results fn tmps).run Tryz.prog w = .ok (.tuple #[v, .agg (partC d)]) w := by
  have hl := run_loadVar_row (P := Tryz.prog) w b 51 51 (partC d) (0, 0) _ hb Tryz.underlying51 rfl (by rw [zbt]; kernel_rfl)
  have hp' : tmps[p]?.getD undef = v := by simpa using hp
  have hq' : tmps[q]?.getD undef = .pointer (some ⟨b, 0, none⟩) := by simpa using hq
  simp [results, h, hp', hq', asAddr, hl]
theorem plt22_results {fn : Func} {p q r : Tmp} (h : fn.results = #[.tmp p, .cell q 51, .tmp r]) (tmps : Array Value) (b : Nat) (w : World) (d : PartT) (v y : Value) (hp : tmps.getD p undef = v) (hq : tmps.getD q undef = .pointer (some ⟨b, 0, none⟩)) (hr : tmps.getD r undef = y)
    (hb : w.heap[b]? = some (.cells (partC d) 51 (0, 0))) : (results fn tmps).run Tryz.prog w = .ok (.tuple #[v, .agg (partC d), y]) w := by
  have hl := run_loadVar_row (P := Tryz.prog) w b 51 51 (partC d) (0, 0) _ hb Tryz.underlying51 rfl (by rw [zbt]; kernel_rfl)
  have hp' : tmps[p]?.getD undef = v := by simpa using hp
  have hr' : tmps[r]?.getD undef = y := by simpa using hr
  have hq' : tmps[q]?.getD undef = .pointer (some ⟨b, 0, none⟩) := by simpa using hq
  simp [results, h, hp', hq', hr', asAddr, hl]
theorem r22Step_core (n g c : Nat) (cur : Array Value) (L : List (BitVec 64)) (p q : PartT) (kd at_ nw : Int) (x : BitVec 64) (h4 : p.ph ≤ 6)
    (N1 : ∀ w, Calls Tryz.prog 48 #[.agg (partC p)] w fun e w' => e = .returned (.agg (accC p.who kd at_ nw)) ∧ Ch [] w w')
    (D1 : ∀ w, w.heap[g]? = some (.cells cur 22 (0, 0)) → Calls Tryz.prog 119 #[.slice (some ⟨g, 0, none⟩) n c, .agg (accC p.who kd at_ nw)] w fun e w' => ∃ R c2 cur2, e = .returned (.tuple #[.slice (some ⟨R, 0, none⟩) n c2, .agg (seenC (N x) true)]) ∧ WordsAt cur2 L ∧ w'.heap[R]? = some (.cells cur2 22 (0, 0)) ∧ Ch [] w w')
    (T1 : ∀ w, Calls Tryz.prog 51 #[.agg (partC p), .agg (seenC (N x) true)] w fun e w' => e = .returned (.agg (partC q)) ∧ Ch [] w w')
    (w : World) (hb : w.heap[g]? = some (.cells cur 22 (0, 0))) :
    Calls Tryz.prog 53 #[.slice (some ⟨g, 0, none⟩) n c, .agg (partC p)] w fun e w' => ∃ R c2 cur2, e = .returned (.tuple #[.slice (some ⟨R, 0, none⟩) n c2, .agg (partC q)]) ∧ WordsAt cur2 L ∧ w'.heap[R]? = some (.cells cur2 22 (0, 0)) ∧ Ch [] w w' := by
  have H1 := fun w => r22Has_any p w
  rw [decide_eq_true h4] at H1
  obtain ⟨w0, hw0, C0, b0, z0⟩ := part_zz p w
  have g0 := hkeep C0 hb
  obtain ⟨wh, hwh⟩ : ∃ x, p.who = x := ⟨_, rfl⟩
  rw [hwh] at N1 D1
  clear h4 hb hwh
  go_enter Tryz.func53, Tryz.ntmps53
  go_wp2_with fail
  try rw [hw0]
  clear hw0
  obtain ⟨B, hB⟩ : ∃ B, w.heap.size = B := ⟨_, rfl⟩
  rw [hB] at b0 z0 ⊢
  have hBw : w.heap.size ≤ B := by omega
  clear hB
  refine (H1 _).mono ?_
  rintro e w1 ⟨rfl, hc1⟩
  have b1 := hkeep hc1 b0
  have z1 := hkeep hc1 z0
  have g1 := hkeep hc1 g0
  have C1 := C0.trans hc1
  clear b0 z0 g0 C0 hc1 H1
  go_wp2_with fail
  refine (N1 _).mono ?_
  rintro e w2 ⟨rfl, hc2⟩
  have b2 := hkeep hc2 b1
  have z2 := hkeep hc2 z1
  have g2 := hkeep hc2 g1
  have C2 := C1.trans hc2
  clear b1 z1 g1 C1 hc2 N1
  go_wp2_with fail
  refine (D1 _ g2).mono ?_
  rintro e w3 ⟨R, c2, cur2, rfl, hcur2, r3, hc3⟩
  have b3 := hkeep hc3 b2
  have z3 := hkeep hc3 z2
  have C3 := C2.trans hc3
  clear b2 z2 g2 C2 hc3 D1
  have nb := nsz b3
  have nz : ¬ B + 1 = w3.heap.size := by have := zad z3; omega
  go_upto_region 4 with (fail)
  have hc4 := seen_put22_ch (N x) true w3
  have d4 := seen_put22 (N x) true w3
  have b4 := hkeep hc4 b3
  have z4 := hkeep hc4 z3
  have r4 := hkeep hc4 r3
  have C4 := C3.trans hc4
  clear b3 z3 r3 C3 hc4
  obtain ⟨w4, hw4⟩ : ∃ W, World.onObj (w3.alloc (.cells (seenC 0 false) 93)) w3.heap.size (laidAt 0 (seenC (N x) true)) = W := ⟨_, rfl⟩
  rw [hw4] at d4 b4 z4 r4 C4 ⊢
  clear hw4
  obtain ⟨D, hD⟩ : ∃ D, w3.heap.size = D := ⟨_, rfl⟩
  rw [hD] at d4 nb nz ⊢
  clear hD
  go_wp2_with fail
  refine (T1 _).mono ?_
  rintro e w5 ⟨rfl, hc5⟩
  have z5 := hkeep hc5 z4
  have r5 := hkeep hc5 r4
  have C5 := C4.trans hc5
  clear d4 b4 z4 r4 C4 hc5 T1 nb nz
  have hRz : ¬ R = B + 1 := zcq r5 z5 (by decide)
  go_wp2
  refine bodyPost_ret (pl22_results Tryz.results53 _ (B + 1) _ q _ rfl rfl ?_) rfl ⟨R, c2, cur2, rfl, hcur2, ?_, C5.onObj (p := B + 1) (.inr (by omega)) _⟩
  · rw [zab, if_pos rfl, z5, Option.map_some, zag]
  · rw [zab, if_neg hRz]; exact r5
theorem r22Step_rowIn {l : List (BitVec 64)} {p : PartT} {y : List (BitVec 64) × BitVec 64} {n : Nat} {v : Value} (hl : n ≤ 8192) (hr : rightS p = true) (h6 : p.ph ≤ 6) (hy : doP l (accS p) = some y) (w : World) (hv : RowIn w v n l) :
    Calls Tryz.prog 53 #[v, .agg (partC p)] w fun e w' => ∃ v', e = .returned (.tuple #[v', .agg (partC (takeS p y.2))]) ∧ RowIn w' v' n y.1 ∧ Ch [] w w' := by
  obtain ⟨r, c, cur, rfl, hln, hW, hA⟩ := hv
  have R := (zdk p).1 hr
  have hyl : y.1.length = n := by
    obtain ⟨j, _, _, _, ⟨_, e⟩ | ⟨_, e⟩⟩ := accS_row R h6 hy
    · rw [e, hln]
    · rw [e, List.length_set, hln]
  refine (r22Step_core n r c cur y.1 p (takeS p y.2) (accS p).kind (accS p).at_ (N (accS p).new) y.2 h6 (fun w => r22Need_any p hr h6 w) (fun w hb => r02Do_S R h6 hy n hln hl r c cur hA w hb) (fun w => r22Take_any p hr h6 y.2 true w) w hW).mono ?_
  rintro e w' ⟨R, c2, cur2, rfl, h2, h3, hC⟩
  exact ⟨_, rfl, ⟨R, c2, cur2, rfl, hyl, h3, h2⟩, hC⟩
theorem RowIn.part {w : World} {v : Value} {n B : Nat} {l : List (BitVec 64)} {p : PartT} (h : RowIn w v n l) (hb : w.heap[B]? = some (.cells (partC p) 51 (0, 0))) (f : Obj → Obj) : RowIn (World.onObj w B f) v n l := by
  obtain ⟨r, d, cur, rfl, hn, hW, hA⟩ := h
  exact ⟨r, d, cur, rfl, hn, (zan f (zcq hW hb (by decide))).trans hW, hA⟩
theorem r22Run_any (v : Value) (n : Nat) (l l' : List (BitVec 64)) (p p' : PartT) (k : Nat) (hn : n ≤ 8192) (hrun : RunsS l p k l' p') (hk : k ≤ 100000) (w : World) (hv : RowIn w v n l) :
    Calls Tryz.prog 30 #[v, .agg (partC p)] w fun e w' => ∃ v', e = .returned (.tuple #[v', .agg (partC p'), I (k : Nat)]) ∧ RowIn w' v' n l' ∧ Ch [] w w' := by
  obtain ⟨w0, hw0, C0, b0, z0⟩ := part_zz p w
  have v0 := Lib.hid (hv.keep C0)
  have HR0 := Lib.hid hrun
  clear hv hrun
  go_enter Tryz.func30, Tryz.ntmps30
  go_upto_region 1 with (fail)
  try rw [hw0]
  clear hw0
  obtain ⟨B, hB⟩ : ∃ B, w.heap.size = B := ⟨_, rfl⟩
  rw [hB] at b0 z0 ⊢
  have hBw : w.heap.size ≤ B := by omega
  clear hB
  go_wp2
  go_loopw [0, 7] (fun v i wr => ∃ (l1 : List (BitVec 64)) (p1 : PartT) (j k1 : Nat), i = .int .i64 j ∧ j + k1 = k ∧ RowIn wr v n l1 ∧ RunsS l1 p1 k1 l' p' ∧ wr.heap[B]? = some (.cells (partC p1) 51 (0, 0)) ∧ wr.heap[B + 1]? = some (.cells (partC zeroPart) 51 (0, 0)) ∧ Ch [] w wr) (fun _ i _ => k - (intOf i).toNat)
  case atStart => exact ⟨l, p, 0, k, rfl, by omega, v0.out, HR0.out, b0, z0, C0⟩
  case round =>
    obtain ⟨l1, p1, j, k1, hj, hjk, hv1, hr1, hb1, hz1, hC1⟩ := hrel
    subst hj
    clear b0 z0 v0 C0 HR0
    have H1 := fun w => r22Has_any p1 w
    rcases hr1.inv with ⟨h7, rfl, rfl, rfl⟩ | ⟨y, k2, h6, rfl, hr, hy, hr2⟩
    · have hnot : ¬ p'.ph ≤ 6 := by omega
      have hjj : j = k := by omega
      subst hjj
      rw [decide_eq_false hnot] at H1
      have HV := Lib.hid hv1
      clear hr1 hv1 h7 hjk hnot
      go_wp2_with fail
      refine (H1 _).mono ?_
      rintro e w1 ⟨rfl, hc1⟩
      have V1 := Lib.hid (HV.out.keep hc1)
      have C1 := hC1.trans hc1
      have b1 := hkeep hc1 hb1
      have z1 := hkeep hc1 hz1
      clear hb1 hz1 hC1 hc1 H1 HV
      go_upto_region 5 with (fail)
      have s2 : (fun W' : World => W'.heap[B]? = some (.cells (partC p') 51 (0, 0))) w1.drew := b1
      have z2 : w1.drew.heap[B + 1]? = some (.cells (partC zeroPart) 51 (0, 0)) := z1
      have V2 := Lib.hid (V1.out.keep ((Ch.refl [] w1).drew))
      have C2 : Ch [] w w1.drew := C1.drew
      refine wp_region_held_drew (S := fun W' => W'.heap[B]? = some (.cells (partC p') 51 (0, 0))) (by kernel_rfl) s2 ?_
      intro _
      simp only [List.size_toArray, List.length_cons, List.length_nil, Nat.reduceAdd]
      clear b1 z1 C1 V1
      obtain ⟨w2, hw2⟩ : ∃ W, w1.drew = W := ⟨_, rfl⟩
      rw [hw2] at s2 z2 C2 V2 ⊢
      clear hw2
      refine tk 0 18 ?_ rfl s2 ?_ ?_; rotate_left
      · intro _ _; go_simp; try with_reducible rfl
      try go_frame
      refine tk 1 19 ?_ rfl s2 ?_ ?_; rotate_left
      · intro _ _; go_simp; try with_reducible rfl
      try go_frame
      refine tk 2 20 ?_ rfl s2 ?_ ?_; rotate_left
      · intro _ _; go_simp; try with_reducible rfl
      try go_frame
      refine tk 3 4 ?_ rfl s2 ?_ ?_; rotate_left
      · intro _ _; go_simp; try with_reducible rfl
      try go_frame
      refine rd 4 rfl (fun K hK => ?_); go_simp
      have z3 : (World.onObj w2 (B + 1) (laidAt 0 (partC p'))).heap[B + 1]? = some (.cells (partC p') 51 (0, 0)) := by rw [zab, if_pos rfl, z2, Option.map_some, zag]
      have s3 : (World.onObj w2 (B + 1) (laidAt 0 (partC p'))).heap[B]? = some (.cells (partC p') 51 (0, 0)) := by rw [zab, if_neg (by omega)]; exact s2
      have C3 : Ch [] w (World.onObj w2 (B + 1) (laidAt 0 (partC p'))) := C2.onObj (.inr (by omega)) _
      have V3 := Lib.hid (V2.out.part z2 (laidAt 0 (partC p')))
      refine hK.out _ _ s3 (fun _ => ?_)
      clear hK K s2 z2 C2 V2
      obtain ⟨w3, hw3⟩ : ∃ W, World.onObj w2 (B + 1) (laidAt 0 (partC p')) = W := ⟨_, rfl⟩
      rw [hw3] at z3 s3 C3 V3 ⊢
      clear hw3
      refine tk 5 6 ?_ rfl s3 ?_ ?_; rotate_left
      · intro _ _; go_simp; try with_reducible rfl
      try go_frame
      refine wpAnyH_done (by kernel_rfl) ?_ _
      go_wp2
      refine bodyPost_ret (plt22_results Tryz.results30 _ (B + 1) _ p' _ _ rfl rfl rfl z3) rfl ⟨_, rfl, V3.out, C3⟩
    · rw [decide_eq_true h6] at H1
      have S1 := fun (w : World) (hv : RowIn w u0 n l1) => r22Step_rowIn hn hr h6 hy w hv
      have HV := Lib.hid hv1
      have HR := Lib.hid hr2
      have hjb : (j : Int) < 100000 := by omega
      have hj0 : (0 : Int) ≤ j := by omega
      clear hr1 hv1 h6 hr
      obtain ⟨q, hq⟩ : ∃ q, takeS p1 y.2 = q := ⟨_, rfl⟩
      rw [hq] at S1 HR
      clear hq hy
      go_wp2_with fail
      refine (H1 _).mono ?_
      rintro e w1 ⟨rfl, hc1⟩
      have V1 := Lib.hid (HV.out.keep hc1)
      have b1 := hkeep hc1 hb1
      have z1 := hkeep hc1 hz1
      have C1 := hC1.trans hc1
      clear hb1 hz1 hC1 hc1 H1 HV
      go_wp2_with fail
      refine (S1 _ V1.out).mono ?_
      rintro e w2 ⟨v2, rfl, hV2, hc2⟩
      have b2 := hkeep hc2 b1
      have z2 := hkeep hc2 z1
      have C2 := C1.trans hc2
      have V3 := Lib.hid (hV2.part b2 (laidAt 0 (partC q)))
      clear b1 z1 C1 hc2 S1 V1 hV2
      go_wp2
      go_roundw
      case rel => exact ⟨y.1, q, j + 1, k2, by go_num, by omega, V3.out, HR.out, by rw [zab, if_pos rfl, b2, Option.map_some, zag], by rw [zab, if_neg (by omega)]; exact z2, C2.onObj (.inr hBw) _⟩
      case measure => simp [intOf]; omega
def slabK (p : PartT) (k : Nat) : Int := if k = 0 then p.sl else if k = 1 then p.t0 else p.t1
def thereB (n : Nat) (p : PartT) : Bool := decide (56 + 40 * p.sl ≤ (n : Int)) && decide (56 + 40 * p.t0 ≤ (n : Int)) && decide (56 + 40 * p.t1 ≤ (n : Int))
theorem thereB_iff (n : Nat) (p : PartT) : thereB n p = true ↔ ThereS n p := by
  unfold thereB
  simp only [Bool.and_eq_true, decide_eq_true_eq]
  exact ⟨fun h => ⟨h.1.1, h.1.2, h.2⟩, fun h => ⟨⟨h.sl, h.t0⟩, h.t1⟩⟩
theorem thereB_all (n : Nat) (p : PartT) (h : ∀ k, k < 3 → 56 + 40 * slabK p k ≤ (n : Int)) : thereB n p = true :=
  (thereB_iff n p).2 ⟨h 0 (by omega), h 1 (by omega), h 2 (by omega)⟩
theorem thereB_not (n : Nat) (p : PartT) (k : Nat) (hk : k < 3) (h : ¬ 56 + 40 * slabK p k ≤ (n : Int)) : thereB n p = false := by
  cases hb : thereB n p with
  | false => rfl
  | true =>
    have T := (thereB_iff n p).1 hb
    exfalso; apply h
    unfold slabK
    rcases (show k = 0 ∨ k = 1 ∨ k = 2 by omega) with rfl | rfl | rfl
    · exact T.sl
    · exact T.t0
    · exact T.t1
theorem r22There_any (p : PartT) (hr : rightS p = true) (a : Option Addr) (n c : Nat) (hn : n ≤ 8192) (w : World) : Calls Tryz.prog 29 #[.slice a n c, .agg (partC p)] w fun e w' => e = .returned (.bool (thereB n p)) ∧ Ch [] w w' := by
  have R := (zdk p).1 hr
  have K1 : ∀ k, k < 3 → ∀ w, Calls Tryz.prog 40 #[I (slabK p k), .int .i64 39] w fun e w' => e = .returned (I (16 + 40 * slabK p k + 39)) ∧ w = w' := fun k hk w => by
    have h0 : 0 ≤ slabK p k ∧ slabK p k < 128 := by
      unfold slabK
      split
      · exact ⟨R.sl0, R.sl1⟩
      · split
        · exact ⟨R.a0, R.a1⟩
        · exact ⟨R.b0, R.b1⟩
    exact rCell_any _ 39 h0.1 h0.2 (by decide) (by decide) w
  have HT := Lib.hid (thereB_all n p)
  have HN := Lib.hid (fun k hk h => thereB_not n p k hk h)
  have HG : ∀ k, k < 3 → (#[I p.sl, I p.t0, I p.t1] : Array Value)[k]? = some (I (slabK p k)) := fun k hk => by
    rcases (show k = 0 ∨ k = 1 ∨ k = 2 by omega) with rfl | rfl | rfl <;> rfl
  obtain ⟨tb, htb⟩ : ∃ b, thereB n p = b := ⟨_, rfl⟩
  rw [htb] at HT HN ⊢
  obtain ⟨sk, hsk⟩ : ∃ f, slabK p = f := ⟨_, rfl⟩
  rw [hsk] at K1 HT HN HG
  clear htb hsk R hr
  obtain ⟨w0, hw0, C0, b0⟩ : ∃ W, w.alloc (.cells (partC p) 51) = W ∧ Ch [] w W ∧ W.heap[w.heap.size]? = some (.cells (partC p) 51 (0, 0)) := ⟨_, rfl, (Ch.refl [] w).alloc _, by rw [zae, if_pos rfl]⟩
  go_enter Tryz.func29, Tryz.ntmps29
  go_upto_region 1 with (fail)
  try rw [hw0]
  clear hw0
  obtain ⟨B, hB⟩ : ∃ B, w.heap.size = B := ⟨_, rfl⟩
  rw [hB] at b0 ⊢
  clear hB
  go_upto_region 2 with (fail)
  have C1 : Ch [] w (w0.alloc (.cells #[I p.sl, I p.t0, I p.t1] 3)) := C0.alloc _
  have r1 : (w0.alloc (.cells #[I p.sl, I p.t0, I p.t1] 3)).heap[w0.heap.size]? = some (.cells #[I p.sl, I p.t0, I p.t1] 3 (0, 0)) := by rw [zae, if_pos rfl]
  obtain ⟨w1, hw1⟩ : ∃ W, w0.alloc (.cells #[I p.sl, I p.t0, I p.t1] 3) = W := ⟨_, rfl⟩
  rw [hw1] at C1 r1 ⊢
  clear hw1 C0 b0
  obtain ⟨Q, hQ⟩ : ∃ Q, w0.heap.size = Q := ⟨_, rfl⟩
  rw [hQ] at r1 ⊢
  clear hQ
  obtain ⟨cur, hcur⟩ : ∃ c, (#[I p.sl, I p.t0, I p.t1] : Array Value) = c := ⟨_, rfl⟩
  rw [hcur] at r1 HG
  clear hcur
  go_wp2
  go_loopw [17] (fun i wr => ∃ k : Nat, i = .int .i64 k ∧ k ≤ 3 ∧ (∀ m, m < k → 56 + 40 * sk m ≤ (n : Int)) ∧ wr.heap[Q]? = some (.cells cur 3 (0, 0)) ∧ Ch [] w wr) (fun i _ => 3 - (intOf i).toNat)
  case atStart => exact ⟨0, rfl, by omega, fun m hm => by omega, r1, C1⟩
  case round =>
    obtain ⟨k, hk, hk3, hall, r2, C2⟩ := hrel
    subst hk
    have HAL := Lib.hid hall
    clear r1 C1 hall
    rcases (show k = 3 ∨ k < 3 by omega) with rfl | hlt
    · have hb := Lib.hid (HT.out HAL.out)
      clear HT HN HG K1
      go_wp2
      go_ret
      exact ⟨by rw [hb.out]; rfl, C2⟩
    · have hkI : (k : Int) < 3 := by omega
      have hk0 : (0 : Int) ≤ k := by omega
      have eg := HG k hlt
      have K2 := K1 k hlt
      have HX := Lib.hid (HN.out k hlt)
      have HY : Hid (56 + 40 * sk k ≤ (n : Int) → ∀ m, m < k + 1 → 56 + 40 * sk m ≤ (n : Int)) := Lib.hid fun h m hm => by
        by_cases e : m = k
        · subst e; exact h
        · exact HAL.out m (by omega)
      clear HG K1 HN HT HAL
      by_cases h : 56 + 40 * sk k ≤ (n : Int)
      · have HM := Lib.hid (HY.out h)
        have hge : ¬ (n : Int) ≤ 16 + 40 * sk k + 39 := by omega
        clear HX HY h
        obtain ⟨s, hs⟩ : ∃ s, sk k = s := ⟨_, rfl⟩
        rw [hs] at eg K2 hge
        clear hs
        go_wp2_with fail
        refine (K2 _).mono ?_
        rintro e w3 ⟨rfl, rfl⟩
        clear K2
        go_wp2
        go_roundw
        case rel => exact ⟨k + 1, by go_num, by omega, HM.out, r2, C2⟩
        case measure => simp [intOf]; omega
      · have HM := Lib.hid (HX.out (by omega))
        have hge : (n : Int) ≤ 16 + 40 * sk k + 39 := by omega
        clear HX HY h
        obtain ⟨s, hs⟩ : ∃ s, sk k = s := ⟨_, rfl⟩
        rw [hs] at eg K2 hge
        clear hs
        go_wp2_with fail
        refine (K2 _).mono ?_
        rintro e w3 ⟨rfl, rfl⟩
        clear K2
        go_wp2
        go_ret
        exact ⟨by rw [HM.out]; rfl, C2⟩
end
section
attribute [local go_sem] zap zbq
attribute [local go_sem] Oper.semAt_some zao
attribute [local go_sem] zcj pacell0 pacell1 pacell2 pacell3 pacell4 pacell5 pacell6 pacell7 pacell42
attribute [local go_sem] zcs zcx zcp zcw zcv zdg zcu zdf zce zcr zdj zdc zch zbt zci zck boxPart loadPart storePart zcf zct buildPart0 buildPart4
attribute [local go_sem ↓] lrowPart srowPart browPart zcl zbz
attribute [local go_sem high] zag
attribute [local irreducible] partC
attribute [local go_sem high] tmod2_64w bit64w bit64zw
attribute [local go_sem] load2i
attribute [local go_sem ↓] lrow2i
theorem part_x3 (p : PartT) : (partC p).extract 3 5 = #[I p.t0, I p.t1] := by
  apply Array.ext_getElem?; intro i
  rw [Array.getElem?_extract, zbt]
  match i with
  | 0 => exact zcw p
  | 1 => exact zcv p
  | i + 2 => rw [if_neg (by omega)]; rfl
attribute [local go_sem] part_x3
theorem ratS_cases (p : PartT) : ((p.ph == 2) = false ∧ (p.ph == 3) = false ∧ (p.ph == 4) = false ∧ (p.ph == 6) = false ∧ atS p = true ∧ (p.at_ < 0 ∨ 0 ≤ p.at_ ∧ (p.at_ ≤ 4611686018427387904 ∨ ¬ p.at_ ≤ 4611686018427387904))) ∨
    ((p.ph = 2 ∧ (p.at_ < 0 ∧ atS p = false ∨ 0 ≤ p.at_ ∧ (¬ p.at_ ≤ 1 ∧ atS p = false ∨ p.at_ ≤ 1 ∧ atS p = true))) ∨ (p.ph = 3 ∧ (p.at_ < 0 ∧ atS p = false ∨ 0 ≤ p.at_ ∧ (¬ p.at_ ≤ 15 ∧ atS p = false ∨ p.at_ ≤ 15 ∧ atS p = true))) ∨
    (p.ph = 4 ∧ (p.at_ < 0 ∧ atS p = false ∨ 0 ≤ p.at_ ∧ (¬ p.at_ ≤ 15 ∧ atS p = false ∨ p.at_ ≤ 15 ∧ atS p = true))) ∨ (p.ph = 6 ∧ (p.at_ < 0 ∧ atS p = false ∨ 0 ≤ p.at_ ∧ (¬ p.at_ ≤ 79 ∧ atS p = false ∨ p.at_ ≤ 79 ∧ atS p = true)))) := by
  rcases atS_cases p with ⟨a1, a2, a3, a4, a5⟩ | h
  · left; exact ⟨a1, a2, a3, a4, a5, by omega⟩
  · right
    rcases h with ⟨h, h2⟩ | ⟨h, h2⟩ | ⟨h, h2⟩ | ⟨h, h2⟩
    · left; refine ⟨h, ?_⟩
      rcases h2 with ⟨x, y⟩ | ⟨x, ⟨y, z⟩ | ⟨y, z⟩⟩
      · exact .inl ⟨x, y⟩
      · exact .inr ⟨x, .inl ⟨by omega, z⟩⟩
      · exact .inr ⟨x, .inr ⟨by omega, z⟩⟩
    · right; left; refine ⟨h, ?_⟩
      rcases h2 with ⟨x, y⟩ | ⟨x, ⟨y, z⟩ | ⟨y, z⟩⟩
      · exact .inl ⟨x, y⟩
      · exact .inr ⟨x, .inl ⟨by omega, z⟩⟩
      · exact .inr ⟨x, .inr ⟨by omega, z⟩⟩
    · right; right; left; refine ⟨h, ?_⟩
      rcases h2 with ⟨x, y⟩ | ⟨x, ⟨y, z⟩ | ⟨y, z⟩⟩
      · exact .inl ⟨x, y⟩
      · exact .inr ⟨x, .inl ⟨by omega, z⟩⟩
      · exact .inr ⟨x, .inr ⟨by omega, z⟩⟩
    · right; right; right; refine ⟨h, ?_⟩
      rcases h2 with ⟨x, y⟩ | ⟨x, ⟨y, z⟩ | ⟨y, z⟩⟩
      · exact .inl ⟨x, y⟩
      · exact .inr ⟨x, .inl ⟨by omega, z⟩⟩
      · exact .inr ⟨x, .inr ⟨by omega, z⟩⟩
theorem r22Right_any (p : PartT) (w : World) : Calls Tryz.prog 28 #[.agg (partC p)] w fun e w' => e = .returned (.bool (rightS p)) ∧ Ch [] w w' := by
  have S1 := fun w => r22Slabs_any p.sl p.t0 p.t1 w
  have hA := ratS_cases p
  have hR := rightS_cases p
  obtain ⟨bA, hbA⟩ : ∃ b, atS p = b := ⟨_, rfl⟩
  obtain ⟨z, hz⟩ : ∃ b, rightS p = b := ⟨_, rfl⟩
  obtain ⟨bs, hbs⟩ : ∃ b, slabsS p.sl p.t0 p.t1 = b := ⟨_, rfl⟩
  rw [hbs] at S1
  rw [hbA, hz, hbs] at hR
  rw [hbA] at hA
  rw [hz]
  clear hbA hz hbs
  have C0 : Ch [] w (w.alloc (.cells (partC p) 51)) := (Ch.refl [] w).alloc _
  have b0 : (w.alloc (.cells (partC p) 51)).heap[w.heap.size]? = some (.cells (partC p) 51 (0, 0)) := by rw [zae, if_pos rfl]
  go_enter Tryz.func28, Tryz.ntmps28
  go_upto_region 1 with (fail)
  obtain ⟨w0, hw0⟩ : ∃ W, w.alloc (.cells (partC p) 51) = W := ⟨_, rfl⟩
  rw [hw0] at C0 b0 ⊢
  clear hw0
  obtain ⟨B, hB⟩ : ∃ b, w.heap.size = b := ⟨_, rfl⟩
  rw [hB] at b0 ⊢
  clear hB
  rcases hA with ⟨a1, a2, a3, a4, rfl, a5 | ⟨a5, a6 | a6⟩⟩ | (⟨a1, ⟨a2, rfl⟩ | ⟨a2, ⟨a3, rfl⟩ | ⟨a3, rfl⟩⟩⟩ | ⟨a1, ⟨a2, rfl⟩ | ⟨a2, ⟨a3, rfl⟩ | ⟨a3, rfl⟩⟩⟩ | ⟨a1, ⟨a2, rfl⟩ | ⟨a2, ⟨a3, rfl⟩ | ⟨a3, rfl⟩⟩⟩ | ⟨a1, ⟨a2, rfl⟩ | ⟨a2, ⟨a3, rfl⟩ | ⟨a3, rfl⟩⟩⟩)
  all_goals
    go_upto_region 11 with (fail)
    rcases hR with ⟨r1, rfl⟩ | ⟨r1, ⟨r2, rfl⟩ | ⟨r2, ⟨r3, rfl⟩ | ⟨r3, ⟨r4, rfl⟩ | ⟨r4, ⟨rfl, rfl⟩ | ⟨rfl, ⟨r5, rfl⟩ | ⟨r5, rfl⟩⟩⟩⟩⟩⟩
    all_goals
      first
      | (exfalso; omega)
      | (go_wp2_with (go_at_call 25; refine (S1 _).mono ?_; rintro e w1 ⟨rfl, hc1⟩; have b1 := hkeep hc1 b0)
         go_ret
         exact ⟨rfl, by first | exact C0 | exact C0.trans hc1⟩)
end
end Go.Proofs.Hc
