/- Package split: Run goes (printed by gen_run22.py). -/
import Derived.Test.YtcikopeddljgkaaGreatJPx
import Derived.Test.YtcikopeddljgkaaGreatJ0
set_option linter.unusedSimpArgs false
set_option linter.unusedVariables false
set_option maxHeartbeats 8000000
set_option maxRecDepth 100000
namespace Go.Proofs.Hc
open Go.RowKit
attribute [local go_sem] zbu zcc zax zbf zbo zbd zbn zbp zbw signed64 signed8 zap BitVec.ofInt_add BitVec.ofInt_mul ofInt_sub' zbb zbc wide8 eqN neN zca shr1 shr7 shr56
attribute [local go_sem high] zbe zbv
attribute [local go_sem] zaw zby zaj zas zaf zaz zar zak zbm zal zay zba
attribute [local go_sem] load26 load73 load23 store26 build73
attribute [local go_sem ↓] lrow26 lrow73 lrow23 srow26 zero26 brow73 zae zbk zbg zaa zab
attribute [local go_sem] zai zav zat zbj zbl zbr zaq zau zbs zbi zbh
attribute [local go_sem] nn2 nm2 nn3 nm3 nn4 nm4 nn5 nm5 nn6 nm6 nn7 nm7 nn8 nm8
section
attribute [local go_sem] acc_g0 acc_g1 acc_g2 acc_g4 acc_s0 acc_s1 acc_s2 acc_s4 accC_size accC_one accC_all loadAcc storeAcc bacc0 bacc2 bacc3 bacc3u bacc4
attribute [local go_sem ↓] lrowAcc srowAcc browAcc zeroAcc_run
attribute [local go_sem high] zah
attribute [local go_sem] seenC_size seenC_one seenC_all seenC_g0 loadSeen storeSeen buildSeen buildSeen0
attribute [local go_sem ↓] lrowSeen srowSeen browSeen zeroSeen_run
attribute [local go_sem high] zam
attribute [local irreducible] seenC
attribute [local go_sem] zap zbq
attribute [local go_sem] Oper.semAt_some zao
attribute [local go_sem] zcj pacell0 pacell1 pacell2 pacell3 pacell4 pacell5 pacell6 pacell7 pacell42
attribute [local go_sem] zcs zcx zcp zcw zcv zdg zcu zdf zce zcr zdj zdc zch zbt zci zck boxPart loadPart storePart zcf zct buildPart0 buildPart4
attribute [local go_sem ↓] lrowPart srowPart browPart zcl zbz
attribute [local go_sem high] zag
attribute [local irreducible] partC
attribute [local irreducible] accC
attribute [local go_sem] boxSeen
attribute [local go_sem] index3_0 index3_1 index3_2
def Run22J (w : World) (n : Nat) (l' : List (BitVec 64)) (p' : PartT) (m : Nat) (a : Act) (wr : World) : Prop :=
  ∃ (q0 q1 q2 q4 q6 q7 q8 q9 q10 q11 q14 q15 q16 q17 q18 q19 q20 q21 q22 q23 q24 q25 q26 q27 q28 q29 q30 q31 q32 q33 q34 q35 q36 q37 q38 q39 q40 q41 q42 q43 q44 q45 q46 q47 q48 q49 q50 q51 q52 q53 q54 q55 q56 q57 q58 q59 q60 q61 q62 q63 q64 q65 q66 q67 q68 q69 q70 q71 q72 q73 q74 q75 q76 q77 q78 q79 q80 q81 q82 q83 q84 q85 q86 q87 : Value) (j r k1 : Nat) (l1 : List (BitVec 64)) (p1 : PartT), a = ⟨#[q0, q1, q2, .pointer (some ⟨w.heap.size, 0, none⟩), q4, .pointer (some ⟨w.heap.size + 1, 0, none⟩), q6, q7, q8, q9, q10, q11, .slice (some ⟨r, 0, none⟩) n n, .int .i64 j, q14, q15, q16, q17, q18, q19, q20, q21, q22, q23, q24, q25, q26, q27, q28, q29, q30, q31, q32, q33, q34, q35, q36, q37, q38, q39, q40, q41, q42, q43, q44, q45, q46, q47, q48, q49, q50, q51, q52, q53, q54, q55, q56, q57, q58, q59, q60, q61, q62, q63, q64, q65, q66, q67, q68, q69, q70, q71, q72, q73, q74, q75, q76, q77, q78, q79, q80, q81, q82, q83, q84, q85, q86, q87], []⟩ ∧ j + k1 = m ∧ l1.length = n ∧ w.heap.size ≤ r ∧ wr.heap[r]? = some (.cells (wcells l1) 22 (0, 0)) ∧ RunsS l1 p1 k1 l' p' ∧
    wr.heap[w.heap.size]? = some (.cells (partC p1) 51 (0, 0)) ∧ wr.heap[w.heap.size + 1]? = some (.cells (partC zeroPart) 51 (0, 0)) ∧ Ch [] w wr
theorem s22Run_go (l l' : List (BitVec 64)) (g c : Nat) (cur : Array Value) (p p' : PartT) (m : Nat) (w : World) (h1 : 1 ≤ l.length) (hl : l.length ≤ 8192) (hb : w.heap[g]? = some (.cells cur 22 (0, 0))) (hw : WordsAt cur l) (hr : rightS p = true) (hT : ThereS l.length p) (hrun : RunsS l p m l' p') (hm : m ≤ 100000) :
    Calls Tryz.prog 26 #[.slice (some ⟨g, 0, none⟩) l.length c, .agg (partC p)] w fun e w' => ∃ R, e = .returned (.tuple #[.slice (some ⟨R, 0, none⟩) l.length l.length, .agg (partC p'), I (m : Nat), I 0]) ∧ w.heap.size ≤ R ∧ w'.heap[R]? = some (.cells (wcells l') 22 (0, 0)) ∧ Ch [] w w' := by
  have C0 : Ch [] w ((w.alloc (.cells (partC p) 51)).alloc (.cells (partC zeroPart) 51)) := ((Ch.refl [] w).alloc _).alloc _
  have z0 := run22_z p w
  have b0 := run22_b p w
  have g0 := hkeep C0 hb
  have M1 := fun w => s22some_any (some ⟨g, 0, none⟩) l.length c w
  rw [decide_eq_true h1, decide_eq_true hl, Bool.and_true] at M1
  have R1 := fun w => pCheck_any p w
  rw [checkS_yes hr] at R1
  have O1 := fun w h => s22own_any l g c cur w (by omega) h hw
  have R := (zdk p).1 hr
  obtain ⟨y0, hy0, K0⟩ := cell_there p.sl R.sl0 R.sl1
  obtain ⟨y1, hy1, K1⟩ := cell_there p.t0 R.a0 R.a1
  obtain ⟨y2, hy2, K2⟩ := cell_there p.t1 R.b0 R.b1
  obtain ⟨n, hn⟩ : ∃ n, l.length = n := ⟨_, rfl⟩
  have HN := Lib.hid hn
  rw [hn] at M1 O1 hT hl h1 ⊢
  have t0 : ¬ (n : Int) ≤ y0 := by have := hT.sl; omega
  have t1 : ¬ (n : Int) ≤ y1 := by have := hT.t0; omega
  have t2 : ¬ (n : Int) ≤ y2 := by have := hT.t1; omega
  have HR := Lib.hid hrun
  have e2 := zcp p
  have e3 := zcw p
  have e4 := zcv p
  obtain ⟨a0, ha0⟩ : ∃ x, p.sl = x := ⟨_, rfl⟩
  obtain ⟨a1, ha1⟩ : ∃ x, p.t0 = x := ⟨_, rfl⟩
  obtain ⟨a2, ha2⟩ : ∃ x, p.t1 = x := ⟨_, rfl⟩
  rw [ha0] at e2 K0
  rw [ha1] at e3 K1
  rw [ha2] at e4 K2
  have HL := Lib.hid hl
  clear hb hw hr R hrun hn hT ha0 ha1 ha2 hy0 hy1 hy2 h1 hl
  go_enter Tryz.func26, Tryz.ntmps26
  go_wp2_with fail
  generalize (w.alloc (.cells (partC p) 51)).alloc (.cells (partC zeroPart) 51) = W0 at *
  refine wp_scope_jumps22 0 (Run22J w n l' p' m) (fun a _ => m - (intOf (a.tmps.getD 13 undef)).toNat) rfl ?_ ?_
  · clear M1 R1 O1 K0 K1 K2 C0 z0 b0 g0 HR HN t0 t1 t2 e2 e3 e4
    rintro a0 wr ⟨q0, q1, q2, q4, q6, q7, q8, q9, q10, q11, q14, q15, q16, q17, q18, q19, q20, q21, q22, q23, q24, q25, q26, q27, q28, q29, q30, q31, q32, q33, q34, q35, q36, q37, q38, q39, q40, q41, q42, q43, q44, q45, q46, q47, q48, q49, q50, q51, q52, q53, q54, q55, q56, q57, q58, q59, q60, q61, q62, q63, q64, q65, q66, q67, q68, q69, q70, q71, q72, q73, q74, q75, q76, q77, q78, q79, q80, q81, q82, q83, q84, q85, q86, q87, j, r, k1, l1, p1, rfl, hjk, hl1, hr0, hrw, hr1, hbw, hzw, hC⟩
    have hjm : (j : Int) ≤ 100000 := by omega
    obtain ⟨B, hB⟩ : ∃ B, w.heap.size = B := ⟨_, rfl⟩
    rw [hB] at hbw hzw hr0 ⊢
    have hBw : w.heap.size ≤ B := by omega
    have HB := Lib.hid hB
    clear hB
    have HL1 := Lib.hid hl1
    rcases hr1.inv with ⟨h6, rfl, rfl, rfl⟩ | ⟨yy, k2, h6, rfl, hrt, hy, hr2⟩
    · have N1 : ∀ w, Calls Tryz.prog 47 #[.agg (partC p')] w fun e w' => e = .returned (.tuple #[.agg (accC 0 0 0 0), .bool false]) ∧ Ch [] w w' := fun w => by have := s22Need_any p' w; rw [needS_none (fun h => by omega), needSV] at this; exact this
      clear hr1 h6 hl1
      go_wp2_with fail
      refine (N1 _).mono ?_
      rintro e w3 ⟨rfl, hc3⟩
      have b3 := hkeep hc3 hbw
      have z3 := hkeep hc3 hzw
      have r3 := hkeep hc3 hrw
      have C3 := hC.trans hc3
      have lz := zad z3
      clear hbw hzw hrw hC hc3 N1
      go_upto_region 20 with (fail)
      have hcA : Ch [] w3 (World.onObj (w3.alloc (.cells (accC 0 0 0 0) 87)) w3.heap.size (laidAt 0 (accC 0 0 0 0))) := ((Ch.refl [] w3).alloc _).onObj (.inr (Nat.le_refl _)) _
      have b4 := hkeep hcA b3
      have z4 := hkeep hcA z3
      have r4 := hkeep hcA r3
      have C4 := C3.trans hcA
      clear b3 z3 r3 C3 hcA lz
      obtain ⟨w4, hw4⟩ : ∃ W, World.onObj (w3.alloc (.cells (accC 0 0 0 0) 87)) w3.heap.size (laidAt 0 (accC 0 0 0 0)) = W := ⟨_, rfl⟩
      rw [hw4] at b4 z4 r4 C4 ⊢
      clear hw4
      have s7 : (fun W' : World => W'.heap[B]? = some (.cells (partC p') 51 (0, 0))) w4.drew := b4
      have z7 : w4.drew.heap[B + 1]? = some (.cells (partC zeroPart) 51 (0, 0)) := z4
      have r7 : w4.drew.heap[r]? = some (.cells (wcells l') 22 (0, 0)) := r4
      have C7 : Ch [] w w4.drew := C4.drew
      have hrB : ¬ r = B + 1 := zcq r7 z7 (by decide)
      clear b4 z4 r4 C4
      refine wp_region_held_drew (S := fun W' => W'.heap[B]? = some (.cells (partC p') 51 (0, 0))) (by kernel_rfl) s7 ?_
      intro _
      simp only [List.size_toArray, List.length_cons, List.length_nil, Nat.reduceAdd]
      generalize w4.drew = w7 at *
      refine tk 0 85 ?_ rfl s7 ?_ ?_; rotate_left
      · intro _ _; go_simp; try with_reducible rfl
      try go_frame
      refine tk 1 86 ?_ rfl s7 ?_ ?_; rotate_left
      · intro _ _; go_simp; try with_reducible rfl
      try go_frame
      refine tk 2 87 ?_ rfl s7 ?_ ?_; rotate_left
      · intro _ _; go_simp; try with_reducible rfl
      try go_frame
      refine tk 3 4 ?_ rfl s7 ?_ ?_; rotate_left
      · intro _ _; go_simp; try with_reducible rfl
      try go_frame
      refine rd 4 rfl (fun K hK => ?_); go_simp
      have s8 : (World.onObj w7 (B + 1) (laidAt 0 (partC p'))).heap[B]? = some (.cells (partC p') 51 (0, 0)) := by rw [zab, if_neg (by omega)]; exact s7
      have z8 : (World.onObj w7 (B + 1) (laidAt 0 (partC p'))).heap[B + 1]? = some (.cells (partC p') 51 (0, 0)) := by rw [zab, if_pos rfl, z7, Option.map_some, zag]
      have r8 := (zan (w := w7) (F := B + 1) (laidAt 0 (partC p')) hrB).trans r7
      have C8 : Ch [] w (World.onObj w7 (B + 1) (laidAt 0 (partC p'))) := C7.onObj (.inr (by omega)) _
      refine hK.out _ _ s8 (fun _ => ?_)
      clear hK K
      generalize World.onObj w7 (B + 1) (laidAt 0 (partC p')) = w8 at *
      refine tk 5 6 ?_ rfl s8 ?_ ?_; rotate_left
      · intro _ _; go_simp; try with_reducible rfl
      try go_frame
      refine tk 6 7 ?_ rfl s8 ?_ ?_; rotate_left
      · intro _ _; go_simp; try with_reducible rfl
      try go_frame
      refine wpAnyH_done (by kernel_rfl) ?_ _
      go_wp2
      rw [jump_ret22]
      refine bodyPost_ret (run22_results Tryz.results26 _ (B + 1) _ p' _ _ _ rfl rfl rfl rfl z8) rfl ⟨r, ?_, by rw [HB.out]; exact hr0, r8, C8⟩
      rw [← hjk]; rfl
    · have Rr := (zdk p1).1 hrt
      have N1 : ∀ w, Calls Tryz.prog 47 #[.agg (partC p1)] w fun e w' => e = .returned (.tuple #[.agg (accC p1.who (accS p1).kind (accS p1).at_ (N (accS p1).new)), .bool true]) ∧ Ch [] w w' := fun w => by
        have := s22Need_any p1 w
        rw [needS_is hrt h6, needSV] at this
        exact this
      have T1 := fun w => s22Take_yes p1 hrt h6 yy.2 true w
      obtain ⟨jj, hjj, hjl, hjx, hrow⟩ := accS_row Rr h6 hy
      have hlen : yy.1.length = n := (doP_lenS hy).trans hl1
      have hux : (wcells l1)[jj]? = some (U yy.2) := wcells_at l1 jj yy.2 hjx
      have hjjn : (jj : Int) < (n : Int) := by omega
      have hjj0 : (0 : Int) ≤ (jj : Int) := by omega
      rw [hjj] at N1
      have HR2 := Lib.hid hr2
      generalize (accS p1).new = nw at *
      generalize (accS p1).kind = kd at *
      generalize takeS p1 yy.2 = p2 at *
      have HLEN := Lib.hid hlen
      have HWS := Lib.hid (wcells_set l1 jj nw)
      clear hr1 h6 hrt hy hr2 Rr hl1 hjl hjx hjj hlen
      rcases hrow with ⟨rfl, hyy⟩ | ⟨rfl, hyy⟩
      · have HYY := Lib.hid hyy
        clear hyy
        go_wp2_with fail
        refine (N1 _).mono ?_
        rintro e w3 ⟨rfl, hc3⟩
        have b3 := hkeep hc3 hbw
        have z3 := hkeep hc3 hzw
        have r3 := hkeep hc3 hrw
        have C3 := hC.trans hc3
        have lz := zad z3
        have lr := zad r3
        clear hbw hzw hrw hC hc3 N1
        go_upto_region 15 with (fail)
        have hcA := accv_put22_ch p1.who 1 (jj : Int) (N nw) w3
        have a4 := accv_put22 p1.who 1 (jj : Int) (N nw) w3
        have b4 := hkeep hcA b3
        have z4 := hkeep hcA z3
        have r4 := hkeep hcA r3
        have C4 := C3.trans hcA
        have hcs := C3.size
        clear b3 z3 r3 C3
        obtain ⟨w4, hw4⟩ : ∃ W, World.onObj (w3.alloc (.cells (accC 0 0 0 0) 87)) w3.heap.size (laidAt 0 (accC p1.who 1 (jj : Int) (N nw))) = W := ⟨_, rfl⟩
        rw [hw4] at a4 b4 z4 r4 C4 ⊢
        clear hw4 hcA
        obtain ⟨A, hA⟩ : ∃ A, w3.heap.size = A := ⟨_, rfl⟩
        rw [hA] at a4 lz lr hcs ⊢
        clear hA
        have hAr : ¬ A = r := by omega
        have hBr : ¬ B = r := zcq b4 r4 (by decide)
        have hzr : ¬ B + 1 = r := zcq z4 r4 (by decide)
        go_wp2_with fail
        refine (T1 _).mono ?_
        rintro e w6 ⟨rfl, hc6⟩
        have b6 := hkeep hc6 b4
        have z6 := hkeep hc6 z4
        have r6 := hkeep hc6 r4
        have C6 := C4.trans hc6
        clear b4 z4 r4 C4 hc6 T1
        go_wp2
        go_step3
        have HB' := HB.out
        subst HB'
        refine ⟨rfl, ⟨_, _, _, _, _, _, _, _, _, _, _, _, _, _, _, _, _, _, _, _, _, _, _, _, _, _, _, _, _, _, _, _, _, _, _, _, _, _, _, _, _, _, _, _, _, _, _, _, _, _, _, _, _, _, _, _, _, _, _, _, _, _, _, _, _, _, _, _, _, _, _, _, _, _, _, _, _, _, _, _, _, _, _, _, j + 1, r, k2, yy.1, p2, by go_num, by omega, HLEN.out, hr0, ?_, HR2.out, ?_, ?_, ?_⟩, ?_⟩
        · rw [zab, if_neg (fun e => hBr e.symm), HYY.out]; exact r6
        · rw [zab, if_pos rfl, b6, Option.map_some, zag]
        · rw [zab, if_neg (by omega)]; exact z6
        · exact C6.onObj (.inr (by omega)) _
        · simp [intOf]; omega
      · have HYY := Lib.hid hyy
        clear hyy
        go_wp2_with fail
        refine (N1 _).mono ?_
        rintro e w3 ⟨rfl, hc3⟩
        have b3 := hkeep hc3 hbw
        have z3 := hkeep hc3 hzw
        have r3 := hkeep hc3 hrw
        have C3 := hC.trans hc3
        have lz := zad z3
        have lr := zad r3
        clear hbw hzw hrw hC hc3 N1
        go_upto_region 15 with (fail)
        have hcA := accv_put22_ch p1.who 2 (jj : Int) (N nw) w3
        have a4 := accv_put22 p1.who 2 (jj : Int) (N nw) w3
        have b4 := hkeep hcA b3
        have z4 := hkeep hcA z3
        have r4 := hkeep hcA r3
        have C4 := C3.trans hcA
        have hcs := C3.size
        clear b3 z3 r3 C3
        obtain ⟨w4, hw4⟩ : ∃ W, World.onObj (w3.alloc (.cells (accC 0 0 0 0) 87)) w3.heap.size (laidAt 0 (accC p1.who 2 (jj : Int) (N nw))) = W := ⟨_, rfl⟩
        rw [hw4] at a4 b4 z4 r4 C4 ⊢
        clear hw4 hcA
        obtain ⟨A, hA⟩ : ∃ A, w3.heap.size = A := ⟨_, rfl⟩
        rw [hA] at a4 lz lr hcs ⊢
        clear hA
        have hAr : ¬ A = r := by omega
        have hBr : ¬ B = r := zcq b4 r4 (by decide)
        have hzr : ¬ B + 1 = r := zcq z4 r4 (by decide)
        go_upto_region 18 with (fail)
        have r5 : (w4.setCell ⟨r, jj, none⟩ (U nw)).heap[r]? = some (.cells (wcells (l1.set jj nw)) 22 (0, 0)) := by rw [zaa, if_pos rfl, r4, Option.map_some, zaf, HWS.out]
        have b5 : (w4.setCell ⟨r, jj, none⟩ (U nw)).heap[B]? = _ := (setCell_other r jj (U nw) hBr).trans b4
        have z5 : (w4.setCell ⟨r, jj, none⟩ (U nw)).heap[B + 1]? = _ := (setCell_other r jj (U nw) hzr).trans z4
        have C5 : Ch [] w (w4.setCell ⟨r, jj, none⟩ (U nw)) := C4.setCell (p := ⟨r, jj, none⟩) (.inr (by show w.heap.size ≤ r; omega)) _
        clear r4 b4 z4 C4 a4
        obtain ⟨w5, hw5⟩ : ∃ W, w4.setCell ⟨r, jj, none⟩ (U nw) = W := ⟨_, rfl⟩
        rw [hw5] at r5 b5 z5 C5 ⊢
        clear hw5
        go_wp2_with fail
        refine (T1 _).mono ?_
        rintro e w6 ⟨rfl, hc6⟩
        have b6 := hkeep hc6 b5
        have z6 := hkeep hc6 z5
        have r6 := hkeep hc6 r5
        have C6 := C5.trans hc6
        clear b5 z5 r5 C5 hc6 T1
        go_wp2
        go_step3
        have HB' := HB.out
        subst HB'
        refine ⟨rfl, ⟨_, _, _, _, _, _, _, _, _, _, _, _, _, _, _, _, _, _, _, _, _, _, _, _, _, _, _, _, _, _, _, _, _, _, _, _, _, _, _, _, _, _, _, _, _, _, _, _, _, _, _, _, _, _, _, _, _, _, _, _, _, _, _, _, _, _, _, _, _, _, _, _, _, _, _, _, _, _, _, _, _, _, _, _, j + 1, r, k2, yy.1, p2, by go_num, by omega, HLEN.out, hr0, ?_, HR2.out, ?_, ?_, ?_⟩, ?_⟩
        · rw [zab, if_neg (fun e => hBr e.symm), HYY.out]; exact r6
        · rw [zab, if_pos rfl, b6, Option.map_some, zag]
        · rw [zab, if_neg (by omega)]; exact z6
        · exact C6.onObj (.inr (by omega)) _
        · simp [intOf]; omega
  · intro hpass
    go_wp2_with fail
    refine (M1 _).mono ?_
    rintro e w' ⟨rfl, rfl⟩
    go_wp2_with fail
    refine (R1 _).mono ?_
    rintro e w1 ⟨rfl, hc1⟩
    have z1 := hkeep hc1 z0
    have b1 := hkeep hc1 b0
    have g1 := hkeep hc1 g0
    have C1 := C0.trans hc1
    clear z0 b0 g0 C0 hc1 R1 M1
    obtain ⟨cp, hcp⟩ : ∃ c, partC p = c := ⟨_, rfl⟩
    rw [hcp] at b1 e2 e3 e4
    go_wp2_with fail
    refine wp_loop_rounds 4 ?_
    rw [rounds_succ]
    go_wp2_with fail
    refine (K0 _).mono ?_
    rintro e w' ⟨rfl, rfl⟩
    go_wp2_with fail
    rw [rounds_succ]
    go_wp2_with fail
    refine (K1 _).mono ?_
    rintro e w' ⟨rfl, rfl⟩
    go_wp2_with fail
    rw [rounds_succ]
    go_wp2_with fail
    refine (K2 _).mono ?_
    rintro e w' ⟨rfl, rfl⟩
    go_wp2_with fail
    rw [rounds_succ]
    go_wp2_with fail
    refine (O1 _ g1).mono ?_
    rintro e w2 ⟨rfl, r2, hc2⟩
    have z2 := hkeep hc2 z1
    have b2 := hkeep hc2 b1
    have C2 := C1.trans hc2
    have hRw := C1.size
    clear z1 b1 g1 C1 hc2 O1
    go_wp2_with fail
    refine wp_label ?_
    rename_i hK
    refine hK _ _ (hpass _ _ ?_)
    rw [← hcp] at b2
    exact ⟨_, _, _, _, _, _, _, _, _, _, _, _, _, _, _, _, _, _, _, _, _, _, _, _, _, _, _, _, _, _, _, _, _, _, _, _, _, _, _, _, _, _, _, _, _, _, _, _, _, _, _, _, _, _, _, _, _, _, _, _, _, _, _, _, _, _, _, _, _, _, _, _, _, _, _, _, _, _, _, _, _, _, _, _, 0, _, m, l, p, rfl, by omega, HN.out, hRw, r2, HR.out, b2, z2, C2⟩
end
end Go.Proofs.Hc
