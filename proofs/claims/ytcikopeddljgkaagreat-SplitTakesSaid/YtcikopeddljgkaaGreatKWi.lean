/- Law 22: SplitTakes, the walk (printed by gen_takes22.py). -/
import Derived.Test.YtcikopeddljgkaaGreatKWf
import Derived.Test.YtcikopeddljgkaaGreatK0
set_option linter.unusedSimpArgs false
set_option linter.unusedVariables false
set_option maxHeartbeats 8000000
set_option maxRecDepth 100000
namespace Go.Proofs.Hc
open Go.RowKit
attribute [local go_sem] zbv zcb zba zbf zbr zbd zbq zbs zbx signed64 signed8 zap BitVec.ofInt_add BitVec.ofInt_mul ofInt_sub' zbb zbc wide8 eqN neN zca shr1 shr7 shr56
attribute [local go_sem high] zbe zbw
attribute [local go_sem] zaw zby zaj zas zae zay zar zak zbn zam zax zaz
attribute [local go_sem] load26 load73 load23 store26 build73
attribute [local go_sem ↓] lrow26 lrow73 lrow23 srow26 zero26 brow73 zac zbk zbg zaa zab
attribute [local go_sem] zai zav zau zbj zbl zbo zaq zat zbp zbi zbh
attribute [local go_sem] nn2 nm2 nn3 nm3 nn4 nm4 nn5 nm5 nn6 nm6 nn7 nm7 nn8 nm8
section
attribute [local go_sem] acc_g0 acc_g1 acc_g2 acc_g4 acc_s0 acc_s1 acc_s2 acc_s4 zdg accC_one accC_all loadAcc storeAcc bacc0 bacc2 bacc3 bacc3u bacc4
attribute [local go_sem ↓] lrowAcc srowAcc browAcc zcu
attribute [local go_sem high] zah
attribute [local go_sem] zcx seenC_one seenC_all seenC_g0 loadSeen storeSeen buildSeen buildSeen0
attribute [local go_sem ↓] lrowSeen srowSeen browSeen zcy
attribute [local go_sem high] zal
attribute [local irreducible] seenC
attribute [local go_sem] zap zbt
attribute [local go_sem] Oper.semAt_some zao
attribute [local go_sem] zcj pacell0 pacell1 pacell2 pacell3 pacell4 pacell5 pacell6 pacell7 pacell42
attribute [local go_sem] zcr zcw zct zdc zdb part_g5 zcv zdl zcf zcq part_s6 zde zch zbu zci zck boxPart loadPart storePart zce zcs buildPart0 buildPart4
attribute [local go_sem ↓] lrowPart srowPart browPart zcl zbz
attribute [local go_sem high] zag
attribute [local irreducible] partC
attribute [local irreducible] accC
attribute [local go_sem] boxSeen boxAcc
attribute [local go_sem high] eql_part neq_part guardPart neq_acc guardAcc
theorem takes22_H0 (p : PartT) (a1 : Option Addr) (n1 c1 : Nat) (ps : Nat → BitVec 64 × Bool) (a : Option Addr) (n0 c0 : Nat) (ks : Nat → BitVec 64) (w : World) (hn1 : n1 ≤ 9223372036854775807) (hsn : SeenIn w a1 n1 ps) (hn : n0 ≤ c0) (hc : c0 ≤ 9223372036854775807) (ha : a = none → n0 = 0 ∧ c0 = 0) (hk : KeysIn w a n0 ks) (hr : rightS p = true) (h6 : p.ph ≤ 6) (h0 : min n0 180 = 0) :
    Calls Tryz.prog 8 #[.agg (partC p), .slice a1 n1 c1, .slice a n0 c0] w fun e w' => e = .returned (.bool true) ∧ Ch [] w w' := by
  have W1 := fun w => wakes22_any w
  have O1 := fun w' (c : Ch [] w w') => own22_empty a n0 c0 ks w' hn hc ha (hk.ch c (Nat.le_refl _)) h0
  clear h0
  have HS := fun (wr : World) (c : Ch [] w wr) => hsn.ch c
  have X1 := fun w => r22Right_any p w
  have X2 := fun w => pCheck_any p w
  have X3 := fun w => s22Need_any p w
  have X4 := fun w => s22Many_any p w
  have R := (rightS_iff p).1 hr
  have hac := needS_is hr h6
  rw [hr] at X1
  rw [checkS_yes hr] at X2
  rw [hac] at X3
  have X5 := fun w => r22Has_any p w
  rw [decide_eq_true h6] at X5
  have X6 := fun w => r22Need_any p hr h6 w
  have Y1 := fun x b w => s22Take_yes p hr h6 x b w
  have Y2 := fun x b w => r22Take_any p hr h6 x b w
  have hin : (p.ph = 5 ∧ manyS p = 81) ∨ (p.ph = 6 ∧ manyS p = 80 - p.at_ ∧ IntKind.i64.wrap (80 - p.at_) = 80 - p.at_) ∨ ((p.ph == 5) = false ∧ (p.ph == 6) = false ∧ manyS p = 0) := by
    have a6 := R.at6
    unfold manyS
    rw [hr, if_pos rfl]
    by_cases h5 : p.ph = 5
    · left; exact ⟨h5, if_pos h5⟩
    · by_cases h6 : p.ph = 6
      · right; left; exact ⟨h6, by rw [if_neg h5, if_pos h6], by rw [IntKind.wrap_i64]; have := a6 h6; omega⟩
      · right; right; exact ⟨by simp [h5], by simp [h6], by rw [if_neg h5, if_neg h6]⟩
  obtain ⟨mm, hmm⟩ : ∃ x, manyS p = x := ⟨_, rfl⟩
  rw [hmm] at X4 hin
  clear hmm R
  simp only [needSV] at X3
  have P1 := fun a c w => r02Right_any a 0 c w
  simp only [show ¬ (1 ≤ 0) by omega, decide_false, Bool.false_and] at P1
  have S1 := fun a c w => s22Step_empty a c p w
  obtain ⟨wh, hwh⟩ : ∃ x, p.who = x := ⟨_, rfl⟩
  obtain ⟨kd, hkd⟩ : ∃ x, (accS p).kind = x := ⟨_, rfl⟩
  obtain ⟨at_, hat_⟩ : ∃ x, (accS p).at_ = x := ⟨_, rfl⟩
  obtain ⟨nw, hnw⟩ : ∃ x, N (accS p).new = x := ⟨_, rfl⟩
  rw [hwh, hkd, hat_, hnw] at X3 X6
  clear hwh hkd hat_ hnw hac h6
  clear hsn hn hc ha hk hr
  have C0 : Ch [] w (w.alloc (.cells (partC p) 51)) := (Ch.refl [] w).alloc _
  have b0 : (w.alloc (.cells (partC p) 51)).heap[w.heap.size]? = some (.cells (partC p) 51 (0, 0)) := by rw [zac, if_pos rfl]
  rcases hin with ⟨hp5, rfl⟩ | ⟨hp6, rfl, hwm⟩ | ⟨hp5, hp6, rfl⟩
  all_goals
    go_enter Tryz.func8, Tryz.ntmps8
    go_wp2_with fail
    obtain ⟨w0, hw0⟩ : ∃ W, w.alloc (.cells (partC p) 51) = W := ⟨_, rfl⟩
    rw [hw0] at b0 C0 ⊢
    clear hw0
    obtain ⟨B, hB⟩ : ∃ b, w.heap.size = b := ⟨_, rfl⟩
    rw [hB] at b0 ⊢
    have hlB : w.heap.size ≤ B := by omega
    clear hB
    refine (W1 _).mono ?_
    rintro e w1 ⟨rfl, hc1⟩
    have b1 := hkeep (hc1) b0
    have C1 := C0.trans (hc1)
    clear b0 C0 hc1 
    go_wp2_with fail
    refine (X1 _).mono ?_
    rintro e w2 ⟨rfl, hc2⟩
    have b2 := hkeep (hc2) b1
    have C2 := C1.trans (hc2)
    clear b1 C1 hc2 
    go_wp2_with fail
    refine (X5 _).mono ?_
    rintro e w3 ⟨rfl, hc3⟩
    have b3 := hkeep (hc3) b2
    have C3 := C2.trans (hc3)
    clear b2 C2 hc3 
    go_wp2_with fail
    refine (X2 _).mono ?_
    rintro e w4 ⟨rfl, hc4⟩
    have b4 := hkeep (hc4) b3
    have C4 := C3.trans (hc4)
    clear b3 C3 hc4 
    go_wp2_with fail
    refine (X3 _).mono ?_
    rintro e w5 ⟨rfl, hc5⟩
    have b5 := hkeep (hc5) b4
    have C5 := C4.trans (hc5)
    clear b4 C4 hc5 
    have nb := nsz b5
    go_upto_region 7 with (fail)
    clear nb
    have b6 := hkeep (zcp wh kd at_ nw w5) b5
    have C6 := C5.trans (zcp wh kd at_ nw w5)
    have lbA := zad b5
    have n6 := accv_put22 wh kd at_ nw w5
    have hlA := C5.size
    clear b5 C5 
    obtain ⟨w6, hw6⟩ : ∃ W, World.onObj (w5.alloc (.cells (accC 0 0 0 0) 87)) w5.heap.size (laidAt 0 (accC wh kd at_ nw)) = W := ⟨_, rfl⟩
    first | rw [hw6] at b6 n6 C6 ⊢ | (simp only [zag, zah, zal] at hw6; rw [hw6] at b6 n6 C6 ⊢)
    clear hw6
    obtain ⟨A, hbA⟩ : ∃ b, w5.heap.size = b := ⟨_, rfl⟩
    rw [hbA] at n6 hlA lbA ⊢
    clear hbA
    have nb := nsz b6
    have nn := nsz n6
    go_upto_region 8 with (fail)
    clear nb nn
    have b7 := hkeep (zacc_ch w6) b6
    have n7 := hkeep (zacc_ch w6) n6
    have C7 := C6.trans (zacc_ch w6)
    have lbZ := zad b6
    have lnZ := zad n6
    have z7 := zacc w6
    have hlZ := C6.size
    clear b6 n6 C6 
    obtain ⟨w7, hw7⟩ : ∃ W, w6.alloc (.cells (accC 0 0 0 0) 87) = W := ⟨_, rfl⟩
    first | rw [hw7] at b7 n7 z7 C7 ⊢ | (simp only [zag, zah, zal] at hw7; rw [hw7] at b7 n7 z7 C7 ⊢)
    clear hw7
    obtain ⟨Z, hbZ⟩ : ∃ b, w6.heap.size = b := ⟨_, rfl⟩
    rw [hbZ] at z7 hlZ lbZ lnZ ⊢
    clear hbZ
    go_wp2_with fail
    refine (X6 _).mono ?_
    rintro e w8 ⟨rfl, hc8⟩
    have b8 := hkeep (hc8) b7
    have n8 := hkeep (hc8) n7
    have z8 := hkeep (hc8) z7
    have C8 := C7.trans (hc8)
    clear b7 n7 z7 C7 hc8 
    have eb : ¬ B = Z := by omega
    have en : ¬ A = Z := by omega
    go_upto_region 10 with (fail)
    have b9 : (World.onObj w8 Z (laidAt 0 (accC wh kd at_ nw))).heap[B]? = _ := (zan (w := w8) (F := Z) (laidAt 0 (accC wh kd at_ nw)) eb).trans b8
    have n9 : (World.onObj w8 Z (laidAt 0 (accC wh kd at_ nw))).heap[A]? = _ := (zan (w := w8) (F := Z) (laidAt 0 (accC wh kd at_ nw)) en).trans n8
    have z9 : (World.onObj w8 Z (laidAt 0 (accC wh kd at_ nw))).heap[Z]? = some (.cells (accC wh kd at_ nw) 87 (0, 0)) := by rw [zab, if_pos rfl, z8, Option.map_some, zah]
    have C9 : Ch [] w (World.onObj w8 Z (laidAt 0 (accC wh kd at_ nw))) := C8.onObj (.inr hlZ) _
    clear b8 n8 z8 C8 eb en
    obtain ⟨w9, hw9⟩ : ∃ W, (World.onObj w8 Z (laidAt 0 (accC wh kd at_ nw))) = W := ⟨_, rfl⟩
    rw [hw9] at b9 n9 z9 C9  ⊢
    clear hw9
    go_wp2_with fail
    refine (X4 _).mono ?_
    rintro e w10 ⟨rfl, hc10⟩
    have b10 := hkeep (hc10) b9
    have n10 := hkeep (hc10) n9
    have z10 := hkeep (hc10) z9
    have C10 := C9.trans (hc10)
    clear b9 n9 z9 C9 hc10 
    clear n10
    have HB0 := Lib.hid b10
    have HZ0 := Lib.hid z10
    have HC0 := Lib.hid C10
    clear b10 z10 C10
    go_wp2
    go_loopw [91] (fun i wr => ∃ j : Nat, i = .int .i64 j ∧ j ≤ n1 ∧ j ≤ 6 ∧ wr.heap[B]? = some (.cells (partC p) 51 (0, 0)) ∧ wr.heap[Z]? = some (.cells (accC wh kd at_ nw) 87 (0, 0)) ∧ Ch [] w wr) (fun i _ => 7 - (intOf i).toNat)
    case atStart => exact ⟨0, rfl, by omega, by omega, HB0.out, HZ0.out, HC0.out⟩
    case round =>
      obtain ⟨j, hj, hjn, hj6, b, z, C⟩ := hrel
      subst hj
      clear HB0 HZ0 HC0
      obtain ⟨w30, hw30⟩ : ∃ W, wr = W := ⟨_, rfl⟩
      rw [hw30] at b z C ⊢
      clear hw30
      have hcase : ((j : Int) < n1 ∧ ((j : Int) == 6) = false) ∨ ((j : Int) < n1 ∧ ((j : Int) == 6) = true) ∨ ¬ (j : Int) < n1 := by
        by_cases h : (j : Int) < n1
        · by_cases h6 : (j : Int) = 6
          · exact .inr (.inl ⟨h, by simp [h6]⟩)
          · exact .inl ⟨h, by simp [h6]⟩
        · exact .inr (.inr h)
      rcases hcase with ⟨hlt, hne⟩ | ⟨hlt, hne⟩ | hlt
      · obtain ⟨kb, ko, rfl, hkb, hrow⟩ := HS _ C j (by omega)
        have hj0 : (0 : Int) ≤ j := by omega
        have hj5 : j < 6 := by simp at hne; omega
        obtain ⟨xg, hxg⟩ : ∃ x, (ps j).1 = x := ⟨_, rfl⟩
        obtain ⟨bg, hbg⟩ : ∃ x, (ps j).2 = x := ⟨_, rfl⟩
        rw [hxg, hbg] at hrow
        clear hxg hbg hkb
        have b30 := b
        have z30 := z
        have C30 := C
        clear b z C
        have nb := nsz b30
        have nz := nsz z30
        go_upto_region 22 with (fail)
        clear nb nz
        have b31 := hkeep (zbm (N xg) bg w30) b30
        have z31 := hkeep (zbm (N xg) bg w30) z30
        have C31 := C30.trans (zbm (N xg) bg w30)
        have lbG := zad b30
        have lzG := zad z30
        have s31 := seen_put22 (N xg) bg w30
        have hlG := C30.size
        clear b30 z30 C30 
        obtain ⟨w31, hw31⟩ : ∃ W, World.onObj (w30.alloc (.cells (seenC 0 false) 93)) w30.heap.size (laidAt 0 (seenC (N xg) bg)) = W := ⟨_, rfl⟩
        first | rw [hw31] at b31 z31 s31 C31 ⊢ | (simp only [zag, zah, zal] at hw31; rw [hw31] at b31 z31 s31 C31 ⊢)
        clear hw31
        obtain ⟨G, hbG⟩ : ∃ b, w30.heap.size = b := ⟨_, rfl⟩
        rw [hbG] at s31 hlG lbG lzG ⊢
        clear hbG
        clear hrow
        go_wp2_with fail
        refine (Y1 _ _ _).mono ?_
        rintro e w32 ⟨rfl, hc32⟩
        have b32 := hkeep (hc32) b31
        have z32 := hkeep (hc32) z31
        have s32 := hkeep (hc32) s31
        have C32 := C31.trans (hc32)
        clear b31 z31 s31 C31 hc32 
        have nb := nsz b32
        have nz := nsz z32
        have ns := nsz s32
        go_upto_region 24 with (fail)
        clear nb nz ns
        have b33 := hkeep (zaf (takeS p xg) w32) b32
        have z33 := hkeep (zaf (takeS p xg) w32) z32
        have s33 := hkeep (zaf (takeS p xg) w32) s32
        have C33 := C32.trans (zaf (takeS p xg) w32)
        have lbNN := zad b32
        have lzNN := zad z32
        have lsNN := zad s32
        have n33 := zdi (takeS p xg) w32
        have hlNN := C32.size
        clear b32 z32 s32 C32 
        obtain ⟨w33, hw33⟩ : ∃ W, World.onObj (w32.alloc (.cells (partC zeroPart) 51)) w32.heap.size (laidAt 0 (partC (takeS p xg))) = W := ⟨_, rfl⟩
        first | rw [hw33] at b33 z33 s33 n33 C33 ⊢ | (simp only [zag, zah, zal] at hw33; rw [hw33] at b33 z33 s33 n33 C33 ⊢)
        clear hw33
        obtain ⟨NN, hbNN⟩ : ∃ b, w32.heap.size = b := ⟨_, rfl⟩
        rw [hbNN] at n33 hlNN lbNN lzNN lsNN ⊢
        clear hbNN
        have nb := nsz b33
        have nz := nsz z33
        have ns := nsz s33
        have nn := nsz n33
        go_upto_region 25 with (fail)
        clear nb nz ns nn
        have b34 := hkeep (zaf zeroPart w33) b33
        have z34 := hkeep (zaf zeroPart w33) z33
        have s34 := hkeep (zaf zeroPart w33) s33
        have n34 := hkeep (zaf zeroPart w33) n33
        have C34 := C33.trans (zaf zeroPart w33)
        have lbTT := zad b33
        have lzTT := zad z33
        have lsTT := zad s33
        have lnTT := zad n33
        have t34 := zdi zeroPart w33
        have hlTT := C33.size
        clear b33 z33 s33 n33 C33 
        obtain ⟨w34, hw34⟩ : ∃ W, World.onObj (w33.alloc (.cells (partC zeroPart) 51)) w33.heap.size (laidAt 0 (partC zeroPart)) = W := ⟨_, rfl⟩
        first | rw [hw34] at b34 z34 s34 n34 t34 C34 ⊢ | (simp only [zag, zah, zal] at hw34; rw [hw34] at b34 z34 s34 n34 t34 C34 ⊢)
        clear hw34
        obtain ⟨TT, hbTT⟩ : ∃ b, w33.heap.size = b := ⟨_, rfl⟩
        rw [hbTT] at t34 hlTT lbTT lzTT lsTT lnTT ⊢
        clear hbTT
        go_wp2_with fail
        refine (Y2 _ _ _).mono ?_
        rintro e w35 ⟨rfl, hc35⟩
        have b35 := hkeep (hc35) b34
        have z35 := hkeep (hc35) z34
        have s35 := hkeep (hc35) s34
        have n35 := hkeep (hc35) n34
        have t35 := hkeep (hc35) t34
        have C35 := C34.trans (hc35)
        clear b34 z34 s34 n34 t34 C34 hc35 
        have eb : ¬ B = TT := by omega
        have ez : ¬ Z = TT := by omega
        have es : ¬ G = TT := by omega
        have en : ¬ NN = TT := by omega
        go_upto_region 29 with (fail)
        have b36 : (World.onObj w35 TT (laidAt 0 (partC (takeS p xg)))).heap[B]? = _ := (zan (w := w35) (F := TT) (laidAt 0 (partC (takeS p xg))) eb).trans b35
        have z36 : (World.onObj w35 TT (laidAt 0 (partC (takeS p xg)))).heap[Z]? = _ := (zan (w := w35) (F := TT) (laidAt 0 (partC (takeS p xg))) ez).trans z35
        have s36 : (World.onObj w35 TT (laidAt 0 (partC (takeS p xg)))).heap[G]? = _ := (zan (w := w35) (F := TT) (laidAt 0 (partC (takeS p xg))) es).trans s35
        have n36 : (World.onObj w35 TT (laidAt 0 (partC (takeS p xg)))).heap[NN]? = _ := (zan (w := w35) (F := TT) (laidAt 0 (partC (takeS p xg))) en).trans n35
        have t36 : (World.onObj w35 TT (laidAt 0 (partC (takeS p xg)))).heap[TT]? = some (.cells (partC (takeS p xg)) 51 (0, 0)) := by rw [zab, if_pos rfl, t35, Option.map_some, zag]
        have C36 : Ch [] w (World.onObj w35 TT (laidAt 0 (partC (takeS p xg)))) := C35.onObj (.inr hlTT) _
        clear b35 z35 s35 n35 t35 C35 eb ez es en
        obtain ⟨w36, hw36⟩ : ∃ W, (World.onObj w35 TT (laidAt 0 (partC (takeS p xg)))) = W := ⟨_, rfl⟩
        rw [hw36] at b36 z36 s36 n36 t36 C36  ⊢
        clear hw36
        go_wp2
        go_roundw
        case rel => exact ⟨j + 1, by go_num, by omega, by omega, b36, z36, C36⟩
        case measure => simp [intOf]; omega
      obtain ⟨kb, ko, rfl, hkb, hrow⟩ := HS _ C j (by omega)
      obtain ⟨xg, hxg⟩ : ∃ x, (ps j).1 = x := ⟨_, rfl⟩
      obtain ⟨bg, hbg⟩ : ∃ x, (ps j).2 = x := ⟨_, rfl⟩
      rw [hxg, hbg] at hrow
      clear hxg hbg hkb
      have hj0 : (0 : Int) ≤ j := by omega
      have b30 := b
      have z30 := z
      have C30 := C
      clear b z C
      have nb := nsz b30
      have nz := nsz z30
      go_upto_region 22 with (fail)
      clear nb nz
      have b31 := hkeep (zbm (N xg) bg w30) b30
      have z31 := hkeep (zbm (N xg) bg w30) z30
      have C31 := C30.trans (zbm (N xg) bg w30)
      have lbG := zad b30
      have lzG := zad z30
      have s31 := seen_put22 (N xg) bg w30
      have hlG := C30.size
      clear b30 z30 C30 
      obtain ⟨w31, hw31⟩ : ∃ W, World.onObj (w30.alloc (.cells (seenC 0 false) 93)) w30.heap.size (laidAt 0 (seenC (N xg) bg)) = W := ⟨_, rfl⟩
      first | rw [hw31] at b31 z31 s31 C31 ⊢ | (simp only [zag, zah, zal] at hw31; rw [hw31] at b31 z31 s31 C31 ⊢)
      clear hw31
      obtain ⟨G, hbG⟩ : ∃ b, w30.heap.size = b := ⟨_, rfl⟩
      rw [hbG] at s31 hlG lbG lzG ⊢
      clear hbG
      clear hrow
      have b := b31
      have z := z31
      have C := C31
      clear b31 z31 C31 s31
      all_goals
        have b30 := b
        have z30 := z
        have C30 := C
        clear b z C HS Y1 Y2
        go_wp2_with fail
        refine (O1 _ C30).mono ?_
        rintro e w31 ⟨a', c', rfl, hc31⟩
        have z31 := hkeep (hc31) z30
        have b31 := hkeep (hc31) b30
        have C31 := C30.trans (hc31)
        clear z30 b30 C30 hc31 
        go_wp2_with fail
        refine (S1 _ _ _).mono ?_
        rintro e w32 ⟨rfl, hc32⟩
        have z32 := hkeep (hc32) z31
        have b32 := hkeep (hc32) b31
        have C32 := C31.trans (hc32)
        clear z31 b31 C31 hc32 
        have nz := nsz z32
        have nb := nsz b32
        go_upto_region 34 with (fail)
        clear nz nb
        have z33 := hkeep (zaf zeroPart w32) z32
        have b33 := hkeep (zaf zeroPart w32) b32
        have C33 := C32.trans (zaf zeroPart w32)
        have lzTT := zad z32
        have lbTT := zad b32
        have t33 := zdi zeroPart w32
        have hlTT := C32.size
        clear z32 b32 C32 
        obtain ⟨w33, hw33⟩ : ∃ W, World.onObj (w32.alloc (.cells (partC zeroPart) 51)) w32.heap.size (laidAt 0 (partC zeroPart)) = W := ⟨_, rfl⟩
        first | rw [hw33] at z33 b33 t33 C33 ⊢ | (simp only [zag, zah, zal] at hw33; rw [hw33] at z33 b33 t33 C33 ⊢)
        clear hw33
        obtain ⟨TT, hbTT⟩ : ∃ b, w32.heap.size = b := ⟨_, rfl⟩
        rw [hbTT] at t33 hlTT lzTT lbTT ⊢
        clear hbTT
        have nz := nsz z33
        have nb := nsz b33
        have nt := nsz t33
        go_upto_region 36 with (fail)
        clear nz nb nt
        have z34 := hkeep (zaf zeroPart w33) z33
        have b34 := hkeep (zaf zeroPart w33) b33
        have t34 := hkeep (zaf zeroPart w33) t33
        have C34 := C33.trans (zaf zeroPart w33)
        have lzUU := zad z33
        have lbUU := zad b33
        have ltUU := zad t33
        have u34 := zdi zeroPart w33
        have hlUU := C33.size
        clear z33 b33 t33 C33 
        obtain ⟨w34, hw34⟩ : ∃ W, World.onObj (w33.alloc (.cells (partC zeroPart) 51)) w33.heap.size (laidAt 0 (partC zeroPart)) = W := ⟨_, rfl⟩
        first | rw [hw34] at z34 b34 t34 u34 C34 ⊢ | (simp only [zag, zah, zal] at hw34; rw [hw34] at z34 b34 t34 u34 C34 ⊢)
        clear hw34
        obtain ⟨UU, hbUU⟩ : ∃ b, w33.heap.size = b := ⟨_, rfl⟩
        rw [hbUU] at u34 hlUU lzUU lbUU ltUU ⊢
        clear hbUU
        go_wp2_with fail
        refine (P1 _ _ _).mono ?_
        rintro e w' ⟨rfl, rfl⟩
        go_wp2_with fail
        refine (eqWords0_any none none 0 0 _).mono ?_
        rintro e w35 ⟨rfl, hc35⟩
        have z35 := hkeep (hc35) z34
        have b35 := hkeep (hc35) b34
        have t35 := hkeep (hc35) t34
        have u35 := hkeep (hc35) u34
        have C35 := C34.trans (hc35)
        clear z34 b34 t34 u34 C34 hc35 
        clear t35 u35 z35 b35
        go_wp2
        refine wp_loop_rounds 1 ?_
        rw [rounds_succ]
        go_wp2_with fail
        refine (O1 _ C35).mono ?_
        rintro e w36 ⟨a2, c3, rfl, hc36⟩
        have C36 := C35.trans hc36
        go_wp2_with fail
        refine (eqWords0_any a' a2 c' c3 _).mono ?_
        rintro e w37 ⟨rfl, hc37⟩
        go_wp2
        go_ret
        exact ⟨rfl, C36.trans hc37⟩
end
end Go.Proofs.Hc
