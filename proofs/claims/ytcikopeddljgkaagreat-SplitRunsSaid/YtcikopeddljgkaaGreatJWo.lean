/- Law 22: SplitRuns, the walk (printed by gen_runs22.py). -/
import Derived.Test.YtcikopeddljgkaaGreatJWl
import Derived.Test.YtcikopeddljgkaaGreatJ0
set_option linter.unusedSimpArgs false
set_option linter.unusedVariables false
set_option maxHeartbeats 8000000
set_option maxRecDepth 100000
namespace Go.Proofs.Hc
open Go.RowKit
attribute [local go_sem] zbu zcc zax zbf zbo zbd zbn zbp zbw signed64 signed8 zap BitVec.ofInt_add BitVec.ofInt_mul ofInt_sub' zbb zbc wide8 eqN neN zca shr1 shr7 shr56
attribute [local go_sem high] zbe zbv
attribute [local go_sem] zaw zby zaj zas zaf zaz zar zak zbm zal zay zba
attribute [local go_sem] load26 load73 load23 store26 build73
attribute [local go_sem ↓] lrow26 lrow73 lrow23 srow26 zero26 brow73 zae zbk zbg zaa zab
attribute [local go_sem] zai zav zat zbj zbl zbr zaq zau zbs zbi zbh
attribute [local go_sem] nn2 nm2 nn3 nm3 nn4 nm4 nn5 nm5 nn6 nm6 nn7 nm7 nn8 nm8
section
attribute [local go_sem] zap zbq
attribute [local go_sem] Oper.semAt_some zao
attribute [local go_sem] zcj pacell0 pacell1 pacell2 pacell3 pacell4 pacell5 pacell6 pacell7 pacell42
attribute [local go_sem] zcs zcx zcp zcw zcv zdg zcu zdf zce zcr zdj zdc zch zbt zci zck boxPart loadPart storePart zcf zct buildPart0 buildPart4
attribute [local go_sem ↓] lrowPart srowPart browPart zcl zbz
attribute [local go_sem high] zag
attribute [local irreducible] partC
attribute [local go_sem high] eql_part neq_part guardPart
attribute [local go_sem] load2i by_x box_by22 build_2p
attribute [local go_sem ↓] lrow2i brow_2p
theorem runs22_s1 (a : Option Addr) (n0 c0 : Nat) (ks : Nat → BitVec 64) (wh sl a0 b0 : Int) (sd : BitVec 64) (s : PartT) (w : World) (hn : n0 ≤ c0) (hc : c0 ≤ 9223372036854775807) (ha : a = none → n0 = 0 ∧ c0 = 0) (hk : KeysIn w a n0 ks) (m : Nat) (hm : min n0 180 = m) (h1 : 1 ≤ m) (hw : ¬ 0 ≤ wh) :
    Calls Tryz.prog 4 #[.slice a n0 c0, .agg #[I wh, I sl, I a0, I b0, U sd], .agg (partC s)] w fun e w' => e = .returned (.bool true) ∧ Ch [] w w' := by
  have W1 := fun w => wakes22_any w
  have B1 := fun w => s22Begin_any wh sl a0 b0 sd w
  rw [begin22_no (.inl (by omega))] at B1
  simp only [tupOr] at B1
  have O1 := fun w' (c : Ch [] w w') => own22_row a n0 c0 ks w' hn hc ha (hk.ch c (Nat.le_refl _)) m hm h1
  have hm180 : m ≤ 180 := by omega
  have hmr : (decide (1 ≤ m) && decide (m ≤ 8192)) = true := by rw [decide_eq_true h1, decide_eq_true (show m ≤ 8192 by omega)]; rfl
  have P1 := fun a c w => r02Right_any a m c w
  rw [hmr] at P1
  obtain ⟨LL, hLL⟩ : ∃ L, frontW ks m = L := ⟨_, rfl⟩
  have hlen : LL.length = m := by rw [← hLL, frontW_len]
  rw [hLL] at O1
  have E1 := fun R R2 c c2 cur cur2 w hw1 hw2 hb1 hb2 => eq_rows22 (by omega) hlen R R2 c c2 cur cur2 hw1 hw2 w hb1 hb2
  have RB := Lib.hid (fun a c p (h : rightS p = false) w => s22Run_bad a m c p hmr h w)
  have RS := Lib.hid (fun a c p (h : rightS p = true) (hT : thereB m p = false) w => s22Run_short (a := a) (c := c) h1 (by omega) h hT w)
  have RG := Lib.hid (fun l' g c cur p p' k w hb hw hr hT hrun hk => s22Run_go LL l' g c cur p p' k w (by omega) (by omega) hb hw hr hT hrun hk)
  have RX := Lib.hid (fun p (hr : rightS p = true) (hT : thereB m p = true) => run22_exists (l := LL) hlen hr hT)
  have HM := Lib.hid hm180
  have HLEN := Lib.hid hlen
  clear hLL hlen hmr hm180
  clear hn hc ha hk hm 
  obtain ⟨w0_, hw0, C0, x0, y0⟩ := by_world wh sl a0 b0 sd s w
  go_enter Tryz.func4, Tryz.ntmps4
  go_upto_region 1 with (fail)
  try rw [hw0]
  clear hw0
  obtain ⟨w0a, hw0a⟩ : ∃ W, w0_ = W := ⟨_, rfl⟩
  rw [hw0a] at C0 x0 y0 ⊢
  clear hw0a
  obtain ⟨X, hX⟩ : ∃ b, w.heap.size = b := ⟨_, rfl⟩
  rw [hX] at x0 y0 ⊢
  have hlX : w.heap.size ≤ X := by omega
  clear hX
  go_wp2_with fail
  refine (W1 _).mono ?_
  rintro e w1 ⟨rfl, hc1⟩
  have x1 := hkeep (hc1) x0
  have y1 := hkeep (hc1) y0
  have C1 := C0.trans (hc1)
  clear x0 y0 C0 hc1 
  go_wp2_with fail
  refine (O1 _ C1).mono ?_
  rintro e w2 ⟨R, c2, cur, rfl, -, hcur, r2, hc2⟩
  have x2 := hkeep (hc2) x1
  have y2 := hkeep (hc2) y1
  have C2 := C1.trans (hc2)
  clear x1 y1 C1 hc2 
  go_wp2_with fail
  refine (B1 _).mono ?_
  rintro e w3 ⟨rfl, hc3⟩
  have x3 := hkeep (hc3) x2
  have y3 := hkeep (hc3) y2
  have r3 := hkeep (hc3) r2
  have C3 := C2.trans (hc3)
  clear x2 y2 r2 C2 hc3 
  have nx := nsz x3
  have ny : ¬ X + 1 = w3.heap.size := by have := zad y3; omega
  have nr := nsz r3
  go_upto_region 5 with (fail)
  clear nx ny nr
  have x4 := hkeep (zac zeroPart w3) x3
  have y4 := hkeep (zac zeroPart w3) y3
  have r4 := hkeep (zac zeroPart w3) r3
  have C4 := C3.trans (zac zeroPart w3)
  have lxP := zad x3
  have lyP := zad y3
  have lrP := zad r3
  have p4 := zbx zeroPart w3
  have hlP := C3.size
  clear x3 y3 r3 C3 
  obtain ⟨w4, hw4⟩ : ∃ W, World.onObj (w3.alloc (.cells (partC zeroPart) 51)) w3.heap.size (laidAt 0 (partC zeroPart)) = W := ⟨_, rfl⟩
  first | rw [hw4] at x4 y4 r4 p4 C4 ⊢ | (simp only [zag, zah, zam] at hw4; rw [hw4] at x4 y4 r4 p4 C4 ⊢)
  clear hw4
  obtain ⟨P, hbP⟩ : ∃ b, w3.heap.size = b := ⟨_, rfl⟩
  rw [hbP] at p4 hlP lxP lyP lrP ⊢
  clear hbP
  have nx := nsz x4
  have ny : ¬ X + 1 = w4.heap.size := by have := zad y4; omega
  have nr := nsz r4
  have np := nsz p4
  go_upto_region 6 with (fail)
  clear nx ny nr np
  have x5 := hkeep (zac zeroPart w4) x4
  have y5 := hkeep (zac zeroPart w4) y4
  have r5 := hkeep (zac zeroPart w4) r4
  have p5 := hkeep (zac zeroPart w4) p4
  have C5 := C4.trans (zac zeroPart w4)
  have lxF := zad x4
  have lyF := zad y4
  have lrF := zad r4
  have lpF := zad p4
  have f5 := zbx zeroPart w4
  have hlF := C4.size
  clear x4 y4 r4 p4 C4 
  obtain ⟨w5, hw5⟩ : ∃ W, World.onObj (w4.alloc (.cells (partC zeroPart) 51)) w4.heap.size (laidAt 0 (partC zeroPart)) = W := ⟨_, rfl⟩
  first | rw [hw5] at x5 y5 r5 p5 f5 C5 ⊢ | (simp only [zag, zah, zam] at hw5; rw [hw5] at x5 y5 r5 p5 f5 C5 ⊢)
  clear hw5
  obtain ⟨F, hbF⟩ : ∃ b, w4.heap.size = b := ⟨_, rfl⟩
  rw [hbF] at f5 hlF lxF lyF lrF lpF ⊢
  clear hbF
  go_wp2
  have HR0 := Lib.hid r5
  have HC0 := Lib.hid C5
  clear x5 y5 r5 p5 f5 C5
  go_loopw [74] (fun i wr => ∃ j : Nat, i = .int .i64 j ∧ j ≤ 2 ∧ wr.heap[R]? = some (.cells cur 22 (0, 0)) ∧ Ch [] w wr) (fun i _ => 2 - (intOf i).toNat)
  case atStart => exact ⟨0, rfl, by omega, HR0.out, HC0.out⟩
  case round =>
    obtain ⟨j, hj, hj2, r30, C30⟩ := hrel
    subst hj
    clear HC0 HR0
    obtain ⟨w30, hw30⟩ : ∃ W, wr = W := ⟨_, rfl⟩
    rw [hw30] at C30 r30 ⊢
    clear hw30
    rcases (show j = 2 ∨ j < 2 by omega) with rfl | hlt
    · go_wp2_with fail
      refine (O1 _ C30).mono ?_
      rintro e w31 ⟨R5, c5, cur5, rfl, -, hcur5, o31, hc31⟩
      have r31 := hkeep hc31 r30
      have C31 := C30.trans hc31
      go_wp2_with fail
      refine (E1 R R5 _ _ cur cur5 _ hcur hcur5 r31 o31).mono ?_
      rintro e w32 ⟨rfl, hc32⟩
      go_wp2
      go_ret
      exact ⟨rfl, C31.trans hc32⟩
    · have IX := fun w => index_2p zeroPart s j hlt w
      have hjI : (j : Int) < 2 := by omega
      have hj0 : (0 : Int) ≤ j := by omega
      obtain ⟨pp, hpp⟩ : ∃ x, nthP zeroPart s j = x := ⟨_, rfl⟩
      rw [hpp] at IX
      clear hpp
      have X1 := fun w => r22Right_any pp w
      cases hr : rightS pp with
      | false =>
        rw [hr] at X1
        have nr := nsz r30
        go_upto_region 13 with (fail)
        clear nr
        have r31 := hkeep (zac pp w30) r30
        have C31 := C30.trans (zac pp w30)
        have lrV := zad r30
        have v31 := zbx pp w30
        have hlV := C30.size
        clear r30 C30 
        obtain ⟨w31, hw31⟩ : ∃ W, World.onObj (w30.alloc (.cells (partC zeroPart) 51)) w30.heap.size (laidAt 0 (partC pp)) = W := ⟨_, rfl⟩
        first | rw [hw31] at r31 v31 C31 ⊢ | (simp only [zag, zah, zam] at hw31; rw [hw31] at r31 v31 C31 ⊢)
        clear hw31
        obtain ⟨V, hbV⟩ : ∃ b, w30.heap.size = b := ⟨_, rfl⟩
        rw [hbV] at v31 hlV lrV ⊢
        clear hbV
        clear IX
        go_wp2_with fail
        refine (RB.out _ _ _ hr _).mono ?_
        rintro e w32 ⟨rfl, hc32⟩
        have r32 := hkeep (hc32) r31
        have v32 := hkeep (hc32) v31
        have C32 := C31.trans (hc32)
        clear r31 v31 C31 hc32 RB RS RG RX
        have nr := nsz r32
        have nv := nsz v32
        go_upto_region 14 with (fail)
        clear nr nv
        have r33 := hkeep (zac zeroPart w32) r32
        have v33 := hkeep (zac zeroPart w32) v32
        have C33 := C32.trans (zac zeroPart w32)
        have lrNN := zad r32
        have lvNN := zad v32
        have n33 := zbx zeroPart w32
        have hlNN := C32.size
        clear r32 v32 C32 
        obtain ⟨w33, hw33⟩ : ∃ W, World.onObj (w32.alloc (.cells (partC zeroPart) 51)) w32.heap.size (laidAt 0 (partC zeroPart)) = W := ⟨_, rfl⟩
        first | rw [hw33] at r33 v33 n33 C33 ⊢ | (simp only [zag, zah, zam] at hw33; rw [hw33] at r33 v33 n33 C33 ⊢)
        clear hw33
        obtain ⟨NN, hbNN⟩ : ∃ b, w32.heap.size = b := ⟨_, rfl⟩
        rw [hbNN] at n33 hlNN lrNN lvNN ⊢
        clear hbNN
        have nr := nsz r33
        have nv := nsz v33
        have nn := nsz n33
        go_upto_region 16 with (fail)
        clear nr nv nn
        have r34 := hkeep (zac zeroPart w33) r33
        have v34 := hkeep (zac zeroPart w33) v33
        have n34 := hkeep (zac zeroPart w33) n33
        have C34 := C33.trans (zac zeroPart w33)
        have lrTT := zad r33
        have lvTT := zad v33
        have lnTT := zad n33
        have t34 := zbx zeroPart w33
        have hlTT := C33.size
        clear r33 v33 n33 C33 
        obtain ⟨w34, hw34⟩ : ∃ W, World.onObj (w33.alloc (.cells (partC zeroPart) 51)) w33.heap.size (laidAt 0 (partC zeroPart)) = W := ⟨_, rfl⟩
        first | rw [hw34] at r34 v34 n34 t34 C34 ⊢ | (simp only [zag, zah, zam] at hw34; rw [hw34] at r34 v34 n34 t34 C34 ⊢)
        clear hw34
        obtain ⟨TT, hbTT⟩ : ∃ b, w33.heap.size = b := ⟨_, rfl⟩
        rw [hbTT] at t34 hlTT lrTT lvTT lnTT ⊢
        clear hbTT
        go_wp2_with fail
        refine (P1 _ _ _).mono ?_
        rintro e w' ⟨rfl, rfl⟩
        go_wp2_with fail
        refine (X1 _).mono ?_
        rintro e w35 ⟨rfl, hc35⟩
        have r35 := hkeep (hc35) r34
        have v35 := hkeep (hc35) v34
        have n35 := hkeep (hc35) n34
        have t35 := hkeep (hc35) t34
        have C35 := C34.trans (hc35)
        clear r34 v34 n34 t34 C34 hc35 X1
        go_wp2_with fail
        refine (zdh none none 0 0 _).mono ?_
        rintro e w36 ⟨rfl, hc36⟩
        have r36 := hkeep (hc36) r35
        have v36 := hkeep (hc36) v35
        have n36 := hkeep (hc36) n35
        have t36 := hkeep (hc36) t35
        have C36 := C35.trans (hc36)
        clear r35 v35 n35 t35 C35 hc36 
        go_wp2
        go_roundw
        case rel => exact ⟨j + 1, by go_num, by omega, r36, C36⟩
        case measure => simp [intOf]; omega
      | true =>
        rw [hr] at X1
        have T1 := fun a c w => r22There_any pp hr a m c (by have := HM.out; omega) w
        cases hT : thereB m pp with
        | false =>
          rw [hT] at T1
          have nr := nsz r30
          go_upto_region 13 with (fail)
          clear nr
          have r31 := hkeep (zac pp w30) r30
          have C31 := C30.trans (zac pp w30)
          have lrV := zad r30
          have v31 := zbx pp w30
          have hlV := C30.size
          clear r30 C30 
          obtain ⟨w31, hw31⟩ : ∃ W, World.onObj (w30.alloc (.cells (partC zeroPart) 51)) w30.heap.size (laidAt 0 (partC pp)) = W := ⟨_, rfl⟩
          first | rw [hw31] at r31 v31 C31 ⊢ | (simp only [zag, zah, zam] at hw31; rw [hw31] at r31 v31 C31 ⊢)
          clear hw31
          obtain ⟨V, hbV⟩ : ∃ b, w30.heap.size = b := ⟨_, rfl⟩
          rw [hbV] at v31 hlV lrV ⊢
          clear hbV
          clear IX
          go_wp2_with fail
          refine (RS.out _ _ _ hr hT _).mono ?_
          rintro e w32 ⟨rfl, hc32⟩
          have r32 := hkeep (hc32) r31
          have v32 := hkeep (hc32) v31
          have C32 := C31.trans (hc32)
          clear r31 v31 C31 hc32 RB RS RG RX
          have nr := nsz r32
          have nv := nsz v32
          go_upto_region 14 with (fail)
          clear nr nv
          have r33 := hkeep (zac zeroPart w32) r32
          have v33 := hkeep (zac zeroPart w32) v32
          have C33 := C32.trans (zac zeroPart w32)
          have lrNN := zad r32
          have lvNN := zad v32
          have n33 := zbx zeroPart w32
          have hlNN := C32.size
          clear r32 v32 C32 
          obtain ⟨w33, hw33⟩ : ∃ W, World.onObj (w32.alloc (.cells (partC zeroPart) 51)) w32.heap.size (laidAt 0 (partC zeroPart)) = W := ⟨_, rfl⟩
          first | rw [hw33] at r33 v33 n33 C33 ⊢ | (simp only [zag, zah, zam] at hw33; rw [hw33] at r33 v33 n33 C33 ⊢)
          clear hw33
          obtain ⟨NN, hbNN⟩ : ∃ b, w32.heap.size = b := ⟨_, rfl⟩
          rw [hbNN] at n33 hlNN lrNN lvNN ⊢
          clear hbNN
          have nr := nsz r33
          have nv := nsz v33
          have nn := nsz n33
          go_upto_region 16 with (fail)
          clear nr nv nn
          have r34 := hkeep (zac zeroPart w33) r33
          have v34 := hkeep (zac zeroPart w33) v33
          have n34 := hkeep (zac zeroPart w33) n33
          have C34 := C33.trans (zac zeroPart w33)
          have lrTT := zad r33
          have lvTT := zad v33
          have lnTT := zad n33
          have t34 := zbx zeroPart w33
          have hlTT := C33.size
          clear r33 v33 n33 C33 
          obtain ⟨w34, hw34⟩ : ∃ W, World.onObj (w33.alloc (.cells (partC zeroPart) 51)) w33.heap.size (laidAt 0 (partC zeroPart)) = W := ⟨_, rfl⟩
          first | rw [hw34] at r34 v34 n34 t34 C34 ⊢ | (simp only [zag, zah, zam] at hw34; rw [hw34] at r34 v34 n34 t34 C34 ⊢)
          clear hw34
          obtain ⟨TT, hbTT⟩ : ∃ b, w33.heap.size = b := ⟨_, rfl⟩
          rw [hbTT] at t34 hlTT lrTT lvTT lnTT ⊢
          clear hbTT
          go_wp2_with fail
          refine (P1 _ _ _).mono ?_
          rintro e w' ⟨rfl, rfl⟩
          go_wp2_with fail
          refine (X1 _).mono ?_
          rintro e w35 ⟨rfl, hc35⟩
          have r35 := hkeep (hc35) r34
          have v35 := hkeep (hc35) v34
          have n35 := hkeep (hc35) n34
          have t35 := hkeep (hc35) t34
          have C35 := C34.trans (hc35)
          clear r34 v34 n34 t34 C34 hc35 X1
          go_wp2_with fail
          refine (T1 _ _ _).mono ?_
          rintro e w36 ⟨rfl, hc36⟩
          have r36 := hkeep (hc36) r35
          have v36 := hkeep (hc36) v35
          have n36 := hkeep (hc36) n35
          have t36 := hkeep (hc36) t35
          have C36 := C35.trans (hc36)
          clear r35 v35 n35 t35 C35 hc36 T1
          go_wp2_with fail
          refine (zdh none none 0 0 _).mono ?_
          rintro e w37 ⟨rfl, hc37⟩
          have r37 := hkeep (hc37) r36
          have v37 := hkeep (hc37) v36
          have n37 := hkeep (hc37) n36
          have t37 := hkeep (hc37) t36
          have C37 := C36.trans (hc37)
          clear r36 v36 n36 t36 C36 hc37 
          go_wp2
          go_roundw
          case rel => exact ⟨j + 1, by go_num, by omega, r37, C37⟩
          case measure => simp [intOf]; omega
        | true =>
          rw [hT] at T1
          obtain ⟨k, l', p', hk117, hrun, hl'⟩ := RX.out pp hr hT
          have R2 := fun g c cur w hb hw => RG.out l' g c cur pp p' k w hb hw hr ((thereB_iff _ _).1 (by rw [HLEN.out]; exact hT)) hrun (by omega)
          have V1 := fun v w hv => r22Run_any v m LL l' pp p' k (by have := HM.out; omega) hrun (by omega) w hv
          have E2 := fun R R2 c c2 cur cur2 w hw1 hw2 hb1 hb2 => eq_rows22 (by have := HM.out; omega) hl' R R2 c c2 cur cur2 hw1 hw2 w hb1 hb2
          clear hrun RB RS RG RX hr hT
          have nr := nsz r30
          go_upto_region 13 with (fail)
          clear nr
          have r31 := hkeep (zac pp w30) r30
          have C31 := C30.trans (zac pp w30)
          have lrV := zad r30
          have v31 := zbx pp w30
          have hlV := C30.size
          clear r30 C30 
          obtain ⟨w31, hw31⟩ : ∃ W, World.onObj (w30.alloc (.cells (partC zeroPart) 51)) w30.heap.size (laidAt 0 (partC pp)) = W := ⟨_, rfl⟩
          first | rw [hw31] at r31 v31 C31 ⊢ | (simp only [zag, zah, zam] at hw31; rw [hw31] at r31 v31 C31 ⊢)
          clear hw31
          obtain ⟨V, hbV⟩ : ∃ b, w30.heap.size = b := ⟨_, rfl⟩
          rw [hbV] at v31 hlV lrV ⊢
          clear hbV
          clear IX
          go_wp2_with fail
          rw [← HLEN.out]
          refine (R2 R _ cur _ r31 hcur).mono ?_
          rintro e w32 ⟨Q, rfl, -, q32, hc32⟩
          have r32 := hkeep (hc32) r31
          have v32 := hkeep (hc32) v31
          have C32 := C31.trans (hc32)
          clear r31 v31 C31 hc32 R2
          rw [HLEN.out]
          have nr := nsz r32
          have nv := nsz v32
          have nq := nsz q32
          go_upto_region 14 with (fail)
          clear nr nv nq
          have r33 := hkeep (zac p' w32) r32
          have v33 := hkeep (zac p' w32) v32
          have q33 := hkeep (zac p' w32) q32
          have C33 := C32.trans (zac p' w32)
          have lrNN := zad r32
          have lvNN := zad v32
          have lqNN := zad q32
          have n33 := zbx p' w32
          have hlNN := C32.size
          clear r32 v32 q32 C32 
          obtain ⟨w33, hw33⟩ : ∃ W, World.onObj (w32.alloc (.cells (partC zeroPart) 51)) w32.heap.size (laidAt 0 (partC p')) = W := ⟨_, rfl⟩
          first | rw [hw33] at r33 v33 q33 n33 C33 ⊢ | (simp only [zag, zah, zam] at hw33; rw [hw33] at r33 v33 q33 n33 C33 ⊢)
          clear hw33
          obtain ⟨NN, hbNN⟩ : ∃ b, w32.heap.size = b := ⟨_, rfl⟩
          rw [hbNN] at n33 hlNN lrNN lvNN lqNN ⊢
          clear hbNN
          have nr := nsz r33
          have nv := nsz v33
          have nq := nsz q33
          have nn := nsz n33
          go_upto_region 16 with (fail)
          clear nr nv nq nn
          have r34 := hkeep (zac zeroPart w33) r33
          have v34 := hkeep (zac zeroPart w33) v33
          have q34 := hkeep (zac zeroPart w33) q33
          have n34 := hkeep (zac zeroPart w33) n33
          have C34 := C33.trans (zac zeroPart w33)
          have lrTT := zad r33
          have lvTT := zad v33
          have lqTT := zad q33
          have lnTT := zad n33
          have t34 := zbx zeroPart w33
          have hlTT := C33.size
          clear r33 v33 q33 n33 C33 
          obtain ⟨w34, hw34⟩ : ∃ W, World.onObj (w33.alloc (.cells (partC zeroPart) 51)) w33.heap.size (laidAt 0 (partC zeroPart)) = W := ⟨_, rfl⟩
          first | rw [hw34] at r34 v34 q34 n34 t34 C34 ⊢ | (simp only [zag, zah, zam] at hw34; rw [hw34] at r34 v34 q34 n34 t34 C34 ⊢)
          clear hw34
          obtain ⟨TT, hbTT⟩ : ∃ b, w33.heap.size = b := ⟨_, rfl⟩
          rw [hbTT] at t34 hlTT lrTT lvTT lqTT lnTT ⊢
          clear hbTT
          go_wp2_with fail
          refine (P1 _ _ _).mono ?_
          rintro e w' ⟨rfl, rfl⟩
          go_wp2_with fail
          refine (X1 _).mono ?_
          rintro e w35 ⟨rfl, hc35⟩
          have r35 := hkeep (hc35) r34
          have v35 := hkeep (hc35) v34
          have q35 := hkeep (hc35) q34
          have n35 := hkeep (hc35) n34
          have t35 := hkeep (hc35) t34
          have C35 := C34.trans (hc35)
          clear r34 v34 q34 n34 t34 C34 hc35 X1
          go_wp2_with fail
          refine (T1 _ _ _).mono ?_
          rintro e w36 ⟨rfl, hc36⟩
          have r36 := hkeep (hc36) r35
          have v36 := hkeep (hc36) v35
          have q36 := hkeep (hc36) q35
          have n36 := hkeep (hc36) n35
          have t36 := hkeep (hc36) t35
          have C36 := C35.trans (hc36)
          clear r35 v35 q35 n35 t35 C35 hc36 T1
          go_upto_region 21 with (fail)
          have r37 : w36.drew.heap[R]? = _ := r36
          have q37 : w36.drew.heap[Q]? = _ := q36
          have n37 : w36.drew.heap[NN]? = _ := n36
          have t37 : w36.drew.heap[TT]? = _ := t36
          have sP : (fun W' : World => W'.heap[V]? = some (.cells (partC pp) 51 (0, 0))) w36.drew := v36
          have C37 : Ch [] w w36.drew := C36.drew
          clear r36 v36 q36 n36 t36 C36 
          refine wp_region_held_drew (S := fun W' => W'.heap[V]? = some (.cells (partC pp) 51 (0, 0))) (by kernel_rfl) sP ?_
          intro _
          simp only [List.size_toArray, List.length_cons, List.length_nil, Nat.reduceAdd]
          obtain ⟨w37, hw37⟩ : ∃ W, w36.drew = W := ⟨_, rfl⟩
          rw [hw37] at r37 q37 n37 t37 C37 sP ⊢
          clear hw37
          refine tk 0 99 ?_ rfl sP ?_ ?_; rotate_left
          · intro _ _; go_simp; try with_reducible rfl
          try go_frame
          refine tk 2 101 ?_ rfl sP ?_ ?_; rotate_left
          · intro _ _; go_simp; try with_reducible rfl
          try go_frame
          refine rd (o := ⟨some 100, _, _, _, _, none⟩) 1 rfl (fun K hK => ?_); go_simp
          refine (O1 _ C37).mono ?_
          rintro e w38 ⟨R2, c3, cur2, rfl, -, hcur2, o38, hc38⟩
          have r38 := hkeep (hc38) r37
          have q38 := hkeep (hc38) q37
          have n38 := hkeep (hc38) n37
          have t38 := hkeep (hc38) t37
          have C38 := C37.trans (hc38)
          have hcx := hc38
          clear r37 q37 n37 t37 C37 hc38 
          have sPx : (fun W' : World => W'.heap[V]? = some (.cells (partC pp) 51 (0, 0))) w38 := hkeep hcx sP
          clear sP
          have sP := sPx
          clear sPx hcx
          refine hK.out _ _ sP (fun _ => ?_)
          clear hK K
          refine rd (o := ⟨some 102, _, _, _, _, none⟩) 3 rfl (fun K hK => ?_); go_simp
          refine (V1 _ _ ⟨R2, c3, cur2, rfl, HLEN.out, o38, hcur2⟩).mono ?_
          rintro e w39 ⟨v5, rfl, hv5, hc39⟩
          have r39 := hkeep (hc39) r38
          have q39 := hkeep (hc39) q38
          have n39 := hkeep (hc39) n38
          have t39 := hkeep (hc39) t38
          have o39 := hkeep (hc39) o38
          have C39 := C38.trans (hc39)
          have hcx := hc39
          clear r38 q38 n38 t38 o38 C38 hc39 V1
          obtain ⟨R3, c4, cur3, rfl, -, u39, hcur3⟩ := hv5
          clear o39 hcur2
          have sPx : (fun W' : World => W'.heap[V]? = some (.cells (partC pp) 51 (0, 0))) w39 := hkeep hcx sP
          clear sP
          have sP := sPx
          clear sPx hcx
          refine hK.out _ _ sP (fun _ => ?_)
          clear hK K
          refine tk 4 98 ?_ rfl sP ?_ ?_; rotate_left
          · intro _ _; go_simp; try with_reducible rfl
          try go_frame
          refine tk 5 103 ?_ rfl sP ?_ ?_; rotate_left
          · intro _ _; go_simp; try with_reducible rfl
          try go_frame
          refine tk 6 104 ?_ rfl sP ?_ ?_; rotate_left
          · intro _ _; go_simp; try with_reducible rfl
          try go_frame
          refine tk 7 105 ?_ rfl sP ?_ ?_; rotate_left
          · intro _ _; go_simp; try with_reducible rfl
          try go_frame
          refine tk 8 18 ?_ rfl sP ?_ ?_; rotate_left
          · intro _ _; go_simp; try with_reducible rfl
          try go_frame
          refine rd 9 rfl (fun K hK => ?_); go_simp
          have r40 : (World.onObj w39 TT (laidAt 0 (partC p'))).heap[R]? = _ := (zan (w := w39) (F := TT) (laidAt 0 (partC p')) (zcq r39 t39 (by decide))).trans r39
          have q40 : (World.onObj w39 TT (laidAt 0 (partC p'))).heap[Q]? = _ := (zan (w := w39) (F := TT) (laidAt 0 (partC p')) (zcq q39 t39 (by decide))).trans q39
          have n40 : (World.onObj w39 TT (laidAt 0 (partC p'))).heap[NN]? = _ := (zan (w := w39) (F := TT) (laidAt 0 (partC p')) (by omega)).trans n39
          have t40 : (World.onObj w39 TT (laidAt 0 (partC p'))).heap[TT]? = some (.cells (partC p') 51 (0, 0)) := by rw [zab, if_pos rfl, t39, Option.map_some, zag]
          have u40 : (World.onObj w39 TT (laidAt 0 (partC p'))).heap[R3]? = _ := (zan (w := w39) (F := TT) (laidAt 0 (partC p')) (zcq u39 t39 (by decide))).trans u39
          have sPx : (fun W' : World => W'.heap[V]? = some (.cells (partC pp) 51 (0, 0))) (World.onObj w39 TT (laidAt 0 (partC p'))) := (zan (w := w39) (F := TT) (laidAt 0 (partC p')) (by omega)).trans sP
          have C40 : Ch [] w (World.onObj w39 TT (laidAt 0 (partC p'))) := C39.onObj (.inr hlTT) _
          clear r39 q39 n39 t39 u39 C39 
          refine hK.out _ _ sPx (fun _ => ?_)
          clear hK K sP
          obtain ⟨w40, hw40⟩ : ∃ W, (World.onObj w39 TT (laidAt 0 (partC p'))) = W := ⟨_, rfl⟩
          rw [hw40] at r40 q40 n40 t40 u40 C40 sPx ⊢
          clear hw40
          refine tk 10 20 ?_ rfl sPx ?_ ?_; rotate_left
          · intro _ _; go_simp; try with_reducible rfl
          try go_frame
          refine wpAnyH_done (by kernel_rfl) ?_ _
          go_wp2_with fail
          refine (E2 Q R3 _ _ _ cur3 _ (wcells_at l') hcur3 q40 u40).mono ?_
          rintro e w41 ⟨rfl, hc41⟩
          have r41 := hkeep (hc41) r40
          have q41 := hkeep (hc41) q40
          have n41 := hkeep (hc41) n40
          have t41 := hkeep (hc41) t40
          have u41 := hkeep (hc41) u40
          have C41 := C40.trans (hc41)
          clear r40 q40 n40 t40 u40 C40 hc41 E2
          go_wp2
          go_roundw
          case rel => exact ⟨j + 1, by go_num, by omega, r41, C41⟩
          case measure => simp [intOf]; omega
theorem runs22_s2 (a : Option Addr) (n0 c0 : Nat) (ks : Nat → BitVec 64) (wh sl a0 b0 : Int) (sd : BitVec 64) (s : PartT) (w : World) (hn : n0 ≤ c0) (hc : c0 ≤ 9223372036854775807) (ha : a = none → n0 = 0 ∧ c0 = 0) (hk : KeysIn w a n0 ks) (m : Nat) (hm : min n0 180 = m) (h1 : 1 ≤ m) (w0 : 0 ≤ wh) (hw : ¬ wh < 8) :
    Calls Tryz.prog 4 #[.slice a n0 c0, .agg #[I wh, I sl, I a0, I b0, U sd], .agg (partC s)] w fun e w' => e = .returned (.bool true) ∧ Ch [] w w' := by
  have W1 := fun w => wakes22_any w
  have B1 := fun w => s22Begin_any wh sl a0 b0 sd w
  rw [begin22_no (.inr (.inl (by omega)))] at B1
  simp only [tupOr] at B1
  have O1 := fun w' (c : Ch [] w w') => own22_row a n0 c0 ks w' hn hc ha (hk.ch c (Nat.le_refl _)) m hm h1
  have hm180 : m ≤ 180 := by omega
  have hmr : (decide (1 ≤ m) && decide (m ≤ 8192)) = true := by rw [decide_eq_true h1, decide_eq_true (show m ≤ 8192 by omega)]; rfl
  have P1 := fun a c w => r02Right_any a m c w
  rw [hmr] at P1
  obtain ⟨LL, hLL⟩ : ∃ L, frontW ks m = L := ⟨_, rfl⟩
  have hlen : LL.length = m := by rw [← hLL, frontW_len]
  rw [hLL] at O1
  have E1 := fun R R2 c c2 cur cur2 w hw1 hw2 hb1 hb2 => eq_rows22 (by omega) hlen R R2 c c2 cur cur2 hw1 hw2 w hb1 hb2
  have RB := Lib.hid (fun a c p (h : rightS p = false) w => s22Run_bad a m c p hmr h w)
  have RS := Lib.hid (fun a c p (h : rightS p = true) (hT : thereB m p = false) w => s22Run_short (a := a) (c := c) h1 (by omega) h hT w)
  have RG := Lib.hid (fun l' g c cur p p' k w hb hw hr hT hrun hk => s22Run_go LL l' g c cur p p' k w (by omega) (by omega) hb hw hr hT hrun hk)
  have RX := Lib.hid (fun p (hr : rightS p = true) (hT : thereB m p = true) => run22_exists (l := LL) hlen hr hT)
  have HM := Lib.hid hm180
  have HLEN := Lib.hid hlen
  clear hLL hlen hmr hm180
  clear hn hc ha hk hm 
  obtain ⟨w0_, hw0, C0, x0, y0⟩ := by_world wh sl a0 b0 sd s w
  go_enter Tryz.func4, Tryz.ntmps4
  go_upto_region 1 with (fail)
  try rw [hw0]
  clear hw0
  obtain ⟨w0a, hw0a⟩ : ∃ W, w0_ = W := ⟨_, rfl⟩
  rw [hw0a] at C0 x0 y0 ⊢
  clear hw0a
  obtain ⟨X, hX⟩ : ∃ b, w.heap.size = b := ⟨_, rfl⟩
  rw [hX] at x0 y0 ⊢
  have hlX : w.heap.size ≤ X := by omega
  clear hX
  go_wp2_with fail
  refine (W1 _).mono ?_
  rintro e w1 ⟨rfl, hc1⟩
  have x1 := hkeep (hc1) x0
  have y1 := hkeep (hc1) y0
  have C1 := C0.trans (hc1)
  clear x0 y0 C0 hc1 
  go_wp2_with fail
  refine (O1 _ C1).mono ?_
  rintro e w2 ⟨R, c2, cur, rfl, -, hcur, r2, hc2⟩
  have x2 := hkeep (hc2) x1
  have y2 := hkeep (hc2) y1
  have C2 := C1.trans (hc2)
  clear x1 y1 C1 hc2 
  go_wp2_with fail
  refine (B1 _).mono ?_
  rintro e w3 ⟨rfl, hc3⟩
  have x3 := hkeep (hc3) x2
  have y3 := hkeep (hc3) y2
  have r3 := hkeep (hc3) r2
  have C3 := C2.trans (hc3)
  clear x2 y2 r2 C2 hc3 
  have nx := nsz x3
  have ny : ¬ X + 1 = w3.heap.size := by have := zad y3; omega
  have nr := nsz r3
  go_upto_region 5 with (fail)
  clear nx ny nr
  have x4 := hkeep (zac zeroPart w3) x3
  have y4 := hkeep (zac zeroPart w3) y3
  have r4 := hkeep (zac zeroPart w3) r3
  have C4 := C3.trans (zac zeroPart w3)
  have lxP := zad x3
  have lyP := zad y3
  have lrP := zad r3
  have p4 := zbx zeroPart w3
  have hlP := C3.size
  clear x3 y3 r3 C3 
  obtain ⟨w4, hw4⟩ : ∃ W, World.onObj (w3.alloc (.cells (partC zeroPart) 51)) w3.heap.size (laidAt 0 (partC zeroPart)) = W := ⟨_, rfl⟩
  first | rw [hw4] at x4 y4 r4 p4 C4 ⊢ | (simp only [zag, zah, zam] at hw4; rw [hw4] at x4 y4 r4 p4 C4 ⊢)
  clear hw4
  obtain ⟨P, hbP⟩ : ∃ b, w3.heap.size = b := ⟨_, rfl⟩
  rw [hbP] at p4 hlP lxP lyP lrP ⊢
  clear hbP
  have nx := nsz x4
  have ny : ¬ X + 1 = w4.heap.size := by have := zad y4; omega
  have nr := nsz r4
  have np := nsz p4
  go_upto_region 6 with (fail)
  clear nx ny nr np
  have x5 := hkeep (zac zeroPart w4) x4
  have y5 := hkeep (zac zeroPart w4) y4
  have r5 := hkeep (zac zeroPart w4) r4
  have p5 := hkeep (zac zeroPart w4) p4
  have C5 := C4.trans (zac zeroPart w4)
  have lxF := zad x4
  have lyF := zad y4
  have lrF := zad r4
  have lpF := zad p4
  have f5 := zbx zeroPart w4
  have hlF := C4.size
  clear x4 y4 r4 p4 C4 
  obtain ⟨w5, hw5⟩ : ∃ W, World.onObj (w4.alloc (.cells (partC zeroPart) 51)) w4.heap.size (laidAt 0 (partC zeroPart)) = W := ⟨_, rfl⟩
  first | rw [hw5] at x5 y5 r5 p5 f5 C5 ⊢ | (simp only [zag, zah, zam] at hw5; rw [hw5] at x5 y5 r5 p5 f5 C5 ⊢)
  clear hw5
  obtain ⟨F, hbF⟩ : ∃ b, w4.heap.size = b := ⟨_, rfl⟩
  rw [hbF] at f5 hlF lxF lyF lrF lpF ⊢
  clear hbF
  go_wp2
  have HR0 := Lib.hid r5
  have HC0 := Lib.hid C5
  clear x5 y5 r5 p5 f5 C5
  go_loopw [74] (fun i wr => ∃ j : Nat, i = .int .i64 j ∧ j ≤ 2 ∧ wr.heap[R]? = some (.cells cur 22 (0, 0)) ∧ Ch [] w wr) (fun i _ => 2 - (intOf i).toNat)
  case atStart => exact ⟨0, rfl, by omega, HR0.out, HC0.out⟩
  case round =>
    obtain ⟨j, hj, hj2, r30, C30⟩ := hrel
    subst hj
    clear HC0 HR0
    obtain ⟨w30, hw30⟩ : ∃ W, wr = W := ⟨_, rfl⟩
    rw [hw30] at C30 r30 ⊢
    clear hw30
    rcases (show j = 2 ∨ j < 2 by omega) with rfl | hlt
    · go_wp2_with fail
      refine (O1 _ C30).mono ?_
      rintro e w31 ⟨R5, c5, cur5, rfl, -, hcur5, o31, hc31⟩
      have r31 := hkeep hc31 r30
      have C31 := C30.trans hc31
      go_wp2_with fail
      refine (E1 R R5 _ _ cur cur5 _ hcur hcur5 r31 o31).mono ?_
      rintro e w32 ⟨rfl, hc32⟩
      go_wp2
      go_ret
      exact ⟨rfl, C31.trans hc32⟩
    · have IX := fun w => index_2p zeroPart s j hlt w
      have hjI : (j : Int) < 2 := by omega
      have hj0 : (0 : Int) ≤ j := by omega
      obtain ⟨pp, hpp⟩ : ∃ x, nthP zeroPart s j = x := ⟨_, rfl⟩
      rw [hpp] at IX
      clear hpp
      have X1 := fun w => r22Right_any pp w
      cases hr : rightS pp with
      | false =>
        rw [hr] at X1
        have nr := nsz r30
        go_upto_region 13 with (fail)
        clear nr
        have r31 := hkeep (zac pp w30) r30
        have C31 := C30.trans (zac pp w30)
        have lrV := zad r30
        have v31 := zbx pp w30
        have hlV := C30.size
        clear r30 C30 
        obtain ⟨w31, hw31⟩ : ∃ W, World.onObj (w30.alloc (.cells (partC zeroPart) 51)) w30.heap.size (laidAt 0 (partC pp)) = W := ⟨_, rfl⟩
        first | rw [hw31] at r31 v31 C31 ⊢ | (simp only [zag, zah, zam] at hw31; rw [hw31] at r31 v31 C31 ⊢)
        clear hw31
        obtain ⟨V, hbV⟩ : ∃ b, w30.heap.size = b := ⟨_, rfl⟩
        rw [hbV] at v31 hlV lrV ⊢
        clear hbV
        clear IX
        go_wp2_with fail
        refine (RB.out _ _ _ hr _).mono ?_
        rintro e w32 ⟨rfl, hc32⟩
        have r32 := hkeep (hc32) r31
        have v32 := hkeep (hc32) v31
        have C32 := C31.trans (hc32)
        clear r31 v31 C31 hc32 RB RS RG RX
        have nr := nsz r32
        have nv := nsz v32
        go_upto_region 14 with (fail)
        clear nr nv
        have r33 := hkeep (zac zeroPart w32) r32
        have v33 := hkeep (zac zeroPart w32) v32
        have C33 := C32.trans (zac zeroPart w32)
        have lrNN := zad r32
        have lvNN := zad v32
        have n33 := zbx zeroPart w32
        have hlNN := C32.size
        clear r32 v32 C32 
        obtain ⟨w33, hw33⟩ : ∃ W, World.onObj (w32.alloc (.cells (partC zeroPart) 51)) w32.heap.size (laidAt 0 (partC zeroPart)) = W := ⟨_, rfl⟩
        first | rw [hw33] at r33 v33 n33 C33 ⊢ | (simp only [zag, zah, zam] at hw33; rw [hw33] at r33 v33 n33 C33 ⊢)
        clear hw33
        obtain ⟨NN, hbNN⟩ : ∃ b, w32.heap.size = b := ⟨_, rfl⟩
        rw [hbNN] at n33 hlNN lrNN lvNN ⊢
        clear hbNN
        have nr := nsz r33
        have nv := nsz v33
        have nn := nsz n33
        go_upto_region 16 with (fail)
        clear nr nv nn
        have r34 := hkeep (zac zeroPart w33) r33
        have v34 := hkeep (zac zeroPart w33) v33
        have n34 := hkeep (zac zeroPart w33) n33
        have C34 := C33.trans (zac zeroPart w33)
        have lrTT := zad r33
        have lvTT := zad v33
        have lnTT := zad n33
        have t34 := zbx zeroPart w33
        have hlTT := C33.size
        clear r33 v33 n33 C33 
        obtain ⟨w34, hw34⟩ : ∃ W, World.onObj (w33.alloc (.cells (partC zeroPart) 51)) w33.heap.size (laidAt 0 (partC zeroPart)) = W := ⟨_, rfl⟩
        first | rw [hw34] at r34 v34 n34 t34 C34 ⊢ | (simp only [zag, zah, zam] at hw34; rw [hw34] at r34 v34 n34 t34 C34 ⊢)
        clear hw34
        obtain ⟨TT, hbTT⟩ : ∃ b, w33.heap.size = b := ⟨_, rfl⟩
        rw [hbTT] at t34 hlTT lrTT lvTT lnTT ⊢
        clear hbTT
        go_wp2_with fail
        refine (P1 _ _ _).mono ?_
        rintro e w' ⟨rfl, rfl⟩
        go_wp2_with fail
        refine (X1 _).mono ?_
        rintro e w35 ⟨rfl, hc35⟩
        have r35 := hkeep (hc35) r34
        have v35 := hkeep (hc35) v34
        have n35 := hkeep (hc35) n34
        have t35 := hkeep (hc35) t34
        have C35 := C34.trans (hc35)
        clear r34 v34 n34 t34 C34 hc35 X1
        go_wp2_with fail
        refine (zdh none none 0 0 _).mono ?_
        rintro e w36 ⟨rfl, hc36⟩
        have r36 := hkeep (hc36) r35
        have v36 := hkeep (hc36) v35
        have n36 := hkeep (hc36) n35
        have t36 := hkeep (hc36) t35
        have C36 := C35.trans (hc36)
        clear r35 v35 n35 t35 C35 hc36 
        go_wp2
        go_roundw
        case rel => exact ⟨j + 1, by go_num, by omega, r36, C36⟩
        case measure => simp [intOf]; omega
      | true =>
        rw [hr] at X1
        have T1 := fun a c w => r22There_any pp hr a m c (by have := HM.out; omega) w
        cases hT : thereB m pp with
        | false =>
          rw [hT] at T1
          have nr := nsz r30
          go_upto_region 13 with (fail)
          clear nr
          have r31 := hkeep (zac pp w30) r30
          have C31 := C30.trans (zac pp w30)
          have lrV := zad r30
          have v31 := zbx pp w30
          have hlV := C30.size
          clear r30 C30 
          obtain ⟨w31, hw31⟩ : ∃ W, World.onObj (w30.alloc (.cells (partC zeroPart) 51)) w30.heap.size (laidAt 0 (partC pp)) = W := ⟨_, rfl⟩
          first | rw [hw31] at r31 v31 C31 ⊢ | (simp only [zag, zah, zam] at hw31; rw [hw31] at r31 v31 C31 ⊢)
          clear hw31
          obtain ⟨V, hbV⟩ : ∃ b, w30.heap.size = b := ⟨_, rfl⟩
          rw [hbV] at v31 hlV lrV ⊢
          clear hbV
          clear IX
          go_wp2_with fail
          refine (RS.out _ _ _ hr hT _).mono ?_
          rintro e w32 ⟨rfl, hc32⟩
          have r32 := hkeep (hc32) r31
          have v32 := hkeep (hc32) v31
          have C32 := C31.trans (hc32)
          clear r31 v31 C31 hc32 RB RS RG RX
          have nr := nsz r32
          have nv := nsz v32
          go_upto_region 14 with (fail)
          clear nr nv
          have r33 := hkeep (zac zeroPart w32) r32
          have v33 := hkeep (zac zeroPart w32) v32
          have C33 := C32.trans (zac zeroPart w32)
          have lrNN := zad r32
          have lvNN := zad v32
          have n33 := zbx zeroPart w32
          have hlNN := C32.size
          clear r32 v32 C32 
          obtain ⟨w33, hw33⟩ : ∃ W, World.onObj (w32.alloc (.cells (partC zeroPart) 51)) w32.heap.size (laidAt 0 (partC zeroPart)) = W := ⟨_, rfl⟩
          first | rw [hw33] at r33 v33 n33 C33 ⊢ | (simp only [zag, zah, zam] at hw33; rw [hw33] at r33 v33 n33 C33 ⊢)
          clear hw33
          obtain ⟨NN, hbNN⟩ : ∃ b, w32.heap.size = b := ⟨_, rfl⟩
          rw [hbNN] at n33 hlNN lrNN lvNN ⊢
          clear hbNN
          have nr := nsz r33
          have nv := nsz v33
          have nn := nsz n33
          go_upto_region 16 with (fail)
          clear nr nv nn
          have r34 := hkeep (zac zeroPart w33) r33
          have v34 := hkeep (zac zeroPart w33) v33
          have n34 := hkeep (zac zeroPart w33) n33
          have C34 := C33.trans (zac zeroPart w33)
          have lrTT := zad r33
          have lvTT := zad v33
          have lnTT := zad n33
          have t34 := zbx zeroPart w33
          have hlTT := C33.size
          clear r33 v33 n33 C33 
          obtain ⟨w34, hw34⟩ : ∃ W, World.onObj (w33.alloc (.cells (partC zeroPart) 51)) w33.heap.size (laidAt 0 (partC zeroPart)) = W := ⟨_, rfl⟩
          first | rw [hw34] at r34 v34 n34 t34 C34 ⊢ | (simp only [zag, zah, zam] at hw34; rw [hw34] at r34 v34 n34 t34 C34 ⊢)
          clear hw34
          obtain ⟨TT, hbTT⟩ : ∃ b, w33.heap.size = b := ⟨_, rfl⟩
          rw [hbTT] at t34 hlTT lrTT lvTT lnTT ⊢
          clear hbTT
          go_wp2_with fail
          refine (P1 _ _ _).mono ?_
          rintro e w' ⟨rfl, rfl⟩
          go_wp2_with fail
          refine (X1 _).mono ?_
          rintro e w35 ⟨rfl, hc35⟩
          have r35 := hkeep (hc35) r34
          have v35 := hkeep (hc35) v34
          have n35 := hkeep (hc35) n34
          have t35 := hkeep (hc35) t34
          have C35 := C34.trans (hc35)
          clear r34 v34 n34 t34 C34 hc35 X1
          go_wp2_with fail
          refine (T1 _ _ _).mono ?_
          rintro e w36 ⟨rfl, hc36⟩
          have r36 := hkeep (hc36) r35
          have v36 := hkeep (hc36) v35
          have n36 := hkeep (hc36) n35
          have t36 := hkeep (hc36) t35
          have C36 := C35.trans (hc36)
          clear r35 v35 n35 t35 C35 hc36 T1
          go_wp2_with fail
          refine (zdh none none 0 0 _).mono ?_
          rintro e w37 ⟨rfl, hc37⟩
          have r37 := hkeep (hc37) r36
          have v37 := hkeep (hc37) v36
          have n37 := hkeep (hc37) n36
          have t37 := hkeep (hc37) t36
          have C37 := C36.trans (hc37)
          clear r36 v36 n36 t36 C36 hc37 
          go_wp2
          go_roundw
          case rel => exact ⟨j + 1, by go_num, by omega, r37, C37⟩
          case measure => simp [intOf]; omega
        | true =>
          rw [hT] at T1
          obtain ⟨k, l', p', hk117, hrun, hl'⟩ := RX.out pp hr hT
          have R2 := fun g c cur w hb hw => RG.out l' g c cur pp p' k w hb hw hr ((thereB_iff _ _).1 (by rw [HLEN.out]; exact hT)) hrun (by omega)
          have V1 := fun v w hv => r22Run_any v m LL l' pp p' k (by have := HM.out; omega) hrun (by omega) w hv
          have E2 := fun R R2 c c2 cur cur2 w hw1 hw2 hb1 hb2 => eq_rows22 (by have := HM.out; omega) hl' R R2 c c2 cur cur2 hw1 hw2 w hb1 hb2
          clear hrun RB RS RG RX hr hT
          have nr := nsz r30
          go_upto_region 13 with (fail)
          clear nr
          have r31 := hkeep (zac pp w30) r30
          have C31 := C30.trans (zac pp w30)
          have lrV := zad r30
          have v31 := zbx pp w30
          have hlV := C30.size
          clear r30 C30 
          obtain ⟨w31, hw31⟩ : ∃ W, World.onObj (w30.alloc (.cells (partC zeroPart) 51)) w30.heap.size (laidAt 0 (partC pp)) = W := ⟨_, rfl⟩
          first | rw [hw31] at r31 v31 C31 ⊢ | (simp only [zag, zah, zam] at hw31; rw [hw31] at r31 v31 C31 ⊢)
          clear hw31
          obtain ⟨V, hbV⟩ : ∃ b, w30.heap.size = b := ⟨_, rfl⟩
          rw [hbV] at v31 hlV lrV ⊢
          clear hbV
          clear IX
          go_wp2_with fail
          rw [← HLEN.out]
          refine (R2 R _ cur _ r31 hcur).mono ?_
          rintro e w32 ⟨Q, rfl, -, q32, hc32⟩
          have r32 := hkeep (hc32) r31
          have v32 := hkeep (hc32) v31
          have C32 := C31.trans (hc32)
          clear r31 v31 C31 hc32 R2
          rw [HLEN.out]
          have nr := nsz r32
          have nv := nsz v32
          have nq := nsz q32
          go_upto_region 14 with (fail)
          clear nr nv nq
          have r33 := hkeep (zac p' w32) r32
          have v33 := hkeep (zac p' w32) v32
          have q33 := hkeep (zac p' w32) q32
          have C33 := C32.trans (zac p' w32)
          have lrNN := zad r32
          have lvNN := zad v32
          have lqNN := zad q32
          have n33 := zbx p' w32
          have hlNN := C32.size
          clear r32 v32 q32 C32 
          obtain ⟨w33, hw33⟩ : ∃ W, World.onObj (w32.alloc (.cells (partC zeroPart) 51)) w32.heap.size (laidAt 0 (partC p')) = W := ⟨_, rfl⟩
          first | rw [hw33] at r33 v33 q33 n33 C33 ⊢ | (simp only [zag, zah, zam] at hw33; rw [hw33] at r33 v33 q33 n33 C33 ⊢)
          clear hw33
          obtain ⟨NN, hbNN⟩ : ∃ b, w32.heap.size = b := ⟨_, rfl⟩
          rw [hbNN] at n33 hlNN lrNN lvNN lqNN ⊢
          clear hbNN
          have nr := nsz r33
          have nv := nsz v33
          have nq := nsz q33
          have nn := nsz n33
          go_upto_region 16 with (fail)
          clear nr nv nq nn
          have r34 := hkeep (zac zeroPart w33) r33
          have v34 := hkeep (zac zeroPart w33) v33
          have q34 := hkeep (zac zeroPart w33) q33
          have n34 := hkeep (zac zeroPart w33) n33
          have C34 := C33.trans (zac zeroPart w33)
          have lrTT := zad r33
          have lvTT := zad v33
          have lqTT := zad q33
          have lnTT := zad n33
          have t34 := zbx zeroPart w33
          have hlTT := C33.size
          clear r33 v33 q33 n33 C33 
          obtain ⟨w34, hw34⟩ : ∃ W, World.onObj (w33.alloc (.cells (partC zeroPart) 51)) w33.heap.size (laidAt 0 (partC zeroPart)) = W := ⟨_, rfl⟩
          first | rw [hw34] at r34 v34 q34 n34 t34 C34 ⊢ | (simp only [zag, zah, zam] at hw34; rw [hw34] at r34 v34 q34 n34 t34 C34 ⊢)
          clear hw34
          obtain ⟨TT, hbTT⟩ : ∃ b, w33.heap.size = b := ⟨_, rfl⟩
          rw [hbTT] at t34 hlTT lrTT lvTT lqTT lnTT ⊢
          clear hbTT
          go_wp2_with fail
          refine (P1 _ _ _).mono ?_
          rintro e w' ⟨rfl, rfl⟩
          go_wp2_with fail
          refine (X1 _).mono ?_
          rintro e w35 ⟨rfl, hc35⟩
          have r35 := hkeep (hc35) r34
          have v35 := hkeep (hc35) v34
          have q35 := hkeep (hc35) q34
          have n35 := hkeep (hc35) n34
          have t35 := hkeep (hc35) t34
          have C35 := C34.trans (hc35)
          clear r34 v34 q34 n34 t34 C34 hc35 X1
          go_wp2_with fail
          refine (T1 _ _ _).mono ?_
          rintro e w36 ⟨rfl, hc36⟩
          have r36 := hkeep (hc36) r35
          have v36 := hkeep (hc36) v35
          have q36 := hkeep (hc36) q35
          have n36 := hkeep (hc36) n35
          have t36 := hkeep (hc36) t35
          have C36 := C35.trans (hc36)
          clear r35 v35 q35 n35 t35 C35 hc36 T1
          go_upto_region 21 with (fail)
          have r37 : w36.drew.heap[R]? = _ := r36
          have q37 : w36.drew.heap[Q]? = _ := q36
          have n37 : w36.drew.heap[NN]? = _ := n36
          have t37 : w36.drew.heap[TT]? = _ := t36
          have sP : (fun W' : World => W'.heap[V]? = some (.cells (partC pp) 51 (0, 0))) w36.drew := v36
          have C37 : Ch [] w w36.drew := C36.drew
          clear r36 v36 q36 n36 t36 C36 
          refine wp_region_held_drew (S := fun W' => W'.heap[V]? = some (.cells (partC pp) 51 (0, 0))) (by kernel_rfl) sP ?_
          intro _
          simp only [List.size_toArray, List.length_cons, List.length_nil, Nat.reduceAdd]
          obtain ⟨w37, hw37⟩ : ∃ W, w36.drew = W := ⟨_, rfl⟩
          rw [hw37] at r37 q37 n37 t37 C37 sP ⊢
          clear hw37
          refine tk 0 99 ?_ rfl sP ?_ ?_; rotate_left
          · intro _ _; go_simp; try with_reducible rfl
          try go_frame
          refine tk 2 101 ?_ rfl sP ?_ ?_; rotate_left
          · intro _ _; go_simp; try with_reducible rfl
          try go_frame
          refine rd (o := ⟨some 100, _, _, _, _, none⟩) 1 rfl (fun K hK => ?_); go_simp
          refine (O1 _ C37).mono ?_
          rintro e w38 ⟨R2, c3, cur2, rfl, -, hcur2, o38, hc38⟩
          have r38 := hkeep (hc38) r37
          have q38 := hkeep (hc38) q37
          have n38 := hkeep (hc38) n37
          have t38 := hkeep (hc38) t37
          have C38 := C37.trans (hc38)
          have hcx := hc38
          clear r37 q37 n37 t37 C37 hc38 
          have sPx : (fun W' : World => W'.heap[V]? = some (.cells (partC pp) 51 (0, 0))) w38 := hkeep hcx sP
          clear sP
          have sP := sPx
          clear sPx hcx
          refine hK.out _ _ sP (fun _ => ?_)
          clear hK K
          refine rd (o := ⟨some 102, _, _, _, _, none⟩) 3 rfl (fun K hK => ?_); go_simp
          refine (V1 _ _ ⟨R2, c3, cur2, rfl, HLEN.out, o38, hcur2⟩).mono ?_
          rintro e w39 ⟨v5, rfl, hv5, hc39⟩
          have r39 := hkeep (hc39) r38
          have q39 := hkeep (hc39) q38
          have n39 := hkeep (hc39) n38
          have t39 := hkeep (hc39) t38
          have o39 := hkeep (hc39) o38
          have C39 := C38.trans (hc39)
          have hcx := hc39
          clear r38 q38 n38 t38 o38 C38 hc39 V1
          obtain ⟨R3, c4, cur3, rfl, -, u39, hcur3⟩ := hv5
          clear o39 hcur2
          have sPx : (fun W' : World => W'.heap[V]? = some (.cells (partC pp) 51 (0, 0))) w39 := hkeep hcx sP
          clear sP
          have sP := sPx
          clear sPx hcx
          refine hK.out _ _ sP (fun _ => ?_)
          clear hK K
          refine tk 4 98 ?_ rfl sP ?_ ?_; rotate_left
          · intro _ _; go_simp; try with_reducible rfl
          try go_frame
          refine tk 5 103 ?_ rfl sP ?_ ?_; rotate_left
          · intro _ _; go_simp; try with_reducible rfl
          try go_frame
          refine tk 6 104 ?_ rfl sP ?_ ?_; rotate_left
          · intro _ _; go_simp; try with_reducible rfl
          try go_frame
          refine tk 7 105 ?_ rfl sP ?_ ?_; rotate_left
          · intro _ _; go_simp; try with_reducible rfl
          try go_frame
          refine tk 8 18 ?_ rfl sP ?_ ?_; rotate_left
          · intro _ _; go_simp; try with_reducible rfl
          try go_frame
          refine rd 9 rfl (fun K hK => ?_); go_simp
          have r40 : (World.onObj w39 TT (laidAt 0 (partC p'))).heap[R]? = _ := (zan (w := w39) (F := TT) (laidAt 0 (partC p')) (zcq r39 t39 (by decide))).trans r39
          have q40 : (World.onObj w39 TT (laidAt 0 (partC p'))).heap[Q]? = _ := (zan (w := w39) (F := TT) (laidAt 0 (partC p')) (zcq q39 t39 (by decide))).trans q39
          have n40 : (World.onObj w39 TT (laidAt 0 (partC p'))).heap[NN]? = _ := (zan (w := w39) (F := TT) (laidAt 0 (partC p')) (by omega)).trans n39
          have t40 : (World.onObj w39 TT (laidAt 0 (partC p'))).heap[TT]? = some (.cells (partC p') 51 (0, 0)) := by rw [zab, if_pos rfl, t39, Option.map_some, zag]
          have u40 : (World.onObj w39 TT (laidAt 0 (partC p'))).heap[R3]? = _ := (zan (w := w39) (F := TT) (laidAt 0 (partC p')) (zcq u39 t39 (by decide))).trans u39
          have sPx : (fun W' : World => W'.heap[V]? = some (.cells (partC pp) 51 (0, 0))) (World.onObj w39 TT (laidAt 0 (partC p'))) := (zan (w := w39) (F := TT) (laidAt 0 (partC p')) (by omega)).trans sP
          have C40 : Ch [] w (World.onObj w39 TT (laidAt 0 (partC p'))) := C39.onObj (.inr hlTT) _
          clear r39 q39 n39 t39 u39 C39 
          refine hK.out _ _ sPx (fun _ => ?_)
          clear hK K sP
          obtain ⟨w40, hw40⟩ : ∃ W, (World.onObj w39 TT (laidAt 0 (partC p'))) = W := ⟨_, rfl⟩
          rw [hw40] at r40 q40 n40 t40 u40 C40 sPx ⊢
          clear hw40
          refine tk 10 20 ?_ rfl sPx ?_ ?_; rotate_left
          · intro _ _; go_simp; try with_reducible rfl
          try go_frame
          refine wpAnyH_done (by kernel_rfl) ?_ _
          go_wp2_with fail
          refine (E2 Q R3 _ _ _ cur3 _ (wcells_at l') hcur3 q40 u40).mono ?_
          rintro e w41 ⟨rfl, hc41⟩
          have r41 := hkeep (hc41) r40
          have q41 := hkeep (hc41) q40
          have n41 := hkeep (hc41) n40
          have t41 := hkeep (hc41) t40
          have u41 := hkeep (hc41) u40
          have C41 := C40.trans (hc41)
          clear r40 q40 n40 t40 u40 C40 hc41 E2
          go_wp2
          go_roundw
          case rel => exact ⟨j + 1, by go_num, by omega, r41, C41⟩
          case measure => simp [intOf]; omega
end
end Go.Proofs.Hc
