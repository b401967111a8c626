/- Law 22: SplitRuns, the walk (printed by gen_runs22.py). -/
import Derived.Test.YtcikopeddljgkaaGreatJWl
import Derived.Test.YtcikopeddljgkaaGreatJ0
set_option linter.unusedSimpArgs false
set_option linter.unusedVariables false
set_option maxHeartbeats 8000000
set_option maxRecDepth 100000
namespace Go.Proofs.Hc
open Go.RowKit
attribute [local go_sem] zbu zcc zax zbf zbo zbd zbn zbp zbw signed64 signed8 zap BitVec.ofInt_add BitVec.ofInt_mul ofInt_sub' zbb zbc wide8 eqN neN zca shr1 shr7 shr56
attribute [local go_sem high] zbe zbv
attribute [local go_sem] zaw zby zaj zas zaf zaz zar zak zbm zal zay zba
attribute [local go_sem] load26 load73 load23 store26 build73
attribute [local go_sem ↓] lrow26 lrow73 lrow23 srow26 zero26 brow73 zae zbk zbg zaa zab
attribute [local go_sem] zai zav zat zbj zbl zbr zaq zau zbs zbi zbh
attribute [local go_sem] nn2 nm2 nn3 nm3 nn4 nm4 nn5 nm5 nn6 nm6 nn7 nm7 nn8 nm8
section
attribute [local go_sem] zap zbq
attribute [local go_sem] Oper.semAt_some zao
attribute [local go_sem] zcj pacell0 pacell1 pacell2 pacell3 pacell4 pacell5 pacell6 pacell7 pacell42
attribute [local go_sem] zcs zcx zcp zcw zcv zdg zcu zdf zce zcr zdj zdc zch zbt zci zck boxPart loadPart storePart zcf zct buildPart0 buildPart4
attribute [local go_sem ↓] lrowPart srowPart browPart zcl zbz
attribute [local go_sem high] zag
attribute [local irreducible] partC
attribute [local go_sem high] eql_part neq_part guardPart
attribute [local go_sem] load2i by_x box_by22 build_2p
attribute [local go_sem ↓] lrow2i brow_2p
theorem runs22_e1 (a : Option Addr) (n0 c0 : Nat) (ks : Nat → BitVec 64) (wh sl a0 b0 : Int) (sd : BitVec 64) (s : PartT) (w : World) (hn : n0 ≤ c0) (hc : c0 ≤ 9223372036854775807) (ha : a = none → n0 = 0 ∧ c0 = 0) (hk : KeysIn w a n0 ks) (h0 : min n0 180 = 0) (hw : ¬ 0 ≤ wh) :
    Calls Tryz.prog 4 #[.slice a n0 c0, .agg #[I wh, I sl, I a0, I b0, U sd], .agg (partC s)] w fun e w' => e = .returned (.bool true) ∧ Ch [] w w' := by
  have W1 := fun w => wakes22_any w
  have B1 := fun w => s22Begin_any wh sl a0 b0 sd w
  rw [begin22_no (.inl (by omega))] at B1
  simp only [tupOr] at B1
  have O1 := fun w' (c : Ch [] w w') => own22_empty a n0 c0 ks w' hn hc ha (hk.ch c (Nat.le_refl _)) h0
  have R1 := fun a c p w => s22Run_empty a 0 c p rfl w
  have P1 := fun a c w => r02Right_any a 0 c w
  simp only [show ¬ (1 ≤ 0) by omega, decide_false, Bool.false_and] at P1
  clear hn hc ha hk h0 
  obtain ⟨w0_, hw0, C0, x0, y0⟩ := by_world wh sl a0 b0 sd s w
  go_enter Tryz.func4, Tryz.ntmps4
  go_upto_region 1 with (fail)
  try rw [hw0]
  clear hw0
  obtain ⟨w0a, hw0a⟩ : ∃ W, w0_ = W := ⟨_, rfl⟩
  rw [hw0a] at C0 x0 y0 ⊢
  clear hw0a
  obtain ⟨X, hX⟩ : ∃ b, w.heap.size = b := ⟨_, rfl⟩
  rw [hX] at x0 y0 ⊢
  have hlX : w.heap.size ≤ X := by omega
  clear hX
  go_wp2_with fail
  refine (W1 _).mono ?_
  rintro e w1 ⟨rfl, hc1⟩
  have x1 := hkeep (hc1) x0
  have y1 := hkeep (hc1) y0
  have C1 := C0.trans (hc1)
  clear x0 y0 C0 hc1 
  go_wp2_with fail
  refine (O1 _ C1).mono ?_
  rintro e w2 ⟨a', c', rfl, hc2⟩
  have x2 := hkeep (hc2) x1
  have y2 := hkeep (hc2) y1
  have C2 := C1.trans (hc2)
  clear x1 y1 C1 hc2 
  go_wp2_with fail
  refine (B1 _).mono ?_
  rintro e w3 ⟨rfl, hc3⟩
  have x3 := hkeep (hc3) x2
  have y3 := hkeep (hc3) y2
  have C3 := C2.trans (hc3)
  clear x2 y2 C2 hc3 
  have nx := nsz x3
  have ny : ¬ X + 1 = w3.heap.size := by have := zad y3; omega
  go_upto_region 5 with (fail)
  clear nx ny
  have x4 := hkeep (zac zeroPart w3) x3
  have y4 := hkeep (zac zeroPart w3) y3
  have C4 := C3.trans (zac zeroPart w3)
  have lxP := zad x3
  have lyP := zad y3
  have p4 := zbx zeroPart w3
  have hlP := C3.size
  clear x3 y3 C3 
  obtain ⟨w4, hw4⟩ : ∃ W, World.onObj (w3.alloc (.cells (partC zeroPart) 51)) w3.heap.size (laidAt 0 (partC zeroPart)) = W := ⟨_, rfl⟩
  first | rw [hw4] at x4 y4 p4 C4 ⊢ | (simp only [zag, zah, zam] at hw4; rw [hw4] at x4 y4 p4 C4 ⊢)
  clear hw4
  obtain ⟨P, hbP⟩ : ∃ b, w3.heap.size = b := ⟨_, rfl⟩
  rw [hbP] at p4 hlP lxP lyP ⊢
  clear hbP
  have nx := nsz x4
  have ny : ¬ X + 1 = w4.heap.size := by have := zad y4; omega
  have np := nsz p4
  go_upto_region 6 with (fail)
  clear nx ny np
  have x5 := hkeep (zac zeroPart w4) x4
  have y5 := hkeep (zac zeroPart w4) y4
  have p5 := hkeep (zac zeroPart w4) p4
  have C5 := C4.trans (zac zeroPart w4)
  have lxF := zad x4
  have lyF := zad y4
  have lpF := zad p4
  have f5 := zbx zeroPart w4
  have hlF := C4.size
  clear x4 y4 p4 C4 
  obtain ⟨w5, hw5⟩ : ∃ W, World.onObj (w4.alloc (.cells (partC zeroPart) 51)) w4.heap.size (laidAt 0 (partC zeroPart)) = W := ⟨_, rfl⟩
  first | rw [hw5] at x5 y5 p5 f5 C5 ⊢ | (simp only [zag, zah, zam] at hw5; rw [hw5] at x5 y5 p5 f5 C5 ⊢)
  clear hw5
  obtain ⟨F, hbF⟩ : ∃ b, w4.heap.size = b := ⟨_, rfl⟩
  rw [hbF] at f5 hlF lxF lyF lpF ⊢
  clear hbF
  go_wp2
  have HC0 := Lib.hid C5
  clear x5 y5 p5 f5 C5
  go_loopw [74] (fun i wr => ∃ j : Nat, i = .int .i64 j ∧ j ≤ 2 ∧ Ch [] w wr) (fun i _ => 2 - (intOf i).toNat)
  case atStart => exact ⟨0, rfl, by omega, HC0.out⟩
  case round =>
    obtain ⟨j, hj, hj2, C30⟩ := hrel
    subst hj
    clear HC0
    obtain ⟨w30, hw30⟩ : ∃ W, wr = W := ⟨_, rfl⟩
    rw [hw30] at C30 ⊢
    clear hw30
    rcases (show j = 2 ∨ j < 2 by omega) with rfl | hlt
    · go_wp2_with fail
      refine (O1 _ C30).mono ?_
      rintro e w31 ⟨a2, c3, rfl, hc31⟩
      have C31 := C30.trans hc31
      go_wp2_with fail
      refine (zdh a' a2 c' c3 _).mono ?_
      rintro e w32 ⟨rfl, hc32⟩
      go_wp2
      go_ret
      exact ⟨rfl, C31.trans hc32⟩
    · have IX := fun w => index_2p zeroPart s j hlt w
      have hjI : (j : Int) < 2 := by omega
      have hj0 : (0 : Int) ≤ j := by omega
      obtain ⟨pp, hpp⟩ : ∃ x, nthP zeroPart s j = x := ⟨_, rfl⟩
      rw [hpp] at IX
      clear hpp
      have C30 := C30
      go_upto_region 13 with (fail)
      have hc31 := zac pp w30
      have v31 := zbx pp w30
      have C31 := C30.trans hc31
      have hlV := C30.size
      clear C30 hc31
      obtain ⟨w31, hw31⟩ : ∃ W, World.onObj (w30.alloc (.cells (partC zeroPart) 51)) w30.heap.size (laidAt 0 (partC pp)) = W := ⟨_, rfl⟩
      rw [hw31] at v31 C31 ⊢
      clear hw31
      obtain ⟨V, hV⟩ : ∃ b, w30.heap.size = b := ⟨_, rfl⟩
      rw [hV] at v31 hlV ⊢
      clear hV
      clear IX
      go_wp2_with fail
      refine (R1 _ _ _ _).mono ?_
      rintro e w32 ⟨rfl, hc32⟩
      have v32 := hkeep (hc32) v31
      have C32 := C31.trans (hc32)
      clear v31 C31 hc32 
      have nv := nsz v32
      go_upto_region 14 with (fail)
      clear nv
      have v33 := hkeep (zac zeroPart w32) v32
      have C33 := C32.trans (zac zeroPart w32)
      have lvNN := zad v32
      have n33 := zbx zeroPart w32
      have hlNN := C32.size
      clear v32 C32 
      obtain ⟨w33, hw33⟩ : ∃ W, World.onObj (w32.alloc (.cells (partC zeroPart) 51)) w32.heap.size (laidAt 0 (partC zeroPart)) = W := ⟨_, rfl⟩
      first | rw [hw33] at v33 n33 C33 ⊢ | (simp only [zag, zah, zam] at hw33; rw [hw33] at v33 n33 C33 ⊢)
      clear hw33
      obtain ⟨NN, hbNN⟩ : ∃ b, w32.heap.size = b := ⟨_, rfl⟩
      rw [hbNN] at n33 hlNN lvNN ⊢
      clear hbNN
      have nv := nsz v33
      have nn := nsz n33
      go_upto_region 16 with (fail)
      clear nv nn
      have v34 := hkeep (zac zeroPart w33) v33
      have n34 := hkeep (zac zeroPart w33) n33
      have C34 := C33.trans (zac zeroPart w33)
      have lvTT := zad v33
      have lnTT := zad n33
      have t34 := zbx zeroPart w33
      have hlTT := C33.size
      clear v33 n33 C33 
      obtain ⟨w34, hw34⟩ : ∃ W, World.onObj (w33.alloc (.cells (partC zeroPart) 51)) w33.heap.size (laidAt 0 (partC zeroPart)) = W := ⟨_, rfl⟩
      first | rw [hw34] at v34 n34 t34 C34 ⊢ | (simp only [zag, zah, zam] at hw34; rw [hw34] at v34 n34 t34 C34 ⊢)
      clear hw34
      obtain ⟨TT, hbTT⟩ : ∃ b, w33.heap.size = b := ⟨_, rfl⟩
      rw [hbTT] at t34 hlTT lvTT lnTT ⊢
      clear hbTT
      go_wp2_with fail
      refine (P1 _ _ _).mono ?_
      rintro e w' ⟨rfl, rfl⟩
      go_wp2_with fail
      refine (zdh none none 0 0 _).mono ?_
      rintro e w35 ⟨rfl, hc35⟩
      have v35 := hkeep (hc35) v34
      have n35 := hkeep (hc35) n34
      have t35 := hkeep (hc35) t34
      have C35 := C34.trans (hc35)
      clear v34 n34 t34 C34 hc35 
      go_wp2
      go_roundw
      case rel => exact ⟨j + 1, by go_num, by omega, C35⟩
      case measure => simp [intOf]; omega
theorem runs22_e2 (a : Option Addr) (n0 c0 : Nat) (ks : Nat → BitVec 64) (wh sl a0 b0 : Int) (sd : BitVec 64) (s : PartT) (w : World) (hn : n0 ≤ c0) (hc : c0 ≤ 9223372036854775807) (ha : a = none → n0 = 0 ∧ c0 = 0) (hk : KeysIn w a n0 ks) (h0 : min n0 180 = 0) (w0 : 0 ≤ wh) (hw : ¬ wh < 8) :
    Calls Tryz.prog 4 #[.slice a n0 c0, .agg #[I wh, I sl, I a0, I b0, U sd], .agg (partC s)] w fun e w' => e = .returned (.bool true) ∧ Ch [] w w' := by
  have W1 := fun w => wakes22_any w
  have B1 := fun w => s22Begin_any wh sl a0 b0 sd w
  rw [begin22_no (.inr (.inl (by omega)))] at B1
  simp only [tupOr] at B1
  have O1 := fun w' (c : Ch [] w w') => own22_empty a n0 c0 ks w' hn hc ha (hk.ch c (Nat.le_refl _)) h0
  have R1 := fun a c p w => s22Run_empty a 0 c p rfl w
  have P1 := fun a c w => r02Right_any a 0 c w
  simp only [show ¬ (1 ≤ 0) by omega, decide_false, Bool.false_and] at P1
  clear hn hc ha hk h0 
  obtain ⟨w0_, hw0, C0, x0, y0⟩ := by_world wh sl a0 b0 sd s w
  go_enter Tryz.func4, Tryz.ntmps4
  go_upto_region 1 with (fail)
  try rw [hw0]
  clear hw0
  obtain ⟨w0a, hw0a⟩ : ∃ W, w0_ = W := ⟨_, rfl⟩
  rw [hw0a] at C0 x0 y0 ⊢
  clear hw0a
  obtain ⟨X, hX⟩ : ∃ b, w.heap.size = b := ⟨_, rfl⟩
  rw [hX] at x0 y0 ⊢
  have hlX : w.heap.size ≤ X := by omega
  clear hX
  go_wp2_with fail
  refine (W1 _).mono ?_
  rintro e w1 ⟨rfl, hc1⟩
  have x1 := hkeep (hc1) x0
  have y1 := hkeep (hc1) y0
  have C1 := C0.trans (hc1)
  clear x0 y0 C0 hc1 
  go_wp2_with fail
  refine (O1 _ C1).mono ?_
  rintro e w2 ⟨a', c', rfl, hc2⟩
  have x2 := hkeep (hc2) x1
  have y2 := hkeep (hc2) y1
  have C2 := C1.trans (hc2)
  clear x1 y1 C1 hc2 
  go_wp2_with fail
  refine (B1 _).mono ?_
  rintro e w3 ⟨rfl, hc3⟩
  have x3 := hkeep (hc3) x2
  have y3 := hkeep (hc3) y2
  have C3 := C2.trans (hc3)
  clear x2 y2 C2 hc3 
  have nx := nsz x3
  have ny : ¬ X + 1 = w3.heap.size := by have := zad y3; omega
  go_upto_region 5 with (fail)
  clear nx ny
  have x4 := hkeep (zac zeroPart w3) x3
  have y4 := hkeep (zac zeroPart w3) y3
  have C4 := C3.trans (zac zeroPart w3)
  have lxP := zad x3
  have lyP := zad y3
  have p4 := zbx zeroPart w3
  have hlP := C3.size
  clear x3 y3 C3 
  obtain ⟨w4, hw4⟩ : ∃ W, World.onObj (w3.alloc (.cells (partC zeroPart) 51)) w3.heap.size (laidAt 0 (partC zeroPart)) = W := ⟨_, rfl⟩
  first | rw [hw4] at x4 y4 p4 C4 ⊢ | (simp only [zag, zah, zam] at hw4; rw [hw4] at x4 y4 p4 C4 ⊢)
  clear hw4
  obtain ⟨P, hbP⟩ : ∃ b, w3.heap.size = b := ⟨_, rfl⟩
  rw [hbP] at p4 hlP lxP lyP ⊢
  clear hbP
  have nx := nsz x4
  have ny : ¬ X + 1 = w4.heap.size := by have := zad y4; omega
  have np := nsz p4
  go_upto_region 6 with (fail)
  clear nx ny np
  have x5 := hkeep (zac zeroPart w4) x4
  have y5 := hkeep (zac zeroPart w4) y4
  have p5 := hkeep (zac zeroPart w4) p4
  have C5 := C4.trans (zac zeroPart w4)
  have lxF := zad x4
  have lyF := zad y4
  have lpF := zad p4
  have f5 := zbx zeroPart w4
  have hlF := C4.size
  clear x4 y4 p4 C4 
  obtain ⟨w5, hw5⟩ : ∃ W, World.onObj (w4.alloc (.cells (partC zeroPart) 51)) w4.heap.size (laidAt 0 (partC zeroPart)) = W := ⟨_, rfl⟩
  first | rw [hw5] at x5 y5 p5 f5 C5 ⊢ | (simp only [zag, zah, zam] at hw5; rw [hw5] at x5 y5 p5 f5 C5 ⊢)
  clear hw5
  obtain ⟨F, hbF⟩ : ∃ b, w4.heap.size = b := ⟨_, rfl⟩
  rw [hbF] at f5 hlF lxF lyF lpF ⊢
  clear hbF
  go_wp2
  have HC0 := Lib.hid C5
  clear x5 y5 p5 f5 C5
  go_loopw [74] (fun i wr => ∃ j : Nat, i = .int .i64 j ∧ j ≤ 2 ∧ Ch [] w wr) (fun i _ => 2 - (intOf i).toNat)
  case atStart => exact ⟨0, rfl, by omega, HC0.out⟩
  case round =>
    obtain ⟨j, hj, hj2, C30⟩ := hrel
    subst hj
    clear HC0
    obtain ⟨w30, hw30⟩ : ∃ W, wr = W := ⟨_, rfl⟩
    rw [hw30] at C30 ⊢
    clear hw30
    rcases (show j = 2 ∨ j < 2 by omega) with rfl | hlt
    · go_wp2_with fail
      refine (O1 _ C30).mono ?_
      rintro e w31 ⟨a2, c3, rfl, hc31⟩
      have C31 := C30.trans hc31
      go_wp2_with fail
      refine (zdh a' a2 c' c3 _).mono ?_
      rintro e w32 ⟨rfl, hc32⟩
      go_wp2
      go_ret
      exact ⟨rfl, C31.trans hc32⟩
    · have IX := fun w => index_2p zeroPart s j hlt w
      have hjI : (j : Int) < 2 := by omega
      have hj0 : (0 : Int) ≤ j := by omega
      obtain ⟨pp, hpp⟩ : ∃ x, nthP zeroPart s j = x := ⟨_, rfl⟩
      rw [hpp] at IX
      clear hpp
      have C30 := C30
      go_upto_region 13 with (fail)
      have hc31 := zac pp w30
      have v31 := zbx pp w30
      have C31 := C30.trans hc31
      have hlV := C30.size
      clear C30 hc31
      obtain ⟨w31, hw31⟩ : ∃ W, World.onObj (w30.alloc (.cells (partC zeroPart) 51)) w30.heap.size (laidAt 0 (partC pp)) = W := ⟨_, rfl⟩
      rw [hw31] at v31 C31 ⊢
      clear hw31
      obtain ⟨V, hV⟩ : ∃ b, w30.heap.size = b := ⟨_, rfl⟩
      rw [hV] at v31 hlV ⊢
      clear hV
      clear IX
      go_wp2_with fail
      refine (R1 _ _ _ _).mono ?_
      rintro e w32 ⟨rfl, hc32⟩
      have v32 := hkeep (hc32) v31
      have C32 := C31.trans (hc32)
      clear v31 C31 hc32 
      have nv := nsz v32
      go_upto_region 14 with (fail)
      clear nv
      have v33 := hkeep (zac zeroPart w32) v32
      have C33 := C32.trans (zac zeroPart w32)
      have lvNN := zad v32
      have n33 := zbx zeroPart w32
      have hlNN := C32.size
      clear v32 C32 
      obtain ⟨w33, hw33⟩ : ∃ W, World.onObj (w32.alloc (.cells (partC zeroPart) 51)) w32.heap.size (laidAt 0 (partC zeroPart)) = W := ⟨_, rfl⟩
      first | rw [hw33] at v33 n33 C33 ⊢ | (simp only [zag, zah, zam] at hw33; rw [hw33] at v33 n33 C33 ⊢)
      clear hw33
      obtain ⟨NN, hbNN⟩ : ∃ b, w32.heap.size = b := ⟨_, rfl⟩
      rw [hbNN] at n33 hlNN lvNN ⊢
      clear hbNN
      have nv := nsz v33
      have nn := nsz n33
      go_upto_region 16 with (fail)
      clear nv nn
      have v34 := hkeep (zac zeroPart w33) v33
      have n34 := hkeep (zac zeroPart w33) n33
      have C34 := C33.trans (zac zeroPart w33)
      have lvTT := zad v33
      have lnTT := zad n33
      have t34 := zbx zeroPart w33
      have hlTT := C33.size
      clear v33 n33 C33 
      obtain ⟨w34, hw34⟩ : ∃ W, World.onObj (w33.alloc (.cells (partC zeroPart) 51)) w33.heap.size (laidAt 0 (partC zeroPart)) = W := ⟨_, rfl⟩
      first | rw [hw34] at v34 n34 t34 C34 ⊢ | (simp only [zag, zah, zam] at hw34; rw [hw34] at v34 n34 t34 C34 ⊢)
      clear hw34
      obtain ⟨TT, hbTT⟩ : ∃ b, w33.heap.size = b := ⟨_, rfl⟩
      rw [hbTT] at t34 hlTT lvTT lnTT ⊢
      clear hbTT
      go_wp2_with fail
      refine (P1 _ _ _).mono ?_
      rintro e w' ⟨rfl, rfl⟩
      go_wp2_with fail
      refine (zdh none none 0 0 _).mono ?_
      rintro e w35 ⟨rfl, hc35⟩
      have v35 := hkeep (hc35) v34
      have n35 := hkeep (hc35) n34
      have t35 := hkeep (hc35) t34
      have C35 := C34.trans (hc35)
      clear v34 n34 t34 C34 hc35 
      go_wp2
      go_roundw
      case rel => exact ⟨j + 1, by go_num, by omega, C35⟩
      case measure => simp [intOf]; omega
theorem runs22_e3 (a : Option Addr) (n0 c0 : Nat) (ks : Nat → BitVec 64) (wh sl a0 b0 : Int) (sd : BitVec 64) (s : PartT) (w : World) (hn : n0 ≤ c0) (hc : c0 ≤ 9223372036854775807) (ha : a = none → n0 = 0 ∧ c0 = 0) (hk : KeysIn w a n0 ks) (h0 : min n0 180 = 0) (w0 : 0 ≤ wh) (w7 : wh < 8) (hs : slabsS sl a0 b0 = false) :
    Calls Tryz.prog 4 #[.slice a n0 c0, .agg #[I wh, I sl, I a0, I b0, U sd], .agg (partC s)] w fun e w' => e = .returned (.bool true) ∧ Ch [] w w' := by
  have W1 := fun w => wakes22_any w
  have B1 := fun w => s22Begin_any wh sl a0 b0 sd w
  rw [begin22_no (.inr (.inr hs))] at B1
  simp only [tupOr] at B1
  have SL := fun w => r22Slabs_any sl a0 b0 w
  rw [hs] at SL
  have O1 := fun w' (c : Ch [] w w') => own22_empty a n0 c0 ks w' hn hc ha (hk.ch c (Nat.le_refl _)) h0
  have R1 := fun a c p w => s22Run_empty a 0 c p rfl w
  have P1 := fun a c w => r02Right_any a 0 c w
  simp only [show ¬ (1 ≤ 0) by omega, decide_false, Bool.false_and] at P1
  clear hn hc ha hk h0 hs
  obtain ⟨w0_, hw0, C0, x0, y0⟩ := by_world wh sl a0 b0 sd s w
  go_enter Tryz.func4, Tryz.ntmps4
  go_upto_region 1 with (fail)
  try rw [hw0]
  clear hw0
  obtain ⟨w0a, hw0a⟩ : ∃ W, w0_ = W := ⟨_, rfl⟩
  rw [hw0a] at C0 x0 y0 ⊢
  clear hw0a
  obtain ⟨X, hX⟩ : ∃ b, w.heap.size = b := ⟨_, rfl⟩
  rw [hX] at x0 y0 ⊢
  have hlX : w.heap.size ≤ X := by omega
  clear hX
  go_wp2_with fail
  refine (W1 _).mono ?_
  rintro e w1 ⟨rfl, hc1⟩
  have x1 := hkeep (hc1) x0
  have y1 := hkeep (hc1) y0
  have C1 := C0.trans (hc1)
  clear x0 y0 C0 hc1 
  go_wp2_with fail
  refine (O1 _ C1).mono ?_
  rintro e w2 ⟨a', c', rfl, hc2⟩
  have x2 := hkeep (hc2) x1
  have y2 := hkeep (hc2) y1
  have C2 := C1.trans (hc2)
  clear x1 y1 C1 hc2 
  go_wp2_with fail
  refine (B1 _).mono ?_
  rintro e w3 ⟨rfl, hc3⟩
  have x3 := hkeep (hc3) x2
  have y3 := hkeep (hc3) y2
  have C3 := C2.trans (hc3)
  clear x2 y2 C2 hc3 
  have nx := nsz x3
  have ny : ¬ X + 1 = w3.heap.size := by have := zad y3; omega
  go_upto_region 5 with (fail)
  clear nx ny
  have x4 := hkeep (zac zeroPart w3) x3
  have y4 := hkeep (zac zeroPart w3) y3
  have C4 := C3.trans (zac zeroPart w3)
  have lxP := zad x3
  have lyP := zad y3
  have p4 := zbx zeroPart w3
  have hlP := C3.size
  clear x3 y3 C3 
  obtain ⟨w4, hw4⟩ : ∃ W, World.onObj (w3.alloc (.cells (partC zeroPart) 51)) w3.heap.size (laidAt 0 (partC zeroPart)) = W := ⟨_, rfl⟩
  first | rw [hw4] at x4 y4 p4 C4 ⊢ | (simp only [zag, zah, zam] at hw4; rw [hw4] at x4 y4 p4 C4 ⊢)
  clear hw4
  obtain ⟨P, hbP⟩ : ∃ b, w3.heap.size = b := ⟨_, rfl⟩
  rw [hbP] at p4 hlP lxP lyP ⊢
  clear hbP
  have nx := nsz x4
  have ny : ¬ X + 1 = w4.heap.size := by have := zad y4; omega
  have np := nsz p4
  go_upto_region 6 with (fail)
  clear nx ny np
  have x5 := hkeep (zac zeroPart w4) x4
  have y5 := hkeep (zac zeroPart w4) y4
  have p5 := hkeep (zac zeroPart w4) p4
  have C5 := C4.trans (zac zeroPart w4)
  have lxF := zad x4
  have lyF := zad y4
  have lpF := zad p4
  have f5 := zbx zeroPart w4
  have hlF := C4.size
  clear x4 y4 p4 C4 
  obtain ⟨w5, hw5⟩ : ∃ W, World.onObj (w4.alloc (.cells (partC zeroPart) 51)) w4.heap.size (laidAt 0 (partC zeroPart)) = W := ⟨_, rfl⟩
  first | rw [hw5] at x5 y5 p5 f5 C5 ⊢ | (simp only [zag, zah, zam] at hw5; rw [hw5] at x5 y5 p5 f5 C5 ⊢)
  clear hw5
  obtain ⟨F, hbF⟩ : ∃ b, w4.heap.size = b := ⟨_, rfl⟩
  rw [hbF] at f5 hlF lxF lyF lpF ⊢
  clear hbF
  go_wp2_with fail
  refine (SL _).mono ?_
  rintro e w6 ⟨rfl, hc6⟩
  have x6 := hkeep (hc6) x5
  have y6 := hkeep (hc6) y5
  have p6 := hkeep (hc6) p5
  have f6 := hkeep (hc6) f5
  have C6 := C5.trans (hc6)
  clear x5 y5 p5 f5 C5 hc6 
  go_wp2
  have HC0 := Lib.hid C6
  clear x6 y6 p6 f6 C6
  go_loopw [74] (fun i wr => ∃ j : Nat, i = .int .i64 j ∧ j ≤ 2 ∧ Ch [] w wr) (fun i _ => 2 - (intOf i).toNat)
  case atStart => exact ⟨0, rfl, by omega, HC0.out⟩
  case round =>
    obtain ⟨j, hj, hj2, C30⟩ := hrel
    subst hj
    clear HC0
    obtain ⟨w30, hw30⟩ : ∃ W, wr = W := ⟨_, rfl⟩
    rw [hw30] at C30 ⊢
    clear hw30
    rcases (show j = 2 ∨ j < 2 by omega) with rfl | hlt
    · go_wp2_with fail
      refine (O1 _ C30).mono ?_
      rintro e w31 ⟨a2, c3, rfl, hc31⟩
      have C31 := C30.trans hc31
      go_wp2_with fail
      refine (zdh a' a2 c' c3 _).mono ?_
      rintro e w32 ⟨rfl, hc32⟩
      go_wp2
      go_ret
      exact ⟨rfl, C31.trans hc32⟩
    · have IX := fun w => index_2p zeroPart s j hlt w
      have hjI : (j : Int) < 2 := by omega
      have hj0 : (0 : Int) ≤ j := by omega
      obtain ⟨pp, hpp⟩ : ∃ x, nthP zeroPart s j = x := ⟨_, rfl⟩
      rw [hpp] at IX
      clear hpp
      have C30 := C30
      go_upto_region 13 with (fail)
      have hc31 := zac pp w30
      have v31 := zbx pp w30
      have C31 := C30.trans hc31
      have hlV := C30.size
      clear C30 hc31
      obtain ⟨w31, hw31⟩ : ∃ W, World.onObj (w30.alloc (.cells (partC zeroPart) 51)) w30.heap.size (laidAt 0 (partC pp)) = W := ⟨_, rfl⟩
      rw [hw31] at v31 C31 ⊢
      clear hw31
      obtain ⟨V, hV⟩ : ∃ b, w30.heap.size = b := ⟨_, rfl⟩
      rw [hV] at v31 hlV ⊢
      clear hV
      clear IX
      go_wp2_with fail
      refine (R1 _ _ _ _).mono ?_
      rintro e w32 ⟨rfl, hc32⟩
      have v32 := hkeep (hc32) v31
      have C32 := C31.trans (hc32)
      clear v31 C31 hc32 
      have nv := nsz v32
      go_upto_region 14 with (fail)
      clear nv
      have v33 := hkeep (zac zeroPart w32) v32
      have C33 := C32.trans (zac zeroPart w32)
      have lvNN := zad v32
      have n33 := zbx zeroPart w32
      have hlNN := C32.size
      clear v32 C32 
      obtain ⟨w33, hw33⟩ : ∃ W, World.onObj (w32.alloc (.cells (partC zeroPart) 51)) w32.heap.size (laidAt 0 (partC zeroPart)) = W := ⟨_, rfl⟩
      first | rw [hw33] at v33 n33 C33 ⊢ | (simp only [zag, zah, zam] at hw33; rw [hw33] at v33 n33 C33 ⊢)
      clear hw33
      obtain ⟨NN, hbNN⟩ : ∃ b, w32.heap.size = b := ⟨_, rfl⟩
      rw [hbNN] at n33 hlNN lvNN ⊢
      clear hbNN
      have nv := nsz v33
      have nn := nsz n33
      go_upto_region 16 with (fail)
      clear nv nn
      have v34 := hkeep (zac zeroPart w33) v33
      have n34 := hkeep (zac zeroPart w33) n33
      have C34 := C33.trans (zac zeroPart w33)
      have lvTT := zad v33
      have lnTT := zad n33
      have t34 := zbx zeroPart w33
      have hlTT := C33.size
      clear v33 n33 C33 
      obtain ⟨w34, hw34⟩ : ∃ W, World.onObj (w33.alloc (.cells (partC zeroPart) 51)) w33.heap.size (laidAt 0 (partC zeroPart)) = W := ⟨_, rfl⟩
      first | rw [hw34] at v34 n34 t34 C34 ⊢ | (simp only [zag, zah, zam] at hw34; rw [hw34] at v34 n34 t34 C34 ⊢)
      clear hw34
      obtain ⟨TT, hbTT⟩ : ∃ b, w33.heap.size = b := ⟨_, rfl⟩
      rw [hbTT] at t34 hlTT lvTT lnTT ⊢
      clear hbTT
      go_wp2_with fail
      refine (P1 _ _ _).mono ?_
      rintro e w' ⟨rfl, rfl⟩
      go_wp2_with fail
      refine (zdh none none 0 0 _).mono ?_
      rintro e w35 ⟨rfl, hc35⟩
      have v35 := hkeep (hc35) v34
      have n35 := hkeep (hc35) n34
      have t35 := hkeep (hc35) t34
      have C35 := C34.trans (hc35)
      clear v34 n34 t34 C34 hc35 
      go_wp2
      go_roundw
      case rel => exact ⟨j + 1, by go_num, by omega, C35⟩
      case measure => simp [intOf]; omega
theorem runs22_e4 (a : Option Addr) (n0 c0 : Nat) (ks : Nat → BitVec 64) (wh sl a0 b0 : Int) (sd : BitVec 64) (s : PartT) (w : World) (hn : n0 ≤ c0) (hc : c0 ≤ 9223372036854775807) (ha : a = none → n0 = 0 ∧ c0 = 0) (hk : KeysIn w a n0 ks) (h0 : min n0 180 = 0) (w0 : 0 ≤ wh) (w7 : wh < 8) (hs : slabsS sl a0 b0 = true) :
    Calls Tryz.prog 4 #[.slice a n0 c0, .agg #[I wh, I sl, I a0, I b0, U sd], .agg (partC s)] w fun e w' => e = .returned (.bool true) ∧ Ch [] w w' := by
  have W1 := fun w => wakes22_any w
  have B1 := fun w => s22Begin_any wh sl a0 b0 sd w
  rw [begin22_ok w0 w7 hs] at B1
  simp only [tupOr] at B1
  have SL := fun w => r22Slabs_any sl a0 b0 w
  rw [hs] at SL
  have O1 := fun w' (c : Ch [] w w') => own22_empty a n0 c0 ks w' hn hc ha (hk.ch c (Nat.le_refl _)) h0
  have R1 := fun a c p w => s22Run_empty a 0 c p rfl w
  have P1 := fun a c w => r02Right_any a 0 c w
  simp only [show ¬ (1 ≤ 0) by omega, decide_false, Bool.false_and] at P1
  clear hn hc ha hk h0 hs
  obtain ⟨w0_, hw0, C0, x0, y0⟩ := by_world wh sl a0 b0 sd s w
  go_enter Tryz.func4, Tryz.ntmps4
  go_upto_region 1 with (fail)
  try rw [hw0]
  clear hw0
  obtain ⟨w0a, hw0a⟩ : ∃ W, w0_ = W := ⟨_, rfl⟩
  rw [hw0a] at C0 x0 y0 ⊢
  clear hw0a
  obtain ⟨X, hX⟩ : ∃ b, w.heap.size = b := ⟨_, rfl⟩
  rw [hX] at x0 y0 ⊢
  have hlX : w.heap.size ≤ X := by omega
  clear hX
  go_wp2_with fail
  refine (W1 _).mono ?_
  rintro e w1 ⟨rfl, hc1⟩
  have x1 := hkeep (hc1) x0
  have y1 := hkeep (hc1) y0
  have C1 := C0.trans (hc1)
  clear x0 y0 C0 hc1 
  go_wp2_with fail
  refine (O1 _ C1).mono ?_
  rintro e w2 ⟨a', c', rfl, hc2⟩
  have x2 := hkeep (hc2) x1
  have y2 := hkeep (hc2) y1
  have C2 := C1.trans (hc2)
  clear x1 y1 C1 hc2 
  go_wp2_with fail
  refine (B1 _).mono ?_
  rintro e w3 ⟨rfl, hc3⟩
  have x3 := hkeep (hc3) x2
  have y3 := hkeep (hc3) y2
  have C3 := C2.trans (hc3)
  clear x2 y2 C2 hc3 
  have nx := nsz x3
  have ny : ¬ X + 1 = w3.heap.size := by have := zad y3; omega
  go_upto_region 5 with (fail)
  clear nx ny
  have x4 := hkeep (zac (firstP22 wh sl a0 b0 sd) w3) x3
  have y4 := hkeep (zac (firstP22 wh sl a0 b0 sd) w3) y3
  have C4 := C3.trans (zac (firstP22 wh sl a0 b0 sd) w3)
  have lxP := zad x3
  have lyP := zad y3
  have p4 := zbx (firstP22 wh sl a0 b0 sd) w3
  have hlP := C3.size
  clear x3 y3 C3 
  obtain ⟨w4, hw4⟩ : ∃ W, World.onObj (w3.alloc (.cells (partC zeroPart) 51)) w3.heap.size (laidAt 0 (partC (firstP22 wh sl a0 b0 sd))) = W := ⟨_, rfl⟩
  first | rw [hw4] at x4 y4 p4 C4 ⊢ | (simp only [zag, zah, zam] at hw4; rw [hw4] at x4 y4 p4 C4 ⊢)
  clear hw4
  obtain ⟨P, hbP⟩ : ∃ b, w3.heap.size = b := ⟨_, rfl⟩
  rw [hbP] at p4 hlP lxP lyP ⊢
  clear hbP
  have nx := nsz x4
  have ny : ¬ X + 1 = w4.heap.size := by have := zad y4; omega
  have np := nsz p4
  go_upto_region 6 with (fail)
  clear nx ny np
  have x5 := hkeep (zac zeroPart w4) x4
  have y5 := hkeep (zac zeroPart w4) y4
  have p5 := hkeep (zac zeroPart w4) p4
  have C5 := C4.trans (zac zeroPart w4)
  have lxF := zad x4
  have lyF := zad y4
  have lpF := zad p4
  have f5 := zbx zeroPart w4
  have hlF := C4.size
  clear x4 y4 p4 C4 
  obtain ⟨w5, hw5⟩ : ∃ W, World.onObj (w4.alloc (.cells (partC zeroPart) 51)) w4.heap.size (laidAt 0 (partC zeroPart)) = W := ⟨_, rfl⟩
  first | rw [hw5] at x5 y5 p5 f5 C5 ⊢ | (simp only [zag, zah, zam] at hw5; rw [hw5] at x5 y5 p5 f5 C5 ⊢)
  clear hw5
  obtain ⟨F, hbF⟩ : ∃ b, w4.heap.size = b := ⟨_, rfl⟩
  rw [hbF] at f5 hlF lxF lyF lpF ⊢
  clear hbF
  go_wp2_with fail
  refine (SL _).mono ?_
  rintro e w6 ⟨rfl, hc6⟩
  have x6 := hkeep (hc6) x5
  have y6 := hkeep (hc6) y5
  have p6 := hkeep (hc6) p5
  have f6 := hkeep (hc6) f5
  have C6 := C5.trans (hc6)
  clear x5 y5 p5 f5 C5 hc6 
  have ex : ¬ X = F := by omega
  have ey : ¬ X + 1 = F := by omega
  have ep : ¬ P = F := by omega
  go_upto_region 8 with (fail)
  have x7 : (World.onObj w6 F (laidAt 0 (partC (firstP22 wh sl a0 b0 sd)))).heap[X]? = _ := (zan (w := w6) (F := F) (laidAt 0 (partC (firstP22 wh sl a0 b0 sd))) ex).trans x6
  have y7 : (World.onObj w6 F (laidAt 0 (partC (firstP22 wh sl a0 b0 sd)))).heap[X + 1]? = _ := (zan (w := w6) (F := F) (laidAt 0 (partC (firstP22 wh sl a0 b0 sd))) ey).trans y6
  have p7 : (World.onObj w6 F (laidAt 0 (partC (firstP22 wh sl a0 b0 sd)))).heap[P]? = _ := (zan (w := w6) (F := F) (laidAt 0 (partC (firstP22 wh sl a0 b0 sd))) ep).trans p6
  have f7 : (World.onObj w6 F (laidAt 0 (partC (firstP22 wh sl a0 b0 sd)))).heap[F]? = some (.cells (partC (firstP22 wh sl a0 b0 sd)) 51 (0, 0)) := by rw [zab, if_pos rfl, f6, Option.map_some, zag]
  have C7 : Ch [] w (World.onObj w6 F (laidAt 0 (partC (firstP22 wh sl a0 b0 sd)))) := C6.onObj (.inr hlF) _
  clear x6 y6 p6 f6 C6 ex ey ep
  obtain ⟨w7, hw7⟩ : ∃ W, (World.onObj w6 F (laidAt 0 (partC (firstP22 wh sl a0 b0 sd)))) = W := ⟨_, rfl⟩
  rw [hw7] at x7 y7 p7 f7 C7  ⊢
  clear hw7
  go_wp2
  have HC0 := Lib.hid C7
  clear x7 y7 p7 f7 C7
  go_loopw [74] (fun i wr => ∃ j : Nat, i = .int .i64 j ∧ j ≤ 2 ∧ Ch [] w wr) (fun i _ => 2 - (intOf i).toNat)
  case atStart => exact ⟨0, rfl, by omega, HC0.out⟩
  case round =>
    obtain ⟨j, hj, hj2, C30⟩ := hrel
    subst hj
    clear HC0
    obtain ⟨w30, hw30⟩ : ∃ W, wr = W := ⟨_, rfl⟩
    rw [hw30] at C30 ⊢
    clear hw30
    rcases (show j = 2 ∨ j < 2 by omega) with rfl | hlt
    · go_wp2_with fail
      refine (O1 _ C30).mono ?_
      rintro e w31 ⟨a2, c3, rfl, hc31⟩
      have C31 := C30.trans hc31
      go_wp2_with fail
      refine (zdh a' a2 c' c3 _).mono ?_
      rintro e w32 ⟨rfl, hc32⟩
      go_wp2
      go_ret
      exact ⟨rfl, C31.trans hc32⟩
    · have IX := fun w => index_2p (firstP22 wh sl a0 b0 sd) s j hlt w
      have hjI : (j : Int) < 2 := by omega
      have hj0 : (0 : Int) ≤ j := by omega
      obtain ⟨pp, hpp⟩ : ∃ x, nthP (firstP22 wh sl a0 b0 sd) s j = x := ⟨_, rfl⟩
      rw [hpp] at IX
      clear hpp
      have C30 := C30
      go_upto_region 13 with (fail)
      have hc31 := zac pp w30
      have v31 := zbx pp w30
      have C31 := C30.trans hc31
      have hlV := C30.size
      clear C30 hc31
      obtain ⟨w31, hw31⟩ : ∃ W, World.onObj (w30.alloc (.cells (partC zeroPart) 51)) w30.heap.size (laidAt 0 (partC pp)) = W := ⟨_, rfl⟩
      rw [hw31] at v31 C31 ⊢
      clear hw31
      obtain ⟨V, hV⟩ : ∃ b, w30.heap.size = b := ⟨_, rfl⟩
      rw [hV] at v31 hlV ⊢
      clear hV
      clear IX
      go_wp2_with fail
      refine (R1 _ _ _ _).mono ?_
      rintro e w32 ⟨rfl, hc32⟩
      have v32 := hkeep (hc32) v31
      have C32 := C31.trans (hc32)
      clear v31 C31 hc32 
      have nv := nsz v32
      go_upto_region 14 with (fail)
      clear nv
      have v33 := hkeep (zac zeroPart w32) v32
      have C33 := C32.trans (zac zeroPart w32)
      have lvNN := zad v32
      have n33 := zbx zeroPart w32
      have hlNN := C32.size
      clear v32 C32 
      obtain ⟨w33, hw33⟩ : ∃ W, World.onObj (w32.alloc (.cells (partC zeroPart) 51)) w32.heap.size (laidAt 0 (partC zeroPart)) = W := ⟨_, rfl⟩
      first | rw [hw33] at v33 n33 C33 ⊢ | (simp only [zag, zah, zam] at hw33; rw [hw33] at v33 n33 C33 ⊢)
      clear hw33
      obtain ⟨NN, hbNN⟩ : ∃ b, w32.heap.size = b := ⟨_, rfl⟩
      rw [hbNN] at n33 hlNN lvNN ⊢
      clear hbNN
      have nv := nsz v33
      have nn := nsz n33
      go_upto_region 16 with (fail)
      clear nv nn
      have v34 := hkeep (zac zeroPart w33) v33
      have n34 := hkeep (zac zeroPart w33) n33
      have C34 := C33.trans (zac zeroPart w33)
      have lvTT := zad v33
      have lnTT := zad n33
      have t34 := zbx zeroPart w33
      have hlTT := C33.size
      clear v33 n33 C33 
      obtain ⟨w34, hw34⟩ : ∃ W, World.onObj (w33.alloc (.cells (partC zeroPart) 51)) w33.heap.size (laidAt 0 (partC zeroPart)) = W := ⟨_, rfl⟩
      first | rw [hw34] at v34 n34 t34 C34 ⊢ | (simp only [zag, zah, zam] at hw34; rw [hw34] at v34 n34 t34 C34 ⊢)
      clear hw34
      obtain ⟨TT, hbTT⟩ : ∃ b, w33.heap.size = b := ⟨_, rfl⟩
      rw [hbTT] at t34 hlTT lvTT lnTT ⊢
      clear hbTT
      go_wp2_with fail
      refine (P1 _ _ _).mono ?_
      rintro e w' ⟨rfl, rfl⟩
      go_wp2_with fail
      refine (zdh none none 0 0 _).mono ?_
      rintro e w35 ⟨rfl, hc35⟩
      have v35 := hkeep (hc35) v34
      have n35 := hkeep (hc35) n34
      have t35 := hkeep (hc35) t34
      have C35 := C34.trans (hc35)
      clear v34 n34 t34 C34 hc35 
      go_wp2
      go_roundw
      case rel => exact ⟨j + 1, by go_num, by omega, C35⟩
      case measure => simp [intOf]; omega
end
end Go.Proofs.Hc
