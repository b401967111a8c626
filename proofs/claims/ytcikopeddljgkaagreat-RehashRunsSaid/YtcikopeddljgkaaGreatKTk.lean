/- Law 20: RehashRuns, the walk (printed by gen_runs20.py). -/
import Derived.Test.YtcikopeddljgkaaGreatKRz
import Derived.Test.YtcikopeddljgkaaGreatK0
set_option linter.unusedSimpArgs false
set_option linter.unusedVariables false
set_option maxHeartbeats 4000000
set_option maxRecDepth 100000
namespace Go.Proofs.Hc
open Go.RowKit
attribute [local go_sem] zbs zca zax zbc zbn zba zbm zbo zbu signed64 signed8 zar BitVec.ofInt_add BitVec.ofInt_mul ofInt_sub' zay zaz wide8 eqN neN zbz shr1 shr7 shr56
attribute [local go_sem high] zbb zbt
attribute [local go_sem] zag zbw zah zas zad zbe zaq zal zbl zan zbd zbf
attribute [local go_sem] load26 load73 load23 store26 build73
attribute [local go_sem ↓] lrow26 lrow73 lrow23 srow26 zero26 brow73 zac zaw zbg zaa zab
attribute [local go_sem] zai zav zat zbj zbk zbp zao zau zbq zbi zbh
attribute [local go_sem] nn2 nm2 nn3 nm3 nn4 nm4 nn5 nm5 nn6 nm6 nn7 nm7 nn8 nm8
section
attribute [local go_sem] zar zby
attribute [local go_sem] Oper.semAt_some zap
attribute [local go_sem] layC_idx lcell0 lcell1 lcell2 lcell3 lcell4 lcell5 lcell46
attribute [local go_sem] lay_g0 lay_g1 lay_g2 lay_g3 lay_g4 lay_g5 lay_g46 lay_s0 lay_s4 lay_s5 lay_s46 zck layC_one layC_all layC_ws boxLay loadLay storeLay build_lay box_lay buildLay0 buildLay2 buildLay3
attribute [local go_sem ↓] lrowLay srowLay browLay brow_lay zcs
attribute [local go_sem high] zaj
attribute [local irreducible] layC
attribute [local go_sem high] eql_lay neq_lay guardLay
theorem begin_ok {who sl : Int} (s0 : 0 ≤ sl) (s1 : sl < 128) (w0 : 0 ≤ who) (w7 : who < 8) (seed : BitVec 64) : beginE who sl seed = .ok (firstL who sl seed) := by
  unfold beginE
  rw [if_pos ((zdc _).2 ⟨by show (0 : Int) ≤ 0; decide, by show (0 : Int) ≤ 6; decide, w0, w7, s0, s1, (by show oddB 0#64 = false; decide), .inr ⟨by show (0 : Int) ≠ 2; decide, by show (0 : Int) ≠ 3; decide⟩⟩)]
theorem begin_no {who sl : Int} (h : sl < 0 ∨ 128 ≤ sl ∨ who < 0 ∨ 8 ≤ who) (seed : BitVec 64) : beginE who sl seed = .error 2 := by
  unfold beginE
  rw [if_neg (fun hr => by have R := (zdc _).1 hr; have a := R.sl0; have b := R.sl1; have c := R.who0; have d := R.who7; simp only [firstL] at a b c d; omega)]
theorem run_zero {sl : Int} (s0 : 0 ≤ sl) (s1 : sl < 128) (seed : BitVec 64) (l : List (BitVec 64)) (hf : 56 + 40 * sl ≤ (l.length : Int)) : ∃ k l' p', k ≤ 100 ∧ RunsL l (firstL 0 sl seed) k l' p' ∧ l'.length = l.length :=
  runsL_any 100 l (firstL 0 sl seed) (by rw [show measL (firstL 0 sl seed) = 100 from rfl]; exact Nat.le_refl _) ((zdc _).2 ⟨by show (0 : Int) ≤ 0; decide, by show (0 : Int) ≤ 6; decide, by show (0 : Int) ≤ 0; decide, by show (0 : Int) < 8; decide, s0, s1, (by show oddB 0#64 = false; decide), .inr ⟨by show (0 : Int) ≠ 2; decide, by show (0 : Int) ≠ 3; decide⟩⟩) hf
theorem two_zz (x y : Int) (w : World) : (w.alloc (.cells #[I x, I y] 45)).heap[w.heap.size]? = some (.cells #[I x, I y] 45 (0, 0)) := by rw [zac, if_pos rfl]
theorem runs20_e1 (a : Option Addr) (n0 c0 : Nat) (ks : Nat → BitVec 64) (sl wh : Int) (seed : BitVec 64) (w : World) (hn : n0 ≤ c0) (hc : c0 ≤ 9223372036854775807) (ha : a = none → n0 = 0 ∧ c0 = 0) (hk : KeysIn w a n0 ks) (h0 : min n0 140 = 0) (hs : sl < 0 ∨ 128 ≤ sl) :
    Calls Tryz.prog 6 #[.slice a n0 c0, .agg #[I sl, I wh], U seed] w fun e w' => e = .returned (.bool true) ∧ Ch [] w w' := by
  have W1 := fun w => wakes20_any w
  have O1 := fun w' (c : Ch [] w w') => own20_empty a n0 c0 ks w' hn hc ha (hk.ch c (Nat.le_refl _)) h0
  have B1 := fun w => lBegin_any wh sl seed w
  rw [begin_no (by omega)] at B1
  simp only [tupOr] at B1
  have S1 := fun w => rSlab_any sl w
  rw [show (decide (0 ≤ sl) && decide (sl < 128)) = false by simp; omega] at S1
  have R1 := fun a c w => lRun_cells a 0 c sl seed rfl w
  have P1 := fun a c w => zdd a 0 c w
  simp only [show ¬ (1 ≤ 0) by omega, decide_false, Bool.false_and] at P1
  clear hn hc ha hk h0 hs 
  have C0 : Ch [] w (w.alloc (.cells #[I sl, I wh] 45)) := (Ch.refl [] w).alloc _
  have x0 := two_zz sl wh w
  go_enter Tryz.func6, Tryz.ntmps6
  go_wp2_with fail
  obtain ⟨w0, hw0⟩ : ∃ W, w.alloc (.cells #[I sl, I wh] 45) = W := ⟨_, rfl⟩
  rw [hw0] at C0 x0 ⊢
  clear hw0
  obtain ⟨X, hX⟩ : ∃ b, w.heap.size = b := ⟨_, rfl⟩
  rw [hX] at x0 ⊢
  have hXw : w.heap.size ≤ X := by omega
  clear hX
  refine (W1 _).mono ?_
  rintro e w1 ⟨rfl, hc1⟩
  have x1 := hkeep hc1 x0
  have C1 := C0.trans hc1
  clear x0 C0 hc1 W1
  go_upto_region 3 with (fail)
  have sP : (fun W' : World => W'.heap[X]? = some (.cells #[I sl, I wh] 45 (0, 0))) w1.drew := x1
  have C2 : Ch [] w w1.drew := C1.drew
  refine wp_region_held_drew (S := fun W' => W'.heap[X]? = some (.cells #[I sl, I wh] 45 (0, 0))) (by kernel_rfl) sP ?_
  intro _
  simp only [List.size_toArray, List.length_cons, List.length_nil, Nat.reduceAdd]
  clear x1 C1
  generalize w1.drew = w2 at *
  refine tk 0 20 ?_ rfl sP ?_ ?_; rotate_left
  · intro _ _; go_simp; try with_reducible rfl
  try go_frame
  refine tk 2 22 ?_ rfl sP ?_ ?_; rotate_left
  · intro _ _; go_simp; try with_reducible rfl
  try go_frame
  refine tk 3 23 ?_ rfl sP ?_ ?_; rotate_left
  · intro _ _; go_simp; try with_reducible rfl
  try go_frame
  refine rd (o := ⟨some 21, _, _, _, _, none⟩) 1 rfl (fun K hK => ?_); go_simp
  refine (O1 _ C2).mono ?_
  rintro e w3 ⟨a', c', rfl, hc3⟩
  have x3 := hkeep hc3 sP
  have C3 := C2.trans hc3
  refine hK.out _ _ x3 (fun _ => ?_)
  clear hK K sP C2 hc3
  refine tk 4 7 ?_ rfl x3 ?_ ?_; rotate_left
  · intro _ _; go_simp; try with_reducible rfl
  try go_frame
  refine tk 5 8 ?_ rfl x3 ?_ ?_; rotate_left
  · intro _ _; go_simp; try with_reducible rfl
  try go_frame
  refine wpAnyH_done (by kernel_rfl) ?_ _
  go_wp2_with fail
  refine (B1 _).mono ?_
  rintro e w4 ⟨rfl, hc4⟩
  have x4 := hkeep hc4 x3
  have C4 := C3.trans hc4
  clear x3 C3 hc4 B1
  have nX := ns x4
  go_upto_region 5 with (fail)
  have hc5 := zaf zeroLay w4
  have p5 := zcm zeroLay w4
  have x5 := hkeep hc5 x4
  have C5 := C4.trans hc5
  clear x4 C4 hc5 nX
  have hPw := C5.size
  obtain ⟨w5, hw5⟩ : ∃ W, World.onObj (w4.alloc (.cells (layC zeroLay) 72)) w4.heap.size (laidAt 0 (layC zeroLay)) = W := ⟨_, rfl⟩
  rw [hw5] at p5 x5 C5  hPw ⊢
  clear hw5
  obtain ⟨P, hP⟩ : ∃ b, w4.heap.size = b := ⟨_, rfl⟩
  rw [hP] at p5 ⊢
  clear hP
  have nX := ns x5
  have nP := ns p5
  go_upto_region 6 with (fail)
  have hc6 := zaf zeroLay w5
  have f6 := zcm zeroLay w5
  have p6 := hkeep hc6 p5
  have x6 := hkeep hc6 x5
  have C6 := C5.trans hc6
  clear x5 C5 hc6 p5
  obtain ⟨w6, hw6⟩ : ∃ W, World.onObj (w5.alloc (.cells (layC zeroLay) 72)) w5.heap.size (laidAt 0 (layC zeroLay)) = W := ⟨_, rfl⟩
  first | rw [hw6] at p6 f6 x6 C6  ⊢ | (simp only [zaj] at hw6; rw [hw6] at p6 f6 x6 C6  ⊢)
  clear hw6
  obtain ⟨F, hF⟩ : ∃ b, w5.heap.size = b := ⟨_, rfl⟩
  rw [hF] at f6 nX nP hPw ⊢
  clear hF
  go_wp2_with fail
  refine (S1 _).mono ?_
  rintro e w' ⟨rfl, rfl⟩
  clear nX nP
  go_wp2_with fail
  refine (R1 _ _ _).mono ?_
  rintro e w7 ⟨rfl, hc7⟩
  have C7 := C6.trans hc7
  clear p6 f6 C6 hc7 R1 x6
  go_wp2_with fail
  refine (P1 _ _ _).mono ?_
  rintro e w' ⟨rfl, rfl⟩
  go_wp2_with fail
  refine (eq_noparts none none 0 0 _).mono ?_
  rintro e w8 ⟨rfl, hc8⟩
  have C8 := C7.trans hc8
  clear C7 hc8 
  go_wp2_with fail
  refine (O1 _ C8).mono ?_
  rintro e w9 ⟨a2, c2, rfl, hc9⟩
  have C9 := C8.trans hc9
  go_wp2_with fail
  refine (eq_noparts a' a2 c' c2 _).mono ?_
  rintro e w10 ⟨rfl, hc10⟩
  go_wp2
  go_ret
  exact ⟨rfl, C9.trans hc10⟩
theorem runs20_e2 (a : Option Addr) (n0 c0 : Nat) (ks : Nat → BitVec 64) (sl wh : Int) (seed : BitVec 64) (w : World) (hn : n0 ≤ c0) (hc : c0 ≤ 9223372036854775807) (ha : a = none → n0 = 0 ∧ c0 = 0) (hk : KeysIn w a n0 ks) (h0 : min n0 140 = 0) (s0 : 0 ≤ sl) (s1 : sl < 128) (hw : wh < 0 ∨ 8 ≤ wh) :
    Calls Tryz.prog 6 #[.slice a n0 c0, .agg #[I sl, I wh], U seed] w fun e w' => e = .returned (.bool true) ∧ Ch [] w w' := by
  have W1 := fun w => wakes20_any w
  have O1 := fun w' (c : Ch [] w w') => own20_empty a n0 c0 ks w' hn hc ha (hk.ch c (Nat.le_refl _)) h0
  have B1 := fun w => lBegin_any wh sl seed w
  rw [begin_no (by omega)] at B1
  simp only [tupOr] at B1
  have S1 := fun w => rSlab_any sl w
  rw [show (decide (0 ≤ sl) && decide (sl < 128)) = true by simp; omega] at S1
  have K1 := fun w => rWho20_any wh w
  rw [show (decide (0 ≤ wh) && decide (wh < 8)) = false by simp; omega] at K1
  have R1 := fun a c w => lRun_cells a 0 c sl seed rfl w
  have P1 := fun a c w => zdd a 0 c w
  simp only [show ¬ (1 ≤ 0) by omega, decide_false, Bool.false_and] at P1
  clear hn hc ha hk h0 s0 s1 hw 
  have C0 : Ch [] w (w.alloc (.cells #[I sl, I wh] 45)) := (Ch.refl [] w).alloc _
  have x0 := two_zz sl wh w
  go_enter Tryz.func6, Tryz.ntmps6
  go_wp2_with fail
  obtain ⟨w0, hw0⟩ : ∃ W, w.alloc (.cells #[I sl, I wh] 45) = W := ⟨_, rfl⟩
  rw [hw0] at C0 x0 ⊢
  clear hw0
  obtain ⟨X, hX⟩ : ∃ b, w.heap.size = b := ⟨_, rfl⟩
  rw [hX] at x0 ⊢
  have hXw : w.heap.size ≤ X := by omega
  clear hX
  refine (W1 _).mono ?_
  rintro e w1 ⟨rfl, hc1⟩
  have x1 := hkeep hc1 x0
  have C1 := C0.trans hc1
  clear x0 C0 hc1 W1
  go_upto_region 3 with (fail)
  have sP : (fun W' : World => W'.heap[X]? = some (.cells #[I sl, I wh] 45 (0, 0))) w1.drew := x1
  have C2 : Ch [] w w1.drew := C1.drew
  refine wp_region_held_drew (S := fun W' => W'.heap[X]? = some (.cells #[I sl, I wh] 45 (0, 0))) (by kernel_rfl) sP ?_
  intro _
  simp only [List.size_toArray, List.length_cons, List.length_nil, Nat.reduceAdd]
  clear x1 C1
  generalize w1.drew = w2 at *
  refine tk 0 20 ?_ rfl sP ?_ ?_; rotate_left
  · intro _ _; go_simp; try with_reducible rfl
  try go_frame
  refine tk 2 22 ?_ rfl sP ?_ ?_; rotate_left
  · intro _ _; go_simp; try with_reducible rfl
  try go_frame
  refine tk 3 23 ?_ rfl sP ?_ ?_; rotate_left
  · intro _ _; go_simp; try with_reducible rfl
  try go_frame
  refine rd (o := ⟨some 21, _, _, _, _, none⟩) 1 rfl (fun K hK => ?_); go_simp
  refine (O1 _ C2).mono ?_
  rintro e w3 ⟨a', c', rfl, hc3⟩
  have x3 := hkeep hc3 sP
  have C3 := C2.trans hc3
  refine hK.out _ _ x3 (fun _ => ?_)
  clear hK K sP C2 hc3
  refine tk 4 7 ?_ rfl x3 ?_ ?_; rotate_left
  · intro _ _; go_simp; try with_reducible rfl
  try go_frame
  refine tk 5 8 ?_ rfl x3 ?_ ?_; rotate_left
  · intro _ _; go_simp; try with_reducible rfl
  try go_frame
  refine wpAnyH_done (by kernel_rfl) ?_ _
  go_wp2_with fail
  refine (B1 _).mono ?_
  rintro e w4 ⟨rfl, hc4⟩
  have x4 := hkeep hc4 x3
  have C4 := C3.trans hc4
  clear x3 C3 hc4 B1
  have nX := ns x4
  go_upto_region 5 with (fail)
  have hc5 := zaf zeroLay w4
  have p5 := zcm zeroLay w4
  have x5 := hkeep hc5 x4
  have C5 := C4.trans hc5
  clear x4 C4 hc5 nX
  have hPw := C5.size
  obtain ⟨w5, hw5⟩ : ∃ W, World.onObj (w4.alloc (.cells (layC zeroLay) 72)) w4.heap.size (laidAt 0 (layC zeroLay)) = W := ⟨_, rfl⟩
  rw [hw5] at p5 x5 C5  hPw ⊢
  clear hw5
  obtain ⟨P, hP⟩ : ∃ b, w4.heap.size = b := ⟨_, rfl⟩
  rw [hP] at p5 ⊢
  clear hP
  have nX := ns x5
  have nP := ns p5
  go_upto_region 6 with (fail)
  have hc6 := zaf zeroLay w5
  have f6 := zcm zeroLay w5
  have p6 := hkeep hc6 p5
  have x6 := hkeep hc6 x5
  have C6 := C5.trans hc6
  clear x5 C5 hc6 p5
  obtain ⟨w6, hw6⟩ : ∃ W, World.onObj (w5.alloc (.cells (layC zeroLay) 72)) w5.heap.size (laidAt 0 (layC zeroLay)) = W := ⟨_, rfl⟩
  first | rw [hw6] at p6 f6 x6 C6  ⊢ | (simp only [zaj] at hw6; rw [hw6] at p6 f6 x6 C6  ⊢)
  clear hw6
  obtain ⟨F, hF⟩ : ∃ b, w5.heap.size = b := ⟨_, rfl⟩
  rw [hF] at f6 nX nP hPw ⊢
  clear hF
  go_wp2_with fail
  refine (S1 _).mono ?_
  rintro e w' ⟨rfl, rfl⟩
  go_wp2_with fail
  refine (K1 _).mono ?_
  rintro e w' ⟨rfl, rfl⟩
  clear nX nP
  go_wp2_with fail
  refine (R1 _ _ _).mono ?_
  rintro e w7 ⟨rfl, hc7⟩
  have C7 := C6.trans hc7
  clear p6 f6 C6 hc7 R1 x6
  go_wp2_with fail
  refine (P1 _ _ _).mono ?_
  rintro e w' ⟨rfl, rfl⟩
  go_wp2_with fail
  refine (eq_noparts none none 0 0 _).mono ?_
  rintro e w8 ⟨rfl, hc8⟩
  have C8 := C7.trans hc8
  clear C7 hc8 
  go_wp2_with fail
  refine (O1 _ C8).mono ?_
  rintro e w9 ⟨a2, c2, rfl, hc9⟩
  have C9 := C8.trans hc9
  go_wp2_with fail
  refine (eq_noparts a' a2 c' c2 _).mono ?_
  rintro e w10 ⟨rfl, hc10⟩
  go_wp2
  go_ret
  exact ⟨rfl, C9.trans hc10⟩
theorem runs20_e3 (a : Option Addr) (n0 c0 : Nat) (ks : Nat → BitVec 64) (sl wh : Int) (seed : BitVec 64) (w : World) (hn : n0 ≤ c0) (hc : c0 ≤ 9223372036854775807) (ha : a = none → n0 = 0 ∧ c0 = 0) (hk : KeysIn w a n0 ks) (h0 : min n0 140 = 0) (s0 : 0 ≤ sl) (s1 : sl < 128) (w0 : 0 ≤ wh) (w7 : wh < 8) :
    Calls Tryz.prog 6 #[.slice a n0 c0, .agg #[I sl, I wh], U seed] w fun e w' => e = .returned (.bool true) ∧ Ch [] w w' := by
  have W1 := fun w => wakes20_any w
  have O1 := fun w' (c : Ch [] w w') => own20_empty a n0 c0 ks w' hn hc ha (hk.ch c (Nat.le_refl _)) h0
  have B1 := fun w => lBegin_any wh sl seed w
  rw [begin_ok s0 s1 w0 w7] at B1
  simp only [tupOr] at B1
  have S1 := fun w => rSlab_any sl w
  rw [show (decide (0 ≤ sl) && decide (sl < 128)) = true by simp; omega] at S1
  have K1 := fun w => rWho20_any wh w
  rw [show (decide (0 ≤ wh) && decide (wh < 8)) = true by simp; omega] at K1
  have R1 := fun a c w => lRun_cells a 0 c sl seed rfl w
  have P1 := fun a c w => zdd a 0 c w
  simp only [show ¬ (1 ≤ 0) by omega, decide_false, Bool.false_and] at P1
  clear hn hc ha hk h0 s0 s1 w0 w7 
  have C0 : Ch [] w (w.alloc (.cells #[I sl, I wh] 45)) := (Ch.refl [] w).alloc _
  have x0 := two_zz sl wh w
  go_enter Tryz.func6, Tryz.ntmps6
  go_wp2_with fail
  obtain ⟨w0, hw0⟩ : ∃ W, w.alloc (.cells #[I sl, I wh] 45) = W := ⟨_, rfl⟩
  rw [hw0] at C0 x0 ⊢
  clear hw0
  obtain ⟨X, hX⟩ : ∃ b, w.heap.size = b := ⟨_, rfl⟩
  rw [hX] at x0 ⊢
  have hXw : w.heap.size ≤ X := by omega
  clear hX
  refine (W1 _).mono ?_
  rintro e w1 ⟨rfl, hc1⟩
  have x1 := hkeep hc1 x0
  have C1 := C0.trans hc1
  clear x0 C0 hc1 W1
  go_upto_region 3 with (fail)
  have sP : (fun W' : World => W'.heap[X]? = some (.cells #[I sl, I wh] 45 (0, 0))) w1.drew := x1
  have C2 : Ch [] w w1.drew := C1.drew
  refine wp_region_held_drew (S := fun W' => W'.heap[X]? = some (.cells #[I sl, I wh] 45 (0, 0))) (by kernel_rfl) sP ?_
  intro _
  simp only [List.size_toArray, List.length_cons, List.length_nil, Nat.reduceAdd]
  clear x1 C1
  generalize w1.drew = w2 at *
  refine tk 0 20 ?_ rfl sP ?_ ?_; rotate_left
  · intro _ _; go_simp; try with_reducible rfl
  try go_frame
  refine tk 2 22 ?_ rfl sP ?_ ?_; rotate_left
  · intro _ _; go_simp; try with_reducible rfl
  try go_frame
  refine tk 3 23 ?_ rfl sP ?_ ?_; rotate_left
  · intro _ _; go_simp; try with_reducible rfl
  try go_frame
  refine rd (o := ⟨some 21, _, _, _, _, none⟩) 1 rfl (fun K hK => ?_); go_simp
  refine (O1 _ C2).mono ?_
  rintro e w3 ⟨a', c', rfl, hc3⟩
  have x3 := hkeep hc3 sP
  have C3 := C2.trans hc3
  refine hK.out _ _ x3 (fun _ => ?_)
  clear hK K sP C2 hc3
  refine tk 4 7 ?_ rfl x3 ?_ ?_; rotate_left
  · intro _ _; go_simp; try with_reducible rfl
  try go_frame
  refine tk 5 8 ?_ rfl x3 ?_ ?_; rotate_left
  · intro _ _; go_simp; try with_reducible rfl
  try go_frame
  refine wpAnyH_done (by kernel_rfl) ?_ _
  go_wp2_with fail
  refine (B1 _).mono ?_
  rintro e w4 ⟨rfl, hc4⟩
  have x4 := hkeep hc4 x3
  have C4 := C3.trans hc4
  clear x3 C3 hc4 B1
  have nX := ns x4
  go_upto_region 5 with (fail)
  have hc5 := zaf (firstL wh sl seed) w4
  have p5 := zcm (firstL wh sl seed) w4
  have x5 := hkeep hc5 x4
  have C5 := C4.trans hc5
  clear x4 C4 hc5 nX
  have hPw := C5.size
  obtain ⟨w5, hw5⟩ : ∃ W, World.onObj (w4.alloc (.cells (layC zeroLay) 72)) w4.heap.size (laidAt 0 (layC (firstL wh sl seed))) = W := ⟨_, rfl⟩
  rw [hw5] at p5 x5 C5  hPw ⊢
  clear hw5
  obtain ⟨P, hP⟩ : ∃ b, w4.heap.size = b := ⟨_, rfl⟩
  rw [hP] at p5 ⊢
  clear hP
  have nX := ns x5
  have nP := ns p5
  go_upto_region 6 with (fail)
  have hc6 := zaf zeroLay w5
  have f6 := zcm zeroLay w5
  have p6 := hkeep hc6 p5
  have x6 := hkeep hc6 x5
  have C6 := C5.trans hc6
  clear x5 C5 hc6 p5
  obtain ⟨w6, hw6⟩ : ∃ W, World.onObj (w5.alloc (.cells (layC zeroLay) 72)) w5.heap.size (laidAt 0 (layC zeroLay)) = W := ⟨_, rfl⟩
  first | rw [hw6] at p6 f6 x6 C6  ⊢ | (simp only [zaj] at hw6; rw [hw6] at p6 f6 x6 C6  ⊢)
  clear hw6
  obtain ⟨F, hF⟩ : ∃ b, w5.heap.size = b := ⟨_, rfl⟩
  rw [hF] at f6 nX nP hPw ⊢
  clear hF
  go_wp2_with fail
  refine (S1 _).mono ?_
  rintro e w' ⟨rfl, rfl⟩
  go_wp2_with fail
  refine (K1 _).mono ?_
  rintro e w' ⟨rfl, rfl⟩
  go_upto_region 8 with (fail)
  have f7 : (World.onObj w6 F (laidAt 0 (layC (firstL wh sl seed)))).heap[F]? = some (.cells (layC (firstL wh sl seed)) 72 (0, 0)) := by rw [zab, if_pos rfl, f6, Option.map_some, zaj]
  have p7 : (World.onObj w6 F (laidAt 0 (layC (firstL wh sl seed)))).heap[P]? = _ := (zbv _ nP).trans p6
  have C7 : Ch [] w (World.onObj w6 F (laidAt 0 (layC (firstL wh sl seed)))) := C6.onObj (.inr (by omega)) _
  obtain ⟨w7, hw7⟩ : ∃ W, (World.onObj w6 F (laidAt 0 (layC (firstL wh sl seed)))) = W := ⟨_, rfl⟩
  rw [hw7] at f7 p7 C7  ⊢
  clear hw7 f6 p6 x6 C6 nX nP 
  go_wp2_with fail
  refine (R1 _ _ _).mono ?_
  rintro e w8 ⟨rfl, hc8⟩
  have C8 := C7.trans hc8
  clear p7 f7 C7 hc8 R1 
  go_wp2_with fail
  refine (P1 _ _ _).mono ?_
  rintro e w' ⟨rfl, rfl⟩
  go_wp2_with fail
  refine (eq_noparts none none 0 0 _).mono ?_
  rintro e w9 ⟨rfl, hc9⟩
  have C9 := C8.trans hc9
  clear C8 hc9 
  go_wp2_with fail
  refine (O1 _ C9).mono ?_
  rintro e w10 ⟨a2, c2, rfl, hc10⟩
  have C10 := C9.trans hc10
  go_wp2_with fail
  refine (eq_noparts a' a2 c' c2 _).mono ?_
  rintro e w11 ⟨rfl, hc11⟩
  go_wp2
  go_ret
  exact ⟨rfl, C10.trans hc11⟩
theorem runs20_b1 (a : Option Addr) (n0 c0 : Nat) (ks : Nat → BitVec 64) (sl wh : Int) (seed : BitVec 64) (w : World) (hn : n0 ≤ c0) (hc : c0 ≤ 9223372036854775807) (ha : a = none → n0 = 0 ∧ c0 = 0) (hk : KeysIn w a n0 ks) (m : Nat) (hm : min n0 140 = m) (h1 : 1 ≤ m) (hs : sl < 0 ∨ 128 ≤ sl) :
    Calls Tryz.prog 6 #[.slice a n0 c0, .agg #[I sl, I wh], U seed] w fun e w' => e = .returned (.bool true) ∧ Ch [] w w' := by
  have W1 := fun w => wakes20_any w
  have O1 := fun w' (c : Ch [] w w') => own20_row a n0 c0 ks w' hn hc ha (hk.ch c (Nat.le_refl _)) m hm h1
  have B1 := fun w => lBegin_any wh sl seed w
  rw [begin_no (by omega)] at B1
  simp only [tupOr] at B1
  have S1 := fun w => rSlab_any sl w
  rw [show (decide (0 ≤ sl) && decide (sl < 128)) = false by simp; omega] at S1
  have hm140 : m ≤ 140 := by omega
  have P1 := fun a c w => zdd a m c w
  rw [decide_eq_true h1, decide_eq_true (show m ≤ 8192 by omega), Bool.and_true] at P1
  have R1 := fun a c w => lRun_arg a m c sl seed h1 (by omega) (by omega) w
  obtain ⟨LL, hLL⟩ : ∃ L, frontW ks m = L := ⟨_, rfl⟩
  have hlen : LL.length = m := by rw [← hLL, frontW_len]
  rw [hLL] at O1
  have E1 := fun R R2 c c2 cur cur2 w hw1 hw2 hb1 hb2 => eq_parts LL LL 0 m R R2 c c2 cur cur2 w (by omega) (by omega) hw1 hw2 (fun _ _ _ => rfl) hb1 hb2
  clear hLL hlen
  clear hn hc ha hk hm hs 
  have C0 : Ch [] w (w.alloc (.cells #[I sl, I wh] 45)) := (Ch.refl [] w).alloc _
  have x0 := two_zz sl wh w
  go_enter Tryz.func6, Tryz.ntmps6
  go_wp2_with fail
  obtain ⟨w0, hw0⟩ : ∃ W, w.alloc (.cells #[I sl, I wh] 45) = W := ⟨_, rfl⟩
  rw [hw0] at C0 x0 ⊢
  clear hw0
  obtain ⟨X, hX⟩ : ∃ b, w.heap.size = b := ⟨_, rfl⟩
  rw [hX] at x0 ⊢
  have hXw : w.heap.size ≤ X := by omega
  clear hX
  refine (W1 _).mono ?_
  rintro e w1 ⟨rfl, hc1⟩
  have x1 := hkeep hc1 x0
  have C1 := C0.trans hc1
  clear x0 C0 hc1 W1
  go_upto_region 3 with (fail)
  have sP : (fun W' : World => W'.heap[X]? = some (.cells #[I sl, I wh] 45 (0, 0))) w1.drew := x1
  have C2 : Ch [] w w1.drew := C1.drew
  refine wp_region_held_drew (S := fun W' => W'.heap[X]? = some (.cells #[I sl, I wh] 45 (0, 0))) (by kernel_rfl) sP ?_
  intro _
  simp only [List.size_toArray, List.length_cons, List.length_nil, Nat.reduceAdd]
  clear x1 C1
  generalize w1.drew = w2 at *
  refine tk 0 20 ?_ rfl sP ?_ ?_; rotate_left
  · intro _ _; go_simp; try with_reducible rfl
  try go_frame
  refine tk 2 22 ?_ rfl sP ?_ ?_; rotate_left
  · intro _ _; go_simp; try with_reducible rfl
  try go_frame
  refine tk 3 23 ?_ rfl sP ?_ ?_; rotate_left
  · intro _ _; go_simp; try with_reducible rfl
  try go_frame
  refine rd (o := ⟨some 21, _, _, _, _, none⟩) 1 rfl (fun K hK => ?_); go_simp
  refine (O1 _ C2).mono ?_
  rintro e w3 ⟨R, c2, cur, rfl, -, hcur, r3, hc3⟩
  have x3 := hkeep hc3 sP
  have C3 := C2.trans hc3
  refine hK.out _ _ x3 (fun _ => ?_)
  clear hK K sP C2 hc3
  refine tk 4 7 ?_ rfl x3 ?_ ?_; rotate_left
  · intro _ _; go_simp; try with_reducible rfl
  try go_frame
  refine tk 5 8 ?_ rfl x3 ?_ ?_; rotate_left
  · intro _ _; go_simp; try with_reducible rfl
  try go_frame
  refine wpAnyH_done (by kernel_rfl) ?_ _
  go_wp2_with fail
  refine (B1 _).mono ?_
  rintro e w4 ⟨rfl, hc4⟩
  have x4 := hkeep hc4 x3
  have r4 := hkeep hc4 r3
  have C4 := C3.trans hc4
  clear x3 C3 r3 hc4 B1
  have nX := ns x4
  have nR := ns r4
  go_upto_region 5 with (fail)
  have hc5 := zaf zeroLay w4
  have p5 := zcm zeroLay w4
  have x5 := hkeep hc5 x4
  have r5 := hkeep hc5 r4
  have C5 := C4.trans hc5
  clear x4 C4 r4 hc5 nX nR
  have hPw := C5.size
  obtain ⟨w5, hw5⟩ : ∃ W, World.onObj (w4.alloc (.cells (layC zeroLay) 72)) w4.heap.size (laidAt 0 (layC zeroLay)) = W := ⟨_, rfl⟩
  rw [hw5] at p5 x5 C5 r5 hPw ⊢
  clear hw5
  obtain ⟨P, hP⟩ : ∃ b, w4.heap.size = b := ⟨_, rfl⟩
  rw [hP] at p5 ⊢
  clear hP
  have nX := ns x5
  have nP := ns p5
  have nR := ns r5
  go_upto_region 6 with (fail)
  have hc6 := zaf zeroLay w5
  have f6 := zcm zeroLay w5
  have p6 := hkeep hc6 p5
  have x6 := hkeep hc6 x5
  have r6 := hkeep hc6 r5
  have C6 := C5.trans hc6
  clear x5 C5 r5 hc6 p5
  obtain ⟨w6, hw6⟩ : ∃ W, World.onObj (w5.alloc (.cells (layC zeroLay) 72)) w5.heap.size (laidAt 0 (layC zeroLay)) = W := ⟨_, rfl⟩
  first | rw [hw6] at p6 f6 x6 C6 r6 ⊢ | (simp only [zaj] at hw6; rw [hw6] at p6 f6 x6 C6 r6 ⊢)
  clear hw6
  obtain ⟨F, hF⟩ : ∃ b, w5.heap.size = b := ⟨_, rfl⟩
  rw [hF] at f6 nX nP nR hPw ⊢
  clear hF
  go_wp2_with fail
  refine (S1 _).mono ?_
  rintro e w' ⟨rfl, rfl⟩
  clear nX nP nR
  go_wp2_with fail
  refine (R1 _ _ _).mono ?_
  rintro e w7 ⟨rfl, hc7⟩
  have r7 := hkeep hc7 r6
  have C7 := C6.trans hc7
  clear p6 f6 C6 hc7 R1 r6 x6
  go_wp2_with fail
  refine (P1 _ _ _).mono ?_
  rintro e w' ⟨rfl, rfl⟩
  go_wp2_with fail
  refine (S1 _).mono ?_
  rintro e w' ⟨rfl, rfl⟩
  go_wp2_with fail
  refine (eq_noparts none none 0 0 _).mono ?_
  rintro e w8 ⟨rfl, hc8⟩
  have r8 := hkeep hc8 r7
  have C8 := C7.trans hc8
  clear C7 hc8 r7
  go_wp2_with fail
  refine (O1 _ C8).mono ?_
  rintro e w9 ⟨R5, c5, cur5, rfl, -, hcur5, o9, hc9⟩
  have r9 := hkeep hc9 r8
  have C9 := C8.trans hc9
  go_wp2_with fail
  refine (E1 R R5 _ _ cur cur5 _ hcur hcur5 r9 o9).mono ?_
  rintro e w10 ⟨rfl, hc10⟩
  go_wp2
  go_ret
  exact ⟨rfl, C9.trans hc10⟩
theorem runs20_o2 (a : Option Addr) (n0 c0 : Nat) (ks : Nat → BitVec 64) (sl wh : Int) (seed : BitVec 64) (w : World) (hn : n0 ≤ c0) (hc : c0 ≤ 9223372036854775807) (ha : a = none → n0 = 0 ∧ c0 = 0) (hk : KeysIn w a n0 ks) (m : Nat) (hm : min n0 140 = m) (h1 : 1 ≤ m) (s0 : 0 ≤ sl) (s1 : sl < 128) (hw : wh < 0 ∨ 8 ≤ wh) (hfit : ¬ 56 + 40 * sl ≤ (m : Int)) :
    Calls Tryz.prog 6 #[.slice a n0 c0, .agg #[I sl, I wh], U seed] w fun e w' => e = .returned (.bool true) ∧ Ch [] w w' := by
  have W1 := fun w => wakes20_any w
  have O1 := fun w' (c : Ch [] w w') => own20_row a n0 c0 ks w' hn hc ha (hk.ch c (Nat.le_refl _)) m hm h1
  have B1 := fun w => lBegin_any wh sl seed w
  rw [begin_no (by omega)] at B1
  simp only [tupOr] at B1
  have S1 := fun w => rSlab_any sl w
  rw [show (decide (0 ≤ sl) && decide (sl < 128)) = true by simp; omega] at S1
  have K1 := fun w => rWho20_any wh w
  rw [show (decide (0 ≤ wh) && decide (wh < 8)) = false by simp; omega] at K1
  have hm140 : m ≤ 140 := by omega
  have P1 := fun a c w => zdd a m c w
  rw [decide_eq_true h1, decide_eq_true (show m ≤ 8192 by omega), Bool.and_true] at P1
  have Q1 := fun w => rCell_any sl 39 s0 s1 (by decide) (by decide) w
  have R1 := fun a c w => lRun_arg a m c sl seed h1 (by omega) (.inr (.inr ⟨s0, s1, by omega⟩)) w
  obtain ⟨LL, hLL⟩ : ∃ L, frontW ks m = L := ⟨_, rfl⟩
  have hlen : LL.length = m := by rw [← hLL, frontW_len]
  rw [hLL] at O1
  have E1 := fun R R2 c c2 cur cur2 w hw1 hw2 hb1 hb2 => eq_parts LL LL 0 m R R2 c c2 cur cur2 w (by omega) (by omega) hw1 hw2 (fun _ _ _ => rfl) hb1 hb2
  clear hLL hlen
  obtain ⟨A0, hA0⟩ : ∃ x, 16 + 40 * sl + 39 = x := ⟨_, rfl⟩
  rw [hA0] at Q1
  have hfI : ¬ A0 < (m : Int) := by omega
  clear hA0
  clear hn hc ha hk hm s0 s1 hw hfit
  have C0 : Ch [] w (w.alloc (.cells #[I sl, I wh] 45)) := (Ch.refl [] w).alloc _
  have x0 := two_zz sl wh w
  go_enter Tryz.func6, Tryz.ntmps6
  go_wp2_with fail
  obtain ⟨w0, hw0⟩ : ∃ W, w.alloc (.cells #[I sl, I wh] 45) = W := ⟨_, rfl⟩
  rw [hw0] at C0 x0 ⊢
  clear hw0
  obtain ⟨X, hX⟩ : ∃ b, w.heap.size = b := ⟨_, rfl⟩
  rw [hX] at x0 ⊢
  have hXw : w.heap.size ≤ X := by omega
  clear hX
  refine (W1 _).mono ?_
  rintro e w1 ⟨rfl, hc1⟩
  have x1 := hkeep hc1 x0
  have C1 := C0.trans hc1
  clear x0 C0 hc1 W1
  go_upto_region 3 with (fail)
  have sP : (fun W' : World => W'.heap[X]? = some (.cells #[I sl, I wh] 45 (0, 0))) w1.drew := x1
  have C2 : Ch [] w w1.drew := C1.drew
  refine wp_region_held_drew (S := fun W' => W'.heap[X]? = some (.cells #[I sl, I wh] 45 (0, 0))) (by kernel_rfl) sP ?_
  intro _
  simp only [List.size_toArray, List.length_cons, List.length_nil, Nat.reduceAdd]
  clear x1 C1
  generalize w1.drew = w2 at *
  refine tk 0 20 ?_ rfl sP ?_ ?_; rotate_left
  · intro _ _; go_simp; try with_reducible rfl
  try go_frame
  refine tk 2 22 ?_ rfl sP ?_ ?_; rotate_left
  · intro _ _; go_simp; try with_reducible rfl
  try go_frame
  refine tk 3 23 ?_ rfl sP ?_ ?_; rotate_left
  · intro _ _; go_simp; try with_reducible rfl
  try go_frame
  refine rd (o := ⟨some 21, _, _, _, _, none⟩) 1 rfl (fun K hK => ?_); go_simp
  refine (O1 _ C2).mono ?_
  rintro e w3 ⟨R, c2, cur, rfl, -, hcur, r3, hc3⟩
  have x3 := hkeep hc3 sP
  have C3 := C2.trans hc3
  refine hK.out _ _ x3 (fun _ => ?_)
  clear hK K sP C2 hc3
  refine tk 4 7 ?_ rfl x3 ?_ ?_; rotate_left
  · intro _ _; go_simp; try with_reducible rfl
  try go_frame
  refine tk 5 8 ?_ rfl x3 ?_ ?_; rotate_left
  · intro _ _; go_simp; try with_reducible rfl
  try go_frame
  refine wpAnyH_done (by kernel_rfl) ?_ _
  go_wp2_with fail
  refine (B1 _).mono ?_
  rintro e w4 ⟨rfl, hc4⟩
  have x4 := hkeep hc4 x3
  have r4 := hkeep hc4 r3
  have C4 := C3.trans hc4
  clear x3 C3 r3 hc4 B1
  have nX := ns x4
  have nR := ns r4
  go_upto_region 5 with (fail)
  have hc5 := zaf zeroLay w4
  have p5 := zcm zeroLay w4
  have x5 := hkeep hc5 x4
  have r5 := hkeep hc5 r4
  have C5 := C4.trans hc5
  clear x4 C4 r4 hc5 nX nR
  have hPw := C5.size
  obtain ⟨w5, hw5⟩ : ∃ W, World.onObj (w4.alloc (.cells (layC zeroLay) 72)) w4.heap.size (laidAt 0 (layC zeroLay)) = W := ⟨_, rfl⟩
  rw [hw5] at p5 x5 C5 r5 hPw ⊢
  clear hw5
  obtain ⟨P, hP⟩ : ∃ b, w4.heap.size = b := ⟨_, rfl⟩
  rw [hP] at p5 ⊢
  clear hP
  have nX := ns x5
  have nP := ns p5
  have nR := ns r5
  go_upto_region 6 with (fail)
  have hc6 := zaf zeroLay w5
  have f6 := zcm zeroLay w5
  have p6 := hkeep hc6 p5
  have x6 := hkeep hc6 x5
  have r6 := hkeep hc6 r5
  have C6 := C5.trans hc6
  clear x5 C5 r5 hc6 p5
  obtain ⟨w6, hw6⟩ : ∃ W, World.onObj (w5.alloc (.cells (layC zeroLay) 72)) w5.heap.size (laidAt 0 (layC zeroLay)) = W := ⟨_, rfl⟩
  first | rw [hw6] at p6 f6 x6 C6 r6 ⊢ | (simp only [zaj] at hw6; rw [hw6] at p6 f6 x6 C6 r6 ⊢)
  clear hw6
  obtain ⟨F, hF⟩ : ∃ b, w5.heap.size = b := ⟨_, rfl⟩
  rw [hF] at f6 nX nP nR hPw ⊢
  clear hF
  go_wp2_with fail
  refine (S1 _).mono ?_
  rintro e w' ⟨rfl, rfl⟩
  go_wp2_with fail
  refine (K1 _).mono ?_
  rintro e w' ⟨rfl, rfl⟩
  clear nX nP nR
  go_wp2_with fail
  refine (R1 _ _ _).mono ?_
  rintro e w7 ⟨rfl, hc7⟩
  have r7 := hkeep hc7 r6
  have C7 := C6.trans hc7
  clear p6 f6 C6 hc7 R1 r6 x6
  go_wp2_with fail
  refine (P1 _ _ _).mono ?_
  rintro e w' ⟨rfl, rfl⟩
  go_wp2_with fail
  refine (S1 _).mono ?_
  rintro e w' ⟨rfl, rfl⟩
  go_wp2_with fail
  refine (Q1 _).mono ?_
  rintro e w' ⟨rfl, rfl⟩
  go_wp2_with fail
  refine (eq_noparts none none 0 0 _).mono ?_
  rintro e w8 ⟨rfl, hc8⟩
  have r8 := hkeep hc8 r7
  have C8 := C7.trans hc8
  clear C7 hc8 r7
  go_wp2_with fail
  refine (O1 _ C8).mono ?_
  rintro e w9 ⟨R5, c5, cur5, rfl, -, hcur5, o9, hc9⟩
  have r9 := hkeep hc9 r8
  have C9 := C8.trans hc9
  go_wp2_with fail
  refine (E1 R R5 _ _ cur cur5 _ hcur hcur5 r9 o9).mono ?_
  rintro e w10 ⟨rfl, hc10⟩
  go_wp2
  go_ret
  exact ⟨rfl, C9.trans hc10⟩
theorem runs20_o3 (a : Option Addr) (n0 c0 : Nat) (ks : Nat → BitVec 64) (sl wh : Int) (seed : BitVec 64) (w : World) (hn : n0 ≤ c0) (hc : c0 ≤ 9223372036854775807) (ha : a = none → n0 = 0 ∧ c0 = 0) (hk : KeysIn w a n0 ks) (m : Nat) (hm : min n0 140 = m) (h1 : 1 ≤ m) (s0 : 0 ≤ sl) (s1 : sl < 128) (w0 : 0 ≤ wh) (w7 : wh < 8) (hfit : ¬ 56 + 40 * sl ≤ (m : Int)) :
    Calls Tryz.prog 6 #[.slice a n0 c0, .agg #[I sl, I wh], U seed] w fun e w' => e = .returned (.bool true) ∧ Ch [] w w' := by
  have W1 := fun w => wakes20_any w
  have O1 := fun w' (c : Ch [] w w') => own20_row a n0 c0 ks w' hn hc ha (hk.ch c (Nat.le_refl _)) m hm h1
  have B1 := fun w => lBegin_any wh sl seed w
  rw [begin_ok s0 s1 w0 w7] at B1
  simp only [tupOr] at B1
  have S1 := fun w => rSlab_any sl w
  rw [show (decide (0 ≤ sl) && decide (sl < 128)) = true by simp; omega] at S1
  have K1 := fun w => rWho20_any wh w
  rw [show (decide (0 ≤ wh) && decide (wh < 8)) = true by simp; omega] at K1
  have hm140 : m ≤ 140 := by omega
  have P1 := fun a c w => zdd a m c w
  rw [decide_eq_true h1, decide_eq_true (show m ≤ 8192 by omega), Bool.and_true] at P1
  have Q1 := fun w => rCell_any sl 39 s0 s1 (by decide) (by decide) w
  have R1 := fun a c w => lRun_arg a m c sl seed h1 (by omega) (.inr (.inr ⟨s0, s1, by omega⟩)) w
  obtain ⟨LL, hLL⟩ : ∃ L, frontW ks m = L := ⟨_, rfl⟩
  have hlen : LL.length = m := by rw [← hLL, frontW_len]
  rw [hLL] at O1
  have E1 := fun R R2 c c2 cur cur2 w hw1 hw2 hb1 hb2 => eq_parts LL LL 0 m R R2 c c2 cur cur2 w (by omega) (by omega) hw1 hw2 (fun _ _ _ => rfl) hb1 hb2
  clear hLL hlen
  obtain ⟨A0, hA0⟩ : ∃ x, 16 + 40 * sl + 39 = x := ⟨_, rfl⟩
  rw [hA0] at Q1
  have hfI : ¬ A0 < (m : Int) := by omega
  clear hA0
  clear hn hc ha hk hm s0 s1 w0 w7 hfit
  have C0 : Ch [] w (w.alloc (.cells #[I sl, I wh] 45)) := (Ch.refl [] w).alloc _
  have x0 := two_zz sl wh w
  go_enter Tryz.func6, Tryz.ntmps6
  go_wp2_with fail
  obtain ⟨w0, hw0⟩ : ∃ W, w.alloc (.cells #[I sl, I wh] 45) = W := ⟨_, rfl⟩
  rw [hw0] at C0 x0 ⊢
  clear hw0
  obtain ⟨X, hX⟩ : ∃ b, w.heap.size = b := ⟨_, rfl⟩
  rw [hX] at x0 ⊢
  have hXw : w.heap.size ≤ X := by omega
  clear hX
  refine (W1 _).mono ?_
  rintro e w1 ⟨rfl, hc1⟩
  have x1 := hkeep hc1 x0
  have C1 := C0.trans hc1
  clear x0 C0 hc1 W1
  go_upto_region 3 with (fail)
  have sP : (fun W' : World => W'.heap[X]? = some (.cells #[I sl, I wh] 45 (0, 0))) w1.drew := x1
  have C2 : Ch [] w w1.drew := C1.drew
  refine wp_region_held_drew (S := fun W' => W'.heap[X]? = some (.cells #[I sl, I wh] 45 (0, 0))) (by kernel_rfl) sP ?_
  intro _
  simp only [List.size_toArray, List.length_cons, List.length_nil, Nat.reduceAdd]
  clear x1 C1
  generalize w1.drew = w2 at *
  refine tk 0 20 ?_ rfl sP ?_ ?_; rotate_left
  · intro _ _; go_simp; try with_reducible rfl
  try go_frame
  refine tk 2 22 ?_ rfl sP ?_ ?_; rotate_left
  · intro _ _; go_simp; try with_reducible rfl
  try go_frame
  refine tk 3 23 ?_ rfl sP ?_ ?_; rotate_left
  · intro _ _; go_simp; try with_reducible rfl
  try go_frame
  refine rd (o := ⟨some 21, _, _, _, _, none⟩) 1 rfl (fun K hK => ?_); go_simp
  refine (O1 _ C2).mono ?_
  rintro e w3 ⟨R, c2, cur, rfl, -, hcur, r3, hc3⟩
  have x3 := hkeep hc3 sP
  have C3 := C2.trans hc3
  refine hK.out _ _ x3 (fun _ => ?_)
  clear hK K sP C2 hc3
  refine tk 4 7 ?_ rfl x3 ?_ ?_; rotate_left
  · intro _ _; go_simp; try with_reducible rfl
  try go_frame
  refine tk 5 8 ?_ rfl x3 ?_ ?_; rotate_left
  · intro _ _; go_simp; try with_reducible rfl
  try go_frame
  refine wpAnyH_done (by kernel_rfl) ?_ _
  go_wp2_with fail
  refine (B1 _).mono ?_
  rintro e w4 ⟨rfl, hc4⟩
  have x4 := hkeep hc4 x3
  have r4 := hkeep hc4 r3
  have C4 := C3.trans hc4
  clear x3 C3 r3 hc4 B1
  have nX := ns x4
  have nR := ns r4
  go_upto_region 5 with (fail)
  have hc5 := zaf (firstL wh sl seed) w4
  have p5 := zcm (firstL wh sl seed) w4
  have x5 := hkeep hc5 x4
  have r5 := hkeep hc5 r4
  have C5 := C4.trans hc5
  clear x4 C4 r4 hc5 nX nR
  have hPw := C5.size
  obtain ⟨w5, hw5⟩ : ∃ W, World.onObj (w4.alloc (.cells (layC zeroLay) 72)) w4.heap.size (laidAt 0 (layC (firstL wh sl seed))) = W := ⟨_, rfl⟩
  rw [hw5] at p5 x5 C5 r5 hPw ⊢
  clear hw5
  obtain ⟨P, hP⟩ : ∃ b, w4.heap.size = b := ⟨_, rfl⟩
  rw [hP] at p5 ⊢
  clear hP
  have nX := ns x5
  have nP := ns p5
  have nR := ns r5
  go_upto_region 6 with (fail)
  have hc6 := zaf zeroLay w5
  have f6 := zcm zeroLay w5
  have p6 := hkeep hc6 p5
  have x6 := hkeep hc6 x5
  have r6 := hkeep hc6 r5
  have C6 := C5.trans hc6
  clear x5 C5 r5 hc6 p5
  obtain ⟨w6, hw6⟩ : ∃ W, World.onObj (w5.alloc (.cells (layC zeroLay) 72)) w5.heap.size (laidAt 0 (layC zeroLay)) = W := ⟨_, rfl⟩
  first | rw [hw6] at p6 f6 x6 C6 r6 ⊢ | (simp only [zaj] at hw6; rw [hw6] at p6 f6 x6 C6 r6 ⊢)
  clear hw6
  obtain ⟨F, hF⟩ : ∃ b, w5.heap.size = b := ⟨_, rfl⟩
  rw [hF] at f6 nX nP nR hPw ⊢
  clear hF
  go_wp2_with fail
  refine (S1 _).mono ?_
  rintro e w' ⟨rfl, rfl⟩
  go_wp2_with fail
  refine (K1 _).mono ?_
  rintro e w' ⟨rfl, rfl⟩
  go_upto_region 8 with (fail)
  have f7 : (World.onObj w6 F (laidAt 0 (layC (firstL wh sl seed)))).heap[F]? = some (.cells (layC (firstL wh sl seed)) 72 (0, 0)) := by rw [zab, if_pos rfl, f6, Option.map_some, zaj]
  have p7 : (World.onObj w6 F (laidAt 0 (layC (firstL wh sl seed)))).heap[P]? = _ := (zbv _ nP).trans p6
  have C7 : Ch [] w (World.onObj w6 F (laidAt 0 (layC (firstL wh sl seed)))) := C6.onObj (.inr (by omega)) _
  have r7 : (World.onObj w6 F (laidAt 0 (layC (firstL wh sl seed)))).heap[R]? = _ := (zbv _ nR).trans r6
  obtain ⟨w7, hw7⟩ : ∃ W, (World.onObj w6 F (laidAt 0 (layC (firstL wh sl seed)))) = W := ⟨_, rfl⟩
  rw [hw7] at f7 p7 C7 r7 ⊢
  clear hw7 f6 p6 x6 C6 nX nP nR r6
  go_wp2_with fail
  refine (R1 _ _ _).mono ?_
  rintro e w8 ⟨rfl, hc8⟩
  have r8 := hkeep hc8 r7
  have C8 := C7.trans hc8
  clear p7 f7 C7 hc8 R1 r7 
  go_wp2_with fail
  refine (P1 _ _ _).mono ?_
  rintro e w' ⟨rfl, rfl⟩
  go_wp2_with fail
  refine (S1 _).mono ?_
  rintro e w' ⟨rfl, rfl⟩
  go_wp2_with fail
  refine (Q1 _).mono ?_
  rintro e w' ⟨rfl, rfl⟩
  go_wp2_with fail
  refine (eq_noparts none none 0 0 _).mono ?_
  rintro e w9 ⟨rfl, hc9⟩
  have r9 := hkeep hc9 r8
  have C9 := C8.trans hc9
  clear C8 hc9 r8
  go_wp2_with fail
  refine (O1 _ C9).mono ?_
  rintro e w10 ⟨R5, c5, cur5, rfl, -, hcur5, o10, hc10⟩
  have r10 := hkeep hc10 r9
  have C10 := C9.trans hc10
  go_wp2_with fail
  refine (E1 R R5 _ _ cur cur5 _ hcur hcur5 r10 o10).mono ?_
  rintro e w11 ⟨rfl, hc11⟩
  go_wp2
  go_ret
  exact ⟨rfl, C10.trans hc11⟩
theorem runs20_i2 (a : Option Addr) (n0 c0 : Nat) (ks : Nat → BitVec 64) (sl wh : Int) (seed : BitVec 64) (w : World) (hn : n0 ≤ c0) (hc : c0 ≤ 9223372036854775807) (ha : a = none → n0 = 0 ∧ c0 = 0) (hk : KeysIn w a n0 ks) (m : Nat) (hm : min n0 140 = m) (h1 : 1 ≤ m) (s0 : 0 ≤ sl) (s1 : sl < 128) (hw : wh < 0 ∨ 8 ≤ wh) (hfit : 56 + 40 * sl ≤ (m : Int)) :
    Calls Tryz.prog 6 #[.slice a n0 c0, .agg #[I sl, I wh], U seed] w fun e w' => e = .returned (.bool true) ∧ Ch [] w w' := by
  have W1 := fun w => wakes20_any w
  have O1 := fun w' (c : Ch [] w w') => own20_row a n0 c0 ks w' hn hc ha (hk.ch c (Nat.le_refl _)) m hm h1
  have B1 := fun w => lBegin_any wh sl seed w
  rw [begin_no (by omega)] at B1
  simp only [tupOr] at B1
  have S1 := fun w => rSlab_any sl w
  rw [show (decide (0 ≤ sl) && decide (sl < 128)) = true by simp; omega] at S1
  have K1 := fun w => rWho20_any wh w
  rw [show (decide (0 ≤ wh) && decide (wh < 8)) = false by simp; omega] at K1
  have hm140 : m ≤ 140 := by omega
  have P1 := fun a c w => zdd a m c w
  rw [decide_eq_true h1, decide_eq_true (show m ≤ 8192 by omega), Bool.and_true] at P1
  have Q1 := fun w => rCell_any sl 39 s0 s1 (by decide) (by decide) w
  obtain ⟨LL, hLL⟩ : ∃ L, frontW ks m = L := ⟨_, rfl⟩
  have hlen : LL.length = m := by rw [← hLL, frontW_len]
  rw [hLL] at O1
  obtain ⟨k, l', p', hk100, hrun, hl'⟩ := run_zero s0 s1 seed LL (by rw [hlen]; exact hfit)
  rw [hlen] at hl'
  have R1 := fun g c cur w hb hw => lRun_go LL l' g c cur sl seed p' k w (by omega) (by omega) hb hw s0 s1 (by rw [hlen]; exact hfit) hrun (by omega)
  rw [hlen] at R1
  have V1 := fun v w hv => r20Run_any v m LL l' sl seed p' k (by omega) hrun (by omega) w hv
  have E1 := fun R R2 c c2 cur cur2 w hw1 hw2 hb1 hb2 => eq_parts LL LL 0 m R R2 c c2 cur cur2 w (by omega) (by omega) hw1 hw2 (fun _ _ _ => rfl) hb1 hb2
  have E2 := fun R R2 c c2 cur cur2 w hw1 hw2 hb1 hb2 => eq_parts l' l' 0 m R R2 c c2 cur cur2 w (by omega) (by omega) hw1 hw2 (fun _ _ _ => rfl) hb1 hb2
  have HLEN := Lib.hid hlen
  clear hrun hLL hlen
  obtain ⟨A0, hA0⟩ : ∃ x, 16 + 40 * sl + 39 = x := ⟨_, rfl⟩
  rw [hA0] at Q1
  have hfI : A0 < (m : Int) := by omega
  clear hA0
  clear hn hc ha hk hm s0 s1 hw hfit
  have C0 : Ch [] w (w.alloc (.cells #[I sl, I wh] 45)) := (Ch.refl [] w).alloc _
  have x0 := two_zz sl wh w
  go_enter Tryz.func6, Tryz.ntmps6
  go_wp2_with fail
  obtain ⟨w0, hw0⟩ : ∃ W, w.alloc (.cells #[I sl, I wh] 45) = W := ⟨_, rfl⟩
  rw [hw0] at C0 x0 ⊢
  clear hw0
  obtain ⟨X, hX⟩ : ∃ b, w.heap.size = b := ⟨_, rfl⟩
  rw [hX] at x0 ⊢
  have hXw : w.heap.size ≤ X := by omega
  clear hX
  refine (W1 _).mono ?_
  rintro e w1 ⟨rfl, hc1⟩
  have x1 := hkeep hc1 x0
  have C1 := C0.trans hc1
  clear x0 C0 hc1 W1
  go_upto_region 3 with (fail)
  have sP : (fun W' : World => W'.heap[X]? = some (.cells #[I sl, I wh] 45 (0, 0))) w1.drew := x1
  have C2 : Ch [] w w1.drew := C1.drew
  refine wp_region_held_drew (S := fun W' => W'.heap[X]? = some (.cells #[I sl, I wh] 45 (0, 0))) (by kernel_rfl) sP ?_
  intro _
  simp only [List.size_toArray, List.length_cons, List.length_nil, Nat.reduceAdd]
  clear x1 C1
  generalize w1.drew = w2 at *
  refine tk 0 20 ?_ rfl sP ?_ ?_; rotate_left
  · intro _ _; go_simp; try with_reducible rfl
  try go_frame
  refine tk 2 22 ?_ rfl sP ?_ ?_; rotate_left
  · intro _ _; go_simp; try with_reducible rfl
  try go_frame
  refine tk 3 23 ?_ rfl sP ?_ ?_; rotate_left
  · intro _ _; go_simp; try with_reducible rfl
  try go_frame
  refine rd (o := ⟨some 21, _, _, _, _, none⟩) 1 rfl (fun K hK => ?_); go_simp
  refine (O1 _ C2).mono ?_
  rintro e w3 ⟨R, c2, cur, rfl, -, hcur, r3, hc3⟩
  have x3 := hkeep hc3 sP
  have C3 := C2.trans hc3
  refine hK.out _ _ x3 (fun _ => ?_)
  clear hK K sP C2 hc3
  refine tk 4 7 ?_ rfl x3 ?_ ?_; rotate_left
  · intro _ _; go_simp; try with_reducible rfl
  try go_frame
  refine tk 5 8 ?_ rfl x3 ?_ ?_; rotate_left
  · intro _ _; go_simp; try with_reducible rfl
  try go_frame
  refine wpAnyH_done (by kernel_rfl) ?_ _
  go_wp2_with fail
  refine (B1 _).mono ?_
  rintro e w4 ⟨rfl, hc4⟩
  have x4 := hkeep hc4 x3
  have r4 := hkeep hc4 r3
  have C4 := C3.trans hc4
  clear x3 C3 r3 hc4 B1
  have nX := ns x4
  have nR := ns r4
  go_upto_region 5 with (fail)
  have hc5 := zaf zeroLay w4
  have p5 := zcm zeroLay w4
  have x5 := hkeep hc5 x4
  have r5 := hkeep hc5 r4
  have C5 := C4.trans hc5
  clear x4 C4 r4 hc5 nX nR
  have hPw := C5.size
  obtain ⟨w5, hw5⟩ : ∃ W, World.onObj (w4.alloc (.cells (layC zeroLay) 72)) w4.heap.size (laidAt 0 (layC zeroLay)) = W := ⟨_, rfl⟩
  rw [hw5] at p5 x5 C5 r5 hPw ⊢
  clear hw5
  obtain ⟨P, hP⟩ : ∃ b, w4.heap.size = b := ⟨_, rfl⟩
  rw [hP] at p5 ⊢
  clear hP
  have nX := ns x5
  have nP := ns p5
  have nR := ns r5
  go_upto_region 6 with (fail)
  have hc6 := zaf zeroLay w5
  have f6 := zcm zeroLay w5
  have p6 := hkeep hc6 p5
  have x6 := hkeep hc6 x5
  have r6 := hkeep hc6 r5
  have C6 := C5.trans hc6
  clear x5 C5 r5 hc6 p5
  obtain ⟨w6, hw6⟩ : ∃ W, World.onObj (w5.alloc (.cells (layC zeroLay) 72)) w5.heap.size (laidAt 0 (layC zeroLay)) = W := ⟨_, rfl⟩
  first | rw [hw6] at p6 f6 x6 C6 r6 ⊢ | (simp only [zaj] at hw6; rw [hw6] at p6 f6 x6 C6 r6 ⊢)
  clear hw6
  obtain ⟨F, hF⟩ : ∃ b, w5.heap.size = b := ⟨_, rfl⟩
  rw [hF] at f6 nX nP nR hPw ⊢
  clear hF
  go_wp2_with fail
  refine (S1 _).mono ?_
  rintro e w' ⟨rfl, rfl⟩
  go_wp2_with fail
  refine (K1 _).mono ?_
  rintro e w' ⟨rfl, rfl⟩
  clear nX nP nR
  go_wp2_with fail
  refine (R1 R _ cur _ r6 hcur).mono ?_
  rintro e w7 ⟨Q, rfl, -, q7, hc7⟩
  have r7 := hkeep hc7 r6
  have C7 := C6.trans hc7
  clear p6 f6 C6 hc7 R1 r6 x6
  go_wp2_with fail
  refine (P1 _ _ _).mono ?_
  rintro e w' ⟨rfl, rfl⟩
  go_wp2_with fail
  refine (S1 _).mono ?_
  rintro e w' ⟨rfl, rfl⟩
  go_wp2_with fail
  refine (Q1 _).mono ?_
  rintro e w' ⟨rfl, rfl⟩
  go_wp2_with fail
  refine (O1 _ C7).mono ?_
  rintro e w8 ⟨R2, c3, cur2, rfl, -, hcur2, o8, hc8⟩
  have r8 := hkeep hc8 r7
  have q8 := hkeep hc8 q7
  have C8 := C7.trans hc8
  clear r7 q7 C7 hc8
  go_wp2_with fail
  refine (V1 _ _ ⟨R2, c3, cur2, rfl, HLEN.out, o8, hcur2⟩).mono ?_
  rintro e w9 ⟨v, rfl, hv, hc9⟩
  obtain ⟨R3, c4, cur3, rfl, -, o9, hcur3⟩ := hv
  have r9 := hkeep hc9 r8
  have q9 := hkeep hc9 q8
  have C9 := C8.trans hc9
  clear r8 q8 C8 hc9 V1 o8 hcur2
  go_wp2_with fail
  refine (E2 Q R3 _ _ _ cur3 _ (wcells_at l') hcur3 q9 o9).mono ?_
  rintro e w10 ⟨rfl, hc10⟩
  have r10 := hkeep hc10 r9
  have C10 := C9.trans hc10
  clear C9 hc10 r9
  go_wp2_with fail
  refine (O1 _ C10).mono ?_
  rintro e w11 ⟨R5, c5, cur5, rfl, -, hcur5, o11, hc11⟩
  have r11 := hkeep hc11 r10
  have C11 := C10.trans hc11
  go_wp2_with fail
  refine (E1 R R5 _ _ cur cur5 _ hcur hcur5 r11 o11).mono ?_
  rintro e w12 ⟨rfl, hc12⟩
  go_wp2
  go_ret
  exact ⟨rfl, C11.trans hc12⟩
theorem runs20_i3 (a : Option Addr) (n0 c0 : Nat) (ks : Nat → BitVec 64) (sl wh : Int) (seed : BitVec 64) (w : World) (hn : n0 ≤ c0) (hc : c0 ≤ 9223372036854775807) (ha : a = none → n0 = 0 ∧ c0 = 0) (hk : KeysIn w a n0 ks) (m : Nat) (hm : min n0 140 = m) (h1 : 1 ≤ m) (s0 : 0 ≤ sl) (s1 : sl < 128) (w0 : 0 ≤ wh) (w7 : wh < 8) (hfit : 56 + 40 * sl ≤ (m : Int)) :
    Calls Tryz.prog 6 #[.slice a n0 c0, .agg #[I sl, I wh], U seed] w fun e w' => e = .returned (.bool true) ∧ Ch [] w w' := by
  have W1 := fun w => wakes20_any w
  have O1 := fun w' (c : Ch [] w w') => own20_row a n0 c0 ks w' hn hc ha (hk.ch c (Nat.le_refl _)) m hm h1
  have B1 := fun w => lBegin_any wh sl seed w
  rw [begin_ok s0 s1 w0 w7] at B1
  simp only [tupOr] at B1
  have S1 := fun w => rSlab_any sl w
  rw [show (decide (0 ≤ sl) && decide (sl < 128)) = true by simp; omega] at S1
  have K1 := fun w => rWho20_any wh w
  rw [show (decide (0 ≤ wh) && decide (wh < 8)) = true by simp; omega] at K1
  have hm140 : m ≤ 140 := by omega
  have P1 := fun a c w => zdd a m c w
  rw [decide_eq_true h1, decide_eq_true (show m ≤ 8192 by omega), Bool.and_true] at P1
  have Q1 := fun w => rCell_any sl 39 s0 s1 (by decide) (by decide) w
  obtain ⟨LL, hLL⟩ : ∃ L, frontW ks m = L := ⟨_, rfl⟩
  have hlen : LL.length = m := by rw [← hLL, frontW_len]
  rw [hLL] at O1
  obtain ⟨k, l', p', hk100, hrun, hl'⟩ := run_zero s0 s1 seed LL (by rw [hlen]; exact hfit)
  rw [hlen] at hl'
  have R1 := fun g c cur w hb hw => lRun_go LL l' g c cur sl seed p' k w (by omega) (by omega) hb hw s0 s1 (by rw [hlen]; exact hfit) hrun (by omega)
  rw [hlen] at R1
  have V1 := fun v w hv => r20Run_any v m LL l' sl seed p' k (by omega) hrun (by omega) w hv
  have E1 := fun R R2 c c2 cur cur2 w hw1 hw2 hb1 hb2 => eq_parts LL LL 0 m R R2 c c2 cur cur2 w (by omega) (by omega) hw1 hw2 (fun _ _ _ => rfl) hb1 hb2
  have E2 := fun R R2 c c2 cur cur2 w hw1 hw2 hb1 hb2 => eq_parts l' l' 0 m R R2 c c2 cur cur2 w (by omega) (by omega) hw1 hw2 (fun _ _ _ => rfl) hb1 hb2
  have HLEN := Lib.hid hlen
  clear hrun hLL hlen
  obtain ⟨A0, hA0⟩ : ∃ x, 16 + 40 * sl + 39 = x := ⟨_, rfl⟩
  rw [hA0] at Q1
  have hfI : A0 < (m : Int) := by omega
  clear hA0
  clear hn hc ha hk hm s0 s1 w0 w7 hfit
  have C0 : Ch [] w (w.alloc (.cells #[I sl, I wh] 45)) := (Ch.refl [] w).alloc _
  have x0 := two_zz sl wh w
  go_enter Tryz.func6, Tryz.ntmps6
  go_wp2_with fail
  obtain ⟨w0, hw0⟩ : ∃ W, w.alloc (.cells #[I sl, I wh] 45) = W := ⟨_, rfl⟩
  rw [hw0] at C0 x0 ⊢
  clear hw0
  obtain ⟨X, hX⟩ : ∃ b, w.heap.size = b := ⟨_, rfl⟩
  rw [hX] at x0 ⊢
  have hXw : w.heap.size ≤ X := by omega
  clear hX
  refine (W1 _).mono ?_
  rintro e w1 ⟨rfl, hc1⟩
  have x1 := hkeep hc1 x0
  have C1 := C0.trans hc1
  clear x0 C0 hc1 W1
  go_upto_region 3 with (fail)
  have sP : (fun W' : World => W'.heap[X]? = some (.cells #[I sl, I wh] 45 (0, 0))) w1.drew := x1
  have C2 : Ch [] w w1.drew := C1.drew
  refine wp_region_held_drew (S := fun W' => W'.heap[X]? = some (.cells #[I sl, I wh] 45 (0, 0))) (by kernel_rfl) sP ?_
  intro _
  simp only [List.size_toArray, List.length_cons, List.length_nil, Nat.reduceAdd]
  clear x1 C1
  generalize w1.drew = w2 at *
  refine tk 0 20 ?_ rfl sP ?_ ?_; rotate_left
  · intro _ _; go_simp; try with_reducible rfl
  try go_frame
  refine tk 2 22 ?_ rfl sP ?_ ?_; rotate_left
  · intro _ _; go_simp; try with_reducible rfl
  try go_frame
  refine tk 3 23 ?_ rfl sP ?_ ?_; rotate_left
  · intro _ _; go_simp; try with_reducible rfl
  try go_frame
  refine rd (o := ⟨some 21, _, _, _, _, none⟩) 1 rfl (fun K hK => ?_); go_simp
  refine (O1 _ C2).mono ?_
  rintro e w3 ⟨R, c2, cur, rfl, -, hcur, r3, hc3⟩
  have x3 := hkeep hc3 sP
  have C3 := C2.trans hc3
  refine hK.out _ _ x3 (fun _ => ?_)
  clear hK K sP C2 hc3
  refine tk 4 7 ?_ rfl x3 ?_ ?_; rotate_left
  · intro _ _; go_simp; try with_reducible rfl
  try go_frame
  refine tk 5 8 ?_ rfl x3 ?_ ?_; rotate_left
  · intro _ _; go_simp; try with_reducible rfl
  try go_frame
  refine wpAnyH_done (by kernel_rfl) ?_ _
  go_wp2_with fail
  refine (B1 _).mono ?_
  rintro e w4 ⟨rfl, hc4⟩
  have x4 := hkeep hc4 x3
  have r4 := hkeep hc4 r3
  have C4 := C3.trans hc4
  clear x3 C3 r3 hc4 B1
  have nX := ns x4
  have nR := ns r4
  go_upto_region 5 with (fail)
  have hc5 := zaf (firstL wh sl seed) w4
  have p5 := zcm (firstL wh sl seed) w4
  have x5 := hkeep hc5 x4
  have r5 := hkeep hc5 r4
  have C5 := C4.trans hc5
  clear x4 C4 r4 hc5 nX nR
  have hPw := C5.size
  obtain ⟨w5, hw5⟩ : ∃ W, World.onObj (w4.alloc (.cells (layC zeroLay) 72)) w4.heap.size (laidAt 0 (layC (firstL wh sl seed))) = W := ⟨_, rfl⟩
  rw [hw5] at p5 x5 C5 r5 hPw ⊢
  clear hw5
  obtain ⟨P, hP⟩ : ∃ b, w4.heap.size = b := ⟨_, rfl⟩
  rw [hP] at p5 ⊢
  clear hP
  have nX := ns x5
  have nP := ns p5
  have nR := ns r5
  go_upto_region 6 with (fail)
  have hc6 := zaf zeroLay w5
  have f6 := zcm zeroLay w5
  have p6 := hkeep hc6 p5
  have x6 := hkeep hc6 x5
  have r6 := hkeep hc6 r5
  have C6 := C5.trans hc6
  clear x5 C5 r5 hc6 p5
  obtain ⟨w6, hw6⟩ : ∃ W, World.onObj (w5.alloc (.cells (layC zeroLay) 72)) w5.heap.size (laidAt 0 (layC zeroLay)) = W := ⟨_, rfl⟩
  first | rw [hw6] at p6 f6 x6 C6 r6 ⊢ | (simp only [zaj] at hw6; rw [hw6] at p6 f6 x6 C6 r6 ⊢)
  clear hw6
  obtain ⟨F, hF⟩ : ∃ b, w5.heap.size = b := ⟨_, rfl⟩
  rw [hF] at f6 nX nP nR hPw ⊢
  clear hF
  go_wp2_with fail
  refine (S1 _).mono ?_
  rintro e w' ⟨rfl, rfl⟩
  go_wp2_with fail
  refine (K1 _).mono ?_
  rintro e w' ⟨rfl, rfl⟩
  go_upto_region 8 with (fail)
  have f7 : (World.onObj w6 F (laidAt 0 (layC (firstL wh sl seed)))).heap[F]? = some (.cells (layC (firstL wh sl seed)) 72 (0, 0)) := by rw [zab, if_pos rfl, f6, Option.map_some, zaj]
  have p7 : (World.onObj w6 F (laidAt 0 (layC (firstL wh sl seed)))).heap[P]? = _ := (zbv _ nP).trans p6
  have C7 : Ch [] w (World.onObj w6 F (laidAt 0 (layC (firstL wh sl seed)))) := C6.onObj (.inr (by omega)) _
  have r7 : (World.onObj w6 F (laidAt 0 (layC (firstL wh sl seed)))).heap[R]? = _ := (zbv _ nR).trans r6
  obtain ⟨w7, hw7⟩ : ∃ W, (World.onObj w6 F (laidAt 0 (layC (firstL wh sl seed)))) = W := ⟨_, rfl⟩
  rw [hw7] at f7 p7 C7 r7 ⊢
  clear hw7 f6 p6 x6 C6 nX nP nR r6
  go_wp2_with fail
  refine (R1 R _ cur _ r7 hcur).mono ?_
  rintro e w8 ⟨Q, rfl, -, q8, hc8⟩
  have r8 := hkeep hc8 r7
  have C8 := C7.trans hc8
  clear p7 f7 C7 hc8 R1 r7 
  go_wp2_with fail
  refine (P1 _ _ _).mono ?_
  rintro e w' ⟨rfl, rfl⟩
  go_wp2_with fail
  refine (S1 _).mono ?_
  rintro e w' ⟨rfl, rfl⟩
  go_wp2_with fail
  refine (Q1 _).mono ?_
  rintro e w' ⟨rfl, rfl⟩
  go_wp2_with fail
  refine (O1 _ C8).mono ?_
  rintro e w9 ⟨R2, c3, cur2, rfl, -, hcur2, o9, hc9⟩
  have r9 := hkeep hc9 r8
  have q9 := hkeep hc9 q8
  have C9 := C8.trans hc9
  clear r8 q8 C8 hc9
  go_wp2_with fail
  refine (V1 _ _ ⟨R2, c3, cur2, rfl, HLEN.out, o9, hcur2⟩).mono ?_
  rintro e w10 ⟨v, rfl, hv, hc10⟩
  obtain ⟨R3, c4, cur3, rfl, -, o10, hcur3⟩ := hv
  have r10 := hkeep hc10 r9
  have q10 := hkeep hc10 q9
  have C10 := C9.trans hc10
  clear r9 q9 C9 hc10 V1 o9 hcur2
  go_wp2_with fail
  refine (E2 Q R3 _ _ _ cur3 _ (wcells_at l') hcur3 q10 o10).mono ?_
  rintro e w11 ⟨rfl, hc11⟩
  have r11 := hkeep hc11 r10
  have C11 := C10.trans hc11
  clear C10 hc11 r10
  go_wp2_with fail
  refine (O1 _ C11).mono ?_
  rintro e w12 ⟨R5, c5, cur5, rfl, -, hcur5, o12, hc12⟩
  have r12 := hkeep hc12 r11
  have C12 := C11.trans hc12
  go_wp2_with fail
  refine (E1 R R5 _ _ cur cur5 _ hcur hcur5 r12 o12).mono ?_
  rintro e w13 ⟨rfl, hc13⟩
  go_wp2
  go_ret
  exact ⟨rfl, C12.trans hc13⟩
theorem runsLaw20 (a : Option Addr) (n0 c0 : Nat) (ks : Nat → BitVec 64) (sl wh : Int) (seed : BitVec 64) (w : World) (hn : n0 ≤ c0) (hc : c0 ≤ 9223372036854775807) (ha : a = none → n0 = 0 ∧ c0 = 0) (hk : KeysIn w a n0 ks) :
    Calls Tryz.prog 6 #[.slice a n0 c0, .agg #[I sl, I wh], U seed] w fun e w' => e = .returned (.bool true) ∧ Ch [] w w' := by
  by_cases hs : 0 ≤ sl ∧ sl < 128
  · by_cases hw : 0 ≤ wh ∧ wh < 8
    · rcases Nat.eq_zero_or_pos (min n0 140) with h0 | h1
      · exact runs20_e3 a n0 c0 ks sl wh seed w hn hc ha hk h0 hs.1 hs.2 hw.1 hw.2
      · by_cases hf : 56 + 40 * sl ≤ ((min n0 140 : Nat) : Int)
        · exact runs20_i3 a n0 c0 ks sl wh seed w hn hc ha hk _ rfl h1 hs.1 hs.2 hw.1 hw.2 hf
        · exact runs20_o3 a n0 c0 ks sl wh seed w hn hc ha hk _ rfl h1 hs.1 hs.2 hw.1 hw.2 hf
    · rcases Nat.eq_zero_or_pos (min n0 140) with h0 | h1
      · exact runs20_e2 a n0 c0 ks sl wh seed w hn hc ha hk h0 hs.1 hs.2 (by omega)
      · by_cases hf : 56 + 40 * sl ≤ ((min n0 140 : Nat) : Int)
        · exact runs20_i2 a n0 c0 ks sl wh seed w hn hc ha hk _ rfl h1 hs.1 hs.2 (by omega) hf
        · exact runs20_o2 a n0 c0 ks sl wh seed w hn hc ha hk _ rfl h1 hs.1 hs.2 (by omega) hf
  · rcases Nat.eq_zero_or_pos (min n0 140) with h0 | h1
    · exact runs20_e1 a n0 c0 ks sl wh seed w hn hc ha hk h0 (by omega)
    · exact runs20_b1 a n0 c0 ks sl wh seed w hn hc ha hk _ rfl h1 (by omega)
end
end Go.Proofs.Hc
