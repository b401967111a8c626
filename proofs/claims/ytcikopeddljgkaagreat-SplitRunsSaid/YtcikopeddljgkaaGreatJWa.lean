/- The references of layers 9 (a slot that is erased), 7 (hash). -/
import Derived.Test.YtcikopeddljgkaaGreatJPp
set_option linter.unusedSimpArgs false
set_option linter.unusedVariables false
set_option maxHeartbeats 4000000
set_option maxRecDepth 100000
namespace Go.Proofs.Hc
open Go.RowKit
attribute [local go_sem] zbu zcc zax zbf zbo zbd zbn zbp zbw signed64 signed8 zap BitVec.ofInt_add BitVec.ofInt_mul ofInt_sub' zbb zbc wide8 eqN neN zca shr1 shr7 shr56
attribute [local go_sem high] zbe zbv
attribute [local go_sem] zaw zby zaj zas zaf zaz zar zak zbm zal zay zba
attribute [local go_sem] load26 load73 load23 store26 build73
attribute [local go_sem ↓] lrow26 lrow73 lrow23 srow26 zero26 brow73 zae zbk zbg zaa zab
attribute [local go_sem] zai zav zat zbj zbl zbr zaq zau zbs zbi zbh
attribute [local go_sem] nn2 nm2 nn3 nm3 nn4 nm4 nn5 nm5 nn6 nm6 nn7 nm7 nn8 nm8
section
attribute [local go_sem] zap
theorem gt0 (m : BitVec 8) : decide (0 < N m) = (m != 0#8) := by
  rw [Bool.eq_iff_iff, decide_eq_true_iff, bne_iff_ne]
  unfold N
  constructor
  · intro h e; rw [e] at h; simp at h
  · intro h
    have : m.toNat ≠ 0 := fun e => h (BitVec.eq_of_toNat_eq (by rw [e]; rfl))
    omega
theorem rStops_any (c : BitVec 64) (w : World) : Calls Tryz.prog 155 #[U c] w fun e w' => e = .returned (.bool (emptyM c != 0#8)) ∧ w = w' := by
  have S1 := fun w => rSet1_any c w
  have h := gt0 (setM (fun n => byteAt c n == 128#8) 8)
  rw [setM_empty] at h
  generalize setM (fun n => byteAt c n == 128#8) 8 = m at *
  generalize (emptyM c != 0#8) = b at *
  cases b
  all_goals
    first | (have hn : ¬ 0 < N m := of_decide_eq_false h) | (have hn : 0 < N m := of_decide_eq_true h)
    clear h
    go_enter Tryz.func155, Tryz.ntmps155
    go_wp2_with (go_at_call 222; refine (S1 _).mono ?_; rintro e w' ⟨rfl, rfl⟩)
    go_ret
    first
      | exact ⟨rfl, rfl⟩
      | (refine ⟨?_, rfl⟩; show Ending.returned (.bool (decide (0 < N m))) = _; rw [decide_eq_false (by omega)])
      | (refine ⟨?_, rfl⟩; show Ending.returned (.bool (decide (0 < N m))) = _; rw [decide_eq_true (by omega)])
theorem two_shl (j : Nat) : 2#64 * (1#64 <<< j) = 1#64 <<< (j + 1) := by
  apply BitVec.eq_of_toNat_eq
  rw [BitVec.toNat_mul, BitVec.toNat_shiftLeft, BitVec.toNat_shiftLeft, Nat.shiftLeft_eq, Nat.shiftLeft_eq, Nat.pow_succ]
  show (2 * (1 * 2 ^ j % 18446744073709551616)) % 18446744073709551616 = 1 * (2 ^ j * 2) % 18446744073709551616
  omega
theorem rBit_any (n : Nat) (hn : n ≤ 64) (w : World) : Calls Tryz.prog 272 #[I n] w fun e w' => e = .returned (U (1#64 <<< n)) ∧ w = w' := by
  go_enter Tryz.func272, Tryz.ntmps272
  go_wp2
  go_loop [3, 5] (fun v i => ∃ j : Nat, j ≤ n ∧ i = .int .i64 j ∧ v = U (1#64 <<< j)) (fun _ i => n - (intOf i).toNat)
  case atStart => exact ⟨0, Nat.zero_le _, rfl, rfl⟩
  case round =>
    obtain ⟨j, hj, rfl, rfl⟩ := hrel
    by_cases hlt : j < n
    · have HS := Lib.hid (two_shl j)
      go_wp2
      go_round
      case rel => exact ⟨j + 1, by omega, by go_num, by rw [← HS.out]⟩
      case measure => simp [intOf]; omega
    · have hjn : j = n := by omega
      have HJ := Lib.hid hjn
      clear hjn
      go_wp2
      go_ret
      refine ⟨?_, rfl⟩
      rw [← HJ.out]; rfl
theorem rPower_any (n : Nat) (hn : n ≤ 64) (w : World) : Calls Tryz.prog 146 #[I n] w fun e w' => e = .returned (U (1#64 <<< n)) ∧ w = w' := by
  go_enter Tryz.func146, Tryz.ntmps146
  go_wp2
  go_loop [3, 5] (fun v i => ∃ j : Nat, j ≤ n ∧ i = .int .i64 j ∧ v = U (1#64 <<< j)) (fun _ i => n - (intOf i).toNat)
  case atStart => exact ⟨0, Nat.zero_le _, rfl, rfl⟩
  case round =>
    obtain ⟨j, hj, rfl, rfl⟩ := hrel
    by_cases hlt : j < n
    · have HS := Lib.hid (two_shl j)
      go_wp2
      go_round
      case rel => exact ⟨j + 1, by omega, by go_num, by rw [← HS.out]⟩
      case measure => simp [intOf]; omega
    · have hjn : j = n := by omega
      have HJ := Lib.hid hjn
      clear hjn
      go_wp2
      go_ret
      refine ⟨?_, rfl⟩
      rw [← HJ.out]; rfl
theorem shl_toNat (n : Nat) (hn : n < 64) : (1#64 <<< n).toNat = 2 ^ n := by
  rw [BitVec.toNat_shiftLeft, Nat.shiftLeft_eq]
  show 1 * 2 ^ n % 2 ^ 64 = _
  rw [Nat.one_mul, Nat.mod_eq_of_lt (Nat.pow_lt_pow_right (by omega) hn)]
theorem div_bit (x : BitVec 64) (n : Nat) (hn : n < 64) : N x / N (1#64 <<< n) = N (x >>> n) := by
  unfold N
  rw [shl_toNat n hn, BitVec.toNat_ushiftRight, Nat.shiftRight_eq_div_pow]
  simp
theorem bit_pos (n : Nat) (hn : n < 64) : 0 < N (1#64 <<< n) := by
  unfold N
  rw [shl_toNat n hn]
  have := Nat.two_pow_pos n
  omega
theorem odd_bit (y : BitVec 64) : (N y % 2 == 1) = y.getLsbD 0 := by
  have h : y.getLsbD 0 = decide (y.toNat % 2 = 1) := by
    rw [← BitVec.testBit_toNat, Nat.testBit_zero]
  rw [h, Bool.eq_iff_iff, beq_iff_eq, decide_eq_true_iff]
  unfold N
  omega
theorem rHas_any (x : BitVec 64) (n : Nat) (hn : n < 64) (w : World) : Calls Tryz.prog 273 #[U x, I n] w fun e w' => e = .returned (.bool (x.getLsbD n)) ∧ w = w' := by
  have B1 := fun w => rBit_any n (by omega) w
  have h1 := div_bit x n hn
  have h2 := bit_pos n hn
  have h3 := odd_bit (x >>> n)
  have h4 : (x >>> n).getLsbD 0 = x.getLsbD n := by rw [BitVec.getLsbD_ushiftRight]; simp
  rw [h4] at h3
  have h5 : (N x).tdiv (N (1#64 <<< n)) = N (x >>> n) := by rw [Int.tdiv_eq_ediv_of_nonneg (N_nonneg x), h1]
  have h6 : (N (x >>> n)).tmod 2 = N (x >>> n) % 2 := Int.tmod_eq_emod_of_nonneg (N_nonneg _)
  have h7 : (N (1#64 <<< n) == 0) = false := by simp; omega
  have hnn : (n : Int) < 64 := by omega
  clear h4
  generalize x.getLsbD n = r at *
  generalize 1#64 <<< n = p at *
  generalize x >>> n = y at *
  cases r
  all_goals
    go_enter Tryz.func273, Tryz.ntmps273
    go_wp2_with (go_at_call 272; refine (B1 _).mono ?_; rintro e w' ⟨rfl, rfl⟩)
    go_ret
    exact ⟨rfl, rfl⟩
end
section
attribute [local go_sem] zap
def trnB (d : BitVec 64) : Nat → BitVec 64
  | 0 => 0#64
  | n + 1 => if d.getLsbD n then trnB d n + (1#64 <<< n) else trnB d n
theorem trnB_toNat (d : BitVec 64) : ∀ n : Nat, n ≤ 64 → (trnB d n).toNat = d.toNat % 2 ^ n := by
  intro n
  induction n with
  | zero => intro _; simp [trnB, Nat.mod_one]
  | succ n ih =>
    intro hn
    have h1 := ih (by omega)
    have hb : d.toNat.testBit n = d.getLsbD n := BitVec.testBit_toNat d
    have hp : 2 ^ (n + 1) ≤ 2 ^ 64 := Nat.pow_le_pow_right (by omega) hn
    have hq : 2 ^ (n + 1) = 2 ^ n + 2 ^ n := by rw [Nat.pow_succ]; omega
    have hlt : d.toNat % 2 ^ n < 2 ^ n := Nat.mod_lt _ (Nat.two_pow_pos n)
    rw [Nat.testBit_eq_decide_div_mod_eq] at hb
    rw [Nat.pow_succ, Nat.mod_mul]
    unfold trnB
    cases hd : d.getLsbD n
    · rw [hd] at hb
      have := of_decide_eq_false hb
      have h0 : d.toNat / 2 ^ n % 2 = 0 := by omega
      simp [h1, h0]
    · rw [hd] at hb
      have h0 : d.toNat / 2 ^ n % 2 = 1 := of_decide_eq_true hb
      rw [if_pos rfl, BitVec.toNat_add, h1, shl_toNat n (by omega), h0, Nat.mul_one, Nat.mod_eq_of_lt (by omega)]
theorem trnB_all (d : BitVec 64) : trnB d 64 = d := by
  apply BitVec.eq_of_toNat_eq
  rw [trnB_toNat d 64 (by omega), Nat.mod_eq_of_lt d.isLt]
theorem rTurned_any (x y : BitVec 64) (w : World) : Calls Tryz.prog 220 #[U x, U y] w fun e w' => e = .returned (U (x ^^^ y)) ∧ w = w' := by
  go_enter Tryz.func220, Tryz.ntmps220
  go_wp2
  go_loop [5, 7] (fun v i => ∃ j : Nat, j ≤ 64 ∧ i = .int .i64 j ∧ v = U (trnB (x ^^^ y) j)) (fun _ i => 64 - (intOf i).toNat)
  case atStart => exact ⟨0, by omega, rfl, rfl⟩
  case round =>
    obtain ⟨j, hj, rfl, rfl⟩ := hrel
    by_cases hlt : j < 64
    · have X1 := fun w => rHas_any x j hlt w
      have Y1 := fun w => rHas_any y j hlt w
      have B1 := fun w => rBit_any j (by omega) w
      have HS : Hid (trnB (x ^^^ y) (j + 1) = if (x.getLsbD j ^^ y.getLsbD j) then trnB (x ^^^ y) j + (1#64 <<< j) else trnB (x ^^^ y) j) := Lib.hid (by rw [← BitVec.getLsbD_xor]; rfl)
      generalize trnB (x ^^^ y) j = m at *
      generalize 1#64 <<< j = p at *
      generalize x.getLsbD j = a at *
      generalize y.getLsbD j = b at *
      cases a <;> cases b
      all_goals
        go_wp2_with (first
          | (go_at_call 273; ((with_reducible refine (X1 _).mono ?_); rintro e w' ⟨rfl, rfl⟩))
          | (go_at_call 273; ((with_reducible refine (Y1 _).mono ?_); rintro e w' ⟨rfl, rfl⟩))
          | (go_at_call 272; refine (B1 _).mono ?_; rintro e w' ⟨rfl, rfl⟩))
        go_round
        case rel => exact ⟨j + 1, by omega, by go_num, by rw [HS.out]; simp⟩
        case measure => simp [intOf]; omega
    · have hjn : j = 64 := by omega
      subst hjn
      have HT : Hid (trnB (x ^^^ y) 64 = x ^^^ y) := Lib.hid (trnB_all _)
      generalize trnB (x ^^^ y) 64 = m at *
      go_wp2
      go_ret
      rw [HT.out]
      exact ⟨rfl, rfl⟩
theorem rFolded_any (x : BitVec 64) (n : Nat) (hn : n < 64) (w : World) : Calls Tryz.prog 219 #[U x, I n] w fun e w' => e = .returned (U (mixF x n)) ∧ w = w' := by
  have B1 := fun w => rBit_any n (by omega) w
  have h1 := div_bit x n hn
  have h2 := bit_pos n hn
  have h5 : (N x).tdiv (N (1#64 <<< n)) = N (x >>> n) := by rw [Int.tdiv_eq_ediv_of_nonneg (N_nonneg x), h1]
  have h7 : (N (1#64 <<< n) == 0) = false := by simp; omega
  have HM : Hid (x ^^^ (x >>> n) = mixF x n) := Lib.hid rfl
  have T1 := fun w => rTurned_any x (x >>> n) w
  generalize mixF x n = m at *
  generalize 1#64 <<< n = p at *
  generalize x >>> n = y at *
  rw [HM.out] at T1
  go_enter Tryz.func219, Tryz.ntmps219
  go_wp2_with (first
    | (go_at_call 272; refine (B1 _).mono ?_; rintro e w' ⟨rfl, rfl⟩)
    | (go_at_call 220; refine (T1 _).mono ?_; rintro e w' ⟨rfl, rfl⟩))
  go_ret
  exact ⟨rfl, rfl⟩
theorem rHash_any (s k : BitVec 64) (w : World) : Calls Tryz.prog 151 #[U s, U k] w fun e w' => e = .returned (U (hashOf s k)) ∧ w = w' := by
  have T1 := fun w => rTurned_any k s w
  have HA : Hid (mixF (mixF ((k ^^^ s) * 0xbf58476d1ce4e5b9#64) 32 * 0x94d049bb133111eb#64) 29 = hashOf s k) := Lib.hid rfl
  generalize hashOf s k = r at *
  generalize k ^^^ s = x at *
  have F1 : ∀ w, Calls Tryz.prog 219 #[U (x * 0xbf58476d1ce4e5b9#64), .int .i64 32] w fun e w' => e = .returned (U (mixF (x * 0xbf58476d1ce4e5b9#64) 32)) ∧ w = w' := fun w => rFolded_any (x * 0xbf58476d1ce4e5b9#64) 32 (by omega) w
  have F2 : ∀ w, Calls Tryz.prog 219 #[U (mixF (x * 0xbf58476d1ce4e5b9#64) 32 * 0x94d049bb133111eb#64), .int .i64 29] w fun e w' => e = .returned (U (mixF (mixF (x * 0xbf58476d1ce4e5b9#64) 32 * 0x94d049bb133111eb#64) 29)) ∧ w = w' := fun w => rFolded_any (mixF (x * 0xbf58476d1ce4e5b9#64) 32 * 0x94d049bb133111eb#64) 29 (by omega) w
  rw [HA.out] at F2
  generalize mixF (x * 0xbf58476d1ce4e5b9#64) 32 = y at *
  have M1 : BitVec.ofInt 64 (N x * 13787848793156543929) = x * 0xbf58476d1ce4e5b9#64 := by
    rw [BitVec.ofInt_mul, zap]; rfl
  have M2 : BitVec.ofInt 64 (N y * 10723151780598845931) = y * 0x94d049bb133111eb#64 := by
    rw [BitVec.ofInt_mul, zap]; rfl
  generalize x * 0xbf58476d1ce4e5b9#64 = xa at *
  generalize y * 0x94d049bb133111eb#64 = ya at *
  go_enter Tryz.func151, Tryz.ntmps151
  go_wp2_with (first
    | (go_at_call 220; refine (T1 _).mono ?_; rintro e w' ⟨rfl, rfl⟩)
    | (go_at_call 219; ((with_reducible refine (F1 _).mono ?_); rintro e w' ⟨rfl, rfl⟩))
    | (go_at_call 219; ((with_reducible refine (F2 _).mono ?_); rintro e w' ⟨rfl, rfl⟩)))
  go_ret
  exact ⟨rfl, rfl⟩
theorem rH1_any (h : BitVec 64) (w : World) : Calls Tryz.prog 154 #[U h] w fun e w' => e = .returned (U (hash1 h)) ∧ w = w' := by
  have h1 : (N h).tdiv 128 = N (hash1 h) := by
    rw [Int.tdiv_eq_ediv_of_nonneg (N_nonneg h)]
    unfold N hash1
    rw [BitVec.toNat_ushiftRight, Nat.shiftRight_eq_div_pow]
    simp
  generalize hash1 h = r at *
  go_enter Tryz.func154, Tryz.ntmps154
  go_wp2
  go_ret
  exact ⟨rfl, rfl⟩
theorem rH2_any (h : BitVec 64) (w : World) : Calls Tryz.prog 150 #[U h] w fun e w' => e = .returned (Y (hash2 h)) ∧ w = w' := by
  have h1 : (N h).tmod 128 = N (hash2 h) := by
    rw [Int.tmod_eq_emod_of_nonneg (N_nonneg h)]
    unfold N hash2
    rw [BitVec.toNat_and, BitVec.toNat_setWidth]
    have : h.toNat % 2 ^ 8 &&& (127#8).toNat = h.toNat % 128 := by
      show h.toNat % 2 ^ 8 &&& (2 ^ 7 - 1) = _
      rw [Nat.and_two_pow_sub_one_eq_mod]
      omega
    rw [this]
    rfl
  generalize hash2 h = r at *
  go_enter Tryz.func150, Tryz.ntmps150
  go_wp2
  go_ret
  exact ⟨rfl, rfl⟩
end
section
attribute [local go_sem] zap
attribute [local go_sem] box26 zcb cell0 cell1 cell2 cell3 cell4
theorem pre_pow (x : BitVec 64) (n : Nat) (hn : n < 64) : (N (x >>> n) == 0) = decide (N x < N (1#64 <<< n)) := by
  rw [Bool.eq_iff_iff, decide_eq_true_iff, beq_iff_eq]
  unfold N
  rw [shl_toNat n hn, BitVec.toNat_ushiftRight, Nat.shiftRight_eq_div_pow]
  have hp := Nat.two_pow_pos n
  have := Nat.div_eq_zero_iff (a := x.toNat) (b := 2 ^ n)
  constructor
  · intro h
    have h1 : x.toNat / 2 ^ n = 0 := by exact_mod_cast h
    have h2 : x.toNat < 2 ^ n := by rcases this.1 h1 with h | h <;> omega
    exact_mod_cast h2
  · intro h
    have h2 : x.toNat < 2 ^ n := by exact_mod_cast h
    have h1 : x.toNat / 2 ^ n = 0 := this.2 (.inr h2)
    exact_mod_cast h1
theorem flatT_eq (t : Tab) : flatT t = (decide (0 ≤ t.depth) && decide (t.depth ≤ 5) && decide (N t.pre < N (1#64 <<< t.depth.toNat)) && decide (0 ≤ t.can) && decide (t.can ≤ 14) && decide (0 ≤ t.live) && decide (t.live ≤ 14)) := by
  unfold flatT
  by_cases h : t.depth ≤ 5
  · rw [pre_pow t.pre t.depth.toNat (by omega)]
    simp only [Bool.and_assoc]
  · simp [h]
theorem rPower_int (d : Int) (h0 : 0 ≤ d) (h5 : d ≤ 5) (w : World) : Calls Tryz.prog 146 #[I d] w fun e w' => e = .returned (U (1#64 <<< d.toNat)) ∧ w = w' := by
  have h := rPower_any d.toNat (by omega) w
  rwa [show ((d.toNat : Nat) : Int) = d by omega] at h
theorem rTable_any (t : Tab) (w : World) : Calls Tryz.prog 86 #[.agg (tcells t)] w fun e w' => e = .returned (.bool (flatT t)) ∧ Ch [] w w' := by
  have P1 := rPower_int t.depth
  have HF := Lib.hid (flatT_eq t)
  generalize flatT t = ff at *
  go_enter Tryz.func86, Tryz.ntmps86
  go_wp2
  obtain ⟨W0, hW0⟩ : ∃ W0, w.alloc (.cells (tcells t) 26) = W0 := ⟨_, rfl⟩
  have hC0 : Ch [] w W0 := by rw [← hW0]; exact (Ch.refl [] w).alloc _
  have hg : ∀ g : Gar W0, (g.1).heap[w.heap.size]? = some (.cells (tcells t) 26 (0, 0)) := fun g => (g.2.block w.heap.size (by rw [← hW0]; simp) (by simp)).trans (by rw [← hW0]; simp [go_sem])
  rw [hW0]
  clear hW0
  by_cases h1 : 0 ≤ t.depth
  case neg =>
    have hff : ff = false := by rw [HF.out]; simp [h1]
    subst hff
    have d1 : decide (0 ≤ t.depth) = false := decide_eq_false h1
    refine wp_region_gar (by kernel_rfl) (by kernel_rfl) ?_
    repeat (go_big_quiet_step (fail))
    refine wpQuiet_nil ?_
    rintro w1 ⟨g1, hw1⟩
    have hc1 : Ch [] W0 w1 := by rw [hw1]; exact g1.2
    clear hw1 g1 hg
    go_wp2
    go_ret
    exact ⟨rfl, hC0.trans hc1⟩
  by_cases h2 : t.depth ≤ 5
  case neg =>
    have hff : ff = false := by rw [HF.out]; simp [h1, h2]
    subst hff
    have d2 : decide (t.depth ≤ 5) = false := decide_eq_false h2
    refine wp_region_gar (by kernel_rfl) (by kernel_rfl) ?_
    repeat (go_big_quiet_step (fail))
    refine wpQuiet_nil ?_
    rintro w1 ⟨g1, hw1⟩
    have hc1 : Ch [] W0 w1 := by rw [hw1]; exact g1.2
    clear hw1 g1 hg
    go_wp2
    go_ret
    exact ⟨rfl, hC0.trans hc1⟩
  by_cases h3 : N t.pre < N (1#64 <<< t.depth.toNat)
  case neg =>
    have hff : ff = false := by rw [HF.out]; simp [h1, h2, h3]
    subst hff
    have d3 : decide (N t.pre < N (1#64 <<< t.depth.toNat)) = false := decide_eq_false h3
    have P2 := fun w => P1 h1 h2 w
    refine wp_region_gar (by kernel_rfl) (by kernel_rfl) ?_
    repeat (go_big_quiet_step ((go_at_call 146; exact garL (P2 _))))
    refine wpQuiet_nil ?_
    rintro w1 ⟨g1, hw1⟩
    have hc1 : Ch [] W0 w1 := by rw [hw1]; exact g1.2
    clear hw1 g1 hg
    go_wp2
    go_ret
    exact ⟨rfl, hC0.trans hc1⟩
  by_cases h4 : 0 ≤ t.can
  case neg =>
    have hff : ff = false := by rw [HF.out]; simp [h1, h2, h3, h4]
    subst hff
    have d4 : decide (0 ≤ t.can) = false := decide_eq_false h4
    have P2 := fun w => P1 h1 h2 w
    refine wp_region_gar (by kernel_rfl) (by kernel_rfl) ?_
    repeat (go_big_quiet_step ((go_at_call 146; exact garL (P2 _))))
    refine wpQuiet_nil ?_
    rintro w1 ⟨g1, hw1⟩
    have hc1 : Ch [] W0 w1 := by rw [hw1]; exact g1.2
    clear hw1 g1 hg
    go_wp2
    go_ret
    exact ⟨rfl, hC0.trans hc1⟩
  by_cases h5 : t.can ≤ 14
  case neg =>
    have hff : ff = false := by rw [HF.out]; simp [h1, h2, h3, h4, h5]
    subst hff
    have d5 : decide (t.can ≤ 14) = false := decide_eq_false h5
    have P2 := fun w => P1 h1 h2 w
    refine wp_region_gar (by kernel_rfl) (by kernel_rfl) ?_
    repeat (go_big_quiet_step ((go_at_call 146; exact garL (P2 _))))
    refine wpQuiet_nil ?_
    rintro w1 ⟨g1, hw1⟩
    have hc1 : Ch [] W0 w1 := by rw [hw1]; exact g1.2
    clear hw1 g1 hg
    go_wp2
    go_ret
    exact ⟨rfl, hC0.trans hc1⟩
  by_cases h6 : 0 ≤ t.live
  case neg =>
    have hff : ff = false := by rw [HF.out]; simp [h1, h2, h3, h4, h5, h6]
    subst hff
    have d6 : decide (0 ≤ t.live) = false := decide_eq_false h6
    have P2 := fun w => P1 h1 h2 w
    refine wp_region_gar (by kernel_rfl) (by kernel_rfl) ?_
    repeat (go_big_quiet_step ((go_at_call 146; exact garL (P2 _))))
    refine wpQuiet_nil ?_
    rintro w1 ⟨g1, hw1⟩
    have hc1 : Ch [] W0 w1 := by rw [hw1]; exact g1.2
    clear hw1 g1 hg
    go_wp2
    go_ret
    exact ⟨rfl, hC0.trans hc1⟩
  by_cases h7 : t.live ≤ 14
  case neg =>
    have hff : ff = false := by rw [HF.out]; simp [h1, h2, h3, h4, h5, h6, h7]
    subst hff
    have d7 : decide (t.live ≤ 14) = false := decide_eq_false h7
    have P2 := fun w => P1 h1 h2 w
    refine wp_region_gar (by kernel_rfl) (by kernel_rfl) ?_
    repeat (go_big_quiet_step ((go_at_call 146; exact garL (P2 _))))
    refine wpQuiet_nil ?_
    rintro w1 ⟨g1, hw1⟩
    have hc1 : Ch [] W0 w1 := by rw [hw1]; exact g1.2
    clear hw1 g1 hg
    go_wp2
    go_ret
    exact ⟨rfl, hC0.trans hc1⟩
  have hff : ff = true := by rw [HF.out]; simp [h1, h2, h3, h4, h5, h6, h7]
  subst hff
  have P2 := fun w => P1 h1 h2 w
  refine wp_region_gar (by kernel_rfl) (by kernel_rfl) ?_
  repeat (go_big_quiet_step ((go_at_call 146; exact garL (P2 _))))
  refine wpQuiet_nil ?_
  rintro w1 ⟨g1, hw1⟩
  have hc1 : Ch [] W0 w1 := by rw [hw1]; exact g1.2
  clear hw1 g1 hg
  go_wp2
  go_ret
  exact ⟨rfl, hC0.trans hc1⟩
end
section
attribute [local go_sem] zap zbq
attribute [local go_sem] Oper.semAt_some zao
attribute [local go_sem] zcj pacell0 pacell1 pacell2 pacell3 pacell4 pacell5 pacell6 pacell7 pacell42
attribute [local go_sem] zcs zcx zcp zcw zcv zdg zcu zdf zce zcr zdj zdc zch zbt zci zck boxPart loadPart storePart zcf zct buildPart0 buildPart4
attribute [local go_sem ↓] lrowPart srowPart browPart zcl zbz
attribute [local go_sem high] zag
attribute [local irreducible] partC
theorem tmod255w (x : BitVec 64) : (N x).tmod 256 = N (x &&& 255#64) := by
  rw [← umod256, Int.tmod_eq_emod_of_nonneg (N_nonneg x)]
  unfold N
  rw [BitVec.toNat_umod]
  rfl
theorem tdiv8w (x : BitVec 64) : (N x).tdiv 256 = N (x >>> 8) := by
  rw [← udiv256, Int.tdiv_eq_ediv_of_nonneg (N_nonneg x)]
  unfold N
  rw [BitVec.toNat_udiv]
  rfl
theorem told_no (t : Tab) (j m : Nat) (hf : fullJ t j = false) : toldS t j m = toldS t (j + 1) m := by
  unfold toldS
  refine List.filter_congr fun i _ => ?_
  by_cases h : i = j
  · subst h; rw [hf]; simp
  · by_cases h2 : j ≤ i
    · rw [decide_eq_true h2, decide_eq_true (by omega : j + 1 ≤ i)]
    · rw [decide_eq_false h2, decide_eq_false (by omega : ¬ j + 1 ≤ i)]
theorem told_yes (t : Tab) (j : Nat) (hf : fullJ t j = true) : ∀ m, j < m → toldS t j m = j :: toldS t (j + 1) m := by
  intro m
  induction m with
  | zero => intro h; omega
  | succ m ih =>
    intro h
    by_cases hj : j = m
    · subst hj
      rw [toldS_yes t j j (Nat.le_refl _) hf, toldS_low t j j (Nat.le_refl _), toldS_low t (j + 1) (j + 1) (Nat.le_refl _)]; rfl
    · cases hm : fullJ t m with
      | true => rw [toldS_yes t j m (by omega) hm, toldS_yes t (j + 1) m (by omega) hm, ih (by omega)]; rfl
      | false => rw [toldS_no t j m (by omega) hm, toldS_no t (j + 1) m (by omega) hm, ih (by omega)]
theorem r22Full_any (p : PartT) (n : Nat) (hn : n < 16) (w : World) : Calls Tryz.prog 180 #[.agg (partC p), I n] w fun e w' => e = .returned (.bool (fullJ (gotS p) n)) ∧ Ch [] w w' := by
  have F1 := fun w => rFull9_any (p.c (n / 8)) (n % 8) (by omega) w
  have HJ : Hid (decide ((byteAt (p.c (n / 8)) (n % 8)).toNat < 128) = fullJ (gotS p) n) := Lib.hid rfl
  have hd : (n : Int).tdiv 8 = ((n / 8 : Nat) : Int) := by rw [Int.tdiv_eq_ediv_of_nonneg (by omega)]; rfl
  have hm : (n : Int).tmod 8 = ((n % 8 : Nat) : Int) := by rw [Int.tmod_eq_emod_of_nonneg (by omega)]; rfl
  have hg : n / 8 < 2 := by omega
  have hc8 := part_gc p (n / 8) hg
  generalize fullJ (gotS p) n = r at *
  rw [HJ.out] at F1
  generalize n / 8 = g at *
  generalize n % 8 = x at *
  generalize p.c g = cc at *
  go_enter Tryz.func180, Tryz.ntmps180
  go_wp2_with (go_at_call 218; refine (F1 _).mono ?_; rintro e w' ⟨rfl, rfl⟩)
  go_ret
  exact ⟨rfl, (Ch.refl [] w).alloc _⟩
theorem r22Power_any (n : Nat) (hn : n ≤ 64) (w : World) : Calls Tryz.prog 116 #[I n] w fun e w' => e = .returned (U (1#64 <<< n)) ∧ w = w' := by
  go_enter Tryz.func116, Tryz.ntmps116
  go_wp2
  go_loop [3, 5] (fun v i => ∃ j : Nat, j ≤ n ∧ i = .int .i64 j ∧ v = U (1#64 <<< j)) (fun _ i => n - (intOf i).toNat)
  case atStart => exact ⟨0, Nat.zero_le _, rfl, rfl⟩
  case round =>
    obtain ⟨j, hj, rfl, rfl⟩ := hrel
    by_cases hlt : j < n
    · have HS := Lib.hid (two_shl j)
      go_wp2
      go_round
      case rel => exact ⟨j + 1, by omega, by go_num, by rw [← HS.out]⟩
      case measure => simp [intOf]; omega
    · have hjn : j = n := by omega
      have HJ := Lib.hid hjn
      clear hjn
      go_wp2
      go_ret
      refine ⟨?_, rfl⟩
      rw [← HJ.out]; rfl
theorem head_over (w : BitVec 64) : (decide (5 ≤ N (w &&& 255#64)) || decide (N (1#64 <<< (w &&& 255#64).toNat) ≤ N (w >>> 8))) = (decide (5 ≤ (w &&& 255#64).toNat) || ((w >>> 8) >>> (w &&& 255#64).toNat != 0#64)) := by
  have e1 : decide (5 ≤ N (w &&& 255#64)) = decide (5 ≤ (w &&& 255#64).toNat) := by
    unfold N
    by_cases h : 5 ≤ (w &&& 255#64).toNat
    · rw [decide_eq_true h, decide_eq_true (by omega)]
    · rw [decide_eq_false h, decide_eq_false (by omega)]
  rw [e1]
  by_cases h : 5 ≤ (w &&& 255#64).toNat
  · rw [decide_eq_true h]; rfl
  · congr 1
    generalize (w &&& 255#64).toNat = n at *
    generalize w >>> 8 = x
    have := pre_pow x n (by omega)
    rw [Bool.eq_iff_iff, decide_eq_true_iff, bne_iff_ne]
    have h3 : (x >>> n = 0#64) ↔ N x < N (1#64 <<< n) := by
      rw [← decide_eq_true_iff (p := N x < N (1#64 <<< n)), ← this, beq_iff_eq]
      constructor
      · intro h; rw [h]; rfl
      · intro h
        apply BitVec.eq_of_toNat_eq
        have : ((x >>> n).toNat : Int) = 0 := h
        show _ = 0
        omega
    rw [Ne, h3]
    omega
end
end Go.Proofs.Hc
