/- The reference of layer 9. -/
import Derived.Test.YtcikopeddljgkaaGreatKHtm
import Derived.Test.YtcikopeddljgkaaGreatKSc
import Derived.Test.YtcikopeddljgkaaGreatK0
set_option linter.unusedSimpArgs false
set_option linter.unusedVariables false
set_option maxHeartbeats 4000000
set_option maxRecDepth 100000
namespace Go.Proofs.Hc
open Go.RowKit
attribute [local go_sem] zbs zca zax zbc zbn zba zbm zbo zbu signed64 signed8 zar BitVec.ofInt_add BitVec.ofInt_mul ofInt_sub' zay zaz wide8 eqN neN zbz shr1 shr7 shr56
attribute [local go_sem high] zbb zbt
attribute [local go_sem] zag zbw zah zas zad zbe zaq zal zbl zan zbd zbf
attribute [local go_sem] load26 load73 load23 store26 build73
attribute [local go_sem ↓] lrow26 lrow73 lrow23 srow26 zero26 brow73 zac zaw zbg zaa zab
attribute [local go_sem] zai zav zat zbj zbk zbp zao zau zbq zbi zbh
attribute [local go_sem] nn2 nm2 nn3 nm3 nn4 nm4 nn5 nm5 nn6 nm6 nn7 nm7 nn8 nm8
section
attribute [local go_sem] zar
def okY (b : BitVec 8) : Bool := decide (b.toNat < 128) || (b == 128#8 || b == 254#8)
theorem okY_lo {b : BitVec 8} (h : N b ≤ 127) : okY b = true := by
  unfold N at h; unfold okY; rw [decide_eq_true (by omega)]; rfl
theorem okY_hi {b : BitVec 8} (h : 127 < N b) : okY b = (b == 128#8 || b == 254#8) := by
  unfold N at h; unfold okY; rw [decide_eq_false (by omega), Bool.false_or]
theorem Y128 (b : BitVec 8) : (N b == 128) = (b == 128#8) := by rw [← eqN]; rfl
theorem Y254 (b : BitVec 8) : (N b == 254) = (b == 254#8) := by rw [← eqN]; rfl
theorem rByte_any (b : BitVec 8) (w : World) : Calls Tryz.prog 148 #[Y b] w fun e w' => e = .returned (.bool (okY b)) ∧ w = w' := by
  have e1 := Y128 b
  have e2 := Y254 b
  rcases (show 127 < N b ∨ N b ≤ 127 by omega) with h | h
  · have ho := Lib.hid (okY_hi h)
    have h' : ¬ N b ≤ 127 := by omega
    cases h1 : (b == 128#8) <;> cases h2 : (b == 254#8)
    all_goals
      rw [h1] at e1
      rw [h2] at e2
      have H1 := Lib.hid h1
      have H2 := Lib.hid h2
      clear h1 h2
      go_enter Tryz.func148, Tryz.ntmps148
      go_wp2
      go_ret
      refine ⟨?_, rfl⟩
      rw [ho.out, H1.out, H2.out]; rfl
  · have ho := Lib.hid (okY_lo h)
    clear e1 e2
    go_enter Tryz.func148, Tryz.ntmps148
    go_wp2
    go_ret
    refine ⟨?_, rfl⟩
    rw [ho.out]; rfl
theorem ctrlOk_okY (c : BitVec 64) : ctrlOk c = true ↔ ∀ n, n < 8 → okY (byteAt c n) = true := by
  rw [ctrlOk_iff]
  constructor
  · intro h n hn
    unfold okY
    rcases h n hn with h1 | h1 | h1
    · rw [decide_eq_true h1]; rfl
    · rw [h1]; decide
    · rw [h1]; decide
  · intro h n hn
    have := h n hn
    unfold okY at this
    simpa using this
theorem rRight9_any (x : BitVec 64) (w : World) : Calls Tryz.prog 87 #[U x] w fun e w' => e = .returned (.bool (ctrlOk x)) ∧ Ch [] w w' := by
  have HI := Lib.hid (ctrlOk_okY x)
  generalize ctrlOk x = r at *
  go_enter Tryz.func87, Tryz.ntmps87
  go_wp2_with fail
  refine (rBytes_any x w).mono ?_
  rintro e w1 ⟨a, c, rfl, hown, hc1⟩
  obtain ⟨_, ⟨hv, h0⟩ | ⟨g, cap, cur, hv, hg, hW, hle, _, hsz, hx⟩⟩ := hown
  · cases hv
  · simp only [Value.slice.injEq] at hv
    obtain ⟨rfl, -, rfl⟩ := hv
    have hcur : ∀ j, j < 8 → cur[j]? = some (Y (byteAt x j)) := by
      intro j hj
      have h1 : (ycells (bytesOf x))[j]? = some (Y (byteAt x j)) := by unfold ycells; rw [List.getElem?_map, bytesOf_get x j hj]; rfl
      rw [← hx, List.getElem?_take, if_pos (by omega)] at h1
      simpa using h1
    have HC := Lib.hid hcur
    clear hcur hx hle hsz hg
    go_wp2
    go_loop [8] (fun i => ∃ j : Nat, i = .int .i64 j ∧ j ≤ 8 ∧ Hid (∀ n, n < j → okY (byteAt x n) = true)) (fun i => 8 - (intOf i).toNat)
    case atStart => exact ⟨0, rfl, by omega, Lib.hid (fun n hn => by omega)⟩
    case round =>
      obtain ⟨j, hj, hj8, hok⟩ := hrel
      subst hj
      by_cases hlt : j < 8
      · have hcj := HC.out j hlt
        have B1 := fun w => rByte_any (byteAt x j) w
        cases hy : okY (byteAt x j)
        all_goals
          have HY := Lib.hid hy
          rw [hy] at B1
          clear hy
          go_wp2_with (go_at_call 148; refine (B1 _).mono ?_; rintro e w' ⟨rfl, rfl⟩)
        · go_ret
          refine ⟨?_, hc1⟩
          have : r = false := by
            cases hr : r with
            | false => rfl
            | true => have := (HI.out.1 hr) j hlt; rw [HY.out] at this; cases this
          rw [this]; rfl
        · go_round
          case rel => exact ⟨j + 1, by go_num, hlt, Lib.hid (fun n hn => by
            rcases Nat.lt_or_ge n j with h | h
            · exact hok.out n h
            · rw [show n = j by omega]; exact HY.out)⟩
          case measure => simp [intOf]; omega
      · have hj : j = 8 := by omega
        have HJ := Lib.hid hj
        clear hj
        go_wp2
        go_ret
        refine ⟨?_, hc1⟩
        rw [HI.out.2 (fun n hn => hok.out n (by rw [HJ.out]; exact hn))]; rfl
theorem rFull9_any (x : BitVec 64) (n : Nat) (hn : n ≤ 64) (w : World) : Calls Tryz.prog 218 #[U x, I n] w fun e w' => e = .returned (.bool (decide ((byteAt x n).toNat < 128))) ∧ w = w' := by
  have A1 := fun w => rAt_any x n hn w
  have HD : Hid (decide (N (byteAt x n) < 128) = decide ((byteAt x n).toNat < 128)) := Lib.hid (by rw [decide_eq_decide]; unfold N; omega)
  generalize byteAt x n = y at *
  go_enter Tryz.func218, Tryz.ntmps218
  go_wp2_with (go_at_call 88; refine (A1 _).mono ?_; rintro e w' ⟨rfl, rfl⟩)
  all_goals
    go_ret
    refine ⟨?_, rfl⟩
    first | (rw [← HD.out]; rfl) | (rw [← HD.out]; simp; omega)
def setM (p : Nat → Bool) : Nat → BitVec 8
  | 0 => 0#8
  | j + 1 => if p j then setM p j + laneM j else setM p j
theorem setM_ne (p : Nat → Bool) : (setM p 8 != 0#8) = (p 0 || p 1 || p 2 || p 3 || p 4 || p 5 || p 6 || p 7) := by
  simp only [setM]
  generalize p 0 = a0, p 1 = a1, p 2 = a2, p 3 = a3, p 4 = a4, p 5 = a5, p 6 = a6, p 7 = a7
  revert a0 a1 a2 a3 a4 a5 a6 a7
  decide
theorem setM_empty (c : BitVec 64) : (setM (fun n => byteAt c n == 128#8) 8 != 0#8) = (emptyM c != 0#8) := by
  rw [setM_ne]
  have h : ∀ m : BitVec 8, (m != 0#8) = (m.getLsbD 0 || m.getLsbD 1 || m.getLsbD 2 || m.getLsbD 3 || m.getLsbD 4 || m.getLsbD 5 || m.getLsbD 6 || m.getLsbD 7) := by decide +kernel
  rw [h]
  simp only [emptyM_bit c _ (show 0 < 8 by omega), emptyM_bit c _ (show 1 < 8 by omega), emptyM_bit c _ (show 2 < 8 by omega), emptyM_bit c _ (show 3 < 8 by omega), emptyM_bit c _ (show 4 < 8 by omega), emptyM_bit c _ (show 5 < 8 by omega), emptyM_bit c _ (show 6 < 8 by omega), emptyM_bit c _ (show 7 < 8 by omega)]
theorem rSet1_any (c : BitVec 64) (w : World) : Calls Tryz.prog 222 #[U c, .int .i64 1] w fun e w' => e = .returned (Y (setM (fun n => byteAt c n == 128#8) 8)) ∧ w = w' := by
  go_enter Tryz.func222, Tryz.ntmps222
  go_wp2
  go_loop [5, 8] (fun v i => ∃ j : Nat, j ≤ 8 ∧ i = .int .i64 j ∧ v = Y (setM (fun n => byteAt c n == 128#8) j)) (fun _ i => 8 - (intOf i).toNat)
  case atStart => exact ⟨0, by omega, rfl, rfl⟩
  case round =>
    obtain ⟨j, hj, rfl, rfl⟩ := hrel
    by_cases hlt : j < 8
    · have A1 := fun w => rAt_any c j (by omega) w
      have e1 := Y128 (byteAt c j)
      have HS : Hid (setM (fun n => byteAt c n == 128#8) (j + 1) = if byteAt c j == 128#8 then setM (fun n => byteAt c n == 128#8) j + laneM j else setM (fun n => byteAt c n == 128#8) j) := Lib.hid rfl
      have W1 := fun w => rWith_any (setM (fun n => byteAt c n == 128#8) j) j (by omega) w
      generalize setM (fun n => byteAt c n == 128#8) j = m at *
      cases hy : (byteAt c j == 128#8)
      all_goals
        rw [hy] at e1 HS
        clear hy
        generalize byteAt c j = y at *
        go_wp2_with (first
          | (go_at_call 88; refine (A1 _).mono ?_; rintro e w' ⟨rfl, rfl⟩)
          | (go_at_call 274; refine (W1 _).mono ?_; rintro e w' ⟨rfl, rfl⟩))
        go_round
        case rel => exact ⟨j + 1, by omega, by go_num, by rw [HS.out]; simp⟩
        case measure => simp [intOf]; omega
    · have hjn : j = 8 := by omega
      subst hjn
      go_wp2
      go_ret
      exact ⟨rfl, rfl⟩
end
section
attribute [local go_sem] zar
theorem gt0 (m : BitVec 8) : decide (0 < N m) = (m != 0#8) := by
  rw [Bool.eq_iff_iff, decide_eq_true_iff, bne_iff_ne]
  unfold N
  constructor
  · intro h e; rw [e] at h; simp at h
  · intro h
    have : m.toNat ≠ 0 := fun e => h (BitVec.eq_of_toNat_eq (by rw [e]; rfl))
    omega
theorem rStops_any (c : BitVec 64) (w : World) : Calls Tryz.prog 155 #[U c] w fun e w' => e = .returned (.bool (emptyM c != 0#8)) ∧ w = w' := by
  have S1 := fun w => rSet1_any c w
  have h := gt0 (setM (fun n => byteAt c n == 128#8) 8)
  rw [setM_empty] at h
  generalize setM (fun n => byteAt c n == 128#8) 8 = m at *
  generalize (emptyM c != 0#8) = b at *
  cases b
  all_goals
    first | (have hn : ¬ 0 < N m := of_decide_eq_false h) | (have hn : 0 < N m := of_decide_eq_true h)
    clear h
    go_enter Tryz.func155, Tryz.ntmps155
    go_wp2_with (go_at_call 222; refine (S1 _).mono ?_; rintro e w' ⟨rfl, rfl⟩)
    go_ret
    first
      | exact ⟨rfl, rfl⟩
      | (refine ⟨?_, rfl⟩; show Ending.returned (.bool (decide (0 < N m))) = _; rw [decide_eq_false (by omega)])
      | (refine ⟨?_, rfl⟩; show Ending.returned (.bool (decide (0 < N m))) = _; rw [decide_eq_true (by omega)])
theorem two_shl (j : Nat) : 2#64 * (1#64 <<< j) = 1#64 <<< (j + 1) := by
  apply BitVec.eq_of_toNat_eq
  rw [BitVec.toNat_mul, BitVec.toNat_shiftLeft, BitVec.toNat_shiftLeft, Nat.shiftLeft_eq, Nat.shiftLeft_eq, Nat.pow_succ]
  show (2 * (1 * 2 ^ j % 18446744073709551616)) % 18446744073709551616 = 1 * (2 ^ j * 2) % 18446744073709551616
  omega
theorem rBit_any (n : Nat) (hn : n ≤ 64) (w : World) : Calls Tryz.prog 272 #[I n] w fun e w' => e = .returned (U (1#64 <<< n)) ∧ w = w' := by
  go_enter Tryz.func272, Tryz.ntmps272
  go_wp2
  go_loop [3, 5] (fun v i => ∃ j : Nat, j ≤ n ∧ i = .int .i64 j ∧ v = U (1#64 <<< j)) (fun _ i => n - (intOf i).toNat)
  case atStart => exact ⟨0, Nat.zero_le _, rfl, rfl⟩
  case round =>
    obtain ⟨j, hj, rfl, rfl⟩ := hrel
    by_cases hlt : j < n
    · have HS := Lib.hid (two_shl j)
      go_wp2
      go_round
      case rel => exact ⟨j + 1, by omega, by go_num, by rw [← HS.out]⟩
      case measure => simp [intOf]; omega
    · have hjn : j = n := by omega
      have HJ := Lib.hid hjn
      clear hjn
      go_wp2
      go_ret
      refine ⟨?_, rfl⟩
      rw [← HJ.out]; rfl
theorem rPower_any (n : Nat) (hn : n ≤ 64) (w : World) : Calls Tryz.prog 146 #[I n] w fun e w' => e = .returned (U (1#64 <<< n)) ∧ w = w' := by
  go_enter Tryz.func146, Tryz.ntmps146
  go_wp2
  go_loop [3, 5] (fun v i => ∃ j : Nat, j ≤ n ∧ i = .int .i64 j ∧ v = U (1#64 <<< j)) (fun _ i => n - (intOf i).toNat)
  case atStart => exact ⟨0, Nat.zero_le _, rfl, rfl⟩
  case round =>
    obtain ⟨j, hj, rfl, rfl⟩ := hrel
    by_cases hlt : j < n
    · have HS := Lib.hid (two_shl j)
      go_wp2
      go_round
      case rel => exact ⟨j + 1, by omega, by go_num, by rw [← HS.out]⟩
      case measure => simp [intOf]; omega
    · have hjn : j = n := by omega
      have HJ := Lib.hid hjn
      clear hjn
      go_wp2
      go_ret
      refine ⟨?_, rfl⟩
      rw [← HJ.out]; rfl
theorem shl_toNat (n : Nat) (hn : n < 64) : (1#64 <<< n).toNat = 2 ^ n := by
  rw [BitVec.toNat_shiftLeft, Nat.shiftLeft_eq]
  show 1 * 2 ^ n % 2 ^ 64 = _
  rw [Nat.one_mul, Nat.mod_eq_of_lt (Nat.pow_lt_pow_right (by omega) hn)]
theorem div_bit (x : BitVec 64) (n : Nat) (hn : n < 64) : N x / N (1#64 <<< n) = N (x >>> n) := by
  unfold N
  rw [shl_toNat n hn, BitVec.toNat_ushiftRight, Nat.shiftRight_eq_div_pow]
  simp
theorem bit_pos (n : Nat) (hn : n < 64) : 0 < N (1#64 <<< n) := by
  unfold N
  rw [shl_toNat n hn]
  have := Nat.two_pow_pos n
  omega
theorem odd_bit (y : BitVec 64) : (N y % 2 == 1) = y.getLsbD 0 := by
  have h : y.getLsbD 0 = decide (y.toNat % 2 = 1) := by
    rw [← BitVec.testBit_toNat, Nat.testBit_zero]
  rw [h, Bool.eq_iff_iff, beq_iff_eq, decide_eq_true_iff]
  unfold N
  omega
theorem rHas_any (x : BitVec 64) (n : Nat) (hn : n < 64) (w : World) : Calls Tryz.prog 273 #[U x, I n] w fun e w' => e = .returned (.bool (x.getLsbD n)) ∧ w = w' := by
  have B1 := fun w => rBit_any n (by omega) w
  have h1 := div_bit x n hn
  have h2 := bit_pos n hn
  have h3 := odd_bit (x >>> n)
  have h4 : (x >>> n).getLsbD 0 = x.getLsbD n := by rw [BitVec.getLsbD_ushiftRight]; simp
  rw [h4] at h3
  have h5 : (N x).tdiv (N (1#64 <<< n)) = N (x >>> n) := by rw [Int.tdiv_eq_ediv_of_nonneg (N_nonneg x), h1]
  have h6 : (N (x >>> n)).tmod 2 = N (x >>> n) % 2 := Int.tmod_eq_emod_of_nonneg (N_nonneg _)
  have h7 : (N (1#64 <<< n) == 0) = false := by simp; omega
  have hnn : (n : Int) < 64 := by omega
  clear h4
  generalize x.getLsbD n = r at *
  generalize 1#64 <<< n = p at *
  generalize x >>> n = y at *
  cases r
  all_goals
    go_enter Tryz.func273, Tryz.ntmps273
    go_wp2_with (go_at_call 272; refine (B1 _).mono ?_; rintro e w' ⟨rfl, rfl⟩)
    go_ret
    exact ⟨rfl, rfl⟩
end
section
attribute [local go_sem] zar
def trnB (d : BitVec 64) : Nat → BitVec 64
  | 0 => 0#64
  | n + 1 => if d.getLsbD n then trnB d n + (1#64 <<< n) else trnB d n
theorem trnB_toNat (d : BitVec 64) : ∀ n : Nat, n ≤ 64 → (trnB d n).toNat = d.toNat % 2 ^ n := by
  intro n
  induction n with
  | zero => intro _; simp [trnB, Nat.mod_one]
  | succ n ih =>
    intro hn
    have h1 := ih (by omega)
    have hb : d.toNat.testBit n = d.getLsbD n := BitVec.testBit_toNat d
    have hp : 2 ^ (n + 1) ≤ 2 ^ 64 := Nat.pow_le_pow_right (by omega) hn
    have hq : 2 ^ (n + 1) = 2 ^ n + 2 ^ n := by rw [Nat.pow_succ]; omega
    have hlt : d.toNat % 2 ^ n < 2 ^ n := Nat.mod_lt _ (Nat.two_pow_pos n)
    rw [Nat.testBit_eq_decide_div_mod_eq] at hb
    rw [Nat.pow_succ, Nat.mod_mul]
    unfold trnB
    cases hd : d.getLsbD n
    · rw [hd] at hb
      have := of_decide_eq_false hb
      have h0 : d.toNat / 2 ^ n % 2 = 0 := by omega
      simp [h1, h0]
    · rw [hd] at hb
      have h0 : d.toNat / 2 ^ n % 2 = 1 := of_decide_eq_true hb
      rw [if_pos rfl, BitVec.toNat_add, h1, shl_toNat n (by omega), h0, Nat.mul_one, Nat.mod_eq_of_lt (by omega)]
theorem trnB_all (d : BitVec 64) : trnB d 64 = d := by
  apply BitVec.eq_of_toNat_eq
  rw [trnB_toNat d 64 (by omega), Nat.mod_eq_of_lt d.isLt]
theorem rTurned_any (x y : BitVec 64) (w : World) : Calls Tryz.prog 220 #[U x, U y] w fun e w' => e = .returned (U (x ^^^ y)) ∧ w = w' := by
  go_enter Tryz.func220, Tryz.ntmps220
  go_wp2
  go_loop [5, 7] (fun v i => ∃ j : Nat, j ≤ 64 ∧ i = .int .i64 j ∧ v = U (trnB (x ^^^ y) j)) (fun _ i => 64 - (intOf i).toNat)
  case atStart => exact ⟨0, by omega, rfl, rfl⟩
  case round =>
    obtain ⟨j, hj, rfl, rfl⟩ := hrel
    by_cases hlt : j < 64
    · have X1 := fun w => rHas_any x j hlt w
      have Y1 := fun w => rHas_any y j hlt w
      have B1 := fun w => rBit_any j (by omega) w
      have HS : Hid (trnB (x ^^^ y) (j + 1) = if (x.getLsbD j ^^ y.getLsbD j) then trnB (x ^^^ y) j + (1#64 <<< j) else trnB (x ^^^ y) j) := Lib.hid (by rw [← BitVec.getLsbD_xor]; rfl)
      generalize trnB (x ^^^ y) j = m at *
      generalize 1#64 <<< j = p at *
      generalize x.getLsbD j = a at *
      generalize y.getLsbD j = b at *
      cases a <;> cases b
      all_goals
        go_wp2_with (first
          | (go_at_call 273; ((with_reducible refine (X1 _).mono ?_); rintro e w' ⟨rfl, rfl⟩))
          | (go_at_call 273; ((with_reducible refine (Y1 _).mono ?_); rintro e w' ⟨rfl, rfl⟩))
          | (go_at_call 272; refine (B1 _).mono ?_; rintro e w' ⟨rfl, rfl⟩))
        go_round
        case rel => exact ⟨j + 1, by omega, by go_num, by rw [HS.out]; simp⟩
        case measure => simp [intOf]; omega
    · have hjn : j = 64 := by omega
      subst hjn
      have HT : Hid (trnB (x ^^^ y) 64 = x ^^^ y) := Lib.hid (trnB_all _)
      generalize trnB (x ^^^ y) 64 = m at *
      go_wp2
      go_ret
      rw [HT.out]
      exact ⟨rfl, rfl⟩
theorem rFolded_any (x : BitVec 64) (n : Nat) (hn : n < 64) (w : World) : Calls Tryz.prog 219 #[U x, I n] w fun e w' => e = .returned (U (mixF x n)) ∧ w = w' := by
  have B1 := fun w => rBit_any n (by omega) w
  have h1 := div_bit x n hn
  have h2 := bit_pos n hn
  have h5 : (N x).tdiv (N (1#64 <<< n)) = N (x >>> n) := by rw [Int.tdiv_eq_ediv_of_nonneg (N_nonneg x), h1]
  have h7 : (N (1#64 <<< n) == 0) = false := by simp; omega
  have HM : Hid (x ^^^ (x >>> n) = mixF x n) := Lib.hid rfl
  have T1 := fun w => rTurned_any x (x >>> n) w
  generalize mixF x n = m at *
  generalize 1#64 <<< n = p at *
  generalize x >>> n = y at *
  rw [HM.out] at T1
  go_enter Tryz.func219, Tryz.ntmps219
  go_wp2_with (first
    | (go_at_call 272; refine (B1 _).mono ?_; rintro e w' ⟨rfl, rfl⟩)
    | (go_at_call 220; refine (T1 _).mono ?_; rintro e w' ⟨rfl, rfl⟩))
  go_ret
  exact ⟨rfl, rfl⟩
theorem rHash_any (s k : BitVec 64) (w : World) : Calls Tryz.prog 151 #[U s, U k] w fun e w' => e = .returned (U (hashOf s k)) ∧ w = w' := by
  have T1 := fun w => rTurned_any k s w
  have HA : Hid (mixF (mixF ((k ^^^ s) * 0xbf58476d1ce4e5b9#64) 32 * 0x94d049bb133111eb#64) 29 = hashOf s k) := Lib.hid rfl
  generalize hashOf s k = r at *
  generalize k ^^^ s = x at *
  have F1 : ∀ w, Calls Tryz.prog 219 #[U (x * 0xbf58476d1ce4e5b9#64), .int .i64 32] w fun e w' => e = .returned (U (mixF (x * 0xbf58476d1ce4e5b9#64) 32)) ∧ w = w' := fun w => rFolded_any (x * 0xbf58476d1ce4e5b9#64) 32 (by omega) w
  have F2 : ∀ w, Calls Tryz.prog 219 #[U (mixF (x * 0xbf58476d1ce4e5b9#64) 32 * 0x94d049bb133111eb#64), .int .i64 29] w fun e w' => e = .returned (U (mixF (mixF (x * 0xbf58476d1ce4e5b9#64) 32 * 0x94d049bb133111eb#64) 29)) ∧ w = w' := fun w => rFolded_any (mixF (x * 0xbf58476d1ce4e5b9#64) 32 * 0x94d049bb133111eb#64) 29 (by omega) w
  rw [HA.out] at F2
  generalize mixF (x * 0xbf58476d1ce4e5b9#64) 32 = y at *
  have M1 : BitVec.ofInt 64 (N x * 13787848793156543929) = x * 0xbf58476d1ce4e5b9#64 := by
    rw [BitVec.ofInt_mul, zar]; rfl
  have M2 : BitVec.ofInt 64 (N y * 10723151780598845931) = y * 0x94d049bb133111eb#64 := by
    rw [BitVec.ofInt_mul, zar]; rfl
  generalize x * 0xbf58476d1ce4e5b9#64 = xa at *
  generalize y * 0x94d049bb133111eb#64 = ya at *
  go_enter Tryz.func151, Tryz.ntmps151
  go_wp2_with (first
    | (go_at_call 220; refine (T1 _).mono ?_; rintro e w' ⟨rfl, rfl⟩)
    | (go_at_call 219; ((with_reducible refine (F1 _).mono ?_); rintro e w' ⟨rfl, rfl⟩))
    | (go_at_call 219; ((with_reducible refine (F2 _).mono ?_); rintro e w' ⟨rfl, rfl⟩)))
  go_ret
  exact ⟨rfl, rfl⟩
theorem rH1_any (h : BitVec 64) (w : World) : Calls Tryz.prog 154 #[U h] w fun e w' => e = .returned (U (hash1 h)) ∧ w = w' := by
  have h1 : (N h).tdiv 128 = N (hash1 h) := by
    rw [Int.tdiv_eq_ediv_of_nonneg (N_nonneg h)]
    unfold N hash1
    rw [BitVec.toNat_ushiftRight, Nat.shiftRight_eq_div_pow]
    simp
  generalize hash1 h = r at *
  go_enter Tryz.func154, Tryz.ntmps154
  go_wp2
  go_ret
  exact ⟨rfl, rfl⟩
theorem rH2_any (h : BitVec 64) (w : World) : Calls Tryz.prog 150 #[U h] w fun e w' => e = .returned (Y (hash2 h)) ∧ w = w' := by
  have h1 : (N h).tmod 128 = N (hash2 h) := by
    rw [Int.tmod_eq_emod_of_nonneg (N_nonneg h)]
    unfold N hash2
    rw [BitVec.toNat_and, BitVec.toNat_setWidth]
    have : h.toNat % 2 ^ 8 &&& (127#8).toNat = h.toNat % 128 := by
      show h.toNat % 2 ^ 8 &&& (2 ^ 7 - 1) = _
      rw [Nat.and_two_pow_sub_one_eq_mod]
      omega
    rw [this]
    rfl
  generalize hash2 h = r at *
  go_enter Tryz.func150, Tryz.ntmps150
  go_wp2
  go_ret
  exact ⟨rfl, rfl⟩
end
section
attribute [local go_sem] zar
attribute [local go_sem] box26 zbx cell0 cell1 cell2 cell3 cell4
theorem pre_pow (x : BitVec 64) (n : Nat) (hn : n < 64) : (N (x >>> n) == 0) = decide (N x < N (1#64 <<< n)) := by
  rw [Bool.eq_iff_iff, decide_eq_true_iff, beq_iff_eq]
  unfold N
  rw [shl_toNat n hn, BitVec.toNat_ushiftRight, Nat.shiftRight_eq_div_pow]
  have hp := Nat.two_pow_pos n
  have := Nat.div_eq_zero_iff (a := x.toNat) (b := 2 ^ n)
  constructor
  · intro h
    have h1 : x.toNat / 2 ^ n = 0 := by exact_mod_cast h
    have h2 : x.toNat < 2 ^ n := by rcases this.1 h1 with h | h <;> omega
    exact_mod_cast h2
  · intro h
    have h2 : x.toNat < 2 ^ n := by exact_mod_cast h
    have h1 : x.toNat / 2 ^ n = 0 := this.2 (.inr h2)
    exact_mod_cast h1
theorem flatT_eq (t : Tab) : flatT t = (decide (0 ≤ t.depth) && decide (t.depth ≤ 5) && decide (N t.pre < N (1#64 <<< t.depth.toNat)) && decide (0 ≤ t.can) && decide (t.can ≤ 14) && decide (0 ≤ t.live) && decide (t.live ≤ 14)) := by
  unfold flatT
  by_cases h : t.depth ≤ 5
  · rw [pre_pow t.pre t.depth.toNat (by omega)]
    simp only [Bool.and_assoc]
  · simp [h]
theorem rPower_int (d : Int) (h0 : 0 ≤ d) (h5 : d ≤ 5) (w : World) : Calls Tryz.prog 146 #[I d] w fun e w' => e = .returned (U (1#64 <<< d.toNat)) ∧ w = w' := by
  have h := rPower_any d.toNat (by omega) w
  rwa [show ((d.toNat : Nat) : Int) = d by omega] at h
theorem rTable_any (t : Tab) (w : World) : Calls Tryz.prog 86 #[.agg (tcells t)] w fun e w' => e = .returned (.bool (flatT t)) ∧ Ch [] w w' := by
  have P1 := rPower_int t.depth
  have HF := Lib.hid (flatT_eq t)
  generalize flatT t = ff at *
  go_enter Tryz.func86, Tryz.ntmps86
  go_wp2
  obtain ⟨W0, hW0⟩ : ∃ W0, w.alloc (.cells (tcells t) 26) = W0 := ⟨_, rfl⟩
  have hC0 : Ch [] w W0 := by rw [← hW0]; exact (Ch.refl [] w).alloc _
  have hg : ∀ g : Gar W0, (g.1).heap[w.heap.size]? = some (.cells (tcells t) 26 (0, 0)) := fun g => (g.2.block w.heap.size (by rw [← hW0]; simp) (by simp)).trans (by rw [← hW0]; simp [go_sem])
  rw [hW0]
  clear hW0
  by_cases h1 : 0 ≤ t.depth
  case neg =>
    have hff : ff = false := by rw [HF.out]; simp [h1]
    subst hff
    have d1 : decide (0 ≤ t.depth) = false := decide_eq_false h1
    refine zda (by kernel_rfl) (by kernel_rfl) ?_
    repeat (go_big_quiet_step (fail))
    refine wpQuiet_nil ?_
    rintro w1 ⟨g1, hw1⟩
    have hc1 : Ch [] W0 w1 := by rw [hw1]; exact g1.2
    clear hw1 g1 hg
    go_wp2
    go_ret
    exact ⟨rfl, hC0.trans hc1⟩
  by_cases h2 : t.depth ≤ 5
  case neg =>
    have hff : ff = false := by rw [HF.out]; simp [h1, h2]
    subst hff
    have d2 : decide (t.depth ≤ 5) = false := decide_eq_false h2
    refine zda (by kernel_rfl) (by kernel_rfl) ?_
    repeat (go_big_quiet_step (fail))
    refine wpQuiet_nil ?_
    rintro w1 ⟨g1, hw1⟩
    have hc1 : Ch [] W0 w1 := by rw [hw1]; exact g1.2
    clear hw1 g1 hg
    go_wp2
    go_ret
    exact ⟨rfl, hC0.trans hc1⟩
  by_cases h3 : N t.pre < N (1#64 <<< t.depth.toNat)
  case neg =>
    have hff : ff = false := by rw [HF.out]; simp [h1, h2, h3]
    subst hff
    have d3 : decide (N t.pre < N (1#64 <<< t.depth.toNat)) = false := decide_eq_false h3
    have P2 := fun w => P1 h1 h2 w
    refine zda (by kernel_rfl) (by kernel_rfl) ?_
    repeat (go_big_quiet_step ((go_at_call 146; exact garL (P2 _))))
    refine wpQuiet_nil ?_
    rintro w1 ⟨g1, hw1⟩
    have hc1 : Ch [] W0 w1 := by rw [hw1]; exact g1.2
    clear hw1 g1 hg
    go_wp2
    go_ret
    exact ⟨rfl, hC0.trans hc1⟩
  by_cases h4 : 0 ≤ t.can
  case neg =>
    have hff : ff = false := by rw [HF.out]; simp [h1, h2, h3, h4]
    subst hff
    have d4 : decide (0 ≤ t.can) = false := decide_eq_false h4
    have P2 := fun w => P1 h1 h2 w
    refine zda (by kernel_rfl) (by kernel_rfl) ?_
    repeat (go_big_quiet_step ((go_at_call 146; exact garL (P2 _))))
    refine wpQuiet_nil ?_
    rintro w1 ⟨g1, hw1⟩
    have hc1 : Ch [] W0 w1 := by rw [hw1]; exact g1.2
    clear hw1 g1 hg
    go_wp2
    go_ret
    exact ⟨rfl, hC0.trans hc1⟩
  by_cases h5 : t.can ≤ 14
  case neg =>
    have hff : ff = false := by rw [HF.out]; simp [h1, h2, h3, h4, h5]
    subst hff
    have d5 : decide (t.can ≤ 14) = false := decide_eq_false h5
    have P2 := fun w => P1 h1 h2 w
    refine zda (by kernel_rfl) (by kernel_rfl) ?_
    repeat (go_big_quiet_step ((go_at_call 146; exact garL (P2 _))))
    refine wpQuiet_nil ?_
    rintro w1 ⟨g1, hw1⟩
    have hc1 : Ch [] W0 w1 := by rw [hw1]; exact g1.2
    clear hw1 g1 hg
    go_wp2
    go_ret
    exact ⟨rfl, hC0.trans hc1⟩
  by_cases h6 : 0 ≤ t.live
  case neg =>
    have hff : ff = false := by rw [HF.out]; simp [h1, h2, h3, h4, h5, h6]
    subst hff
    have d6 : decide (0 ≤ t.live) = false := decide_eq_false h6
    have P2 := fun w => P1 h1 h2 w
    refine zda (by kernel_rfl) (by kernel_rfl) ?_
    repeat (go_big_quiet_step ((go_at_call 146; exact garL (P2 _))))
    refine wpQuiet_nil ?_
    rintro w1 ⟨g1, hw1⟩
    have hc1 : Ch [] W0 w1 := by rw [hw1]; exact g1.2
    clear hw1 g1 hg
    go_wp2
    go_ret
    exact ⟨rfl, hC0.trans hc1⟩
  by_cases h7 : t.live ≤ 14
  case neg =>
    have hff : ff = false := by rw [HF.out]; simp [h1, h2, h3, h4, h5, h6, h7]
    subst hff
    have d7 : decide (t.live ≤ 14) = false := decide_eq_false h7
    have P2 := fun w => P1 h1 h2 w
    refine zda (by kernel_rfl) (by kernel_rfl) ?_
    repeat (go_big_quiet_step ((go_at_call 146; exact garL (P2 _))))
    refine wpQuiet_nil ?_
    rintro w1 ⟨g1, hw1⟩
    have hc1 : Ch [] W0 w1 := by rw [hw1]; exact g1.2
    clear hw1 g1 hg
    go_wp2
    go_ret
    exact ⟨rfl, hC0.trans hc1⟩
  have hff : ff = true := by rw [HF.out]; simp [h1, h2, h3, h4, h5, h6, h7]
  subst hff
  have P2 := fun w => P1 h1 h2 w
  refine zda (by kernel_rfl) (by kernel_rfl) ?_
  repeat (go_big_quiet_step ((go_at_call 146; exact garL (P2 _))))
  refine wpQuiet_nil ?_
  rintro w1 ⟨g1, hw1⟩
  have hc1 : Ch [] W0 w1 := by rw [hw1]; exact g1.2
  clear hw1 g1 hg
  go_wp2
  go_ret
  exact ⟨rfl, hC0.trans hc1⟩
end
section
attribute [local go_sem] zar
attribute [local go_sem] box26 zbx cell0 cell1 cell2 cell3 cell4
theorem tcells_ctrl_at (t : Tab) (g : Nat) (h : g < 2) : (tcells t)[5 + g]? = some (U (t.c g)) := by
  rw [zat, if_pos (by omega)]
  match g, h with
  | 0, _ => rfl
  | 1, _ => rfl
theorem rFull_any (t : Tab) (n : Nat) (hn : n < 16) (w : World) : Calls Tryz.prog 149 #[.agg (tcells t), I n] w fun e w' => e = .returned (.bool (fullJ t n)) ∧ Ch [] w w' := by
  have F1 := fun w => rFull9_any (t.c (n / 8)) (n % 8) (by omega) w
  have HJ : Hid (decide ((byteAt (t.c (n / 8)) (n % 8)).toNat < 128) = fullJ t n) := Lib.hid rfl
  have hd : (n : Int).tdiv 8 = ((n / 8 : Nat) : Int) := by rw [Int.tdiv_eq_ediv_of_nonneg (by omega)]; rfl
  have hm : (n : Int).tmod 8 = ((n % 8 : Nat) : Int) := by rw [Int.tmod_eq_emod_of_nonneg (by omega)]; rfl
  have hg : n / 8 < 2 := by omega
  have hc5 := tcells_ctrl_at t (n / 8) hg
  generalize fullJ t n = r at *
  rw [HJ.out] at F1
  generalize n / 8 = g at *
  generalize n % 8 = x at *
  go_enter Tryz.func149, Tryz.ntmps149
  go_wp2_with (go_at_call 218; refine (F1 _).mono ?_; rintro e w' ⟨rfl, rfl⟩)
  go_ret
  exact ⟨rfl, (Ch.refl [] w).alloc _⟩
theorem rh2_any (s k : BitVec 64) (w : World) : Calls Tryz.prog 90 #[U s, U k] w fun e w' => e = .returned (Y (hash2 (hashOf s k))) ∧ w = w' := by
  have H1 := fun w => rHash_any s k w
  have H2 := fun w => rH2_any (hashOf s k) w
  generalize hash2 (hashOf s k) = r at *
  generalize hashOf s k = h at *
  go_enter Tryz.func90, Tryz.ntmps90
  go_wp2_with (first
    | (go_at_call 151; refine (H1 _).mono ?_; rintro e w' ⟨rfl, rfl⟩)
    | (go_at_call 150; refine (H2 _).mono ?_; rintro e w' ⟨rfl, rfl⟩))
  go_ret
  exact ⟨rfl, rfl⟩
theorem rTop_int (h : BitVec 64) (d : Int) (h0 : 0 ≤ d) (h5 : d ≤ 5) (w : World) : Calls Tryz.prog 152 #[U h, I d] w fun e w' => e = .returned (U (topT h d)) ∧ w = w' := by
  have h := rTop_any h d.toNat (by omega) w
  rwa [show ((d.toNat : Nat) : Int) = d by omega] at h
theorem rGoes_any (t : Tab) (s k : BitVec 64) (hf : flatT t = true) (w : World) : Calls Tryz.prog 91 #[U s, .agg (tcells t), U k] w fun e w' => e = .returned (.bool (hasT t (hashOf s k))) ∧ Ch [] w w' := by
  have H1 := fun w => rHash_any s k w
  have T1 := fun w => rTop_int (hashOf s k) t.depth (flat_depth t hf).1 (flat_depth t hf).2 w
  have HJ : Hid ((topT (hashOf s k) t.depth == t.pre) = hasT t (hashOf s k)) := Lib.hid (by rw [hasT, hf, Bool.true_and])
  clear hf
  generalize hasT t (hashOf s k) = r at *
  generalize topT (hashOf s k) t.depth = x at *
  generalize hashOf s k = h at *
  go_enter Tryz.func91, Tryz.ntmps91
  go_wp2
  obtain ⟨W0, hW0⟩ : ∃ W0, w.alloc (.cells (tcells t) 26) = W0 := ⟨_, rfl⟩
  have hC0 : Ch [] w W0 := by rw [← hW0]; exact (Ch.refl [] w).alloc _
  have hg : ∀ g : Gar W0, (g.1).heap[w.heap.size]? = some (.cells (tcells t) 26 (0, 0)) := fun g => (g.2.block w.heap.size (by rw [← hW0]; simp) (by simp)).trans (by rw [← hW0]; simp [go_sem])
  rw [hW0]
  clear hW0
  refine zda (by kernel_rfl) (by kernel_rfl) ?_
  repeat (go_big_quiet_step ((first | (go_at_call 151; exact garL (H1 _)) | (go_at_call 152; exact garL (T1 _)))))
  refine wpQuiet_nil ?_
  rintro w1 ⟨g1, hw1⟩
  have hc1 : Ch [] W0 w1 := by rw [hw1]; exact g1.2
  clear hw1 g1 hg
  go_wp2
  go_ret
  refine ⟨?_, hC0.trans hc1⟩
  rw [← HJ.out, ← eqN]
  rfl
end
section
attribute [local go_sem] loadA loadT2 storeA storeT2 zdj zdk zcj zdi zcd zce zct zcl zcy zco zcg zcz zcp zdh zdg
attribute [local go_sem ↓] lrowA lrowT2 srowA srowT2 browA zdf zcx
attribute [local go_sem] box26 zbx cell0 cell1 cell2 cell3 cell4 cell5 cell6
attribute [local go_sem] zar build_pair
attribute [local irreducible] tcells
def pl (t : Tab) (j : Nat) : List (BitVec 64 × BitVec 64) := ((List.range j).filter (fullJ t)).map fun i => (t.k i, t.v i)
theorem pl_all (t : Tab) : pl t 16 = pairsT t := (pairsT_eq t).symm
theorem pl_succ (t : Tab) (j : Nat) : pl t (j + 1) = pl t j ++ if fullJ t j = true then [(t.k j, t.v j)] else [] := by
  rw [pl, List.range_succ, List.filter_append, List.map_append, pl, List.filter_cons]
  split <;> rfl
theorem pl_len (t : Tab) (j : Nat) : (pl t j).length ≤ j := by
  rw [pl, List.length_map]
  have := List.length_filter_le (fullJ t) (List.range j)
  rwa [List.length_range] at this
theorem append_pair1 (W : World) (base n : Nat) (v : Value) (xs : List Value) (hown : W.ownsRow base 31 2 v n xs) (k x : BitVec 64) (hn : n ≤ 900) (hbase : base ≤ W.heap.size) :
    ∃ v' w', (Builtin.append_ #[27, 27] 27 #[v, .slice (some ⟨W.heap.size, 0, none⟩) 1 1]).run Tryz.prog (W.alloc (.cells #[U k, U x] 31)) = .ok v' w' ∧ w'.ownsRow base 31 2 v' (n + 1) (xs ++ [U k, U x]) ∧ Ch (v.ownBlock.toList) W w' := by
  obtain ⟨i0, hi, hz0, hz1, hz2⟩ := info_parts infoP
  obtain ⟨v', w1, hrun, hown', hgrow, _, _⟩ := run_append_own_at (P := Tryz.prog) (W.alloc (.cells #[U k, U x] 31)) base 27 27 31 i0 (.agg #[.int .u64 0, .int .u64 0]) 2 16 Tryz.underlying27 hi hz0 hz1 hz2 rfl (by decide) v n xs (hown.alloc _) ⟨W.heap.size, 0, none⟩ 1 1 [U k, U x] rfl (cell_two_new W _ _ _) (by simp [Value.oneCell']) (by unfold maxLen; omega) (by omega) (by simp; omega)
  refine ⟨v', w1, hrun, hown', ?_⟩
  have hgr : (W.alloc (.cells #[U k, U x] 31)).grownBy w1 v.ownBlock := hgrow
  exact (((Ch.refl [] W).alloc _).of_nil).trans2 (Ch.of_grown (S := v.ownBlock.toList) hgr (fun k hk => by simp [hk])) (fun t ht => .inl ht)
theorem own_base {W : World} {b b' n size : Nat} {e : TypeId} {v : Value} {xs : List Value} (hb : b' ≤ b) (h : W.ownsRow b e size v n xs) : W.ownsRow b' e size v n xs := by
  obtain ⟨h1, h2 | ⟨g, cap, cur, hv, hg, hr⟩⟩ := h
  · exact ⟨h1, .inl h2⟩
  · exact ⟨h1, .inr ⟨g, cap, cur, hv, Nat.le_trans hb hg, hr⟩⟩
theorem rPairs_any (t : Tab) (w : World) : Calls Tryz.prog 95 #[.agg (tcells t)] w (PairsPost w (pairsT t)) := by
  obtain ⟨W0, hW0⟩ : ∃ W0, w.alloc (.cells (tcells t) 26) = W0 := ⟨_, rfl⟩
  have hC0 : Ch [] w W0 := by rw [← hW0]; exact (Ch.refl [] w).alloc _
  have b0 : W0.heap[w.heap.size]? = some (.cells (tcells t) 26 (0, 0)) := by rw [← hW0]; simp [go_sem]
  have hz0 := hC0.size
  go_enter Tryz.func95, Tryz.ntmps95
  go_wp2
  clear hW0
  go_loopw [3, 5] (fun v i wr => ∃ j : Nat, i = .int .i64 j ∧ j ≤ 16 ∧ wr.ownsRow W0.heap.size 31 2 v (pl t j).length (pcells (pl t j)) ∧ Ch [] W0 wr) (fun _ i _ => 16 - (intOf i).toNat)
  case atStart => exact ⟨0, rfl, by omega, World.ownsRow_nil _ _ _ _, Ch.refl _ _⟩
  case round =>
    obtain ⟨j, hj, hj8, hown, hcr⟩ := hrel
    subst hj
    have hB := hkeep hcr b0
    by_cases hlt : j < 16
    · have F1 := fun w => rFull_any t j hlt w
      have hkey := tcells_key t j hlt
      have hval := tcells_val t j hlt
      have HS := Lib.hid (pl_succ t j)
      have hpl := pl_len t j
      have hz := hcr.size
      generalize t.k j = kj at *
      generalize t.v j = vj at *
      generalize fullJ t j = f at *
      cases f
      · go_wp2_with (go_at_call 149; refine (F1 _).mono ?_; rintro e w3 ⟨rfl, hcf⟩; have HCF := Lib.hid hcf; clear hcf)
        go_roundw
        case rel => exact ⟨j + 1, by go_num, hlt, by rw [HS.out]; simpa using own_ch hown HCF.out (by simp), hcr.trans HCF.out⟩
        case measure => simp [intOf]; omega
      · go_wp2_with (go_at_call 149; refine (F1 _).mono ?_; rintro e w3 ⟨rfl, hcf⟩; have HCF := Lib.hid hcf; have b3 := hkeep hcf hB; clear hcf)
        have own3 := own_ch hown HCF.out (by simp)
        have hz3 := HCF.out.size
        have hob := own_block hown
        clear hown hB
        have hne : ∀ w7, Ch (u3.ownBlock.toList) w3.drew w7 → w7.heap[w.heap.size]? = some (.cells (tcells t) 26 (0, 0)) := fun w7 c => (c.block _ (Array.getElem?_eq_some_iff.1 b3).1 (fun h => by
          have h1 := hob w.heap.size (by simpa using h)
          have h2 := (Array.getElem?_eq_some_iff.1 b0).1
          omega)).trans b3
        have HNE := Lib.hid hne
        clear hne
        have hS : (fun W' : World => W'.heap[w.heap.size]? = some (.cells (tcells t) 26 (0, 0))) w3.drew := b3
        refine wp_region_held_drew (S := fun W' => W'.heap[w.heap.size]? = some (.cells (tcells t) 26 (0, 0))) (by kernel_rfl) hS ?_
        intro _
        simp only [List.size_toArray, List.length_cons, List.length_nil, Nat.reduceAdd]
        have own6 := own_ch own3 (Ch.refl [] w3).drew (by simp)
        have hz6 : w3.heap.size ≤ w3.drew.heap.size := Nat.le_refl _
        have hc6 : Ch [] w3 w3.drew := (Ch.refl [] w3).drew
        have c3 : w3.drew.heap[w.heap.size]? = some (.cells (tcells t) 26 (0, 0)) := b3
        clear own3 b3
        generalize w3.drew = W6 at *
        obtain ⟨v', w7, hrun, own7, hc7⟩ := append_pair1 W6 W0.heap.size _ u3 _ own6 kj vj (by omega) (by omega)
        clear own6
        refine tk 0 11 ?_ rfl hS ?_ ?_; rotate_left
        · intro _ _; go_simp; try with_reducible rfl
        try go_frame
        refine tk 1 12 ?_ rfl hS ?_ ?_; rotate_left
        · intro _ _; go_simp; try with_reducible rfl
        try go_frame
        refine tk 2 13 ?_ rfl hS ?_ ?_; rotate_left
        · intro _ _; go_simp; try with_reducible rfl
        try go_frame
        refine tk 3 14 ?_ rfl hS ?_ ?_; rotate_left
        · intro _ _; go_simp; try with_reducible rfl
        try go_frame
        refine tk 4 15 ?_ rfl hS ?_ ?_; rotate_left
        · intro _ _; go_simp; try with_reducible rfl
        try go_frame
        refine tk 5 16 ?_ rfl hS ?_ ?_; rotate_left
        · intro _ _; go_simp; try with_reducible rfl
        try go_frame
        refine tk 6 17 ?_ rfl hS ?_ ?_; rotate_left
        · intro _ _; go_simp; try with_reducible rfl
        try go_frame
        refine tk 7 18 ?_ rfl hS ?_ ?_; rotate_left
        · intro _ _; go_simp; try with_reducible rfl
        try go_frame
        refine tk 8 19 ?_ rfl hS ?_ ?_; rotate_left
        · intro _ _; go_simp; try with_reducible rfl
        try go_frame
        refine tk 9 20 ?_ rfl hS ?_ ?_; rotate_left
        · intro _ _; go_simp; try with_reducible rfl
        try go_frame
        refine rd (o := ⟨some 21, _, _, _, _, none⟩) 10 rfl (fun K hK => ?_); go_simp
        refine hK.out _ _ (hkeep ((Ch.refl [] W6).alloc _) c3) (fun _ => ?_)
        clear hK K
        refine wpAnyH_ready (rs := [11]) (by kernel_rfl) (by simp) ?_
        refine AllReadyH.cons (o := ⟨some 22, .call { callee := .builtin .append, args := #[.tmp 11, .tmp 21], argTypes := #[27, 27] }, 27, _, _, none⟩) rfl (fun K2 hK2 => ?_) AllReadyH.nil
        rw [if_pos (by rfl)]
        refine wp_append_at _ (.tmp 11) (.tmp 21) 27 rfl u3 _ v' w7 rfl rfl hrun ?_
        simp only [Act.put, List.setIfInBounds_toArray, List.set_cons_zero, List.set_cons_succ]
        have c7 := HNE.out w7 hc7
        refine hK2.out _ _ c7 (fun _ => ?_)
        clear hK2 K2
        refine tk 12 3 ?_ rfl c7 ?_ ?_; rotate_left
        · intro _ _; go_simp; try with_reducible rfl
        try go_frame
        refine wpAnyH_done (by kernel_rfl) ?_ _
        clear hrun c3
        go_wp2
        go_roundw
        case rel =>
          refine ⟨j + 1, by go_num, hlt, ?_, (hcr.trans (HCF.out.trans hc6)).trans2 hc7 (fun s hs => .inr (hob s (by simpa using hs)))⟩
          rw [HS.out, if_pos (by first | trivial | rfl), List.length_append, pcells_append]
          exact own7
        case measure => simp [intOf]; omega
    · have hj8 : j = 16 := by omega
      subst hj8
      rw [pl_all] at hown
      have HO := Lib.hid hown
      obtain ⟨a, c, rfl⟩ := own_form hown
      clear hown
      go_wp2
      go_ret
      exact ⟨a, c, rfl, own_base hz0 HO.out, hC0.trans hcr⟩
end
end Go.Proofs.Hc
