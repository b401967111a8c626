/- The reference of layer 7, for law 29's seat: bits, folds, a key's hash (cut out of Hxf and Hxg). -/
import Derived.Test.YtfoicjijngfhbaaGreatDoorKDa
import Derived.Test.YtfoicjijngfhbaaGreatDoorKFm
import Derived.Test.YtfoicjijngfhbaaGreatDoorKHm
import Derived.Below
import Derived.BigQuiet
import Derived.Deep.Draws
import Derived.Deep.QuietTactic
import Derived.Lib.Hide
import Derived.RangeFuncRecord
import Derived.Test.YtfoicjijngfhbaaGreatDoorProg
import Derived.WalkKit
set_option linter.unusedSimpArgs false
set_option linter.unusedVariables false
namespace Go.Proofs.Hc
open Go.RowKit
attribute [local go_sem] wrap_u64 wrap_u8 bits_xor64 bits_and64 bits_or64 bits_not64 bits_xor8 bits_and8 bits_or8 signed64 signed8 ofInt_N BitVec.ofInt_add BitVec.ofInt_mul ofInt_sub' ofInt8_N64 ofInt64_N8 wide8 eqN neN shr_pow shr1 shr7 shr56
attribute [local go_sem high] bits_com64 shl_wrap
attribute [local go_sem] nn2 nm2 nn3 nm3 nn4 nm4 nn5 nm5 nn6 nm6 nn7 nm7 nn8 nm8
attribute [local go_sem] ofInt_N
theorem two_shl (j : Nat) : 2#64 * (1#64 <<< j) = 1#64 <<< (j + 1) := by
  apply BitVec.eq_of_toNat_eq
  rw [BitVec.toNat_mul, BitVec.toNat_shiftLeft, BitVec.toNat_shiftLeft, Nat.shiftLeft_eq, Nat.shiftLeft_eq, Nat.pow_succ]
  show (2 * (1 * 2 ^ j % 18446744073709551616)) % 18446744073709551616 = 1 * (2 ^ j * 2) % 18446744073709551616
  omega
set_option maxHeartbeats 400000 in
theorem rBit_any (n : Nat) (hn : n ≤ 64) (w : World) : Calls Tryz.prog 104 #[I n] w fun e w' => e = .returned (U (1#64 <<< n)) ∧ w = w' := by
  go_enter Tryz.func104, Tryz.ntmps104
  go_wp2
  go_loop [3, 5] (fun v i => ∃ j : Nat, j ≤ n ∧ i = .int .i64 j ∧ v = U (1#64 <<< j)) (fun _ i => n - (intOf i).toNat)
  case atStart => exact ⟨0, Nat.zero_le _, rfl, rfl⟩
  case round =>
    obtain ⟨j, hj, rfl, rfl⟩ := hrel
    by_cases hlt : j < n
    · have HS := Lib.hid (two_shl j)
      go_wp2
      go_round
      case rel => exact ⟨j + 1, by omega, by go_num, by rw [← HS.out]⟩
      case measure => simp [intOf]; omega
    · have hjn : j = n := by omega
      have HJ := Lib.hid hjn
      clear hjn
      go_wp2
      go_ret
      refine ⟨?_, rfl⟩
      rw [← HJ.out]; rfl
theorem shl_toNat (n : Nat) (hn : n < 64) : (1#64 <<< n).toNat = 2 ^ n := by
  rw [BitVec.toNat_shiftLeft, Nat.shiftLeft_eq]
  show 1 * 2 ^ n % 2 ^ 64 = _
  rw [Nat.one_mul, Nat.mod_eq_of_lt (Nat.pow_lt_pow_right (by omega) hn)]
theorem div_bit (x : BitVec 64) (n : Nat) (hn : n < 64) : N x / N (1#64 <<< n) = N (x >>> n) := by
  unfold N
  rw [shl_toNat n hn, BitVec.toNat_ushiftRight, Nat.shiftRight_eq_div_pow]
  simp
theorem bit_pos (n : Nat) (hn : n < 64) : 0 < N (1#64 <<< n) := by
  unfold N
  rw [shl_toNat n hn]
  have := Nat.two_pow_pos n
  omega
theorem odd_bit (y : BitVec 64) : (N y % 2 == 1) = y.getLsbD 0 := by
  have h : y.getLsbD 0 = decide (y.toNat % 2 = 1) := by
    rw [← BitVec.testBit_toNat, Nat.testBit_zero]
  rw [h, Bool.eq_iff_iff, beq_iff_eq, decide_eq_true_iff]
  unfold N
  omega
set_option maxHeartbeats 400000 in
theorem rHas_any (x : BitVec 64) (n : Nat) (hn : n < 64) (w : World) : Calls Tryz.prog 97 #[U x, I n] w fun e w' => e = .returned (.bool (x.getLsbD n)) ∧ w = w' := by
  have B1 := fun w => rBit_any n (by omega) w
  have h1 := div_bit x n hn
  have h2 := bit_pos n hn
  have h3 := odd_bit (x >>> n)
  have h4 : (x >>> n).getLsbD 0 = x.getLsbD n := by rw [BitVec.getLsbD_ushiftRight]; simp
  rw [h4] at h3
  have h5 : (N x).tdiv (N (1#64 <<< n)) = N (x >>> n) := by rw [Int.tdiv_eq_ediv_of_nonneg (N_nonneg x), h1]
  have h6 : (N (x >>> n)).tmod 2 = N (x >>> n) % 2 := Int.tmod_eq_emod_of_nonneg (N_nonneg _)
  have h7 : (N (1#64 <<< n) == 0) = false := by simp; omega
  have hnn : (n : Int) < 64 := by omega
  clear h4
  generalize x.getLsbD n = r at *
  generalize 1#64 <<< n = p at *
  generalize x >>> n = y at *
  cases r
  all_goals
    go_enter Tryz.func97, Tryz.ntmps97
    go_wp2_with (go_at_call 104; refine (B1 _).mono ?_; rintro e w' ⟨rfl, rfl⟩)
    go_ret
    exact ⟨rfl, rfl⟩
/-- The first n bits of d, summed. -/
def trnB (d : BitVec 64) : Nat → BitVec 64
  | 0 => 0#64
  | n + 1 => if d.getLsbD n then trnB d n + (1#64 <<< n) else trnB d n
theorem trnB_toNat (d : BitVec 64) : ∀ n : Nat, n ≤ 64 → (trnB d n).toNat = d.toNat % 2 ^ n := by
  intro n
  induction n with
  | zero => intro _; simp [trnB, Nat.mod_one]
  | succ n ih =>
    intro hn
    have h1 := ih (by omega)
    have hb : d.toNat.testBit n = d.getLsbD n := BitVec.testBit_toNat d
    have hp : 2 ^ (n + 1) ≤ 2 ^ 64 := Nat.pow_le_pow_right (by omega) hn
    have hq : 2 ^ (n + 1) = 2 ^ n + 2 ^ n := by rw [Nat.pow_succ]; omega
    have hlt : d.toNat % 2 ^ n < 2 ^ n := Nat.mod_lt _ (Nat.two_pow_pos n)
    rw [Nat.testBit_eq_decide_div_mod_eq] at hb
    rw [Nat.pow_succ, Nat.mod_mul]
    unfold trnB
    cases hd : d.getLsbD n
    · rw [hd] at hb
      have := of_decide_eq_false hb
      have h0 : d.toNat / 2 ^ n % 2 = 0 := by omega
      simp [h1, h0]
    · rw [hd] at hb
      have h0 : d.toNat / 2 ^ n % 2 = 1 := of_decide_eq_true hb
      rw [if_pos rfl, BitVec.toNat_add, h1, shl_toNat n (by omega), h0, Nat.mul_one, Nat.mod_eq_of_lt (by omega)]
theorem trnB_all (d : BitVec 64) : trnB d 64 = d := by
  apply BitVec.eq_of_toNat_eq
  rw [trnB_toNat d 64 (by omega), Nat.mod_eq_of_lt d.isLt]
set_option maxHeartbeats 1000000 in
theorem rTurned_any (x y : BitVec 64) (w : World) : Calls Tryz.prog 99 #[U x, U y] w fun e w' => e = .returned (U (x ^^^ y)) ∧ w = w' := by
  go_enter Tryz.func99, Tryz.ntmps99
  go_wp2
  go_loop [5, 7] (fun v i => ∃ j : Nat, j ≤ 64 ∧ i = .int .i64 j ∧ v = U (trnB (x ^^^ y) j)) (fun _ i => 64 - (intOf i).toNat)
  case atStart => exact ⟨0, by omega, rfl, rfl⟩
  case round =>
    obtain ⟨j, hj, rfl, rfl⟩ := hrel
    by_cases hlt : j < 64
    · have X1 := fun w => rHas_any x j hlt w
      have Y1 := fun w => rHas_any y j hlt w
      have B1 := fun w => rBit_any j (by omega) w
      have HS : Hid (trnB (x ^^^ y) (j + 1) = if (x.getLsbD j ^^ y.getLsbD j) then trnB (x ^^^ y) j + (1#64 <<< j) else trnB (x ^^^ y) j) := Lib.hid (by rw [← BitVec.getLsbD_xor]; rfl)
      generalize trnB (x ^^^ y) j = m at *
      generalize 1#64 <<< j = p at *
      generalize x.getLsbD j = a at *
      generalize y.getLsbD j = b at *
      cases a <;> cases b
      all_goals
        go_wp2_with (first
          | (go_at_call 97; ((with_reducible refine (X1 _).mono ?_); rintro e w' ⟨rfl, rfl⟩))
          | (go_at_call 97; ((with_reducible refine (Y1 _).mono ?_); rintro e w' ⟨rfl, rfl⟩))
          | (go_at_call 104; refine (B1 _).mono ?_; rintro e w' ⟨rfl, rfl⟩))
        go_round
        case rel => exact ⟨j + 1, by omega, by go_num, by rw [HS.out]; simp⟩
        case measure => simp [intOf]; omega
    · have hjn : j = 64 := by omega
      subst hjn
      have HT : Hid (trnB (x ^^^ y) 64 = x ^^^ y) := Lib.hid (trnB_all _)
      generalize trnB (x ^^^ y) 64 = m at *
      go_wp2
      go_ret
      rw [HT.out]
      exact ⟨rfl, rfl⟩
theorem rFolded_any (x : BitVec 64) (n : Nat) (hn : n < 64) (w : World) : Calls Tryz.prog 98 #[U x, I n] w fun e w' => e = .returned (U (mixF x n)) ∧ w = w' := by
  have B1 := fun w => rBit_any n (by omega) w
  have h1 := div_bit x n hn
  have h2 := bit_pos n hn
  have h5 : (N x).tdiv (N (1#64 <<< n)) = N (x >>> n) := by rw [Int.tdiv_eq_ediv_of_nonneg (N_nonneg x), h1]
  have h7 : (N (1#64 <<< n) == 0) = false := by simp; omega
  have HM : Hid (x ^^^ (x >>> n) = mixF x n) := Lib.hid rfl
  have T1 := fun w => rTurned_any x (x >>> n) w
  generalize mixF x n = m at *
  generalize 1#64 <<< n = p at *
  generalize x >>> n = y at *
  rw [HM.out] at T1
  go_enter Tryz.func98, Tryz.ntmps98
  go_wp2_with (first
    | (go_at_call 104; refine (B1 _).mono ?_; rintro e w' ⟨rfl, rfl⟩)
    | (go_at_call 99; refine (T1 _).mono ?_; rintro e w' ⟨rfl, rfl⟩))
  go_ret
  exact ⟨rfl, rfl⟩
theorem rHash_any (s k : BitVec 64) (w : World) : Calls Tryz.prog 85 #[U s, U k] w fun e w' => e = .returned (U (hashOf s k)) ∧ w = w' := by
  have T1 := fun w => rTurned_any k s w
  have HA : Hid (mixF (mixF ((k ^^^ s) * 0xbf58476d1ce4e5b9#64) 32 * 0x94d049bb133111eb#64) 29 = hashOf s k) := Lib.hid rfl
  generalize hashOf s k = r at *
  generalize k ^^^ s = x at *
  have F1 : ∀ w, Calls Tryz.prog 98 #[U (x * 0xbf58476d1ce4e5b9#64), .int .i64 32] w fun e w' => e = .returned (U (mixF (x * 0xbf58476d1ce4e5b9#64) 32)) ∧ w = w' := fun w => rFolded_any (x * 0xbf58476d1ce4e5b9#64) 32 (by omega) w
  have F2 : ∀ w, Calls Tryz.prog 98 #[U (mixF (x * 0xbf58476d1ce4e5b9#64) 32 * 0x94d049bb133111eb#64), .int .i64 29] w fun e w' => e = .returned (U (mixF (mixF (x * 0xbf58476d1ce4e5b9#64) 32 * 0x94d049bb133111eb#64) 29)) ∧ w = w' := fun w => rFolded_any (mixF (x * 0xbf58476d1ce4e5b9#64) 32 * 0x94d049bb133111eb#64) 29 (by omega) w
  rw [HA.out] at F2
  generalize mixF (x * 0xbf58476d1ce4e5b9#64) 32 = y at *
  have M1 : BitVec.ofInt 64 (N x * 13787848793156543929) = x * 0xbf58476d1ce4e5b9#64 := by
    rw [BitVec.ofInt_mul, ofInt_N]; rfl
  have M2 : BitVec.ofInt 64 (N y * 10723151780598845931) = y * 0x94d049bb133111eb#64 := by
    rw [BitVec.ofInt_mul, ofInt_N]; rfl
  generalize x * 0xbf58476d1ce4e5b9#64 = xa at *
  generalize y * 0x94d049bb133111eb#64 = ya at *
  go_enter Tryz.func85, Tryz.ntmps85
  go_wp2_with (first
    | (go_at_call 99; refine (T1 _).mono ?_; rintro e w' ⟨rfl, rfl⟩)
    | (go_at_call 98; ((with_reducible refine (F1 _).mono ?_); rintro e w' ⟨rfl, rfl⟩))
    | (go_at_call 98; ((with_reducible refine (F2 _).mono ?_); rintro e w' ⟨rfl, rfl⟩)))
  go_ret
  exact ⟨rfl, rfl⟩
end Go.Proofs.Hc
