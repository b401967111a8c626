/- The reference of layer 9. -/
import Derived.Test.YtaddieimkpijeaaGreatKHxaHxbHxcHxd
import Derived.Test.YtaddieimkpijeaaGreatKHtdHte
set_option linter.unusedSimpArgs false
set_option linter.unusedVariables false
namespace Go.Proofs.Hc
open Go.RowKit
attribute [local go_sem] wrap_u64 wrap_u8 bits_xor64 bits_and64 bits_or64 bits_not64 bits_xor8 bits_and8 bits_or8 signed64 signed8 ofInt_N BitVec.ofInt_add BitVec.ofInt_mul ofInt_sub' ofInt8_N64 ofInt64_N8 wide8 eqN neN shr_pow shr1 shr7 shr56
attribute [local go_sem high] bits_com64 shl_wrap
attribute [local go_sem] cell_heap ice_heap cellAt_cells iceAt_cells setAt_cells rowAt_cells canLay_cells laidAt_cells size_onObj size_setCell rowRes_some layRes_true
attribute [local go_sem] load26 load73 load23 store26 build73
attribute [local go_sem ↓] lrow26 lrow73 lrow23 srow26 zero26 brow73 heap_alloc heap_drew heap_drewN heap_setCell heap_onObj
attribute [local go_sem] tcells_size hcells_size tcells_get hcells_get tcells_one hcells_one hcells_table tcells_table hcells_all hcells_ctrl tcells_ctrl
attribute [local go_sem] nn2 nm2 nn3 nm3 nn4 nm4 nn5 nm5 nn6 nm6 nn7 nm7 nn8 nm8
attribute [local go_sem] nn2 nm2 nn3 nm3 nn4 nm4 nn5 nm5 nn6 nm6 nn7 nm7 nn8 nm8
attribute [local go_sem] ofInt_N
/-- May a byte be? -/
def okY (b : BitVec 8) : Bool := decide (b.toNat < 128) || (b == 128#8 || b == 254#8)
theorem okY_lo {b : BitVec 8} (h : N b ≤ 127) : okY b = true := by
  unfold N at h; unfold okY; rw [decide_eq_true (by omega)]; rfl
theorem okY_hi {b : BitVec 8} (h : 127 < N b) : okY b = (b == 128#8 || b == 254#8) := by
  unfold N at h; unfold okY; rw [decide_eq_false (by omega), Bool.false_or]
theorem Y128 (b : BitVec 8) : (N b == 128) = (b == 128#8) := by rw [← eqN]; rfl
theorem Y254 (b : BitVec 8) : (N b == 254) = (b == 254#8) := by rw [← eqN]; rfl
set_option maxHeartbeats 400000 in
theorem rByte_any (b : BitVec 8) (w : World) : Calls Tryz.prog 85 #[Y b] w fun e w' => e = .returned (.bool (okY b)) ∧ w = w' := by
  have e1 := Y128 b
  have e2 := Y254 b
  rcases (show 127 < N b ∨ N b ≤ 127 by omega) with h | h
  · have ho := Lib.hid (okY_hi h)
    have h' : ¬ N b ≤ 127 := by omega
    cases h1 : (b == 128#8) <;> cases h2 : (b == 254#8)
    all_goals
      rw [h1] at e1
      rw [h2] at e2
      have H1 := Lib.hid h1
      have H2 := Lib.hid h2
      clear h1 h2
      go_enter Tryz.func85, Tryz.ntmps85
      go_wp2
      go_ret
      refine ⟨?_, rfl⟩
      rw [ho.out, H1.out, H2.out]; rfl
  · have ho := Lib.hid (okY_lo h)
    clear e1 e2
    go_enter Tryz.func85, Tryz.ntmps85
    go_wp2
    go_ret
    refine ⟨?_, rfl⟩
    rw [ho.out]; rfl
theorem ctrlOk_okY (c : BitVec 64) : ctrlOk c = true ↔ ∀ n, n < 8 → okY (byteAt c n) = true := by
  rw [ctrlOk_iff]
  constructor
  · intro h n hn
    unfold okY
    rcases h n hn with h1 | h1 | h1
    · rw [decide_eq_true h1]; rfl
    · rw [h1]; decide
    · rw [h1]; decide
  · intro h n hn
    have := h n hn
    unfold okY at this
    simpa using this
set_option maxHeartbeats 1000000 in
set_option maxRecDepth 100000 in
theorem rRight9_any (x : BitVec 64) (w : World) : Calls Tryz.prog 49 #[U x] w fun e w' => e = .returned (.bool (ctrlOk x)) ∧ Ch [] w w' := by
  have HI := Lib.hid (ctrlOk_okY x)
  generalize ctrlOk x = r at *
  go_enter Tryz.func49, Tryz.ntmps49
  go_wp2_with fail
  refine (rBytes_any x w).mono ?_
  rintro e w1 ⟨a, c, rfl, hown, hc1⟩
  obtain ⟨_, ⟨hv, h0⟩ | ⟨g, cap, cur, hv, hg, hW, hle, _, hsz, hx⟩⟩ := hown
  · cases hv
  · simp only [Value.slice.injEq] at hv
    obtain ⟨rfl, -, rfl⟩ := hv
    have hcur : ∀ j, j < 8 → cur[j]? = some (Y (byteAt x j)) := by
      intro j hj
      have h1 : (ycells (bytesOf x))[j]? = some (Y (byteAt x j)) := by unfold ycells; rw [List.getElem?_map, bytesOf_get x j hj]; rfl
      rw [← hx, List.getElem?_take, if_pos (by omega)] at h1
      simpa using h1
    have HC := Lib.hid hcur
    clear hcur hx hle hsz hg
    go_wp2
    go_loop [8] (fun i => ∃ j : Nat, i = .int .i64 j ∧ j ≤ 8 ∧ Hid (∀ n, n < j → okY (byteAt x n) = true)) (fun i => 8 - (intOf i).toNat)
    case atStart => exact ⟨0, rfl, by omega, Lib.hid (fun n hn => by omega)⟩
    case round =>
      obtain ⟨j, hj, hj8, hok⟩ := hrel
      subst hj
      by_cases hlt : j < 8
      · have hcj := HC.out j hlt
        have B1 := fun w => rByte_any (byteAt x j) w
        cases hy : okY (byteAt x j)
        all_goals
          have HY := Lib.hid hy
          rw [hy] at B1
          clear hy
          go_wp2_with (go_at_call 85; refine (B1 _).mono ?_; rintro e w' ⟨rfl, rfl⟩)
        · go_ret
          refine ⟨?_, hc1⟩
          have : r = false := by
            cases hr : r with
            | false => rfl
            | true => have := (HI.out.1 hr) j hlt; rw [HY.out] at this; cases this
          rw [this]; rfl
        · go_round
          case rel => exact ⟨j + 1, by go_num, hlt, Lib.hid (fun n hn => by
            rcases Nat.lt_or_ge n j with h | h
            · exact hok.out n h
            · rw [show n = j by omega]; exact HY.out)⟩
          case measure => simp [intOf]; omega
      · have hj : j = 8 := by omega
        have HJ := Lib.hid hj
        clear hj
        go_wp2
        go_ret
        refine ⟨?_, hc1⟩
        rw [HI.out.2 (fun n hn => hok.out n (by rw [HJ.out]; exact hn))]; rfl
set_option maxHeartbeats 400000 in
theorem rFull9_any (x : BitVec 64) (n : Nat) (hn : n ≤ 64) (w : World) : Calls Tryz.prog 105 #[U x, I n] w fun e w' => e = .returned (.bool (decide ((byteAt x n).toNat < 128))) ∧ w = w' := by
  have A1 := fun w => rAt_any x n hn w
  have HD : Hid (decide (N (byteAt x n) < 128) = decide ((byteAt x n).toNat < 128)) := Lib.hid (by rw [decide_eq_decide]; unfold N; omega)
  generalize byteAt x n = y at *
  go_enter Tryz.func105, Tryz.ntmps105
  go_wp2_with (go_at_call 50; refine (A1 _).mono ?_; rintro e w' ⟨rfl, rfl⟩)
  all_goals
    go_ret
    refine ⟨?_, rfl⟩
    first | (rw [← HD.out]; rfl) | (rw [← HD.out]; simp; omega)
/-- The lanes below j that a test takes. -/
def setM (p : Nat → Bool) : Nat → BitVec 8
  | 0 => 0#8
  | j + 1 => if p j then setM p j + laneM j else setM p j
theorem setM_ne (p : Nat → Bool) : (setM p 8 != 0#8) = (p 0 || p 1 || p 2 || p 3 || p 4 || p 5 || p 6 || p 7) := by
  simp only [setM]
  generalize p 0 = a0, p 1 = a1, p 2 = a2, p 3 = a3, p 4 = a4, p 5 = a5, p 6 = a6, p 7 = a7
  revert a0 a1 a2 a3 a4 a5 a6 a7
  decide
theorem setM_empty (c : BitVec 64) : (setM (fun n => byteAt c n == 128#8) 8 != 0#8) = (emptyM c != 0#8) := by
  rw [setM_ne]
  have h : ∀ m : BitVec 8, (m != 0#8) = (m.getLsbD 0 || m.getLsbD 1 || m.getLsbD 2 || m.getLsbD 3 || m.getLsbD 4 || m.getLsbD 5 || m.getLsbD 6 || m.getLsbD 7) := by decide +kernel
  rw [h]
  simp only [emptyM_bit c _ (show 0 < 8 by omega), emptyM_bit c _ (show 1 < 8 by omega), emptyM_bit c _ (show 2 < 8 by omega), emptyM_bit c _ (show 3 < 8 by omega), emptyM_bit c _ (show 4 < 8 by omega), emptyM_bit c _ (show 5 < 8 by omega), emptyM_bit c _ (show 6 < 8 by omega), emptyM_bit c _ (show 7 < 8 by omega)]
set_option maxHeartbeats 1000000 in
set_option maxRecDepth 100000 in
theorem rSet1_any (c : BitVec 64) (w : World) : Calls Tryz.prog 106 #[U c, .int .i64 1] w fun e w' => e = .returned (Y (setM (fun n => byteAt c n == 128#8) 8)) ∧ w = w' := by
  go_enter Tryz.func106, Tryz.ntmps106
  go_wp2
  go_loop [5, 8] (fun v i => ∃ j : Nat, j ≤ 8 ∧ i = .int .i64 j ∧ v = Y (setM (fun n => byteAt c n == 128#8) j)) (fun _ i => 8 - (intOf i).toNat)
  case atStart => exact ⟨0, by omega, rfl, rfl⟩
  case round =>
    obtain ⟨j, hj, rfl, rfl⟩ := hrel
    by_cases hlt : j < 8
    · have A1 := fun w => rAt_any c j (by omega) w
      have e1 := Y128 (byteAt c j)
      have HS : Hid (setM (fun n => byteAt c n == 128#8) (j + 1) = if byteAt c j == 128#8 then setM (fun n => byteAt c n == 128#8) j + laneM j else setM (fun n => byteAt c n == 128#8) j) := Lib.hid rfl
      have W1 := fun w => rWith_any (setM (fun n => byteAt c n == 128#8) j) j (by omega) w
      generalize setM (fun n => byteAt c n == 128#8) j = m at *
      cases hy : (byteAt c j == 128#8)
      all_goals
        rw [hy] at e1 HS
        clear hy
        generalize byteAt c j = y at *
        go_wp2_with (first
          | (go_at_call 50; refine (A1 _).mono ?_; rintro e w' ⟨rfl, rfl⟩)
          | (go_at_call 141; refine (W1 _).mono ?_; rintro e w' ⟨rfl, rfl⟩))
        go_round
        case rel => exact ⟨j + 1, by omega, by go_num, by rw [HS.out]; simp⟩
        case measure => simp [intOf]; omega
    · have hjn : j = 8 := by omega
      subst hjn
      go_wp2
      go_ret
      exact ⟨rfl, rfl⟩
end Go.Proofs.Hc
/- The references of layers 9 (a slot that is erased), 7 (hash). -/
namespace Go.Proofs.Hc
open Go.RowKit
attribute [local go_sem] wrap_u64 wrap_u8 bits_xor64 bits_and64 bits_or64 bits_not64 bits_xor8 bits_and8 bits_or8 signed64 signed8 ofInt_N BitVec.ofInt_add BitVec.ofInt_mul ofInt_sub' ofInt8_N64 ofInt64_N8 wide8 eqN neN shr_pow shr1 shr7 shr56
attribute [local go_sem high] bits_com64 shl_wrap
attribute [local go_sem] cell_heap ice_heap cellAt_cells iceAt_cells setAt_cells rowAt_cells canLay_cells laidAt_cells size_onObj size_setCell rowRes_some layRes_true
attribute [local go_sem] load26 load73 load23 store26 build73
attribute [local go_sem ↓] lrow26 lrow73 lrow23 srow26 zero26 brow73 heap_alloc heap_drew heap_drewN heap_setCell heap_onObj
attribute [local go_sem] tcells_size hcells_size tcells_get hcells_get tcells_one hcells_one hcells_table tcells_table hcells_all hcells_ctrl tcells_ctrl
attribute [local go_sem] nn2 nm2 nn3 nm3 nn4 nm4 nn5 nm5 nn6 nm6 nn7 nm7 nn8 nm8
attribute [local go_sem] nn2 nm2 nn3 nm3 nn4 nm4 nn5 nm5 nn6 nm6 nn7 nm7 nn8 nm8
attribute [local go_sem] ofInt_N
theorem gt0 (m : BitVec 8) : decide (0 < N m) = (m != 0#8) := by
  rw [Bool.eq_iff_iff, decide_eq_true_iff, bne_iff_ne]
  unfold N
  constructor
  · intro h e; rw [e] at h; simp at h
  · intro h
    have : m.toNat ≠ 0 := fun e => h (BitVec.eq_of_toNat_eq (by rw [e]; rfl))
    omega
theorem rStops_any (c : BitVec 64) (w : World) : Calls Tryz.prog 69 #[U c] w fun e w' => e = .returned (.bool (emptyM c != 0#8)) ∧ w = w' := by
  have S1 := fun w => rSet1_any c w
  have h := gt0 (setM (fun n => byteAt c n == 128#8) 8)
  rw [setM_empty] at h
  generalize setM (fun n => byteAt c n == 128#8) 8 = m at *
  generalize (emptyM c != 0#8) = b at *
  cases b
  all_goals
    first | (have hn : ¬ 0 < N m := of_decide_eq_false h) | (have hn : 0 < N m := of_decide_eq_true h)
    clear h
    go_enter Tryz.func69, Tryz.ntmps69
    go_wp2_with (go_at_call 106; refine (S1 _).mono ?_; rintro e w' ⟨rfl, rfl⟩)
    go_ret
    first
      | exact ⟨rfl, rfl⟩
      | (refine ⟨?_, rfl⟩; show Ending.returned (.bool (decide (0 < N m))) = _; rw [decide_eq_false (by omega)])
      | (refine ⟨?_, rfl⟩; show Ending.returned (.bool (decide (0 < N m))) = _; rw [decide_eq_true (by omega)])
theorem rErase_any (c : BitVec 64) (n : Nat) (hn : n < 8) (hf : (byteAt c n).toNat < 128) (w : World) : Calls Tryz.prog 70 #[U c, I n] w fun e w' => e = .returned (.tuple #[U (withB c n (gone c)), I 0]) ∧ Ch [] w w' := by
  have F1 := fun w => rFull9_any c n (by omega) w
  have S1 := fun w => rStops_any c w
  have P1 : ∀ w, Calls Tryz.prog 68 #[U c, .int .u8 128, I n] w fun e w' => e = .returned (U (withB c n 128#8)) ∧ Ch [] w w' := fun w => rPut_any c 128#8 n hn w
  have P2 : ∀ w, Calls Tryz.prog 68 #[U c, .int .u8 254, I n] w fun e w' => e = .returned (U (withB c n 254#8)) ∧ Ch [] w w' := fun w => rPut_any c 254#8 n hn w
  have HG : Hid (gone c = if emptyM c != 0#8 then 128#8 else 254#8) := Lib.hid (by unfold gone; by_cases h : emptyM c = 0#8 <;> simp [h])
  rw [decide_eq_true hf] at F1
  have I1 := fun w => rIs_yes n hn w
  clear hf
  generalize gone c = gc at *
  generalize (emptyM c != 0#8) = b at *
  cases b
  all_goals
    first | (have hg := HG.out; rw [if_neg (by decide)] at hg; subst hg) | (have hg := HG.out; rw [if_pos rfl] at hg; subst hg)
    clear HG
    go_enter Tryz.func70, Tryz.ntmps70
    go_wp2_with (first
      | (go_at_call 107; refine (I1 _).mono ?_; rintro e w' ⟨rfl, rfl⟩)
      | (go_at_call 105; refine (F1 _).mono ?_; rintro e w' ⟨rfl, rfl⟩)
      | (go_at_call 69; refine (S1 _).mono ?_; rintro e w' ⟨rfl, rfl⟩)
      | (go_at_call 68; ((with_reducible refine (P1 _).mono ?_); rintro e w1 ⟨rfl, hc1⟩))
      | (go_at_call 68; ((with_reducible refine (P2 _).mono ?_); rintro e w1 ⟨rfl, hc1⟩)))
    go_ret2
    exact ⟨rfl, hc1⟩
theorem two_shl (j : Nat) : 2#64 * (1#64 <<< j) = 1#64 <<< (j + 1) := by
  apply BitVec.eq_of_toNat_eq
  rw [BitVec.toNat_mul, BitVec.toNat_shiftLeft, BitVec.toNat_shiftLeft, Nat.shiftLeft_eq, Nat.shiftLeft_eq, Nat.pow_succ]
  show (2 * (1 * 2 ^ j % 18446744073709551616)) % 18446744073709551616 = 1 * (2 ^ j * 2) % 18446744073709551616
  omega
set_option maxHeartbeats 400000 in
theorem rBit_any (n : Nat) (hn : n ≤ 64) (w : World) : Calls Tryz.prog 147 #[I n] w fun e w' => e = .returned (U (1#64 <<< n)) ∧ w = w' := by
  go_enter Tryz.func147, Tryz.ntmps147
  go_wp2
  go_loop [3, 5] (fun v i => ∃ j : Nat, j ≤ n ∧ i = .int .i64 j ∧ v = U (1#64 <<< j)) (fun _ i => n - (intOf i).toNat)
  case atStart => exact ⟨0, Nat.zero_le _, rfl, rfl⟩
  case round =>
    obtain ⟨j, hj, rfl, rfl⟩ := hrel
    by_cases hlt : j < n
    · have HS := Lib.hid (two_shl j)
      go_wp2
      go_round
      case rel => exact ⟨j + 1, by omega, by go_num, by rw [← HS.out]⟩
      case measure => simp [intOf]; omega
    · have hjn : j = n := by omega
      have HJ := Lib.hid hjn
      clear hjn
      go_wp2
      go_ret
      refine ⟨?_, rfl⟩
      rw [← HJ.out]; rfl
set_option maxHeartbeats 400000 in
theorem rPower_any (n : Nat) (hn : n ≤ 64) (w : World) : Calls Tryz.prog 83 #[I n] w fun e w' => e = .returned (U (1#64 <<< n)) ∧ w = w' := by
  go_enter Tryz.func83, Tryz.ntmps83
  go_wp2
  go_loop [3, 5] (fun v i => ∃ j : Nat, j ≤ n ∧ i = .int .i64 j ∧ v = U (1#64 <<< j)) (fun _ i => n - (intOf i).toNat)
  case atStart => exact ⟨0, Nat.zero_le _, rfl, rfl⟩
  case round =>
    obtain ⟨j, hj, rfl, rfl⟩ := hrel
    by_cases hlt : j < n
    · have HS := Lib.hid (two_shl j)
      go_wp2
      go_round
      case rel => exact ⟨j + 1, by omega, by go_num, by rw [← HS.out]⟩
      case measure => simp [intOf]; omega
    · have hjn : j = n := by omega
      have HJ := Lib.hid hjn
      clear hjn
      go_wp2
      go_ret
      refine ⟨?_, rfl⟩
      rw [← HJ.out]; rfl
theorem shl_toNat (n : Nat) (hn : n < 64) : (1#64 <<< n).toNat = 2 ^ n := by
  rw [BitVec.toNat_shiftLeft, Nat.shiftLeft_eq]
  show 1 * 2 ^ n % 2 ^ 64 = _
  rw [Nat.one_mul, Nat.mod_eq_of_lt (Nat.pow_lt_pow_right (by omega) hn)]
theorem div_bit (x : BitVec 64) (n : Nat) (hn : n < 64) : N x / N (1#64 <<< n) = N (x >>> n) := by
  unfold N
  rw [shl_toNat n hn, BitVec.toNat_ushiftRight, Nat.shiftRight_eq_div_pow]
  simp
theorem bit_pos (n : Nat) (hn : n < 64) : 0 < N (1#64 <<< n) := by
  unfold N
  rw [shl_toNat n hn]
  have := Nat.two_pow_pos n
  omega
theorem odd_bit (y : BitVec 64) : (N y % 2 == 1) = y.getLsbD 0 := by
  have h : y.getLsbD 0 = decide (y.toNat % 2 = 1) := by
    rw [← BitVec.testBit_toNat, Nat.testBit_zero]
  rw [h, Bool.eq_iff_iff, beq_iff_eq, decide_eq_true_iff]
  unfold N
  omega
set_option maxHeartbeats 400000 in
theorem rHas_any (x : BitVec 64) (n : Nat) (hn : n < 64) (w : World) : Calls Tryz.prog 148 #[U x, I n] w fun e w' => e = .returned (.bool (x.getLsbD n)) ∧ w = w' := by
  have B1 := fun w => rBit_any n (by omega) w
  have h1 := div_bit x n hn
  have h2 := bit_pos n hn
  have h3 := odd_bit (x >>> n)
  have h4 : (x >>> n).getLsbD 0 = x.getLsbD n := by rw [BitVec.getLsbD_ushiftRight]; simp
  rw [h4] at h3
  have h5 : (N x).tdiv (N (1#64 <<< n)) = N (x >>> n) := by rw [Int.tdiv_eq_ediv_of_nonneg (N_nonneg x), h1]
  have h6 : (N (x >>> n)).tmod 2 = N (x >>> n) % 2 := Int.tmod_eq_emod_of_nonneg (N_nonneg _)
  have h7 : (N (1#64 <<< n) == 0) = false := by simp; omega
  have hnn : (n : Int) < 64 := by omega
  clear h4
  generalize x.getLsbD n = r at *
  generalize 1#64 <<< n = p at *
  generalize x >>> n = y at *
  cases r
  all_goals
    go_enter Tryz.func148, Tryz.ntmps148
    go_wp2_with (go_at_call 147; refine (B1 _).mono ?_; rintro e w' ⟨rfl, rfl⟩)
    go_ret
    exact ⟨rfl, rfl⟩
end Go.Proofs.Hc
/- The references of layer 7: two words turned bit by bit, folded, a key's hash. -/
namespace Go.Proofs.Hc
open Go.RowKit
attribute [local go_sem] wrap_u64 wrap_u8 bits_xor64 bits_and64 bits_or64 bits_not64 bits_xor8 bits_and8 bits_or8 signed64 signed8 ofInt_N BitVec.ofInt_add BitVec.ofInt_mul ofInt_sub' ofInt8_N64 ofInt64_N8 wide8 eqN neN shr_pow shr1 shr7 shr56
attribute [local go_sem high] bits_com64 shl_wrap
attribute [local go_sem] cell_heap ice_heap cellAt_cells iceAt_cells setAt_cells rowAt_cells canLay_cells laidAt_cells size_onObj size_setCell rowRes_some layRes_true
attribute [local go_sem] load26 load73 load23 store26 build73
attribute [local go_sem ↓] lrow26 lrow73 lrow23 srow26 zero26 brow73 heap_alloc heap_drew heap_drewN heap_setCell heap_onObj
attribute [local go_sem] tcells_size hcells_size tcells_get hcells_get tcells_one hcells_one hcells_table tcells_table hcells_all hcells_ctrl tcells_ctrl
attribute [local go_sem] nn2 nm2 nn3 nm3 nn4 nm4 nn5 nm5 nn6 nm6 nn7 nm7 nn8 nm8
attribute [local go_sem] nn2 nm2 nn3 nm3 nn4 nm4 nn5 nm5 nn6 nm6 nn7 nm7 nn8 nm8
attribute [local go_sem] ofInt_N
/-- The first n bits of d, summed. -/
def trnB (d : BitVec 64) : Nat → BitVec 64
  | 0 => 0#64
  | n + 1 => if d.getLsbD n then trnB d n + (1#64 <<< n) else trnB d n
theorem trnB_toNat (d : BitVec 64) : ∀ n : Nat, n ≤ 64 → (trnB d n).toNat = d.toNat % 2 ^ n := by
  intro n
  induction n with
  | zero => intro _; simp [trnB, Nat.mod_one]
  | succ n ih =>
    intro hn
    have h1 := ih (by omega)
    have hb : d.toNat.testBit n = d.getLsbD n := BitVec.testBit_toNat d
    have hp : 2 ^ (n + 1) ≤ 2 ^ 64 := Nat.pow_le_pow_right (by omega) hn
    have hq : 2 ^ (n + 1) = 2 ^ n + 2 ^ n := by rw [Nat.pow_succ]; omega
    have hlt : d.toNat % 2 ^ n < 2 ^ n := Nat.mod_lt _ (Nat.two_pow_pos n)
    rw [Nat.testBit_eq_decide_div_mod_eq] at hb
    rw [Nat.pow_succ, Nat.mod_mul]
    unfold trnB
    cases hd : d.getLsbD n
    · rw [hd] at hb
      have := of_decide_eq_false hb
      have h0 : d.toNat / 2 ^ n % 2 = 0 := by omega
      simp [h1, h0]
    · rw [hd] at hb
      have h0 : d.toNat / 2 ^ n % 2 = 1 := of_decide_eq_true hb
      rw [if_pos rfl, BitVec.toNat_add, h1, shl_toNat n (by omega), h0, Nat.mul_one, Nat.mod_eq_of_lt (by omega)]
theorem trnB_all (d : BitVec 64) : trnB d 64 = d := by
  apply BitVec.eq_of_toNat_eq
  rw [trnB_toNat d 64 (by omega), Nat.mod_eq_of_lt d.isLt]
set_option maxHeartbeats 1000000 in
theorem rTurned_any (x y : BitVec 64) (w : World) : Calls Tryz.prog 120 #[U x, U y] w fun e w' => e = .returned (U (x ^^^ y)) ∧ w = w' := by
  go_enter Tryz.func120, Tryz.ntmps120
  go_wp2
  go_loop [5, 7] (fun v i => ∃ j : Nat, j ≤ 64 ∧ i = .int .i64 j ∧ v = U (trnB (x ^^^ y) j)) (fun _ i => 64 - (intOf i).toNat)
  case atStart => exact ⟨0, by omega, rfl, rfl⟩
  case round =>
    obtain ⟨j, hj, rfl, rfl⟩ := hrel
    by_cases hlt : j < 64
    · have X1 := fun w => rHas_any x j hlt w
      have Y1 := fun w => rHas_any y j hlt w
      have B1 := fun w => rBit_any j (by omega) w
      have HS : Hid (trnB (x ^^^ y) (j + 1) = if (x.getLsbD j ^^ y.getLsbD j) then trnB (x ^^^ y) j + (1#64 <<< j) else trnB (x ^^^ y) j) := Lib.hid (by rw [← BitVec.getLsbD_xor]; rfl)
      generalize trnB (x ^^^ y) j = m at *
      generalize 1#64 <<< j = p at *
      generalize x.getLsbD j = a at *
      generalize y.getLsbD j = b at *
      cases a <;> cases b
      all_goals
        go_wp2_with (first
          | (go_at_call 148; ((with_reducible refine (X1 _).mono ?_); rintro e w' ⟨rfl, rfl⟩))
          | (go_at_call 148; ((with_reducible refine (Y1 _).mono ?_); rintro e w' ⟨rfl, rfl⟩))
          | (go_at_call 147; refine (B1 _).mono ?_; rintro e w' ⟨rfl, rfl⟩))
        go_round
        case rel => exact ⟨j + 1, by omega, by go_num, by rw [HS.out]; simp⟩
        case measure => simp [intOf]; omega
    · have hjn : j = 64 := by omega
      subst hjn
      have HT : Hid (trnB (x ^^^ y) 64 = x ^^^ y) := Lib.hid (trnB_all _)
      generalize trnB (x ^^^ y) 64 = m at *
      go_wp2
      go_ret
      rw [HT.out]
      exact ⟨rfl, rfl⟩
theorem rFolded_any (x : BitVec 64) (n : Nat) (hn : n < 64) (w : World) : Calls Tryz.prog 119 #[U x, I n] w fun e w' => e = .returned (U (mixF x n)) ∧ w = w' := by
  have B1 := fun w => rBit_any n (by omega) w
  have h1 := div_bit x n hn
  have h2 := bit_pos n hn
  have h5 : (N x).tdiv (N (1#64 <<< n)) = N (x >>> n) := by rw [Int.tdiv_eq_ediv_of_nonneg (N_nonneg x), h1]
  have h7 : (N (1#64 <<< n) == 0) = false := by simp; omega
  have HM : Hid (x ^^^ (x >>> n) = mixF x n) := Lib.hid rfl
  have T1 := fun w => rTurned_any x (x >>> n) w
  generalize mixF x n = m at *
  generalize 1#64 <<< n = p at *
  generalize x >>> n = y at *
  rw [HM.out] at T1
  go_enter Tryz.func119, Tryz.ntmps119
  go_wp2_with (first
    | (go_at_call 147; refine (B1 _).mono ?_; rintro e w' ⟨rfl, rfl⟩)
    | (go_at_call 120; refine (T1 _).mono ?_; rintro e w' ⟨rfl, rfl⟩))
  go_ret
  exact ⟨rfl, rfl⟩
theorem rHash_any (s k : BitVec 64) (w : World) : Calls Tryz.prog 87 #[U s, U k] w fun e w' => e = .returned (U (hashOf s k)) ∧ w = w' := by
  have T1 := fun w => rTurned_any k s w
  have HA : Hid (mixF (mixF ((k ^^^ s) * 0xbf58476d1ce4e5b9#64) 32 * 0x94d049bb133111eb#64) 29 = hashOf s k) := Lib.hid rfl
  generalize hashOf s k = r at *
  generalize k ^^^ s = x at *
  have F1 : ∀ w, Calls Tryz.prog 119 #[U (x * 0xbf58476d1ce4e5b9#64), .int .i64 32] w fun e w' => e = .returned (U (mixF (x * 0xbf58476d1ce4e5b9#64) 32)) ∧ w = w' := fun w => rFolded_any (x * 0xbf58476d1ce4e5b9#64) 32 (by omega) w
  have F2 : ∀ w, Calls Tryz.prog 119 #[U (mixF (x * 0xbf58476d1ce4e5b9#64) 32 * 0x94d049bb133111eb#64), .int .i64 29] w fun e w' => e = .returned (U (mixF (mixF (x * 0xbf58476d1ce4e5b9#64) 32 * 0x94d049bb133111eb#64) 29)) ∧ w = w' := fun w => rFolded_any (mixF (x * 0xbf58476d1ce4e5b9#64) 32 * 0x94d049bb133111eb#64) 29 (by omega) w
  rw [HA.out] at F2
  generalize mixF (x * 0xbf58476d1ce4e5b9#64) 32 = y at *
  have M1 : BitVec.ofInt 64 (N x * 13787848793156543929) = x * 0xbf58476d1ce4e5b9#64 := by
    rw [BitVec.ofInt_mul, ofInt_N]; rfl
  have M2 : BitVec.ofInt 64 (N y * 10723151780598845931) = y * 0x94d049bb133111eb#64 := by
    rw [BitVec.ofInt_mul, ofInt_N]; rfl
  generalize x * 0xbf58476d1ce4e5b9#64 = xa at *
  generalize y * 0x94d049bb133111eb#64 = ya at *
  go_enter Tryz.func87, Tryz.ntmps87
  go_wp2_with (first
    | (go_at_call 120; refine (T1 _).mono ?_; rintro e w' ⟨rfl, rfl⟩)
    | (go_at_call 119; ((with_reducible refine (F1 _).mono ?_); rintro e w' ⟨rfl, rfl⟩))
    | (go_at_call 119; ((with_reducible refine (F2 _).mono ?_); rintro e w' ⟨rfl, rfl⟩)))
  go_ret
  exact ⟨rfl, rfl⟩
theorem rH1_any (h : BitVec 64) (w : World) : Calls Tryz.prog 90 #[U h] w fun e w' => e = .returned (U (hash1 h)) ∧ w = w' := by
  have h1 : (N h).tdiv 128 = N (hash1 h) := by
    rw [Int.tdiv_eq_ediv_of_nonneg (N_nonneg h)]
    unfold N hash1
    rw [BitVec.toNat_ushiftRight, Nat.shiftRight_eq_div_pow]
    simp
  generalize hash1 h = r at *
  go_enter Tryz.func90, Tryz.ntmps90
  go_wp2
  go_ret
  exact ⟨rfl, rfl⟩
theorem rH2_any (h : BitVec 64) (w : World) : Calls Tryz.prog 86 #[U h] w fun e w' => e = .returned (Y (hash2 h)) ∧ w = w' := by
  have h1 : (N h).tmod 128 = N (hash2 h) := by
    rw [Int.tmod_eq_emod_of_nonneg (N_nonneg h)]
    unfold N hash2
    rw [BitVec.toNat_and, BitVec.toNat_setWidth]
    have : h.toNat % 2 ^ 8 &&& (127#8).toNat = h.toNat % 128 := by
      show h.toNat % 2 ^ 8 &&& (2 ^ 7 - 1) = _
      rw [Nat.and_two_pow_sub_one_eq_mod]
      omega
    rw [this]
    rfl
  generalize hash2 h = r at *
  go_enter Tryz.func86, Tryz.ntmps86
  go_wp2
  go_ret
  exact ⟨rfl, rfl⟩
end Go.Proofs.Hc
