/- Lanes of a word, byte by byte: what the masks and the sums of whole words say of each byte. -/
import Derived.Test.YtcikopeddljgkaaGreatKHd
set_option linter.unusedSimpArgs false
set_option linter.unusedVariables false
namespace Go.Proofs.Hc
theorem lane8 {P : Nat → Prop} (h0 : P 0) (h1 : P 1) (h2 : P 2) (h3 : P 3) (h4 : P 4) (h5 : P 5) (h6 : P 6) (h7 : P 7) : ∀ i, i < 8 → P i := by
  intro i hi
  match i, hi with
  | 0, _ => exact h0
  | 1, _ => exact h1
  | 2, _ => exact h2
  | 3, _ => exact h3
  | 4, _ => exact h4
  | 5, _ => exact h5
  | 6, _ => exact h6
  | 7, _ => exact h7
theorem byteAt_nat (x : BitVec 64) (n : Nat) : (byteAt x n).toNat = x.toNat / 2 ^ (8 * n) % 256 := by
  simp [byteAt, Nat.shiftRight_eq_div_pow]
theorem byteAt_and (x y : BitVec 64) (n : Nat) : byteAt (x &&& y) n = byteAt x n &&& byteAt y n := by
  apply BitVec.eq_of_getLsbD_eq; intro i hi; simp [byteAt, hi]
theorem byteAt_or (x y : BitVec 64) (n : Nat) : byteAt (x ||| y) n = byteAt x n ||| byteAt y n := by
  apply BitVec.eq_of_getLsbD_eq; intro i hi; simp [byteAt, hi]
theorem byteAt_xor (x y : BitVec 64) (n : Nat) : byteAt (x ^^^ y) n = byteAt x n ^^^ byteAt y n := by
  apply BitVec.eq_of_getLsbD_eq; intro i hi; simp [byteAt, hi]
theorem byteAt_not (x : BitVec 64) (n : Nat) (h : n < 8) : byteAt (~~~x) n = ~~~byteAt x n := by
  apply BitVec.eq_of_getLsbD_eq; intro i hi; simp [byteAt, hi]; omega
theorem byteAt_lows : ∀ n, n < 8 → byteAt lows n = 127#8 := by decide +kernel
theorem byteAt_tops : ∀ n, n < 8 → byteAt tops n = 128#8 := by decide +kernel
theorem byteAt_fill : ∀ (b : BitVec 8), ∀ n, n < 8 → byteAt (fillB b) n = b := by decide +kernel
theorem sum_bytes (x : BitVec 64) : x.toNat = (byteAt x 0).toNat + 256 * (byteAt x 1).toNat + 65536 * (byteAt x 2).toNat + 16777216 * (byteAt x 3).toNat + 4294967296 * (byteAt x 4).toNat + 1099511627776 * (byteAt x 5).toNat + 281474976710656 * (byteAt x 6).toNat + 72057594037927936 * (byteAt x 7).toNat := by
  simp only [byteAt_nat]
  have := x.isLt
  omega
theorem ext_bytes {x y : BitVec 64} (h : ∀ n, n < 8 → byteAt x n = byteAt y n) : x = y := by
  apply BitVec.eq_of_toNat_eq
  rw [sum_bytes x, sum_bytes y, h 0 (by omega), h 1 (by omega), h 2 (by omega), h 3 (by omega), h 4 (by omega), h 5 (by omega), h 6 (by omega), h 7 (by omega)]
theorem digits (z a0 a1 a2 a3 a4 a5 a6 a7 : Nat) (hz : z = a0 + 256 * a1 + 65536 * a2 + 16777216 * a3 + 4294967296 * a4 + 1099511627776 * a5 + 281474976710656 * a6 + 72057594037927936 * a7)
    (h0 : a0 < 256) (h1 : a1 < 256) (h2 : a2 < 256) (h3 : a3 < 256) (h4 : a4 < 256) (h5 : a5 < 256) (h6 : a6 < 256) (h7 : a7 < 256) :
    z / 2 ^ (8 * 0) % 256 = a0 ∧ z / 2 ^ (8 * 1) % 256 = a1 ∧ z / 2 ^ (8 * 2) % 256 = a2 ∧ z / 2 ^ (8 * 3) % 256 = a3 ∧ z / 2 ^ (8 * 4) % 256 = a4 ∧ z / 2 ^ (8 * 5) % 256 = a5 ∧ z / 2 ^ (8 * 6) % 256 = a6 ∧ z / 2 ^ (8 * 7) % 256 = a7 := by
  subst hz
  simp only [Nat.reduceMul, Nat.reducePow]
  refine ⟨?_, ?_, ?_, ?_, ?_, ?_, ?_, ?_⟩ <;> omega
theorem byteAt_add (x y : BitVec 64) (h : ∀ n, n < 8 → (byteAt x n).toNat + (byteAt y n).toNat < 256) : ∀ n, n < 8 → byteAt (x + y) n = byteAt x n + byteAt y n := by
  have hx := sum_bytes x
  have hy := sum_bytes y
  have h0 := h 0 (by omega)
  have h1 := h 1 (by omega)
  have h2 := h 2 (by omega)
  have h3 := h 3 (by omega)
  have h4 := h 4 (by omega)
  have h5 := h 5 (by omega)
  have h6 := h 6 (by omega)
  have h7 := h 7 (by omega)
  have hz : (x + y).toNat = ((byteAt x 0).toNat + (byteAt y 0).toNat) + 256 * ((byteAt x 1).toNat + (byteAt y 1).toNat) + 65536 * ((byteAt x 2).toNat + (byteAt y 2).toNat) + 16777216 * ((byteAt x 3).toNat + (byteAt y 3).toNat) + 4294967296 * ((byteAt x 4).toNat + (byteAt y 4).toNat) + 1099511627776 * ((byteAt x 5).toNat + (byteAt y 5).toNat) + 281474976710656 * ((byteAt x 6).toNat + (byteAt y 6).toNat) + 72057594037927936 * ((byteAt x 7).toNat + (byteAt y 7).toNat) := by
    rw [BitVec.toNat_add, hx, hy]
    clear hx hy h
    generalize (byteAt x 0).toNat = a0 at *
    generalize (byteAt x 1).toNat = a1 at *
    generalize (byteAt x 2).toNat = a2 at *
    generalize (byteAt x 3).toNat = a3 at *
    generalize (byteAt x 4).toNat = a4 at *
    generalize (byteAt x 5).toNat = a5 at *
    generalize (byteAt x 6).toNat = a6 at *
    generalize (byteAt x 7).toNat = a7 at *
    generalize (byteAt y 0).toNat = b0 at *
    generalize (byteAt y 1).toNat = b1 at *
    generalize (byteAt y 2).toNat = b2 at *
    generalize (byteAt y 3).toNat = b3 at *
    generalize (byteAt y 4).toNat = b4 at *
    generalize (byteAt y 5).toNat = b5 at *
    generalize (byteAt y 6).toNat = b6 at *
    generalize (byteAt y 7).toNat = b7 at *
    rw [Nat.mod_eq_of_lt (by omega)]
    omega
  have hd := digits _ _ _ _ _ _ _ _ _ hz h0 h1 h2 h3 h4 h5 h6 h7
  obtain ⟨d0, d1, d2, d3, d4, d5, d6, d7⟩ := hd
  refine lane8 ?_ ?_ ?_ ?_ ?_ ?_ ?_ ?_ <;>
    (apply BitVec.eq_of_toNat_eq; rw [BitVec.toNat_add, byteAt_nat])
  · rw [d0, Nat.mod_eq_of_lt h0]
  · rw [d1, Nat.mod_eq_of_lt h1]
  · rw [d2, Nat.mod_eq_of_lt h2]
  · rw [d3, Nat.mod_eq_of_lt h3]
  · rw [d4, Nat.mod_eq_of_lt h4]
  · rw [d5, Nat.mod_eq_of_lt h5]
  · rw [d6, Nat.mod_eq_of_lt h6]
  · rw [d7, Nat.mod_eq_of_lt h7]
theorem byteAt_sub (x y : BitVec 64) (h : ∀ n, n < 8 → (byteAt y n).toNat ≤ (byteAt x n).toNat) : ∀ n, n < 8 → byteAt (x - y) n = byteAt x n - byteAt y n := by
  have hs : ∃ z : BitVec 64, ∀ n, n < 8 → byteAt z n = byteAt x n - byteAt y n := by
    have c : ∀ n, (byteAt x n - byteAt y n).toNat < 256 := fun n => (byteAt x n - byteAt y n).isLt
    have c0 := c 0
    have c1 := c 1
    have c2 := c 2
    have c3 := c 3
    have c4 := c 4
    have c5 := c 5
    have c6 := c 6
    have c7 := c 7
    clear c
    refine ⟨BitVec.ofNat 64 ((byteAt x 0 - byteAt y 0).toNat + 256 * (byteAt x 1 - byteAt y 1).toNat + 65536 * (byteAt x 2 - byteAt y 2).toNat + 16777216 * (byteAt x 3 - byteAt y 3).toNat + 4294967296 * (byteAt x 4 - byteAt y 4).toNat + 1099511627776 * (byteAt x 5 - byteAt y 5).toNat + 281474976710656 * (byteAt x 6 - byteAt y 6).toNat + 72057594037927936 * (byteAt x 7 - byteAt y 7).toNat), ?_⟩
    have hz : (BitVec.ofNat 64 ((byteAt x 0 - byteAt y 0).toNat + 256 * (byteAt x 1 - byteAt y 1).toNat + 65536 * (byteAt x 2 - byteAt y 2).toNat + 16777216 * (byteAt x 3 - byteAt y 3).toNat + 4294967296 * (byteAt x 4 - byteAt y 4).toNat + 1099511627776 * (byteAt x 5 - byteAt y 5).toNat + 281474976710656 * (byteAt x 6 - byteAt y 6).toNat + 72057594037927936 * (byteAt x 7 - byteAt y 7).toNat)).toNat = (byteAt x 0 - byteAt y 0).toNat + 256 * (byteAt x 1 - byteAt y 1).toNat + 65536 * (byteAt x 2 - byteAt y 2).toNat + 16777216 * (byteAt x 3 - byteAt y 3).toNat + 4294967296 * (byteAt x 4 - byteAt y 4).toNat + 1099511627776 * (byteAt x 5 - byteAt y 5).toNat + 281474976710656 * (byteAt x 6 - byteAt y 6).toNat + 72057594037927936 * (byteAt x 7 - byteAt y 7).toNat := by
      rw [BitVec.toNat_ofNat]
      clear h
      generalize (byteAt x 0 - byteAt y 0).toNat = a0 at *
      generalize (byteAt x 1 - byteAt y 1).toNat = a1 at *
      generalize (byteAt x 2 - byteAt y 2).toNat = a2 at *
      generalize (byteAt x 3 - byteAt y 3).toNat = a3 at *
      generalize (byteAt x 4 - byteAt y 4).toNat = a4 at *
      generalize (byteAt x 5 - byteAt y 5).toNat = a5 at *
      generalize (byteAt x 6 - byteAt y 6).toNat = a6 at *
      generalize (byteAt x 7 - byteAt y 7).toNat = a7 at *
      exact Nat.mod_eq_of_lt (by omega)
    have hd := digits _ _ _ _ _ _ _ _ _ hz c0 c1 c2 c3 c4 c5 c6 c7
    obtain ⟨d0, d1, d2, d3, d4, d5, d6, d7⟩ := hd
    refine lane8 ?_ ?_ ?_ ?_ ?_ ?_ ?_ ?_ <;>
      (apply BitVec.eq_of_toNat_eq; rw [byteAt_nat])
    · rw [d0]
    · rw [d1]
    · rw [d2]
    · rw [d3]
    · rw [d4]
    · rw [d5]
    · rw [d6]
    · rw [d7]
  obtain ⟨z, hz⟩ := hs
  have hzy : z + y = x := by
    apply ext_bytes
    intro m hm
    rw [byteAt_add z y (fun k hk => by rw [hz k hk, BitVec.toNat_sub_of_le (BitVec.le_def.2 (h k hk))]; have := h k hk; have := (byteAt x k).isLt; omega) m hm, hz m hm]
    exact BitVec.sub_add_cancel _ _
  intro n hn
  have : x - y = z := by rw [← hzy]; exact BitVec.add_sub_cancel z y
  rw [this, hz n hn]
theorem nought_byte : ∀ a : BitVec 8, ~~~(((a &&& 127#8) + 127#8) ||| a ||| 127#8) = if a = 0#8 then 128#8 else 0#8 := by decide +kernel
theorem byte_small : ∀ a : BitVec 8, (a &&& 127#8).toNat + (127#8 : BitVec 8).toNat < 256 := by decide +kernel
theorem byteAt_noughts (x : BitVec 64) (n : Nat) (h : n < 8) : byteAt (noughts x) n = if byteAt x n = 0#8 then 128#8 else 0#8 := by
  unfold noughts
  rw [byteAt_not _ _ h, byteAt_or, byteAt_or, byteAt_add _ _ (fun k hk => by rw [byteAt_and, byteAt_lows k hk]; exact byte_small _) n h, byteAt_and, byteAt_lows n h]
  exact nought_byte _
theorem gath : ∀ t0 t1 t2 t3 t4 t5 t6 t7 : Bool, gathered (BitVec.ofNat 64 (128 * t0.toNat + 256 * (128 * t1.toNat) + 65536 * (128 * t2.toNat) + 16777216 * (128 * t3.toNat) + 4294967296 * (128 * t4.toNat) + 1099511627776 * (128 * t5.toNat) + 281474976710656 * (128 * t6.toNat) + 72057594037927936 * (128 * t7.toNat))) = BitVec.ofNat 8 (t0.toNat + 2 * t1.toNat + 4 * t2.toNat + 8 * t3.toNat + 16 * t4.toNat + 32 * t5.toNat + 64 * t6.toNat + 128 * t7.toNat) := by decide +kernel
theorem gath_bits : ∀ t0 t1 t2 t3 t4 t5 t6 t7 : Bool, (BitVec.ofNat 8 (t0.toNat + 2 * t1.toNat + 4 * t2.toNat + 8 * t3.toNat + 16 * t4.toNat + 32 * t5.toNat + 64 * t6.toNat + 128 * t7.toNat)).getLsbD 0 = t0 ∧
  (BitVec.ofNat 8 (t0.toNat + 2 * t1.toNat + 4 * t2.toNat + 8 * t3.toNat + 16 * t4.toNat + 32 * t5.toNat + 64 * t6.toNat + 128 * t7.toNat)).getLsbD 1 = t1 ∧
  (BitVec.ofNat 8 (t0.toNat + 2 * t1.toNat + 4 * t2.toNat + 8 * t3.toNat + 16 * t4.toNat + 32 * t5.toNat + 64 * t6.toNat + 128 * t7.toNat)).getLsbD 2 = t2 ∧
  (BitVec.ofNat 8 (t0.toNat + 2 * t1.toNat + 4 * t2.toNat + 8 * t3.toNat + 16 * t4.toNat + 32 * t5.toNat + 64 * t6.toNat + 128 * t7.toNat)).getLsbD 3 = t3 ∧
  (BitVec.ofNat 8 (t0.toNat + 2 * t1.toNat + 4 * t2.toNat + 8 * t3.toNat + 16 * t4.toNat + 32 * t5.toNat + 64 * t6.toNat + 128 * t7.toNat)).getLsbD 4 = t4 ∧
  (BitVec.ofNat 8 (t0.toNat + 2 * t1.toNat + 4 * t2.toNat + 8 * t3.toNat + 16 * t4.toNat + 32 * t5.toNat + 64 * t6.toNat + 128 * t7.toNat)).getLsbD 5 = t5 ∧
  (BitVec.ofNat 8 (t0.toNat + 2 * t1.toNat + 4 * t2.toNat + 8 * t3.toNat + 16 * t4.toNat + 32 * t5.toNat + 64 * t6.toNat + 128 * t7.toNat)).getLsbD 6 = t6 ∧
  (BitVec.ofNat 8 (t0.toNat + 2 * t1.toNat + 4 * t2.toNat + 8 * t3.toNat + 16 * t4.toNat + 32 * t5.toNat + 64 * t6.toNat + 128 * t7.toNat)).getLsbD 7 = t7 := by decide +kernel
theorem gathered_bit (y : BitVec 64) (p : Nat → Bool) (h : ∀ n, n < 8 → byteAt y n = if p n then 128#8 else 0#8) : ∀ n, n < 8 → (gathered y).getLsbD n = p n := by
  have hb : ∀ n, n < 8 → (byteAt y n).toNat = 128 * (p n).toNat := fun n hn => by rw [h n hn]; cases p n <;> rfl
  have hy : y = BitVec.ofNat 64 (128 * (p 0).toNat + 256 * (128 * (p 1).toNat) + 65536 * (128 * (p 2).toNat) + 16777216 * (128 * (p 3).toNat) + 4294967296 * (128 * (p 4).toNat) + 1099511627776 * (128 * (p 5).toNat) + 281474976710656 * (128 * (p 6).toNat) + 72057594037927936 * (128 * (p 7).toNat)) := by
    apply BitVec.eq_of_toNat_eq
    have hs := sum_bytes y
    rw [hb 0 (by omega), hb 1 (by omega), hb 2 (by omega), hb 3 (by omega), hb 4 (by omega), hb 5 (by omega), hb 6 (by omega), hb 7 (by omega)] at hs
    rw [← hs, BitVec.toNat_ofNat, Nat.mod_eq_of_lt y.isLt]
  rw [hy, gath]
  obtain ⟨h0, h1, h2, h3, h4, h5, h6, h7⟩ := gath_bits (p 0) (p 1) (p 2) (p 3) (p 4) (p 5) (p 6) (p 7)
  exact lane8 h0 h1 h2 h3 h4 h5 h6 h7
theorem equalM_bit (w : BitVec 64) (b : BitVec 8) (n : Nat) (h : n < 8) : (equalM w b).getLsbD n = (byteAt w n == b) := by
  unfold equalM alike
  refine gathered_bit _ (fun n => byteAt w n == b) (fun m hm => ?_) n h
  rw [byteAt_noughts _ _ hm, byteAt_xor, byteAt_fill _ _ hm]
  by_cases he : byteAt w m = b
  · simp [he]
  · have : byteAt w m ^^^ b ≠ 0#8 := fun h => he (BitVec.xor_eq_zero_iff.1 h)
    simp [he, this]
theorem less_byte : ∀ a : BitVec 8, ((~~~a &&& 128#8 &&& 128#8) ||| (~~~(a ^^^ 128#8) &&& (~~~((a ||| 128#8) - (128#8 &&& 127#8)) &&& 128#8))) = if decide (a.toNat < 128) then 128#8 else 0#8 := by decide +kernel
theorem less_small : ∀ a : BitVec 8, ((128#8 : BitVec 8) &&& 127#8).toNat ≤ (a ||| 128#8).toNat := by decide +kernel
theorem fullM_bit (w : BitVec 64) (n : Nat) (h : n < 8) : (fullM w).getLsbD n = decide ((byteAt w n).toNat < 128) := by
  unfold fullM belowM
  refine gathered_bit _ (fun n => decide ((byteAt w n).toNat < 128)) (fun m hm => ?_) n h
  unfold lessM
  rw [byteAt_or, byteAt_and, byteAt_and, byteAt_and, byteAt_and, byteAt_not _ _ hm, byteAt_not _ _ hm, byteAt_not _ _ hm, byteAt_xor, byteAt_fill _ _ hm, byteAt_tops _ hm,
    byteAt_sub _ _ (fun k hk => by rw [byteAt_and, byteAt_or, byteAt_fill _ _ hk, byteAt_tops _ hk, byteAt_lows _ hk]; exact less_small _) m hm, byteAt_or, byteAt_and, byteAt_fill _ _ hm, byteAt_tops _ hm, byteAt_lows _ hm]
  exact less_byte _
theorem emptyM_bit (w : BitVec 64) (n : Nat) (h : n < 8) : (emptyM w).getLsbD n = (byteAt w n == 128#8) := equalM_bit w _ n h
theorem delM_bit (w : BitVec 64) (n : Nat) (h : n < 8) : (delM w).getLsbD n = (byteAt w n == 254#8) := equalM_bit w _ n h
theorem byteAt_withB (x : BitVec 64) (n m : Nat) (b : BitVec 8) (hn : n < 8) (hm : m < 8) : byteAt (withB x n b) m = if m = n then b else byteAt x m := by
  apply BitVec.eq_of_getLsbD_eq
  intro i hi
  have h255 : ∀ j : Nat, (255#64).getLsbD j = decide (j < 8) := by
    intro j
    by_cases hj : j < 64
    · have : ∀ j, j < 64 → (255#64).getLsbD j = decide (j < 8) := by decide +kernel
      exact this j hj
    · rw [BitVec.getLsbD_of_ge _ _ (by omega)]; simp; omega
  simp only [byteAt, withB, BitVec.getLsbD_setWidth, BitVec.getLsbD_ushiftRight, BitVec.getLsbD_or, BitVec.getLsbD_and, BitVec.getLsbD_not, BitVec.getLsbD_shiftLeft, h255, hi, decide_true, Bool.true_and]
  rcases Nat.lt_trichotomy m n with hlt | rfl | hgt
  · rw [if_neg (by omega)]
    have h1 : 8 * m + i < 8 * n := by omega
    have h2 : 8 * m + i < 64 := by omega
    simp [h1, h2, BitVec.getLsbD_ushiftRight, hi]
  · rw [if_pos rfl]
    have h1 : ¬ 8 * m + i < 8 * m := by omega
    have h2 : 8 * m + i < 64 := by omega
    have h3 : 8 * m + i - 8 * m = i := by omega
    have h4 : i < 64 := by omega
    simp [decide_eq_false h1, h3, hi, h4, h2]
  · rw [if_neg (by omega)]
    have h1 : ¬ 8 * m + i < 8 * n := by omega
    have h2 : 8 * m + i < 64 := by omega
    have h3 : ¬ 8 * m + i - 8 * n < 8 := by omega
    have h4 : b.getLsbD (8 * m + i - 8 * n) = false := BitVec.getLsbD_of_ge _ _ (by omega)
    simp [h1, h2, h3, h4, BitVec.getLsbD_ushiftRight, hi]
theorem ctrlOk_iff (c : BitVec 64) : ctrlOk c = true ↔ ∀ n, n < 8 → (byteAt c n).toNat < 128 ∨ byteAt c n = 128#8 ∨ byteAt c n = 254#8 := by
  unfold ctrlOk
  rw [beq_iff_eq]
  constructor
  · intro h n hn
    have : (fullM c ||| emptyM c ||| delM c).getLsbD n = true := by
      rw [h]; have : ∀ n, n < 8 → (255#8).getLsbD n = true := by decide +kernel
      exact this n hn
    rw [BitVec.getLsbD_or, BitVec.getLsbD_or, fullM_bit c n hn, emptyM_bit c n hn, delM_bit c n hn] at this
    simp only [Bool.or_eq_true, decide_eq_true_eq, beq_iff_eq] at this
    rcases this with (h | h) | h
    · exact .inl h
    · exact .inr (.inl h)
    · exact .inr (.inr h)
  · intro h
    apply BitVec.eq_of_getLsbD_eq
    intro n hn
    rw [BitVec.getLsbD_or, BitVec.getLsbD_or, fullM_bit c n hn, emptyM_bit c n hn, delM_bit c n hn]
    have h255 : ∀ n, n < 8 → (255#8).getLsbD n = true := by decide +kernel
    rw [h255 n hn]
    rcases h n hn with h | h | h <;> simp [h]
end Go.Proofs.Hc
