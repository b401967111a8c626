/- Lanes of a word, byte by byte: what the masks and the sums of whole words say of each byte. -/
import Derived.Test.YtcikopeddljgkaaGreatKRn
set_option linter.unusedSimpArgs false
set_option linter.unusedVariables false
namespace Go.Proofs.Hc
theorem lane8 {P : Nat → Prop} (h0 : P 0) (h1 : P 1) (h2 : P 2) (h3 : P 3) (h4 : P 4) (h5 : P 5) (h6 : P 6) (h7 : P 7) : ∀ i, i < 8 → P i := by
  intro i hi
  match i, hi with
  | 0, _ => exact h0
  | 1, _ => exact h1
  | 2, _ => exact h2
  | 3, _ => exact h3
  | 4, _ => exact h4
  | 5, _ => exact h5
  | 6, _ => exact h6
  | 7, _ => exact h7
theorem byteAt_nat (x : BitVec 64) (n : Nat) : (byteAt x n).toNat = x.toNat / 2 ^ (8 * n) % 256 := by
  simp [byteAt, Nat.shiftRight_eq_div_pow]
theorem byteAt_and (x y : BitVec 64) (n : Nat) : byteAt (x &&& y) n = byteAt x n &&& byteAt y n := by
  apply BitVec.eq_of_getLsbD_eq; intro i hi; simp [byteAt, hi]
theorem byteAt_or (x y : BitVec 64) (n : Nat) : byteAt (x ||| y) n = byteAt x n ||| byteAt y n := by
  apply BitVec.eq_of_getLsbD_eq; intro i hi; simp [byteAt, hi]
theorem byteAt_xor (x y : BitVec 64) (n : Nat) : byteAt (x ^^^ y) n = byteAt x n ^^^ byteAt y n := by
  apply BitVec.eq_of_getLsbD_eq; intro i hi; simp [byteAt, hi]
theorem byteAt_not (x : BitVec 64) (n : Nat) (h : n < 8) : byteAt (~~~x) n = ~~~byteAt x n := by
  apply BitVec.eq_of_getLsbD_eq; intro i hi; simp [byteAt, hi]; omega
theorem byteAt_lows : ∀ n, n < 8 → byteAt lows n = 127#8 := by decide +kernel
theorem byteAt_tops : ∀ n, n < 8 → byteAt tops n = 128#8 := by decide +kernel
theorem byteAt_fill : ∀ (b : BitVec 8), ∀ n, n < 8 → byteAt (fillB b) n = b := by decide +kernel
theorem sum_bytes (x : BitVec 64) : x.toNat = (byteAt x 0).toNat + 256 * (byteAt x 1).toNat + 65536 * (byteAt x 2).toNat + 16777216 * (byteAt x 3).toNat + 4294967296 * (byteAt x 4).toNat + 1099511627776 * (byteAt x 5).toNat + 281474976710656 * (byteAt x 6).toNat + 72057594037927936 * (byteAt x 7).toNat := by
  simp only [byteAt_nat]
  have := x.isLt
  omega
theorem ext_bytes {x y : BitVec 64} (h : ∀ n, n < 8 → byteAt x n = byteAt y n) : x = y := by
  apply BitVec.eq_of_toNat_eq
  rw [sum_bytes x, sum_bytes y, h 0 (by omega), h 1 (by omega), h 2 (by omega), h 3 (by omega), h 4 (by omega), h 5 (by omega), h 6 (by omega), h 7 (by omega)]
theorem digits (z a0 a1 a2 a3 a4 a5 a6 a7 : Nat) (hz : z = a0 + 256 * a1 + 65536 * a2 + 16777216 * a3 + 4294967296 * a4 + 1099511627776 * a5 + 281474976710656 * a6 + 72057594037927936 * a7)
    (h0 : a0 < 256) (h1 : a1 < 256) (h2 : a2 < 256) (h3 : a3 < 256) (h4 : a4 < 256) (h5 : a5 < 256) (h6 : a6 < 256) (h7 : a7 < 256) :
    z / 2 ^ (8 * 0) % 256 = a0 ∧ z / 2 ^ (8 * 1) % 256 = a1 ∧ z / 2 ^ (8 * 2) % 256 = a2 ∧ z / 2 ^ (8 * 3) % 256 = a3 ∧ z / 2 ^ (8 * 4) % 256 = a4 ∧ z / 2 ^ (8 * 5) % 256 = a5 ∧ z / 2 ^ (8 * 6) % 256 = a6 ∧ z / 2 ^ (8 * 7) % 256 = a7 := by
  subst hz
  simp only [Nat.reduceMul, Nat.reducePow]
  refine ⟨?_, ?_, ?_, ?_, ?_, ?_, ?_, ?_⟩ <;> omega
theorem byteAt_add (x y : BitVec 64) (h : ∀ n, n < 8 → (byteAt x n).toNat + (byteAt y n).toNat < 256) : ∀ n, n < 8 → byteAt (x + y) n = byteAt x n + byteAt y n := by
  have hx := sum_bytes x
  have hy := sum_bytes y
  have h0 := h 0 (by omega)
  have h1 := h 1 (by omega)
  have h2 := h 2 (by omega)
  have h3 := h 3 (by omega)
  have h4 := h 4 (by omega)
  have h5 := h 5 (by omega)
  have h6 := h 6 (by omega)
  have h7 := h 7 (by omega)
  have hz : (x + y).toNat = ((byteAt x 0).toNat + (byteAt y 0).toNat) + 256 * ((byteAt x 1).toNat + (byteAt y 1).toNat) + 65536 * ((byteAt x 2).toNat + (byteAt y 2).toNat) + 16777216 * ((byteAt x 3).toNat + (byteAt y 3).toNat) + 4294967296 * ((byteAt x 4).toNat + (byteAt y 4).toNat) + 1099511627776 * ((byteAt x 5).toNat + (byteAt y 5).toNat) + 281474976710656 * ((byteAt x 6).toNat + (byteAt y 6).toNat) + 72057594037927936 * ((byteAt x 7).toNat + (byteAt y 7).toNat) := by
    rw [BitVec.toNat_add, hx, hy]
    clear hx hy h
    generalize (byteAt x 0).toNat = a0 at *
    generalize (byteAt x 1).toNat = a1 at *
    generalize (byteAt x 2).toNat = a2 at *
    generalize (byteAt x 3).toNat = a3 at *
    generalize (byteAt x 4).toNat = a4 at *
    generalize (byteAt x 5).toNat = a5 at *
    generalize (byteAt x 6).toNat = a6 at *
    generalize (byteAt x 7).toNat = a7 at *
    generalize (byteAt y 0).toNat = b0 at *
    generalize (byteAt y 1).toNat = b1 at *
    generalize (byteAt y 2).toNat = b2 at *
    generalize (byteAt y 3).toNat = b3 at *
    generalize (byteAt y 4).toNat = b4 at *
    generalize (byteAt y 5).toNat = b5 at *
    generalize (byteAt y 6).toNat = b6 at *
    generalize (byteAt y 7).toNat = b7 at *
    rw [Nat.mod_eq_of_lt (by omega)]
    omega
  have hd := digits _ _ _ _ _ _ _ _ _ hz h0 h1 h2 h3 h4 h5 h6 h7
  obtain ⟨d0, d1, d2, d3, d4, d5, d6, d7⟩ := hd
  refine lane8 ?_ ?_ ?_ ?_ ?_ ?_ ?_ ?_ <;>
    (apply BitVec.eq_of_toNat_eq; rw [BitVec.toNat_add, byteAt_nat])
  · rw [d0, Nat.mod_eq_of_lt h0]
  · rw [d1, Nat.mod_eq_of_lt h1]
  · rw [d2, Nat.mod_eq_of_lt h2]
  · rw [d3, Nat.mod_eq_of_lt h3]
  · rw [d4, Nat.mod_eq_of_lt h4]
  · rw [d5, Nat.mod_eq_of_lt h5]
  · rw [d6, Nat.mod_eq_of_lt h6]
  · rw [d7, Nat.mod_eq_of_lt h7]
theorem byteAt_sub (x y : BitVec 64) (h : ∀ n, n < 8 → (byteAt y n).toNat ≤ (byteAt x n).toNat) : ∀ n, n < 8 → byteAt (x - y) n = byteAt x n - byteAt y n := by
  have hs : ∃ z : BitVec 64, ∀ n, n < 8 → byteAt z n = byteAt x n - byteAt y n := by
    have c : ∀ n, (byteAt x n - byteAt y n).toNat < 256 := fun n => (byteAt x n - byteAt y n).isLt
    have c0 := c 0
    have c1 := c 1
    have c2 := c 2
    have c3 := c 3
    have c4 := c 4
    have c5 := c 5
    have c6 := c 6
    have c7 := c 7
    clear c
    refine ⟨BitVec.ofNat 64 ((byteAt x 0 - byteAt y 0).toNat + 256 * (byteAt x 1 - byteAt y 1).toNat + 65536 * (byteAt x 2 - byteAt y 2).toNat + 16777216 * (byteAt x 3 - byteAt y 3).toNat + 4294967296 * (byteAt x 4 - byteAt y 4).toNat + 1099511627776 * (byteAt x 5 - byteAt y 5).toNat + 281474976710656 * (byteAt x 6 - byteAt y 6).toNat + 72057594037927936 * (byteAt x 7 - byteAt y 7).toNat), ?_⟩
    have hz : (BitVec.ofNat 64 ((byteAt x 0 - byteAt y 0).toNat + 256 * (byteAt x 1 - byteAt y 1).toNat + 65536 * (byteAt x 2 - byteAt y 2).toNat + 16777216 * (byteAt x 3 - byteAt y 3).toNat + 4294967296 * (byteAt x 4 - byteAt y 4).toNat + 1099511627776 * (byteAt x 5 - byteAt y 5).toNat + 281474976710656 * (byteAt x 6 - byteAt y 6).toNat + 72057594037927936 * (byteAt x 7 - byteAt y 7).toNat)).toNat = (byteAt x 0 - byteAt y 0).toNat + 256 * (byteAt x 1 - byteAt y 1).toNat + 65536 * (byteAt x 2 - byteAt y 2).toNat + 16777216 * (byteAt x 3 - byteAt y 3).toNat + 4294967296 * (byteAt x 4 - byteAt y 4).toNat + 1099511627776 * (byteAt x 5 - byteAt y 5).toNat + 281474976710656 * (byteAt x 6 - byteAt y 6).toNat + 72057594037927936 * (byteAt x 7 - byteAt y 7).toNat := by
      rw [BitVec.toNat_ofNat]
      clear h
      generalize (byteAt x 0 - byteAt y 0).toNat = a0 at *
      generalize (byteAt x 1 - byteAt y 1).toNat = a1 at *
      generalize (byteAt x 2 - byteAt y 2).toNat = a2 at *
      generalize (byteAt x 3 - byteAt y 3).toNat = a3 at *
      generalize (byteAt x 4 - byteAt y 4).toNat = a4 at *
      generalize (byteAt x 5 - byteAt y 5).toNat = a5 at *
      generalize (byteAt x 6 - byteAt y 6).toNat = a6 at *
      generalize (byteAt x 7 - byteAt y 7).toNat = a7 at *
      exact Nat.mod_eq_of_lt (by omega)
    have hd := digits _ _ _ _ _ _ _ _ _ hz c0 c1 c2 c3 c4 c5 c6 c7
    obtain ⟨d0, d1, d2, d3, d4, d5, d6, d7⟩ := hd
    refine lane8 ?_ ?_ ?_ ?_ ?_ ?_ ?_ ?_ <;>
      (apply BitVec.eq_of_toNat_eq; rw [byteAt_nat])
    · rw [d0]
    · rw [d1]
    · rw [d2]
    · rw [d3]
    · rw [d4]
    · rw [d5]
    · rw [d6]
    · rw [d7]
  obtain ⟨z, hz⟩ := hs
  have hzy : z + y = x := by
    apply ext_bytes
    intro m hm
    rw [byteAt_add z y (fun k hk => by rw [hz k hk, BitVec.toNat_sub_of_le (BitVec.le_def.2 (h k hk))]; have := h k hk; have := (byteAt x k).isLt; omega) m hm, hz m hm]
    exact BitVec.sub_add_cancel _ _
  intro n hn
  have : x - y = z := by rw [← hzy]; exact BitVec.add_sub_cancel z y
  rw [this, hz n hn]
theorem nought_byte : ∀ a : BitVec 8, ~~~(((a &&& 127#8) + 127#8) ||| a ||| 127#8) = if a = 0#8 then 128#8 else 0#8 := by decide +kernel
theorem byte_small : ∀ a : BitVec 8, (a &&& 127#8).toNat + (127#8 : BitVec 8).toNat < 256 := by decide +kernel
theorem byteAt_noughts (x : BitVec 64) (n : Nat) (h : n < 8) : byteAt (noughts x) n = if byteAt x n = 0#8 then 128#8 else 0#8 := by
  unfold noughts
  rw [byteAt_not _ _ h, byteAt_or, byteAt_or, byteAt_add _ _ (fun k hk => by rw [byteAt_and, byteAt_lows k hk]; exact byte_small _) n h, byteAt_and, byteAt_lows n h]
  exact nought_byte _
theorem gath : ∀ t0 t1 t2 t3 t4 t5 t6 t7 : Bool, gathered (BitVec.ofNat 64 (128 * t0.toNat + 256 * (128 * t1.toNat) + 65536 * (128 * t2.toNat) + 16777216 * (128 * t3.toNat) + 4294967296 * (128 * t4.toNat) + 1099511627776 * (128 * t5.toNat) + 281474976710656 * (128 * t6.toNat) + 72057594037927936 * (128 * t7.toNat))) = BitVec.ofNat 8 (t0.toNat + 2 * t1.toNat + 4 * t2.toNat + 8 * t3.toNat + 16 * t4.toNat + 32 * t5.toNat + 64 * t6.toNat + 128 * t7.toNat) := by decide +kernel
theorem gath_bits : ∀ t0 t1 t2 t3 t4 t5 t6 t7 : Bool, (BitVec.ofNat 8 (t0.toNat + 2 * t1.toNat + 4 * t2.toNat + 8 * t3.toNat + 16 * t4.toNat + 32 * t5.toNat + 64 * t6.toNat + 128 * t7.toNat)).getLsbD 0 = t0 ∧
  (BitVec.ofNat 8 (t0.toNat + 2 * t1.toNat + 4 * t2.toNat + 8 * t3.toNat + 16 * t4.toNat + 32 * t5.toNat + 64 * t6.toNat + 128 * t7.toNat)).getLsbD 1 = t1 ∧
  (BitVec.ofNat 8 (t0.toNat + 2 * t1.toNat + 4 * t2.toNat + 8 * t3.toNat + 16 * t4.toNat + 32 * t5.toNat + 64 * t6.toNat + 128 * t7.toNat)).getLsbD 2 = t2 ∧
  (BitVec.ofNat 8 (t0.toNat + 2 * t1.toNat + 4 * t2.toNat + 8 * t3.toNat + 16 * t4.toNat + 32 * t5.toNat + 64 * t6.toNat + 128 * t7.toNat)).getLsbD 3 = t3 ∧
  (BitVec.ofNat 8 (t0.toNat + 2 * t1.toNat + 4 * t2.toNat + 8 * t3.toNat + 16 * t4.toNat + 32 * t5.toNat + 64 * t6.toNat + 128 * t7.toNat)).getLsbD 4 = t4 ∧
  (BitVec.ofNat 8 (t0.toNat + 2 * t1.toNat + 4 * t2.toNat + 8 * t3.toNat + 16 * t4.toNat + 32 * t5.toNat + 64 * t6.toNat + 128 * t7.toNat)).getLsbD 5 = t5 ∧
  (BitVec.ofNat 8 (t0.toNat + 2 * t1.toNat + 4 * t2.toNat + 8 * t3.toNat + 16 * t4.toNat + 32 * t5.toNat + 64 * t6.toNat + 128 * t7.toNat)).getLsbD 6 = t6 ∧
  (BitVec.ofNat 8 (t0.toNat + 2 * t1.toNat + 4 * t2.toNat + 8 * t3.toNat + 16 * t4.toNat + 32 * t5.toNat + 64 * t6.toNat + 128 * t7.toNat)).getLsbD 7 = t7 := by decide +kernel
theorem gathered_bit (y : BitVec 64) (p : Nat → Bool) (h : ∀ n, n < 8 → byteAt y n = if p n then 128#8 else 0#8) : ∀ n, n < 8 → (gathered y).getLsbD n = p n := by
  have hb : ∀ n, n < 8 → (byteAt y n).toNat = 128 * (p n).toNat := fun n hn => by rw [h n hn]; cases p n <;> rfl
  have hy : y = BitVec.ofNat 64 (128 * (p 0).toNat + 256 * (128 * (p 1).toNat) + 65536 * (128 * (p 2).toNat) + 16777216 * (128 * (p 3).toNat) + 4294967296 * (128 * (p 4).toNat) + 1099511627776 * (128 * (p 5).toNat) + 281474976710656 * (128 * (p 6).toNat) + 72057594037927936 * (128 * (p 7).toNat)) := by
    apply BitVec.eq_of_toNat_eq
    have hs := sum_bytes y
    rw [hb 0 (by omega), hb 1 (by omega), hb 2 (by omega), hb 3 (by omega), hb 4 (by omega), hb 5 (by omega), hb 6 (by omega), hb 7 (by omega)] at hs
    rw [← hs, BitVec.toNat_ofNat, Nat.mod_eq_of_lt y.isLt]
  rw [hy, gath]
  obtain ⟨h0, h1, h2, h3, h4, h5, h6, h7⟩ := gath_bits (p 0) (p 1) (p 2) (p 3) (p 4) (p 5) (p 6) (p 7)
  exact lane8 h0 h1 h2 h3 h4 h5 h6 h7
theorem equalM_bit (w : BitVec 64) (b : BitVec 8) (n : Nat) (h : n < 8) : (equalM w b).getLsbD n = (byteAt w n == b) := by
  unfold equalM alike
  refine gathered_bit _ (fun n => byteAt w n == b) (fun m hm => ?_) n h
  rw [byteAt_noughts _ _ hm, byteAt_xor, byteAt_fill _ _ hm]
  by_cases he : byteAt w m = b
  · simp [he]
  · have : byteAt w m ^^^ b ≠ 0#8 := fun h => he (BitVec.xor_eq_zero_iff.1 h)
    simp [he, this]
theorem less_byte : ∀ a : BitVec 8, ((~~~a &&& 128#8 &&& 128#8) ||| (~~~(a ^^^ 128#8) &&& (~~~((a ||| 128#8) - (128#8 &&& 127#8)) &&& 128#8))) = if decide (a.toNat < 128) then 128#8 else 0#8 := by decide +kernel
theorem less_small : ∀ a : BitVec 8, ((128#8 : BitVec 8) &&& 127#8).toNat ≤ (a ||| 128#8).toNat := by decide +kernel
theorem fullM_bit (w : BitVec 64) (n : Nat) (h : n < 8) : (fullM w).getLsbD n = decide ((byteAt w n).toNat < 128) := by
  unfold fullM belowM
  refine gathered_bit _ (fun n => decide ((byteAt w n).toNat < 128)) (fun m hm => ?_) n h
  unfold lessM
  rw [byteAt_or, byteAt_and, byteAt_and, byteAt_and, byteAt_and, byteAt_not _ _ hm, byteAt_not _ _ hm, byteAt_not _ _ hm, byteAt_xor, byteAt_fill _ _ hm, byteAt_tops _ hm,
    byteAt_sub _ _ (fun k hk => by rw [byteAt_and, byteAt_or, byteAt_fill _ _ hk, byteAt_tops _ hk, byteAt_lows _ hk]; exact less_small _) m hm, byteAt_or, byteAt_and, byteAt_fill _ _ hm, byteAt_tops _ hm, byteAt_lows _ hm]
  exact less_byte _
theorem emptyM_bit (w : BitVec 64) (n : Nat) (h : n < 8) : (emptyM w).getLsbD n = (byteAt w n == 128#8) := equalM_bit w _ n h
theorem delM_bit (w : BitVec 64) (n : Nat) (h : n < 8) : (delM w).getLsbD n = (byteAt w n == 254#8) := equalM_bit w _ n h
theorem byteAt_withB (x : BitVec 64) (n m : Nat) (b : BitVec 8) (hn : n < 8) (hm : m < 8) : byteAt (withB x n b) m = if m = n then b else byteAt x m := by
  apply BitVec.eq_of_getLsbD_eq
  intro i hi
  have h255 : ∀ j : Nat, (255#64).getLsbD j = decide (j < 8) := by
    intro j
    by_cases hj : j < 64
    · have : ∀ j, j < 64 → (255#64).getLsbD j = decide (j < 8) := by decide +kernel
      exact this j hj
    · rw [BitVec.getLsbD_of_ge _ _ (by omega)]; simp; omega
  simp only [byteAt, withB, BitVec.getLsbD_setWidth, BitVec.getLsbD_ushiftRight, BitVec.getLsbD_or, BitVec.getLsbD_and, BitVec.getLsbD_not, BitVec.getLsbD_shiftLeft, h255, hi, decide_true, Bool.true_and]
  rcases Nat.lt_trichotomy m n with hlt | rfl | hgt
  · rw [if_neg (by omega)]
    have h1 : 8 * m + i < 8 * n := by omega
    have h2 : 8 * m + i < 64 := by omega
    simp [h1, h2, BitVec.getLsbD_ushiftRight, hi]
  · rw [if_pos rfl]
    have h1 : ¬ 8 * m + i < 8 * m := by omega
    have h2 : 8 * m + i < 64 := by omega
    have h3 : 8 * m + i - 8 * m = i := by omega
    have h4 : i < 64 := by omega
    simp [decide_eq_false h1, h3, hi, h4, h2]
  · rw [if_neg (by omega)]
    have h1 : ¬ 8 * m + i < 8 * n := by omega
    have h2 : 8 * m + i < 64 := by omega
    have h3 : ¬ 8 * m + i - 8 * n < 8 := by omega
    have h4 : b.getLsbD (8 * m + i - 8 * n) = false := BitVec.getLsbD_of_ge _ _ (by omega)
    simp [h1, h2, h3, h4, BitVec.getLsbD_ushiftRight, hi]
theorem ctrlOk_iff (c : BitVec 64) : ctrlOk c = true ↔ ∀ n, n < 8 → (byteAt c n).toNat < 128 ∨ byteAt c n = 128#8 ∨ byteAt c n = 254#8 := by
  unfold ctrlOk
  rw [beq_iff_eq]
  constructor
  · intro h n hn
    have : (fullM c ||| emptyM c ||| delM c).getLsbD n = true := by
      rw [h]; have : ∀ n, n < 8 → (255#8).getLsbD n = true := by decide +kernel
      exact this n hn
    rw [BitVec.getLsbD_or, BitVec.getLsbD_or, fullM_bit c n hn, emptyM_bit c n hn, delM_bit c n hn] at this
    simp only [Bool.or_eq_true, decide_eq_true_eq, beq_iff_eq] at this
    rcases this with (h | h) | h
    · exact .inl h
    · exact .inr (.inl h)
    · exact .inr (.inr h)
  · intro h
    apply BitVec.eq_of_getLsbD_eq
    intro n hn
    rw [BitVec.getLsbD_or, BitVec.getLsbD_or, fullM_bit c n hn, emptyM_bit c n hn, delM_bit c n hn]
    have h255 : ∀ n, n < 8 → (255#8).getLsbD n = true := by decide +kernel
    rw [h255 n hn]
    rcases h n hn with h | h | h <;> simp [h]
end Go.Proofs.Hc
namespace Go.Proofs.Hc
open Go.RowKit
def bt (t : Tab) (j : Nat) : BitVec 8 := byteAt (t.c (j / 8)) (j % 8)
def fullJ (t : Tab) (j : Nat) : Bool := decide ((bt t j).toNat < 128)
def fillJ (t : Tab) (j : Nat) : Bool := bt t j != 128#8
@[irreducible] def nFull (t : Tab) : Nat := (List.range 16).countP (fullJ t)
@[irreducible] def nFill (t : Tab) : Nat := (List.range 16).countP (fillJ t)
theorem bt_at (t : Tab) (g x : Nat) (hx : x < 8) : bt t (8 * g + x) = byteAt (t.c g) x := by
  unfold bt
  rw [show (8 * g + x) / 8 = g by omega, show (8 * g + x) % 8 = x by omega]
theorem range16 : List.range 16 = (List.range 8).map (fun x => 8 * 0 + x) ++ (List.range 8).map (fun x => 8 * 1 + x) := by decide
theorem slotsOf_eq (t : Tab) (g : Nat) : slotsOf t g = (((List.range 8).map fun x => 8 * g + x).filter (fullJ t)).map fun j => (j, j / 8) := by
  unfold slotsOf lanesOf
  rw [List.filter_map, List.map_map]
  have h : (List.range 8).filter (fun i => (fullM (t.c g)).getLsbD i) = (List.range 8).filter (fullJ t ∘ fun x => 8 * g + x) := by
    apply List.filter_congr
    intro x hx
    have hx8 : x < 8 := by simpa using hx
    rw [fullM_bit _ _ hx8, Function.comp_apply, fullJ, bt_at t g x hx8]
  rw [h]
  apply List.map_congr_left
  intro x hx
  have hx8 : x < 8 := by simpa using (List.mem_filter.1 hx).1
  show (8 * g + x, g) = (8 * g + x, (8 * g + x) / 8)
  rw [show (8 * g + x) / 8 = g by omega]
theorem slotsT_eq (t : Tab) : slotsT t = ((List.range 16).filter (fullJ t)).map fun j => (j, j / 8) := by
  unfold slotsT
  rw [slotsOf_eq, slotsOf_eq, range16, List.filter_append, List.map_append]
theorem slotsT_len (t : Tab) : (slotsT t).length = nFull t := by
  rw [slotsT_eq, List.length_map, nFull, List.countP_eq_length_filter]
theorem mem_slotsT (t : Tab) (x : Nat × Nat) : x ∈ slotsT t ↔ x.1 < 16 ∧ fullJ t x.1 = true ∧ x.2 = x.1 / 8 := by
  rw [slotsT_eq, List.mem_map]
  constructor
  · rintro ⟨j, hj, rfl⟩
    obtain ⟨h1, h2⟩ := List.mem_filter.1 hj
    exact ⟨by simpa using h1, h2, rfl⟩
  · rintro ⟨h1, h2, h3⟩
    exact ⟨x.1, List.mem_filter.2 ⟨by simpa using h1, h2⟩, by rw [← h3]⟩
theorem ok_iff (t : Tab) : (ctrlOk (t.c 0) && ctrlOk (t.c 1)) = true ↔ ∀ j, j < 16 → (bt t j).toNat < 128 ∨ bt t j = 128#8 ∨ bt t j = 254#8 := by
  rw [Bool.and_eq_true, ctrlOk_iff, ctrlOk_iff]
  constructor
  · rintro ⟨h0, h1⟩ j hj
    unfold bt
    rcases Nat.lt_or_ge j 8 with h | h
    · rw [show j / 8 = 0 by omega]; exact h0 _ (by omega)
    · rw [show j / 8 = 1 by omega]; exact h1 _ (by omega)
  · intro h
    constructor
    · intro n hn; have := h (8 * 0 + n) (by omega); rwa [bt_at t 0 n hn] at this
    · intro n hn; have := h (8 * 1 + n) (by omega); rwa [bt_at t 1 n hn] at this
theorem filledL_eq (t : Tab) (g : Nat) (h : ctrlOk (t.c g) = true) : filledL (t.c g) = ((List.range 8).map fun x => 8 * g + x).countP (fillJ t) := by
  unfold filledL lanesOf
  rw [List.countP_map, List.countP_eq_length_filter]
  congr 1
  apply List.filter_congr
  intro x hx
  have hx8 : x < 8 := by simpa using hx
  rw [BitVec.getLsbD_or, fullM_bit _ _ hx8, delM_bit _ _ hx8, Function.comp_apply, fillJ, bt_at t g x hx8]
  rcases (ctrlOk_iff _).1 h x hx8 with h1 | h1 | h1
  · rw [decide_eq_true h1, Bool.true_or]
    have : byteAt (t.c g) x ≠ 128#8 := by intro e; rw [e] at h1; exact absurd h1 (by decide)
    simp [this]
  · rw [h1]; decide
  · rw [h1]; decide
theorem filled_eq (t : Tab) (h : (ctrlOk (t.c 0) && ctrlOk (t.c 1)) = true) : filledL (t.c 0) + filledL (t.c 1) = nFill t := by
  rw [Bool.and_eq_true] at h
  rw [filledL_eq t 0 h.1, filledL_eq t 1 h.2, nFill, range16, List.countP_append]
theorem slotOk_iff (t : Tab) (s : BitVec 64) (x : Nat × Nat) (hx : x.2 = x.1 / 8) : slotOk t s x = true ↔
    bt t x.1 = hash2 (hashOf s (t.k x.1)) ∧ hasT t (hashOf s (t.k x.1)) = true ∧ x.1 / 8 ∈ rowT t s (t.k x.1) := by
  unfold slotOk bt
  rw [Bool.and_eq_true, Bool.and_eq_true, beq_iff_eq, decide_eq_true_iff, hx]
theorem goodAll_iff (t : Tab) (s : BitVec 64) : ∀ (l : List (Nat × Nat)) (seen : List (BitVec 64)), goodAll t s seen l = true ↔
    (∀ x ∈ l, slotOk t s x = true) ∧ (∀ x ∈ l, t.k x.1 ∉ seen) ∧ (l.map fun x => t.k x.1).Nodup
  | [], seen => by simp [goodAll]
  | x :: l, seen => by
    rw [goodAll, Bool.and_eq_true, Bool.and_eq_true, goodAll_iff t s l, List.map_cons, List.nodup_cons]
    simp only [Bool.not_eq_true', List.mem_cons, forall_eq_or_imp, List.contains_eq_mem, decide_eq_false_iff_not, not_or, List.mem_map, not_exists, not_and]
    constructor
    · rintro ⟨⟨h1, h2⟩, h3, h4, h5⟩
      exact ⟨⟨h2, h3⟩, ⟨h1, fun y hy => (h4 y hy).2⟩, fun y hy => (h4 y hy).1, h5⟩
    · rintro ⟨⟨h2, h3⟩, ⟨h1, h4⟩, h6, h5⟩
      exact ⟨⟨h1, h2⟩, h3, fun y hy => ⟨h6 y hy, h4 y hy⟩, h5⟩
structure May (t : Tab) (s : BitVec 64) : Prop where
  flat : flatT t = true
  ok : ∀ j, j < 16 → (bt t j).toNat < 128 ∨ bt t j = 128#8 ∨ bt t j = 254#8
  slot : ∀ j, j < 16 → fullJ t j = true → bt t j = hash2 (hashOf s (t.k j)) ∧ hasT t (hashOf s (t.k j)) = true ∧ j / 8 ∈ rowT t s (t.k j)
  inj : ∀ i j, i < 16 → j < 16 → fullJ t i = true → fullJ t j = true → t.k i = t.k j → i = j
  live : t.live = (nFull t : Int)
  can : t.can = 14 - (nFill t : Int)
theorem nodup_filter_map {α : Type} [DecidableEq α] (p : Nat → Bool) (f : Nat → α) (n : Nat) : ((((List.range n).filter p).map f).Nodup) ↔ ∀ i j, i < n → j < n → p i = true → p j = true → f i = f j → i = j := by
  rw [List.Nodup, List.pairwise_map]
  constructor
  · intro h i j hi hj hpi hpj he
    have h2 : ((List.range n).filter p).Pairwise (fun a b => a ≠ b → f a ≠ f b) := List.Pairwise.imp (S := fun a b => a ≠ b → f a ≠ f b) (fun hab _ => hab) h
    have h3 : ((List.range n).filter p).Pairwise (flip fun a b => a ≠ b → f a ≠ f b) := List.Pairwise.imp (S := flip fun a b => a ≠ b → f a ≠ f b) (fun hab _ e => hab e.symm) h
    have hmi : i ∈ (List.range n).filter p := List.mem_filter.2 ⟨by simpa using hi, hpi⟩
    have hmj : j ∈ (List.range n).filter p := List.mem_filter.2 ⟨by simpa using hj, hpj⟩
    rcases Nat.lt_trichotomy i j with hlt | he | hlt
    · exact absurd he (List.Pairwise.forall_of_forall_of_flip (R := fun a b => a ≠ b → f a ≠ f b) (fun x _ h => absurd rfl h) h2 h3 hmi hmj (by omega))
    · exact he
    · exact absurd he (List.Pairwise.forall_of_forall_of_flip (R := fun a b => a ≠ b → f a ≠ f b) (fun x _ h => absurd rfl h) h2 h3 hmi hmj (by omega))
  · intro h
    refine List.Pairwise.imp_of_mem (R := fun a b => a < b) (fun {a b} ha hb hab he => ?_) ((List.pairwise_lt_range (n := n)).filter _)
    have h1 := List.mem_filter.1 ha
    have h2 := List.mem_filter.1 hb
    have := h a b (by simpa using h1.1) (by simpa using h2.1) h1.2 h2.2 he
    omega
theorem may_iff (t : Tab) (s : BitVec 64) : mayT t s = true ↔ May t s := by
  have hok := ok_iff t
  have hfl := filled_eq t
  rw [mayT]
  generalize (ctrlOk (t.c 0) && ctrlOk (t.c 1)) = co at *
  simp only [Bool.and_eq_true, beq_iff_eq]
  rw [goodAll_iff, slotsT_len]
  have hnd : ((slotsT t).map fun x => t.k x.1).Nodup ↔ ∀ i j, i < 16 → j < 16 → fullJ t i = true → fullJ t j = true → t.k i = t.k j → i = j := by
    rw [slotsT_eq, List.map_map]
    exact nodup_filter_map (fullJ t) t.k 16
  rw [hnd]
  constructor
  · rintro ⟨⟨⟨⟨h1, h2⟩, h3, -, h4⟩, h5⟩, h6⟩
    refine ⟨h1, hok.1 h2, fun j hj hf => ?_, h4, h5, ?_⟩
    · exact (slotOk_iff t s (j, j / 8) rfl).1 (h3 (j, j / 8) ((mem_slotsT t _).2 ⟨hj, hf, rfl⟩))
    · rw [← hfl h2]; exact h6
  · rintro ⟨h1, h2, h3, h4, h5, h6⟩
    have h2' := hok.2 h2
    refine ⟨⟨⟨⟨h1, h2'⟩, fun x hx => ?_, fun x _ => by simp, h4⟩, h5⟩, ?_⟩
    · obtain ⟨a, b, c⟩ := (mem_slotsT t x).1 hx
      exact (slotOk_iff t s x c).2 (h3 x.1 a b)
    · rw [hfl h2']; exact h6
def hasE (t : Tab) (g : Nat) : Bool := emptyM (t.c g) != 0#8
theorem mask_ne (m : BitVec 8) : (m != 0#8) = true ↔ ∃ x, x < 8 ∧ m.getLsbD x = true := by
  rw [bne_iff_ne]
  constructor
  · intro h
    apply Classical.byContradiction
    intro hn
    apply h
    apply BitVec.eq_of_getLsbD_eq
    intro i hi
    rw [BitVec.getLsbD_zero]
    cases hb : m.getLsbD i with
    | false => rfl
    | true => exact absurd ⟨i, hi, hb⟩ hn
  · rintro ⟨x, _, hx⟩ rfl
    rw [BitVec.getLsbD_zero] at hx; cases hx
theorem hasE_iff (t : Tab) (g : Nat) : hasE t g = true ↔ ∃ x, x < 8 ∧ bt t (8 * g + x) = 128#8 := by
  rw [hasE, mask_ne]
  constructor
  · rintro ⟨x, hx, h⟩; rw [emptyM_bit _ _ hx, beq_iff_eq] at h; exact ⟨x, hx, by rw [bt_at t g x hx]; exact h⟩
  · rintro ⟨x, hx, h⟩; rw [bt_at t g x hx] at h; exact ⟨x, hx, by rw [emptyM_bit _ _ hx, beq_iff_eq]; exact h⟩
theorem gOf_lt (s k : BitVec 64) : gOf s k < 2 := g0_lt _
theorem mem_row (t : Tab) (s k : BitVec 64) (g : Nat) : g ∈ rowT t s k ↔ g = gOf s k ∨ (hasE t (gOf s k) = false ∧ g = 1 - gOf s k) := by
  rw [rowT, ← hasE]
  cases hasE t (gOf s k) <;> simp
theorem row_mono {t t' : Tab} {s k : BitVec 64} {g : Nat} (h : ∀ i, i < 2 → hasE t' i = true → hasE t i = true) (hg : g ∈ rowT t s k) : g ∈ rowT t' s k := by
  rw [mem_row] at hg ⊢
  rcases hg with h1 | ⟨h1, h2⟩
  · exact .inl h1
  · refine .inr ⟨?_, h2⟩
    cases h3 : hasE t' (gOf s k) with
    | false => rfl
    | true => rw [h _ (gOf_lt s k) h3] at h1; cases h1
theorem hasKT_iff (t : Tab) (k : BitVec 64) : hasKT t k = true ↔ ∃ j, j < 16 ∧ fullJ t j = true ∧ t.k j = k := by
  rw [hasKT, List.any_eq_true]
  constructor
  · rintro ⟨x, hx, h⟩
    obtain ⟨a, b, c⟩ := (mem_slotsT t x).1 hx
    exact ⟨x.1, a, b, by simpa using h⟩
  · rintro ⟨j, hj, hf, h⟩
    exact ⟨(j, j / 8), (mem_slotsT t _).2 ⟨hj, hf, rfl⟩, by simpa using h⟩
theorem mem_pairs (t : Tab) (p : BitVec 64 × BitVec 64) : p ∈ pairsT t ↔ ∃ j, j < 16 ∧ fullJ t j = true ∧ p = (t.k j, t.v j) := by
  rw [pairsT, List.mem_map]
  constructor
  · rintro ⟨x, hx, rfl⟩
    obtain ⟨a, b, c⟩ := (mem_slotsT t x).1 hx
    exact ⟨x.1, a, b, rfl⟩
  · rintro ⟨j, hj, hf, rfl⟩
    exact ⟨(j, j / 8), (mem_slotsT t _).2 ⟨hj, hf, rfl⟩, rfl⟩
theorem pairs_len (t : Tab) : (pairsT t).length = nFull t := by rw [pairsT, List.length_map, slotsT_len]
theorem May.len {t : Tab} {s : BitVec 64} (h : May t s) : ((pairsT t).length : Int) = t.live := by rw [pairs_len, h.live]
theorem May.keys {t : Tab} {s : BitVec 64} (h : May t s) : ((pairsT t).map (·.1)).Nodup := by
  rw [pairsT, slotsT_eq, List.map_map, List.map_map]
  exact (nodup_filter_map (fullJ t) t.k 16).2 h.inj
theorem full_lt {t : Tab} {j : Nat} (h : fullJ t j = true) : (bt t j).toNat < 128 := by simpa [fullJ] using h
theorem full_fill {t : Tab} {j : Nat} (h : fullJ t j = true) : fillJ t j = true := by
  have := full_lt h
  rw [fillJ, bne_iff_ne]
  intro e
  rw [e] at this
  exact absurd this (by decide)
theorem nFull_le (t : Tab) : nFull t ≤ nFill t := by
  unfold nFull nFill
  exact List.countP_mono_left fun _ _ h => full_fill h
theorem countP_upd (p q : Nat → Bool) (sl : Nat) : ∀ n, (∀ j, j ≠ sl → q j = p j) → (List.range n).countP q + (if sl < n ∧ p sl = true then 1 else 0) = (List.range n).countP p + (if sl < n ∧ q sl = true then 1 else 0)
  | 0, _ => by simp
  | n + 1, h => by
    have ih := countP_upd p q sl n h
    rw [List.range_succ, List.countP_append, List.countP_append, List.countP_singleton, List.countP_singleton]
    by_cases hn : sl = n
    · subst hn
      simp only [Nat.lt_irrefl, false_and, if_false] at ih
      simp only [Nat.lt_succ_self, true_and]
      omega
    · rw [h n (fun e => hn e.symm)]
      have e : sl < n + 1 ↔ sl < n := by omega
      simp only [e]
      omega
end Go.Proofs.Hc
