/- PURE: hashes of different keys differ; with how few bits no prefix is had by too many. -/
import Derived.Test.YtfoicjijngfhbaaDoorKHzHaHb
set_option linter.unusedSimpArgs false
set_option linter.unusedVariables false
namespace Go.Proofs.Hc
theorem mixF32_inj {x y : BitVec 64} (h : mixF x 32 = mixF y 32) : x = y := by
  have k : ∀ z : BitVec 64, mixF z 32 ^^^ (mixF z 32 >>> 32) = z := fun z => by
    unfold mixF
    rw [BitVec.ushiftRight_xor_distrib, ← BitVec.shiftRight_add, BitVec.ushiftRight_eq_zero (show 64 ≤ 32 + 32 by omega), BitVec.xor_zero, BitVec.xor_assoc, BitVec.xor_self, BitVec.xor_zero]
  rw [← k x, ← k y, h]
theorem mixF29_inj {x y : BitVec 64} (h : mixF x 29 = mixF y 29) : x = y := by
  have k : ∀ z : BitVec 64, mixF z 29 ^^^ ((mixF z 29 >>> 29) ^^^ (mixF z 29 >>> 58)) = z := fun z => by
    have e1 : mixF z 29 >>> 29 = z >>> 29 ^^^ z >>> 58 := by
      unfold mixF
      rw [BitVec.ushiftRight_xor_distrib, ← BitVec.shiftRight_add]
    have e2 : mixF z 29 >>> 58 = z >>> 58 := by
      unfold mixF
      rw [BitVec.ushiftRight_xor_distrib, ← BitVec.shiftRight_add, BitVec.ushiftRight_eq_zero (show 64 ≤ 29 + 58 by omega), BitVec.xor_zero]
    rw [e1, e2, BitVec.xor_assoc (z >>> 29), BitVec.xor_self, BitVec.xor_zero]
    unfold mixF
    rw [BitVec.xor_assoc, BitVec.xor_self, BitVec.xor_zero]
  rw [← k x, ← k y, h]
theorem mul_odd {c c' x y : BitVec 64} (hc : c * c' = 1#64) (h : x * c = y * c) : x = y := by
  rw [← BitVec.mul_one x, ← BitVec.mul_one y, ← hc, ← BitVec.mul_assoc, ← BitVec.mul_assoc, h]
theorem hashOf_inj (s : BitVec 64) {x y : BitVec 64} (h : hashOf s x = hashOf s y) : x = y := by
  have h1 := mul_odd (c' := 0x319642b2d24d8ec3#64) (by decide) (mixF29_inj h)
  have h2 := mul_odd (c' := 0x96de1b173f119089#64) (by decide) (mixF32_inj h1)
  have h3 := congrArg (fun z => z ^^^ s) h2
  simpa [BitVec.xor_assoc] using h3
def prefW (n : Nat) (h : BitVec 64) : BitVec 64 := h >>> (64 - n)
/-- How many of the hashes have this prefix of n bits. -/
def crowdF (n : Nat) (hs : List (BitVec 64)) (p : BitVec 64) : Int := ((hs.filter fun h => prefW n h == p).length : Nat)
theorem crowdF_nil (n : Nat) : crowdF n [] = fun _ => 0 := rfl
theorem crowdF_snoc (n : Nat) (hs : List (BitVec 64)) (h : BitVec 64) : crowdF n (hs ++ [h]) = fun p => if p = prefW n h then crowdF n hs (prefW n h) + 1 else crowdF n hs p := by
  funext p
  unfold crowdF
  rw [List.filter_append]
  by_cases hp : p = prefW n h
  · subst hp
    simp
  · have : (prefW n h == p) = false := by simpa using fun e => hp e.symm
    simp [this, hp]
theorem crowdF_le (n : Nat) (hs : List (BitVec 64)) (p : BitVec 64) : 0 ≤ crowdF n hs p ∧ crowdF n hs p ≤ hs.length := ⟨by unfold crowdF; omega, by unfold crowdF; exact_mod_cast List.length_filter_le _ _⟩
/-- Is no prefix of n bits had by more than m of the hashes? -/
def fitsN (m : Nat) (hs : List (BitVec 64)) (n : Nat) : Bool := hs.all fun h => decide (crowdF n hs (prefW n h) ≤ m)
theorem fits_iff (m : Nat) (hs : List (BitVec 64)) (n : Nat) : fitsN m hs n = true ↔ ∀ p, crowdF n hs p ≤ m := by
  unfold fitsN
  rw [List.all_eq_true]
  constructor
  · intro h p
    by_cases h0 : crowdF n hs p = 0
    · rw [h0]; omega
    · have h1 : (hs.filter fun h => prefW n h == p) ≠ [] := fun e => h0 (by unfold crowdF; rw [e]; rfl)
      obtain ⟨x, hx⟩ := List.exists_mem_of_ne_nil _ h1
      obtain ⟨hx1, hx2⟩ := List.mem_filter.1 hx
      have := of_decide_eq_true (h x hx1)
      rwa [show prefW n x = p by simpa using hx2] at this
  · intro h x _
    exact decide_eq_true (h _)
theorem nodup_filter_eq {l : List (BitVec 64)} (h : l.Nodup) (p : BitVec 64) : (l.filter fun x => x == p).length ≤ 1 := by
  have : (l.filter fun x => x == p).length = l.count p := by
    rw [List.count_eq_countP, List.countP_eq_length_filter]
  rw [this]
  exact List.nodup_iff_count.1 h p
theorem fits_all (m : Nat) (hm : 1 ≤ m) (hs : List (BitVec 64)) (h : hs.Nodup) : fitsN m hs 64 = true := by
  rw [fits_iff]
  intro p
  have : ∀ x : BitVec 64, prefW 64 x = x := fun x => by unfold prefW; simp
  unfold crowdF
  simp only [this]
  have := nodup_filter_eq h p
  omega
/-- The first number of bits from n on, of so many, at which they fit. -/
def deepF (m : Nat) (hs : List (BitVec 64)) : Nat → Nat → Nat
  | 0, n => n
  | f + 1, n => if fitsN m hs n then n else deepF m hs f (n + 1)
def deepN (m : Nat) (hs : List (BitVec 64)) : Nat := deepF m hs 64 0
theorem deepF_yes (m : Nat) (hs : List (BitVec 64)) (f n : Nat) (h : fitsN m hs n = true) : deepF m hs f n = n := by
  cases f with
  | zero => rfl
  | succ f => rw [deepF, if_pos h]
theorem deepF_no (m : Nat) (hs : List (BitVec 64)) (n : Nat) (hn : n < 64) (h : fitsN m hs n = false) : deepF m hs (64 - n) n = deepF m hs (64 - (n + 1)) (n + 1) := by
  rw [show 64 - n = (64 - (n + 1)) + 1 by omega, deepF, if_neg (by rw [h]; decide)]
theorem deepF_le (m : Nat) (hs : List (BitVec 64)) : ∀ f n, deepF m hs f n ≤ n + f
  | 0, n => by rw [deepF]; omega
  | f + 1, n => by
    rw [deepF]
    have := deepF_le m hs f (n + 1)
    split <;> omega
theorem hashes_nodup (s : BitVec 64) {ks : List (BitVec 64)} (h : ks.Nodup) : (ks.map (hashOf s)).Nodup := by
  rw [List.Nodup, List.pairwise_map]
  exact h.imp fun hab e => hab (hashOf_inj s e)
end Go.Proofs.Hc
