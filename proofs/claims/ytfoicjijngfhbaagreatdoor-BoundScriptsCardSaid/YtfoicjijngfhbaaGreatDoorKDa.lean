/- Words of 64 and of 8 bits as bit vectors: the walk's integer operations on them. -/
import Derived.Test.YtfoicjijngfhbaaGreatDoorKHm
import Derived.Below
import Derived.BigQuiet
import Derived.Deep.Draws
import Derived.Deep.QuietTactic
import Derived.Lib.Hide
import Derived.RangeFuncRecord
import Derived.Test.YtfoicjijngfhbaaGreatDoorProg
import Derived.WalkKit
import Derived.Deep.Cut
import Derived.Deep.RegionHeld
import Derived.Laws.CopyRow
import Derived.Laws.Tables
import Derived.LoopIn
import Derived.LoopNIn
import Derived.OwnWalkIn
import Derived.RangeFuncCalls
import Derived.RangeFuncSeq
import Derived.Recover
import Derived.Sort.Defs
import Derived.TacticsInMore
import Derived.WalkLawsBesides
set_option linter.unusedSimpArgs false
set_option linter.unusedVariables false
namespace Go.Proofs.Hc
open Go.RowKit
/-- A bit vector's number, closed to the walk's simp. -/
def N {k : Nat} (b : BitVec k) : Int := (b.toNat : Int)
/-- A word of 64 bits, a byte, an int: as values. -/
abbrev U (b : BitVec 64) : Value := .int .u64 (N b)
abbrev Y (b : BitVec 8) : Value := .int .u8 (N b)
abbrev I (n : Int) : Value := .int .i64 n
theorem N_nonneg {k : Nat} (b : BitVec k) : 0 ≤ N b := Int.natCast_nonneg _
theorem N_inj {k : Nat} (a b : BitVec k) : N a = N b ↔ a = b := by
  unfold N; rw [Int.natCast_inj, BitVec.toNat_inj]
theorem ofInt_N {k : Nat} (b : BitVec k) : BitVec.ofInt k (N b) = b := by
  unfold N; rw [BitVec.ofInt_natCast]; simp
theorem wrap_u64 (n : Int) : IntKind.u64.wrap n = N (BitVec.ofInt 64 n) := by
  unfold N; simp [IntKind.wrap, IntKind.bits, IntKind.signed, BitVec.toNat_ofInt]; omega
theorem wrap_u8 (n : Int) : IntKind.u8.wrap n = N (BitVec.ofInt 8 n) := by
  unfold N; simp [IntKind.wrap, IntKind.bits, IntKind.signed, BitVec.toNat_ofInt]; omega
theorem bits_xor64 (x y : Int) : bits .xor .u64 x y = N (BitVec.ofInt 64 x ^^^ BitVec.ofInt 64 y) := by
  show IntKind.u64.wrap (N (BitVec.ofInt 64 x ^^^ BitVec.ofInt 64 y)) = _
  rw [wrap_u64, ofInt_N]
theorem bits_and64 (x y : Int) : bits .and .u64 x y = N (BitVec.ofInt 64 x &&& BitVec.ofInt 64 y) := by
  show IntKind.u64.wrap (N (BitVec.ofInt 64 x &&& BitVec.ofInt 64 y)) = _
  rw [wrap_u64, ofInt_N]
theorem bits_or64 (x y : Int) : bits .or .u64 x y = N (BitVec.ofInt 64 x ||| BitVec.ofInt 64 y) := by
  show IntKind.u64.wrap (N (BitVec.ofInt 64 x ||| BitVec.ofInt 64 y)) = _
  rw [wrap_u64, ofInt_N]
theorem bits_not64 (x y : Int) : bits .andNot .u64 x y = N (BitVec.ofInt 64 x &&& ~~~BitVec.ofInt 64 y) := by
  show IntKind.u64.wrap (N (BitVec.ofInt 64 x &&& ~~~BitVec.ofInt 64 y)) = _
  rw [wrap_u64, ofInt_N]
theorem bits_xor8 (x y : Int) : bits .xor .u8 x y = N (BitVec.ofInt 8 x ^^^ BitVec.ofInt 8 y) := by
  show IntKind.u8.wrap (N (BitVec.ofInt 8 x ^^^ BitVec.ofInt 8 y)) = _
  rw [wrap_u8, ofInt_N]
theorem bits_and8 (x y : Int) : bits .and .u8 x y = N (BitVec.ofInt 8 x &&& BitVec.ofInt 8 y) := by
  show IntKind.u8.wrap (N (BitVec.ofInt 8 x &&& BitVec.ofInt 8 y)) = _
  rw [wrap_u8, ofInt_N]
theorem bits_or8 (x y : Int) : bits .or .u8 x y = N (BitVec.ofInt 8 x ||| BitVec.ofInt 8 y) := by
  show IntKind.u8.wrap (N (BitVec.ofInt 8 x ||| BitVec.ofInt 8 y)) = _
  rw [wrap_u8, ofInt_N]
theorem max64 : IntKind.u64.max = N (BitVec.allOnes 64) := by decide
theorem signed64 : IntKind.u64.signed = false := rfl
theorem signed8 : IntKind.u8.signed = false := rfl
theorem bits_com64 (x : Int) : bits .xor .u64 IntKind.u64.max x = N (~~~BitVec.ofInt 64 x) := by
  rw [bits_xor64, max64, ofInt_N, BitVec.allOnes_xor]
theorem shr_pow (x : BitVec 64) (n : Nat) : N x / 2 ^ n = N (x >>> n) := by
  unfold N; rw [BitVec.toNat_ushiftRight, Nat.shiftRight_eq_div_pow]; simp
theorem shr_min (x : BitVec 64) (n : Nat) : N x / 2 ^ min n 64 = N (x >>> n) := by
  rw [shr_pow]
  rcases Nat.lt_or_ge n 64 with h | h
  · rw [Nat.min_eq_left (by omega)]
  · rw [Nat.min_eq_right h, BitVec.ushiftRight_eq_zero h, BitVec.ushiftRight_eq_zero (Nat.le_refl _)]
theorem wide8 (b : BitVec 8) : Value.int .u64 (N b) = Value.int .u64 (N (b.setWidth 64)) := by
  have h : N b = N (b.setWidth 64) := by
    unfold N; rw [BitVec.toNat_setWidth]; have := b.isLt; rw [Nat.mod_eq_of_lt (by omega)]
  rw [h]
theorem ofInt64_N8 (b : BitVec 8) : BitVec.ofInt 64 (N b) = b.setWidth 64 := by
  unfold N; rw [BitVec.ofInt_natCast]; apply BitVec.eq_of_toNat_eq; simp
theorem shl_wrap (x : Int) (n : Nat) : IntKind.u64.wrap (x * 2 ^ n) = N (BitVec.ofInt 64 x <<< n) := by
  have h2 : ((2 : Int) ^ n) = ((2 ^ n : Nat) : Int) := by simp
  rw [wrap_u64, BitVec.ofInt_mul, h2, BitVec.ofInt_natCast, BitVec.shiftLeft_eq_mul_twoPow]
  congr 2
  apply BitVec.eq_of_toNat_eq; simp [BitVec.toNat_twoPow]
theorem shr1 (x : BitVec 64) : N x / (2 : Int) = N (x >>> 1) := by have := shr_pow x 1; simpa using this
theorem shr7 (x : BitVec 64) : N x / (128 : Int) = N (x >>> 7) := by have := shr_pow x 7; simpa using this
theorem shr56 (x : BitVec 64) : N x / (72057594037927936 : Int) = N (x >>> 56) := by have := shr_pow x 56; simpa using this
theorem ofInt8_N64 (x : BitVec 64) : BitVec.ofInt 8 (N x) = x.setWidth 8 := by
  unfold N; rw [BitVec.ofInt_natCast]; apply BitVec.eq_of_toNat_eq; simp
theorem eqN {k : Nat} (a b : BitVec k) : ((N a == N b) : Bool) = (a == b) := by
  rw [Bool.eq_iff_iff, beq_iff_eq, beq_iff_eq, N_inj]
theorem neN {k : Nat} (a b : BitVec k) : ((N a != N b) : Bool) = (a != b) := by
  simp only [bne, eqN]
theorem ofInt_sub' {k : Nat} (x y : Int) : BitVec.ofInt k (x - y) = BitVec.ofInt k x - BitVec.ofInt k y := by
  rw [Int.sub_eq_add_neg, BitVec.ofInt_add, BitVec.ofInt_neg, BitVec.sub_eq_add_neg]
/-- The worlds that differ from W by new blocks and draws alone. -/
def Gar (W : World) : Type := { w : World // Ch [] W w }
instance (W : World) : Nonempty (Gar W) := ⟨⟨W, Ch.refl [] W⟩⟩
end Go.Proofs.Hc
/- A row of words as an array; cmp.Less. -/
namespace Go.Proofs.Hc
open Go.RowKit
set_option linter.unusedVariables false
set_option linter.unusedSimpArgs false
attribute [local go_sem] wrap_u64 wrap_u8 bits_xor64 bits_and64 bits_or64 bits_not64 bits_xor8 bits_and8 bits_or8 signed64 signed8 ofInt_N BitVec.ofInt_add BitVec.ofInt_mul ofInt_sub' ofInt8_N64 ofInt64_N8 wide8 eqN neN shr_pow shr1 shr7 shr56
attribute [local go_sem high] bits_com64 shl_wrap
attribute [local go_sem] nn2 nm2 nn3 nm3 nn4 nm4 nn5 nm5 nn6 nm6 nn7 nm7 nn8 nm8
attribute [local go_sem] Oper.semAt_some make_func1
/-- Less at words. -/
def ltW (x y : BitVec 64) : Bool := decide (N x < N y)
theorem isnan_any (x : BitVec 64) (w : World) : Calls Tryz.prog 94 #[U x] w fun e w' => e = .returned (.bool false) ∧ w = w' := by
  have hx : (N x != N x) = false := by simp
  go_enter Tryz.func94, Tryz.ntmps94
  go_wp2
  go_ret
  exact ⟨rfl, rfl⟩
theorem less_any (x y : BitVec 64) (w : World) : Calls Tryz.prog 76 #[U x, U y] w fun e w' => e = .returned (.bool (ltW x y)) ∧ w = w' := by
  go_enter Tryz.func76, Tryz.ntmps76
  go_wp2_with (go_at_call 94; refine (isnan_any _ _).mono ?_; rintro e w' ⟨rfl, rfl⟩)
  go_ret
  exact ⟨rfl, rfl⟩
/-- The cells of a row that begins with the words of d. -/
def dcells (d : Array (BitVec 64)) (z : Array Value) : Array Value := (d.map fun x => U x) ++ z
theorem dcells_get (d : Array (BitVec 64)) (z : Array Value) (i : Nat) (h : i < d.size) : (dcells d z)[i]? = some (U d[i]!) := by
  unfold dcells
  rw [Array.getElem?_append_left (by simpa using h), Array.getElem?_map, Array.getElem?_eq_getElem h]
  simp [h]
theorem dcells_set (d : Array (BitVec 64)) (z : Array Value) (i : Nat) (x : BitVec 64) (h : i < d.size) : (dcells d z).setIfInBounds i (U x) = dcells (d.setIfInBounds i x) z := by
  unfold dcells
  apply Array.ext_getElem?
  intro j
  by_cases hj : j = i
  · subst hj
    rw [Array.getElem?_setIfInBounds_self_of_lt (by simp; omega), Array.getElem?_append_left (by simpa using h), Array.getElem?_map, Array.getElem?_setIfInBounds_self_of_lt h]
    rfl
  · rw [Array.getElem?_setIfInBounds_ne (fun e => hj e.symm)]
    by_cases hd : j < d.size
    · rw [Array.getElem?_append_left (by simpa using hd), Array.getElem?_append_left (by simpa using hd), Array.getElem?_map, Array.getElem?_map, Array.getElem?_setIfInBounds_ne (fun e => hj e.symm)]
    · rw [Array.getElem?_append_right (by simp; omega), Array.getElem?_append_right (by simp; omega)]
      simp
/-- Block q holds the words of d, then z. -/
def RowW (w : World) (q : Nat) (d : Array (BitVec 64)) (z : Array Value) : Prop := w.heap[q]? = some (.cells (dcells d z) 22 (0, 0))
theorem RowW.swap {w : World} {q : Nat} {d : Array (BitVec 64)} {z : Array Value} (h : RowW w q d z) (i j : Nat) (hi : i < d.size) (hj : j < d.size) : RowW ((w.setCell ⟨q, i, none⟩ (U d[j]!)).setCell ⟨q, j, none⟩ (U d[i]!)) q (Go.Sort.swp d i j) z := by
  unfold RowW at *
  rw [heap_setCell, if_pos rfl, heap_setCell, if_pos rfl, h, Option.map_some, Option.map_some, setAt_cells, setAt_cells, dcells_set d z i _ hi, dcells_set _ z j _ (by simpa using hj)]
  rfl
end Go.Proofs.Hc
