import Derived.Test.YtcikopeddljgkaaDoorHz
import Derived.Deep.QuietTactic
import Derived.BigQuiet
/- Words of 64 and of 8 bits as bit vectors: the walk's integer operations on them. -/
namespace Go.Proofs.Hc
open Go.RowKit

/-- A bit vector's number, closed to the walk's simp. -/
def N {k : Nat} (b : BitVec k) : Int := (b.toNat : Int)
/-- A word of 64 bits, a byte, an int: as values. -/
abbrev U (b : BitVec 64) : Value := .int .u64 (N b)
abbrev Y (b : BitVec 8) : Value := .int .u8 (N b)
abbrev I (n : Int) : Value := .int .i64 n

theorem N_nonneg {k : Nat} (b : BitVec k) : 0 ≤ N b := Int.natCast_nonneg _
theorem N8_lt (b : BitVec 8) : N b < 256 := by unfold N; have := b.isLt; omega
theorem N_inj {k : Nat} (a b : BitVec k) : N a = N b ↔ a = b := by
  unfold N; rw [Int.natCast_inj, BitVec.toNat_inj]
theorem N_lt_iff {k : Nat} (a b : BitVec k) : N a < N b ↔ a < b := by
  unfold N; rw [Int.ofNat_lt]; exact Iff.rfl
theorem N_of {k : Nat} (n : Nat) (h : n < 2 ^ k) : N (BitVec.ofNat k n) = (n : Int) := by
  unfold N; rw [BitVec.toNat_ofNat, Nat.mod_eq_of_lt h]
theorem ofInt_N {k : Nat} (b : BitVec k) : BitVec.ofInt k (N b) = b := by
  unfold N; rw [BitVec.ofInt_natCast]; simp
theorem wrap_u64 (n : Int) : IntKind.u64.wrap n = N (BitVec.ofInt 64 n) := by
  unfold N; simp [IntKind.wrap, IntKind.bits, IntKind.signed, BitVec.toNat_ofInt]; omega
theorem mod256 (n : Int) : n % (256 : Int) = N (BitVec.ofInt 8 n) := by
  unfold N; simp [BitVec.toNat_ofInt]; omega
theorem wrap_u8 (n : Int) : IntKind.u8.wrap n = N (BitVec.ofInt 8 n) := by
  unfold N; simp [IntKind.wrap, IntKind.bits, IntKind.signed, BitVec.toNat_ofInt]; omega
theorem bits_xor64 (x y : Int) : bits .xor .u64 x y = N (BitVec.ofInt 64 x ^^^ BitVec.ofInt 64 y) := by
  show IntKind.u64.wrap (N (BitVec.ofInt 64 x ^^^ BitVec.ofInt 64 y)) = _
  rw [wrap_u64, ofInt_N]
theorem bits_and64 (x y : Int) : bits .and .u64 x y = N (BitVec.ofInt 64 x &&& BitVec.ofInt 64 y) := by
  show IntKind.u64.wrap (N (BitVec.ofInt 64 x &&& BitVec.ofInt 64 y)) = _
  rw [wrap_u64, ofInt_N]
theorem bits_or64 (x y : Int) : bits .or .u64 x y = N (BitVec.ofInt 64 x ||| BitVec.ofInt 64 y) := by
  show IntKind.u64.wrap (N (BitVec.ofInt 64 x ||| BitVec.ofInt 64 y)) = _
  rw [wrap_u64, ofInt_N]
theorem bits_not64 (x y : Int) : bits .andNot .u64 x y = N (BitVec.ofInt 64 x &&& ~~~BitVec.ofInt 64 y) := by
  show IntKind.u64.wrap (N (BitVec.ofInt 64 x &&& ~~~BitVec.ofInt 64 y)) = _
  rw [wrap_u64, ofInt_N]
theorem bits_xor8 (x y : Int) : bits .xor .u8 x y = N (BitVec.ofInt 8 x ^^^ BitVec.ofInt 8 y) := by
  show IntKind.u8.wrap (N (BitVec.ofInt 8 x ^^^ BitVec.ofInt 8 y)) = _
  rw [wrap_u8, ofInt_N]
theorem bits_and8 (x y : Int) : bits .and .u8 x y = N (BitVec.ofInt 8 x &&& BitVec.ofInt 8 y) := by
  show IntKind.u8.wrap (N (BitVec.ofInt 8 x &&& BitVec.ofInt 8 y)) = _
  rw [wrap_u8, ofInt_N]
theorem bits_or8 (x y : Int) : bits .or .u8 x y = N (BitVec.ofInt 8 x ||| BitVec.ofInt 8 y) := by
  show IntKind.u8.wrap (N (BitVec.ofInt 8 x ||| BitVec.ofInt 8 y)) = _
  rw [wrap_u8, ofInt_N]
theorem max64 : IntKind.u64.max = N (BitVec.allOnes 64) := by decide
theorem signed64 : IntKind.u64.signed = false := rfl
theorem signed8 : IntKind.u8.signed = false := rfl
theorem bits_com64 (x : Int) : bits .xor .u64 IntKind.u64.max x = N (~~~BitVec.ofInt 64 x) := by
  rw [bits_xor64, max64, ofInt_N, BitVec.allOnes_xor]
theorem shr_pow (x : BitVec 64) (n : Nat) : N x / 2 ^ n = N (x >>> n) := by
  unfold N; rw [BitVec.toNat_ushiftRight, Nat.shiftRight_eq_div_pow]; simp
theorem shr_min (x : BitVec 64) (n : Nat) : N x / 2 ^ min n 64 = N (x >>> n) := by
  rw [shr_pow]
  rcases Nat.lt_or_ge n 64 with h | h
  · rw [Nat.min_eq_left (by omega)]
  · rw [Nat.min_eq_right h, BitVec.ushiftRight_eq_zero h, BitVec.ushiftRight_eq_zero (Nat.le_refl _)]
theorem shl_min {k : Nat} (x : BitVec k) (n : Nat) : BitVec.ofInt k (N x * 2 ^ min n k) = x <<< n := by
  have h2 : ((2 : Int) ^ min n k) = ((2 ^ min n k : Nat) : Int) := by simp
  rw [BitVec.ofInt_mul, ofInt_N, h2, BitVec.ofInt_natCast]
  rcases Nat.lt_or_ge n k with h | h
  · rw [Nat.min_eq_left (by omega), BitVec.shiftLeft_eq_mul_twoPow]; congr 1
    apply BitVec.eq_of_toNat_eq; simp [BitVec.toNat_twoPow]
  · rw [Nat.min_eq_right h, BitVec.shiftLeft_eq_zero h]
    have : BitVec.ofNat k (2 ^ k) = 0#k := by apply BitVec.eq_of_toNat_eq; simp
    rw [this, BitVec.mul_zero]
theorem shr_bv (x : BitVec 64) (k : IntKind) (y : Int) (h : 0 ≤ y) : Op.shift .shr .u64 (N x) k y = pure (.int .u64 (N (x >>> y.toNat))) := by
  have := shift_shr_any .u64 k (N x) y h
  rw [this, show IntKind.u64.bits = 64 from rfl, shr_min]
theorem shl_bv (x : BitVec 64) (k : IntKind) (y : Int) (h : 0 ≤ y) : Op.shift .shl .u64 (N x) k y = pure (.int .u64 (N (x <<< y.toNat))) := by
  unfold Op.shift
  rw [if_neg (by omega)]
  simp only [show IntKind.u64.bits = 64 from rfl, wrap_u64, shl_min]
theorem wide8 (b : BitVec 8) : Value.int .u64 (N b) = Value.int .u64 (N (b.setWidth 64)) := by
  have h : N b = N (b.setWidth 64) := by
    unfold N; rw [BitVec.toNat_setWidth]; have := b.isLt; rw [Nat.mod_eq_of_lt (by omega)]
  rw [h]
theorem ofInt64_N8 (b : BitVec 8) : BitVec.ofInt 64 (N b) = b.setWidth 64 := by
  unfold N; rw [BitVec.ofInt_natCast]; apply BitVec.eq_of_toNat_eq; simp
theorem shl_wrap (x : Int) (n : Nat) : IntKind.u64.wrap (x * 2 ^ n) = N (BitVec.ofInt 64 x <<< n) := by
  have h2 : ((2 : Int) ^ n) = ((2 ^ n : Nat) : Int) := by simp
  rw [wrap_u64, BitVec.ofInt_mul, h2, BitVec.ofInt_natCast, BitVec.shiftLeft_eq_mul_twoPow]
  congr 2
  apply BitVec.eq_of_toNat_eq; simp [BitVec.toNat_twoPow]
theorem shr1 (x : BitVec 64) : N x / (2 : Int) = N (x >>> 1) := by have := shr_pow x 1; simpa using this
theorem shr7 (x : BitVec 64) : N x / (128 : Int) = N (x >>> 7) := by have := shr_pow x 7; simpa using this
theorem shr8 (x : BitVec 64) : N x / (256 : Int) = N (x >>> 8) := by have := shr_pow x 8; simpa using this
theorem shr56 (x : BitVec 64) : N x / (72057594037927936 : Int) = N (x >>> 56) := by have := shr_pow x 56; simpa using this
theorem ofInt8_N64 (x : BitVec 64) : BitVec.ofInt 8 (N x) = x.setWidth 8 := by
  unfold N; rw [BitVec.ofInt_natCast]; apply BitVec.eq_of_toNat_eq; simp
theorem eqN {k : Nat} (a b : BitVec k) : ((N a == N b) : Bool) = (a == b) := by
  rw [Bool.eq_iff_iff, beq_iff_eq, beq_iff_eq, N_inj]
theorem neN {k : Nat} (a b : BitVec k) : ((N a != N b) : Bool) = (a != b) := by
  simp only [bne, eqN]
theorem ofInt_sub' {k : Nat} (x y : Int) : BitVec.ofInt k (x - y) = BitVec.ofInt k x - BitVec.ofInt k y := by
  rw [Int.sub_eq_add_neg, BitVec.ofInt_add, BitVec.ofInt_neg, BitVec.sub_eq_add_neg]

/-- A pure callee (its world is the caller's) inside a region that draws its order. -/
theorem quietL {P : Program} {f : FuncId} {args : Array Value} {w : World} {n : Nat} {v : Value}
    (h : Calls P f args (w.drewN n) fun e w' => e = .returned v ∧ w.drewN n = w') : Calls P f args (w.drewN n) fun e w'' => e = .returned v ∧ ∃ m, w'' = w.drewN m :=
  h.mono fun _ _ ⟨he, hm⟩ => ⟨he, n, hm.symm⟩
/-- The worlds that differ from W by new blocks and draws alone. -/
def Gar (W : World) : Type := { w : World // Ch [] W w }
instance (W : World) : Nonempty (Gar W) := ⟨⟨W, Ch.refl [] W⟩⟩
/-- A region that draws its order, whose operations read what W holds, and whose callees change no old block. -/
theorem wp_region_gar {P : Program} {l : List Oper} {id : Nat} {Q : Exit → Act → World → Prop} {a : Act} {w : World} (hm : P.follows .mixedOrders = true) (hB : Region.lexB .any l.toArray = true)
    (h : wpQuiet P l.toArray (fun w' => ∃ g : Gar w, w' = g.1) (fun a' => ∀ w', (∃ g : Gar w, w' = g.1) → Q .normal a' w') l a) : (Code.region id l.toArray true).wp P Q a w :=
  wp_region_quiet (C := fun w' => ∃ g : Gar w, w' = g.1) hm hB ⟨⟨_, (Ch.refl [] w).drew⟩, rfl⟩ (by simpa using h)
/-- A callee that changes no old block inside such a region. -/
theorem garC {P : Program} {f : FuncId} {args : Array Value} {w : World} {g : Gar w} {v : Value}
    (h : Calls P f args g.1 fun e w' => e = .returned v ∧ Ch [] g.1 w') : Calls P f args g.1 fun e w'' => e = .returned v ∧ ∃ g' : Gar w, w'' = g'.1 :=
  h.mono fun _ w'' ⟨he, hm⟩ => ⟨he, ⟨w'', g.2.trans hm⟩, rfl⟩
/-- A pure callee inside such a region. -/
theorem garL {P : Program} {f : FuncId} {args : Array Value} {w : World} {g : Gar w} {v : Value}
    (h : Calls P f args g.1 fun e w' => e = .returned v ∧ g.1 = w') : Calls P f args g.1 fun e w'' => e = .returned v ∧ ∃ g' : Gar w, w'' = g'.1 :=
  h.mono fun _ _ ⟨he, hm⟩ => ⟨he, g, hm.symm⟩
theorem pureC {P : Program} {f : FuncId} {args : Array Value} {w : World} {v : Value}
    (h : Calls P f args w fun e w' => e = .returned v ∧ w = w') : Calls P f args w fun e w' => e = .returned v ∧ Ch [] w w' :=
  h.mono fun _ _ ⟨he, hm⟩ => ⟨he, hm ▸ Ch.refl [] w⟩
end Go.Proofs.Hc
