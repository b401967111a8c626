/- The words for memory that all walks of this seat use: which old blocks a call may have changed, and blocks that are known whole. -/
import Derived.Test.YtfoicjijngfhbaaDoorProg
import Derived.WalkKit
import Derived.Below
import Derived.Lib.Hide
import Derived.Deep.Draws
import Derived.RangeFuncRecord
import Derived.Deep.QuietTactic
import Derived.BigQuiet
set_option linter.unusedSimpArgs false
set_option linter.unusedVariables false
namespace Go.Proofs.Hc
open Go.RowKit

/-- Of the blocks that there were only those of S may have changed; new ones may have come. -/
structure Ch (S : List Nat) (w w' : World) : Prop where
  os : w'.os = w.os
  tape : w'.tape = w.tape
  output : w'.output = w.output
  size : w.heap.size ≤ w'.heap.size
  block : ∀ k, k < w.heap.size → k ∉ S → w'.heap[k]? = w.heap[k]?

namespace Ch
variable {S T : List Nat} {w w1 w2 : World}
theorem refl (S : List Nat) (w : World) : Ch S w w := ⟨rfl, rfl, rfl, Nat.le_refl _, fun _ _ _ => rfl⟩
theorem trans2 (h : Ch S w w1) (k : Ch T w1 w2) (hT : ∀ t ∈ T, t ∈ S ∨ w.heap.size ≤ t) : Ch S w w2 :=
  ⟨k.os.trans h.os, k.tape.trans h.tape, k.output.trans h.output, Nat.le_trans h.size k.size, fun i hi hn =>
    (k.block i (Nat.lt_of_lt_of_le hi h.size) (fun ht => by rcases hT i ht with h1 | h1; exact hn h1; omega)).trans (h.block i hi hn)⟩
theorem trans (h : Ch S w w1) (k : Ch S w1 w2) : Ch S w w2 := h.trans2 k fun _ ht => .inl ht
theorem pure (h : Ch S w w1) (k : Ch [] w1 w2) : Ch S w w2 := h.trans2 k fun _ ht => by cases ht
theorem mono (h : Ch S w w1) (hS : ∀ s ∈ S, s ∈ T) : Ch T w w1 := ⟨h.os, h.tape, h.output, h.size, fun k hk hn => h.block k hk fun hs => hn (hS k hs)⟩
theorem of_nil (h : Ch [] w w1) : Ch S w w1 := h.mono fun _ hs => by cases hs
theorem alloc (h : Ch S w w1) (o : Obj) : Ch S w (w1.alloc o) :=
  h.trans2 (T := []) ⟨rfl, rfl, rfl, by simp, fun k hk _ => Below.heap_alloc _ _ _ hk⟩ fun _ ht => by cases ht
theorem drew (h : Ch S w w1) : Ch S w w1.drew := ⟨h.os, h.tape, h.output, h.size, h.block⟩
theorem drewN (h : Ch S w w1) (n : Nat) : Ch S w (w1.drewN n) := ⟨h.os, h.tape, h.output, h.size, h.block⟩
theorem setCell (h : Ch S w w1) {p : Addr} (hp : p.block ∈ S ∨ w.heap.size ≤ p.block) (u : Value) : Ch S w (w1.setCell p u) :=
  h.trans2 (T := [p.block]) ⟨rfl, rfl, rfl, by simp [World.setCell], fun k _ hn => Below.heap_setCell _ _ _ _ (by simpa using hn)⟩
    fun t ht => by rw [List.mem_singleton.1 ht]; exact hp
theorem below {B : Nat} (h : Ch S w w1) (hB : B ≤ w.heap.size) (hS : ∀ s ∈ S, B ≤ s) : Below B w w1 :=
  ⟨h.os, h.tape, h.output, h.size, fun k hk => h.block k (by omega) fun hs => by have := hS k hs; omega⟩
theorem below_nil (h : Ch [] w w1) : Below w.heap.size w w1 := h.below (Nat.le_refl _) fun _ hs => by cases hs
theorem of_below (h : Below w.heap.size w w1) : Ch S w w1 := ⟨h.os, h.tape, h.output, h.size, fun k hk _ => h.block k hk⟩
theorem of_grown {row : Option Nat} (h : w.grownBy w1 row) (hr : ∀ k, row = some k → k ∈ S) : Ch S w w1 :=
  ⟨h.os, h.tape, h.output, h.size, fun k hk hn => h.block k hk fun e => hn (hr k e.symm)⟩
theorem cell (h : Ch [] w w1) : ∀ b o, b < w.heap.size → w1.cell? ⟨b, o, none⟩ = w.cell? ⟨b, o, none⟩ :=
  fun b _ hb => World.cell?_of_block (w := w) (h.block b hb (by simp))
theorem frozen (h : Ch [] w w1) : ∀ b o, b < w.heap.size → w1.frozen? ⟨b, o, none⟩ = w.frozen? ⟨b, o, none⟩ :=
  fun b _ hb => World.frozen?_of_block (w := w) (h.block b hb (by simp))
theorem cell1 {b0 : Nat} (h : Ch [b0] w w1) : ∀ b o, b < w.heap.size → b ≠ b0 → w1.cell? ⟨b, o, none⟩ = w.cell? ⟨b, o, none⟩ :=
  fun b _ hb hn => World.cell?_of_block (w := w) (h.block b hb (by simpa using hn))
theorem frozen1 {b0 : Nat} (h : Ch [b0] w w1) : ∀ b o, b < w.heap.size → b ≠ b0 → w1.frozen? ⟨b, o, none⟩ = w.frozen? ⟨b, o, none⟩ :=
  fun b _ hb hn => World.frozen?_of_block (w := w) (h.block b hb (by simpa using hn))
end Ch

/-- A block that is known whole. -/
def Blk (w : World) (g : Nat) (t : TypeId) (cs : Array Value) : Prop := w.heap[g]? = some (.cells cs t (0, 0))
namespace Blk
variable {w w1 : World} {g : Nat} {t : TypeId} {cs : Array Value} {S : List Nat}
theorem lt (h : Blk w g t cs) : g < w.heap.size := (Array.getElem?_eq_some_iff.1 h).1
theorem ch (h : Blk w g t cs) (c : Ch S w w1) (hn : g ∉ S) : Blk w1 g t cs := (c.block g h.lt hn).trans h
theorem ch0 (h : Blk w g t cs) (c : Ch [] w w1) : Blk w1 g t cs := h.ch c (by simp)
theorem cell (h : Blk w g t cs) (i : Nat) : w.cell? ⟨g, i, none⟩ = cs[i]? := by
  unfold Blk at h; simp [World.cell?, h]
theorem frozen (h : Blk w g t cs) (i : Nat) : w.frozen? ⟨g, i, none⟩ = false := by
  unfold Blk at h; simp [World.frozen?, h]
theorem new (w : World) (t : TypeId) (cs : Array Value) : Blk (w.alloc (.cells cs t)) w.heap.size t cs := World.alloc_heap_new w _
theorem alloc (h : Blk w g t cs) (o : Obj) : Blk (w.alloc o) g t cs := (Below.heap_alloc w o g h.lt).trans h
theorem drew (h : Blk w g t cs) : Blk w.drew g t cs := h
theorem drewN (h : Blk w g t cs) (n : Nat) : Blk (w.drewN n) g t cs := h
theorem set_ (h : Blk w g t cs) (i : Nat) (u : Value) : Blk (w.setCell ⟨g, i, none⟩ u) g t (cs.setIfInBounds i u) := by
  unfold Blk at h ⊢; simp [World.setCell, Array.getElem?_modify, h]
theorem far (h : Blk w g t cs) {p : Addr} (hp : g ≠ p.block) (u : Value) : Blk (w.setCell p u) g t cs := (Below.heap_setCell w p u g hp).trans h
end Blk

/-- An owned row lies on while other blocks change. -/
theorem own_ch {w w1 : World} {S : List Nat} {base : Nat} {e : TypeId} {size n : Nat} {v : Value} {xs : List Value} (h : w.ownsRow base e size v n xs) (c : Ch S w w1) (hS : ∀ s ∈ S, s < base) :
    w1.ownsRow base e size v n xs := by
  obtain ⟨h1, h2⟩ := h
  refine ⟨h1, ?_⟩
  rcases h2 with h2 | ⟨g, cap, cur, hv, hg, hh, r⟩
  · exact .inl h2
  · refine .inr ⟨g, cap, cur, hv, hg, (c.block g (Array.getElem?_eq_some_iff.1 hh).1 fun hs => ?_).trans hh, r⟩
    have := hS g hs; omega
theorem own_mono {w : World} {base base' : Nat} {e : TypeId} {size n : Nat} {v : Value} {xs : List Value} (h : w.ownsRow base e size v n xs) (hb : base' ≤ base) : w.ownsRow base' e size v n xs := by
  obtain ⟨h1, h2⟩ := h
  refine ⟨h1, ?_⟩
  rcases h2 with h2 | ⟨g, cap, cur, hv, hg, r⟩
  · exact .inl h2
  · exact .inr ⟨g, cap, cur, hv, by omega, r⟩
theorem own_block {w : World} {base : Nat} {e : TypeId} {size n : Nat} {v : Value} {xs : List Value} (h : w.ownsRow base e size v n xs) : ∀ k, v.ownBlock = some k → base ≤ k := by
  rcases h.2 with ⟨rfl, _⟩ | ⟨g, cap, cur, rfl, hg, _⟩
  · intro k hk; cases hk
  · intro k hk; cases hk; exact hg
theorem nn2 (n : Nat) : (n = n + 1 + 1) = False := by simp <;> omega
theorem nm2 (n : Nat) : (n + 1 + 1 = n) = False := by simp <;> omega
theorem nn3 (n : Nat) : (n = n + 1 + 1 + 1) = False := by simp <;> omega
theorem nm3 (n : Nat) : (n + 1 + 1 + 1 = n) = False := by simp <;> omega
theorem nn4 (n : Nat) : (n = n + 1 + 1 + 1 + 1) = False := by simp <;> omega
theorem nm4 (n : Nat) : (n + 1 + 1 + 1 + 1 = n) = False := by simp <;> omega
theorem nn5 (n : Nat) : (n = n + 1 + 1 + 1 + 1 + 1) = False := by simp <;> omega
theorem nm5 (n : Nat) : (n + 1 + 1 + 1 + 1 + 1 = n) = False := by simp <;> omega
theorem nn6 (n : Nat) : (n = n + 1 + 1 + 1 + 1 + 1 + 1) = False := by simp <;> omega
theorem nm6 (n : Nat) : (n + 1 + 1 + 1 + 1 + 1 + 1 = n) = False := by simp <;> omega
theorem nn7 (n : Nat) : (n = n + 1 + 1 + 1 + 1 + 1 + 1 + 1) = False := by simp <;> omega
theorem nm7 (n : Nat) : (n + 1 + 1 + 1 + 1 + 1 + 1 + 1 = n) = False := by simp <;> omega
theorem nn8 (n : Nat) : (n = n + 1 + 1 + 1 + 1 + 1 + 1 + 1 + 1) = False := by simp <;> omega
theorem nm8 (n : Nat) : (n + 1 + 1 + 1 + 1 + 1 + 1 + 1 + 1 = n) = False := by simp <;> omega
end Go.Proofs.Hc
/- Words of 64 and of 8 bits as bit vectors: the walk's integer operations on them. -/
namespace Go.Proofs.Hc
open Go.RowKit

/-- A bit vector's number, closed to the walk's simp. -/
def N {k : Nat} (b : BitVec k) : Int := (b.toNat : Int)
/-- A word of 64 bits, a byte, an int: as values. -/
abbrev U (b : BitVec 64) : Value := .int .u64 (N b)
abbrev Y (b : BitVec 8) : Value := .int .u8 (N b)
abbrev I (n : Int) : Value := .int .i64 n

theorem N_nonneg {k : Nat} (b : BitVec k) : 0 ≤ N b := Int.natCast_nonneg _
theorem N8_lt (b : BitVec 8) : N b < 256 := by unfold N; have := b.isLt; omega
theorem N_inj {k : Nat} (a b : BitVec k) : N a = N b ↔ a = b := by
  unfold N; rw [Int.natCast_inj, BitVec.toNat_inj]
theorem N_lt_iff {k : Nat} (a b : BitVec k) : N a < N b ↔ a < b := by
  unfold N; rw [Int.ofNat_lt]; exact Iff.rfl
theorem N_of {k : Nat} (n : Nat) (h : n < 2 ^ k) : N (BitVec.ofNat k n) = (n : Int) := by
  unfold N; rw [BitVec.toNat_ofNat, Nat.mod_eq_of_lt h]
theorem ofInt_N {k : Nat} (b : BitVec k) : BitVec.ofInt k (N b) = b := by
  unfold N; rw [BitVec.ofInt_natCast]; simp
theorem wrap_u64 (n : Int) : IntKind.u64.wrap n = N (BitVec.ofInt 64 n) := by
  unfold N; simp [IntKind.wrap, IntKind.bits, IntKind.signed, BitVec.toNat_ofInt]; omega
theorem mod256 (n : Int) : n % (256 : Int) = N (BitVec.ofInt 8 n) := by
  unfold N; simp [BitVec.toNat_ofInt]; omega
theorem wrap_u8 (n : Int) : IntKind.u8.wrap n = N (BitVec.ofInt 8 n) := by
  unfold N; simp [IntKind.wrap, IntKind.bits, IntKind.signed, BitVec.toNat_ofInt]; omega
theorem bits_xor64 (x y : Int) : bits .xor .u64 x y = N (BitVec.ofInt 64 x ^^^ BitVec.ofInt 64 y) := by
  show IntKind.u64.wrap (N (BitVec.ofInt 64 x ^^^ BitVec.ofInt 64 y)) = _
  rw [wrap_u64, ofInt_N]
theorem bits_and64 (x y : Int) : bits .and .u64 x y = N (BitVec.ofInt 64 x &&& BitVec.ofInt 64 y) := by
  show IntKind.u64.wrap (N (BitVec.ofInt 64 x &&& BitVec.ofInt 64 y)) = _
  rw [wrap_u64, ofInt_N]
theorem bits_or64 (x y : Int) : bits .or .u64 x y = N (BitVec.ofInt 64 x ||| BitVec.ofInt 64 y) := by
  show IntKind.u64.wrap (N (BitVec.ofInt 64 x ||| BitVec.ofInt 64 y)) = _
  rw [wrap_u64, ofInt_N]
theorem bits_not64 (x y : Int) : bits .andNot .u64 x y = N (BitVec.ofInt 64 x &&& ~~~BitVec.ofInt 64 y) := by
  show IntKind.u64.wrap (N (BitVec.ofInt 64 x &&& ~~~BitVec.ofInt 64 y)) = _
  rw [wrap_u64, ofInt_N]
theorem bits_xor8 (x y : Int) : bits .xor .u8 x y = N (BitVec.ofInt 8 x ^^^ BitVec.ofInt 8 y) := by
  show IntKind.u8.wrap (N (BitVec.ofInt 8 x ^^^ BitVec.ofInt 8 y)) = _
  rw [wrap_u8, ofInt_N]
theorem bits_and8 (x y : Int) : bits .and .u8 x y = N (BitVec.ofInt 8 x &&& BitVec.ofInt 8 y) := by
  show IntKind.u8.wrap (N (BitVec.ofInt 8 x &&& BitVec.ofInt 8 y)) = _
  rw [wrap_u8, ofInt_N]
theorem bits_or8 (x y : Int) : bits .or .u8 x y = N (BitVec.ofInt 8 x ||| BitVec.ofInt 8 y) := by
  show IntKind.u8.wrap (N (BitVec.ofInt 8 x ||| BitVec.ofInt 8 y)) = _
  rw [wrap_u8, ofInt_N]
theorem max64 : IntKind.u64.max = N (BitVec.allOnes 64) := by decide
theorem signed64 : IntKind.u64.signed = false := rfl
theorem signed8 : IntKind.u8.signed = false := rfl
theorem bits_com64 (x : Int) : bits .xor .u64 IntKind.u64.max x = N (~~~BitVec.ofInt 64 x) := by
  rw [bits_xor64, max64, ofInt_N, BitVec.allOnes_xor]
theorem shr_pow (x : BitVec 64) (n : Nat) : N x / 2 ^ n = N (x >>> n) := by
  unfold N; rw [BitVec.toNat_ushiftRight, Nat.shiftRight_eq_div_pow]; simp
theorem shr_min (x : BitVec 64) (n : Nat) : N x / 2 ^ min n 64 = N (x >>> n) := by
  rw [shr_pow]
  rcases Nat.lt_or_ge n 64 with h | h
  · rw [Nat.min_eq_left (by omega)]
  · rw [Nat.min_eq_right h, BitVec.ushiftRight_eq_zero h, BitVec.ushiftRight_eq_zero (Nat.le_refl _)]
theorem shl_min {k : Nat} (x : BitVec k) (n : Nat) : BitVec.ofInt k (N x * 2 ^ min n k) = x <<< n := by
  have h2 : ((2 : Int) ^ min n k) = ((2 ^ min n k : Nat) : Int) := by simp
  rw [BitVec.ofInt_mul, ofInt_N, h2, BitVec.ofInt_natCast]
  rcases Nat.lt_or_ge n k with h | h
  · rw [Nat.min_eq_left (by omega), BitVec.shiftLeft_eq_mul_twoPow]; congr 1
    apply BitVec.eq_of_toNat_eq; simp [BitVec.toNat_twoPow]
  · rw [Nat.min_eq_right h, BitVec.shiftLeft_eq_zero h]
    have : BitVec.ofNat k (2 ^ k) = 0#k := by apply BitVec.eq_of_toNat_eq; simp
    rw [this, BitVec.mul_zero]
theorem shr_bv (x : BitVec 64) (k : IntKind) (y : Int) (h : 0 ≤ y) : Op.shift .shr .u64 (N x) k y = pure (.int .u64 (N (x >>> y.toNat))) := by
  have := shift_shr_any .u64 k (N x) y h
  rw [this, show IntKind.u64.bits = 64 from rfl, shr_min]
theorem shl_bv (x : BitVec 64) (k : IntKind) (y : Int) (h : 0 ≤ y) : Op.shift .shl .u64 (N x) k y = pure (.int .u64 (N (x <<< y.toNat))) := by
  unfold Op.shift
  rw [if_neg (by omega)]
  simp only [show IntKind.u64.bits = 64 from rfl, wrap_u64, shl_min]
theorem wide8 (b : BitVec 8) : Value.int .u64 (N b) = Value.int .u64 (N (b.setWidth 64)) := by
  have h : N b = N (b.setWidth 64) := by
    unfold N; rw [BitVec.toNat_setWidth]; have := b.isLt; rw [Nat.mod_eq_of_lt (by omega)]
  rw [h]
theorem ofInt64_N8 (b : BitVec 8) : BitVec.ofInt 64 (N b) = b.setWidth 64 := by
  unfold N; rw [BitVec.ofInt_natCast]; apply BitVec.eq_of_toNat_eq; simp
theorem shl_wrap (x : Int) (n : Nat) : IntKind.u64.wrap (x * 2 ^ n) = N (BitVec.ofInt 64 x <<< n) := by
  have h2 : ((2 : Int) ^ n) = ((2 ^ n : Nat) : Int) := by simp
  rw [wrap_u64, BitVec.ofInt_mul, h2, BitVec.ofInt_natCast, BitVec.shiftLeft_eq_mul_twoPow]
  congr 2
  apply BitVec.eq_of_toNat_eq; simp [BitVec.toNat_twoPow]
theorem shr1 (x : BitVec 64) : N x / (2 : Int) = N (x >>> 1) := by have := shr_pow x 1; simpa using this
theorem shr7 (x : BitVec 64) : N x / (128 : Int) = N (x >>> 7) := by have := shr_pow x 7; simpa using this
theorem shr8 (x : BitVec 64) : N x / (256 : Int) = N (x >>> 8) := by have := shr_pow x 8; simpa using this
theorem shr56 (x : BitVec 64) : N x / (72057594037927936 : Int) = N (x >>> 56) := by have := shr_pow x 56; simpa using this
theorem ofInt8_N64 (x : BitVec 64) : BitVec.ofInt 8 (N x) = x.setWidth 8 := by
  unfold N; rw [BitVec.ofInt_natCast]; apply BitVec.eq_of_toNat_eq; simp
theorem eqN {k : Nat} (a b : BitVec k) : ((N a == N b) : Bool) = (a == b) := by
  rw [Bool.eq_iff_iff, beq_iff_eq, beq_iff_eq, N_inj]
theorem neN {k : Nat} (a b : BitVec k) : ((N a != N b) : Bool) = (a != b) := by
  simp only [bne, eqN]
theorem ofInt_sub' {k : Nat} (x y : Int) : BitVec.ofInt k (x - y) = BitVec.ofInt k x - BitVec.ofInt k y := by
  rw [Int.sub_eq_add_neg, BitVec.ofInt_add, BitVec.ofInt_neg, BitVec.sub_eq_add_neg]

/-- A pure callee (its world is the caller's) inside a region that draws its order. -/
theorem quietL {P : Program} {f : FuncId} {args : Array Value} {w : World} {n : Nat} {v : Value}
    (h : Calls P f args (w.drewN n) fun e w' => e = .returned v ∧ w.drewN n = w') : Calls P f args (w.drewN n) fun e w'' => e = .returned v ∧ ∃ m, w'' = w.drewN m :=
  h.mono fun _ _ ⟨he, hm⟩ => ⟨he, n, hm.symm⟩
/-- The worlds that differ from W by new blocks and draws alone. -/
def Gar (W : World) : Type := { w : World // Ch [] W w }
instance (W : World) : Nonempty (Gar W) := ⟨⟨W, Ch.refl [] W⟩⟩
/-- A region that draws its order, whose operations read what W holds, and whose callees change no old block. -/
theorem wp_region_gar {P : Program} {l : List Oper} {id : Nat} {Q : Exit → Act → World → Prop} {a : Act} {w : World} (hm : P.follows .mixedOrders = true) (hB : Region.lexB .any l.toArray = true)
    (h : wpQuiet P l.toArray (fun w' => ∃ g : Gar w, w' = g.1) (fun a' => ∀ w', (∃ g : Gar w, w' = g.1) → Q .normal a' w') l a) : (Code.region id l.toArray true).wp P Q a w :=
  wp_region_quiet (C := fun w' => ∃ g : Gar w, w' = g.1) hm hB ⟨⟨_, (Ch.refl [] w).drew⟩, rfl⟩ (by simpa using h)
/-- A callee that changes no old block inside such a region. -/
theorem garC {P : Program} {f : FuncId} {args : Array Value} {w : World} {g : Gar w} {v : Value}
    (h : Calls P f args g.1 fun e w' => e = .returned v ∧ Ch [] g.1 w') : Calls P f args g.1 fun e w'' => e = .returned v ∧ ∃ g' : Gar w, w'' = g'.1 :=
  h.mono fun _ w'' ⟨he, hm⟩ => ⟨he, ⟨w'', g.2.trans hm⟩, rfl⟩
/-- A pure callee inside such a region. -/
theorem garL {P : Program} {f : FuncId} {args : Array Value} {w : World} {g : Gar w} {v : Value}
    (h : Calls P f args g.1 fun e w' => e = .returned v ∧ g.1 = w') : Calls P f args g.1 fun e w'' => e = .returned v ∧ ∃ g' : Gar w, w'' = g'.1 :=
  h.mono fun _ _ ⟨he, hm⟩ => ⟨he, g, hm.symm⟩
theorem pureC {P : Program} {f : FuncId} {args : Array Value} {w : World} {v : Value}
    (h : Calls P f args w fun e w' => e = .returned v ∧ w = w') : Calls P f args w fun e w' => e = .returned v ∧ Ch [] w w' :=
  h.mono fun _ _ ⟨he, hm⟩ => ⟨he, hm ▸ Ch.refl [] w⟩
end Go.Proofs.Hc
/- Leaf contracts: words, bytes, hashes. -/
namespace Go.Proofs.Hc
open Go.RowKit

def lows : BitVec 64 := 0x7f7f7f7f7f7f7f7f#64
def tops : BitVec 64 := 0x8080808080808080#64
def ones : BitVec 64 := 0x0101010101010101#64
def byteAt (x : BitVec 64) (n : Nat) : BitVec 8 := (x >>> (8 * n)).setWidth 8
def withB (x : BitVec 64) (n : Nat) (b : BitVec 8) : BitVec 64 := (x &&& ~~~(255#64 <<< (8 * n))) ||| (b.setWidth 64 <<< (8 * n))
def noughts (x : BitVec 64) : BitVec 64 := ~~~(((x &&& lows) + lows) ||| x ||| lows)
def gathered (x : BitVec 64) : BitVec 8 := (((x >>> 7) * 0x0102040810204080#64) >>> 56).setWidth 8
def fillB (b : BitVec 8) : BitVec 64 := b.setWidth 64 * ones
def alike (v w : BitVec 64) : BitVec 8 := gathered (noughts (v ^^^ w))
def equalM (w : BitVec 64) (b : BitVec 8) : BitVec 8 := alike w (fillB b)
def lessM (x y : BitVec 64) : BitVec 64 := ~~~((x ||| tops) - (y &&& lows)) &&& tops
def belowM (x : BitVec 64) (b : BitVec 8) : BitVec 8 := gathered ((~~~x &&& fillB b &&& tops) ||| (~~~(x ^^^ fillB b) &&& lessM x (fillB b)))
def mixF (x : BitVec 64) (n : Nat) : BitVec 64 := x ^^^ (x >>> n)
def hashOf (s k : BitVec 64) : BitVec 64 := mixF (mixF ((k ^^^ s) * 0xbf58476d1ce4e5b9#64) 32 * 0x94d049bb133111eb#64) 29
def hash1 (h : BitVec 64) : BitVec 64 := h >>> 7
def hash2 (h : BitVec 64) : BitVec 8 := h.setWidth 8 &&& 127#8
def isLane (n : Int) : Bool := decide (0 ≤ n) && decide (n < 8)

attribute [local go_sem] wrap_u64 wrap_u8 bits_xor64 bits_and64 bits_or64 bits_not64 bits_xor8 bits_and8 bits_or8 signed64 signed8 ofInt_N BitVec.ofInt_add BitVec.ofInt_mul ofInt_sub' ofInt8_N64 ofInt64_N8 wide8 eqN neN shr_pow shr1 shr7 shr56
attribute [local go_sem high] bits_com64 shl_wrap
theorem times_any (x : BitVec 64) (y : Int) (w : World) :
    Calls Tryd.prog 75 #[U x, .int .u64 y] w fun e w' => e = .returned (U (x * BitVec.ofInt 64 y)) ∧ w = w' := by
  go_enter Tryd.func75, Tryd.ntmps75
  go_wp2
  go_ret
  exact ⟨rfl, rfl⟩
theorem folded_any (x : BitVec 64) (n : Int) (h : 0 ≤ n) (w : World) :
    Calls Tryd.prog 76 #[U x, I n] w fun e w' => e = .returned (U (mixF x n.toNat)) ∧ w = w' := by
  obtain ⟨n, rfl⟩ := Int.eq_ofNat_of_zero_le h
  go_enter Tryd.func76, Tryd.ntmps76
  have hm : N x / 2 ^ min n 64 = N (x >>> n) := shr_min x n
  go_wp2
  go_ret
  exact ⟨by unfold mixF; rfl, rfl⟩
theorem hashOf_any (s k : BitVec 64) (w : World) :
    Calls Tryd.prog 56 #[U s, U k] w fun e w' => e = .returned (U (hashOf s k)) ∧ w = w' := by
  go_enter Tryd.func56, Tryd.ntmps56
  go_wp2_with (first
    | (go_at_call 75; refine (times_any _ _ _).mono ?_; rintro e w' ⟨rfl, rfl⟩)
    | (go_at_call 76; refine (folded_any _ _ (by decide) _).mono ?_; rintro e w' ⟨rfl, rfl⟩))
  go_ret
  exact ⟨by unfold hashOf; rfl, rfl⟩
end Go.Proofs.Hc
