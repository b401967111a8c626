/- The words for memory that all walks of this seat use: which old blocks a call may have changed, and blocks that are known whole. -/
import Derived.Below
import Derived.Deep.Draws
import Derived.Lib.Hide
import Derived.RangeFuncRecord
import Derived.Test.YtmfajobocpaimaaGreatProg
import Derived.WalkKit
import Derived.BigQuiet
import Derived.Deep.QuietTactic
import Derived.Laws.CopyRow
import Derived.Laws.Tables
set_option linter.unusedSimpArgs false
set_option linter.unusedVariables false
namespace Go.Proofs.Hc
open Go.RowKit
/-- Of the blocks that there were only those of S may have changed; new ones may have come. -/
structure Ch (S : List Nat) (w w' : World) : Prop where
  os : w'.os = w.os
  tape : w'.tape = w.tape
  output : w'.output = w.output
  size : w.heap.size ≤ w'.heap.size
  block : ∀ k, k < w.heap.size → k ∉ S → w'.heap[k]? = w.heap[k]?
namespace Ch
variable {S T : List Nat} {w w1 w2 : World}
theorem refl (S : List Nat) (w : World) : Ch S w w := ⟨rfl, rfl, rfl, Nat.le_refl _, fun _ _ _ => rfl⟩
theorem trans2 (h : Ch S w w1) (k : Ch T w1 w2) (hT : ∀ t ∈ T, t ∈ S ∨ w.heap.size ≤ t) : Ch S w w2 :=
  ⟨k.os.trans h.os, k.tape.trans h.tape, k.output.trans h.output, Nat.le_trans h.size k.size, fun i hi hn =>
    (k.block i (Nat.lt_of_lt_of_le hi h.size) (fun ht => by rcases hT i ht with h1 | h1; exact hn h1; omega)).trans (h.block i hi hn)⟩
theorem trans (h : Ch S w w1) (k : Ch S w1 w2) : Ch S w w2 := h.trans2 k fun _ ht => .inl ht
theorem pure (h : Ch S w w1) (k : Ch [] w1 w2) : Ch S w w2 := h.trans2 k fun _ ht => by cases ht
theorem mono (h : Ch S w w1) (hS : ∀ s ∈ S, s ∈ T) : Ch T w w1 := ⟨h.os, h.tape, h.output, h.size, fun k hk hn => h.block k hk fun hs => hn (hS k hs)⟩
theorem of_nil (h : Ch [] w w1) : Ch S w w1 := h.mono fun _ hs => by cases hs
theorem alloc (h : Ch S w w1) (o : Obj) : Ch S w (w1.alloc o) :=
  h.trans2 (T := []) ⟨rfl, rfl, rfl, by simp, fun k hk _ => Below.heap_alloc _ _ _ hk⟩ fun _ ht => by cases ht
theorem drew (h : Ch S w w1) : Ch S w w1.drew := ⟨h.os, h.tape, h.output, h.size, h.block⟩
theorem drewN (h : Ch S w w1) (n : Nat) : Ch S w (w1.drewN n) := ⟨h.os, h.tape, h.output, h.size, h.block⟩
theorem setCell (h : Ch S w w1) {p : Addr} (hp : p.block ∈ S ∨ w.heap.size ≤ p.block) (u : Value) : Ch S w (w1.setCell p u) :=
  h.trans2 (T := [p.block]) ⟨rfl, rfl, rfl, by simp [World.setCell], fun k _ hn => Below.heap_setCell _ _ _ _ (by simpa using hn)⟩
    fun t ht => by rw [List.mem_singleton.1 ht]; exact hp
theorem below {B : Nat} (h : Ch S w w1) (hB : B ≤ w.heap.size) (hS : ∀ s ∈ S, B ≤ s) : Below B w w1 :=
  ⟨h.os, h.tape, h.output, h.size, fun k hk => h.block k (by omega) fun hs => by have := hS k hs; omega⟩
theorem below_nil (h : Ch [] w w1) : Below w.heap.size w w1 := h.below (Nat.le_refl _) fun _ hs => by cases hs
theorem of_below (h : Below w.heap.size w w1) : Ch S w w1 := ⟨h.os, h.tape, h.output, h.size, fun k hk _ => h.block k hk⟩
theorem of_grown {row : Option Nat} (h : w.grownBy w1 row) (hr : ∀ k, row = some k → k ∈ S) : Ch S w w1 :=
  ⟨h.os, h.tape, h.output, h.size, fun k hk hn => h.block k hk fun e => hn (hr k e.symm)⟩
theorem cell (h : Ch [] w w1) : ∀ b o, b < w.heap.size → w1.cell? ⟨b, o, none⟩ = w.cell? ⟨b, o, none⟩ :=
  fun b _ hb => World.cell?_of_block (w := w) (h.block b hb (by simp))
theorem frozen (h : Ch [] w w1) : ∀ b o, b < w.heap.size → w1.frozen? ⟨b, o, none⟩ = w.frozen? ⟨b, o, none⟩ :=
  fun b _ hb => World.frozen?_of_block (w := w) (h.block b hb (by simp))
end Ch
/-- A block that is known whole. -/
def Blk (w : World) (g : Nat) (t : TypeId) (cs : Array Value) : Prop := w.heap[g]? = some (.cells cs t (0, 0))
namespace Blk
variable {w w1 : World} {g : Nat} {t : TypeId} {cs : Array Value} {S : List Nat}
theorem lt (h : Blk w g t cs) : g < w.heap.size := (Array.getElem?_eq_some_iff.1 h).1
theorem ch (h : Blk w g t cs) (c : Ch S w w1) (hn : g ∉ S) : Blk w1 g t cs := (c.block g h.lt hn).trans h
theorem cell (h : Blk w g t cs) (i : Nat) : w.cell? ⟨g, i, none⟩ = cs[i]? := by
  unfold Blk at h; simp [World.cell?, h]
theorem frozen (h : Blk w g t cs) (i : Nat) : w.frozen? ⟨g, i, none⟩ = false := by
  unfold Blk at h; simp [World.frozen?, h]
theorem new (w : World) (t : TypeId) (cs : Array Value) : Blk (w.alloc (.cells cs t)) w.heap.size t cs := World.alloc_heap_new w _
theorem alloc (h : Blk w g t cs) (o : Obj) : Blk (w.alloc o) g t cs := (Below.heap_alloc w o g h.lt).trans h
theorem drew (h : Blk w g t cs) : Blk w.drew g t cs := h
theorem drewN (h : Blk w g t cs) (n : Nat) : Blk (w.drewN n) g t cs := h
end Blk
/-- An owned row lies on while other blocks change. -/
theorem own_ch {w w1 : World} {S : List Nat} {base : Nat} {e : TypeId} {size n : Nat} {v : Value} {xs : List Value} (h : w.ownsRow base e size v n xs) (c : Ch S w w1) (hS : ∀ s ∈ S, s < base) :
    w1.ownsRow base e size v n xs := by
  obtain ⟨h1, h2⟩ := h
  refine ⟨h1, ?_⟩
  rcases h2 with h2 | ⟨g, cap, cur, hv, hg, hh, r⟩
  · exact .inl h2
  · refine .inr ⟨g, cap, cur, hv, hg, (c.block g (Array.getElem?_eq_some_iff.1 hh).1 fun hs => ?_).trans hh, r⟩
    have := hS g hs; omega
theorem own_mono {w : World} {base base' : Nat} {e : TypeId} {size n : Nat} {v : Value} {xs : List Value} (h : w.ownsRow base e size v n xs) (hb : base' ≤ base) : w.ownsRow base' e size v n xs := by
  obtain ⟨h1, h2⟩ := h
  refine ⟨h1, ?_⟩
  rcases h2 with h2 | ⟨g, cap, cur, hv, hg, r⟩
  · exact .inl h2
  · exact .inr ⟨g, cap, cur, hv, by omega, r⟩
theorem own_block {w : World} {base : Nat} {e : TypeId} {size n : Nat} {v : Value} {xs : List Value} (h : w.ownsRow base e size v n xs) : ∀ k, v.ownBlock = some k → base ≤ k := by
  rcases h.2 with ⟨rfl, _⟩ | ⟨g, cap, cur, rfl, hg, _⟩
  · intro k hk; cases hk
  · intro k hk; cases hk; exact hg
theorem nn2 (n : Nat) : (n = n + 1 + 1) = False := by simp <;> omega
theorem nm2 (n : Nat) : (n + 1 + 1 = n) = False := by simp <;> omega
theorem nn3 (n : Nat) : (n = n + 1 + 1 + 1) = False := by simp <;> omega
theorem nm3 (n : Nat) : (n + 1 + 1 + 1 = n) = False := by simp <;> omega
theorem nn4 (n : Nat) : (n = n + 1 + 1 + 1 + 1) = False := by simp <;> omega
theorem nm4 (n : Nat) : (n + 1 + 1 + 1 + 1 = n) = False := by simp <;> omega
theorem nn5 (n : Nat) : (n = n + 1 + 1 + 1 + 1 + 1) = False := by simp <;> omega
theorem nm5 (n : Nat) : (n + 1 + 1 + 1 + 1 + 1 = n) = False := by simp <;> omega
theorem nn6 (n : Nat) : (n = n + 1 + 1 + 1 + 1 + 1 + 1) = False := by simp <;> omega
theorem nm6 (n : Nat) : (n + 1 + 1 + 1 + 1 + 1 + 1 = n) = False := by simp <;> omega
theorem nn7 (n : Nat) : (n = n + 1 + 1 + 1 + 1 + 1 + 1 + 1) = False := by simp <;> omega
theorem nm7 (n : Nat) : (n + 1 + 1 + 1 + 1 + 1 + 1 + 1 = n) = False := by simp <;> omega
theorem nn8 (n : Nat) : (n = n + 1 + 1 + 1 + 1 + 1 + 1 + 1 + 1) = False := by simp <;> omega
theorem nm8 (n : Nat) : (n + 1 + 1 + 1 + 1 + 1 + 1 + 1 + 1 = n) = False := by simp <;> omega
end Go.Proofs.Hc
/- Words of 64 and of 8 bits as bit vectors: the walk's integer operations on them. -/
namespace Go.Proofs.Hc
open Go.RowKit
/-- A bit vector's number, closed to the walk's simp. -/
def N {k : Nat} (b : BitVec k) : Int := (b.toNat : Int)
/-- A word of 64 bits, a byte, an int: as values. -/
abbrev U (b : BitVec 64) : Value := .int .u64 (N b)
abbrev Y (b : BitVec 8) : Value := .int .u8 (N b)
abbrev I (n : Int) : Value := .int .i64 n
theorem N_nonneg {k : Nat} (b : BitVec k) : 0 ≤ N b := Int.natCast_nonneg _
theorem N8_lt (b : BitVec 8) : N b < 256 := by unfold N; have := b.isLt; omega
theorem N_inj {k : Nat} (a b : BitVec k) : N a = N b ↔ a = b := by
  unfold N; rw [Int.natCast_inj, BitVec.toNat_inj]
theorem ofInt_N {k : Nat} (b : BitVec k) : BitVec.ofInt k (N b) = b := by
  unfold N; rw [BitVec.ofInt_natCast]; simp
theorem wrap_u64 (n : Int) : IntKind.u64.wrap n = N (BitVec.ofInt 64 n) := by
  unfold N; simp [IntKind.wrap, IntKind.bits, IntKind.signed, BitVec.toNat_ofInt]; omega
theorem wrap_u8 (n : Int) : IntKind.u8.wrap n = N (BitVec.ofInt 8 n) := by
  unfold N; simp [IntKind.wrap, IntKind.bits, IntKind.signed, BitVec.toNat_ofInt]; omega
theorem bits_xor64 (x y : Int) : bits .xor .u64 x y = N (BitVec.ofInt 64 x ^^^ BitVec.ofInt 64 y) := by
  show IntKind.u64.wrap (N (BitVec.ofInt 64 x ^^^ BitVec.ofInt 64 y)) = _
  rw [wrap_u64, ofInt_N]
theorem bits_and64 (x y : Int) : bits .and .u64 x y = N (BitVec.ofInt 64 x &&& BitVec.ofInt 64 y) := by
  show IntKind.u64.wrap (N (BitVec.ofInt 64 x &&& BitVec.ofInt 64 y)) = _
  rw [wrap_u64, ofInt_N]
theorem bits_or64 (x y : Int) : bits .or .u64 x y = N (BitVec.ofInt 64 x ||| BitVec.ofInt 64 y) := by
  show IntKind.u64.wrap (N (BitVec.ofInt 64 x ||| BitVec.ofInt 64 y)) = _
  rw [wrap_u64, ofInt_N]
theorem bits_not64 (x y : Int) : bits .andNot .u64 x y = N (BitVec.ofInt 64 x &&& ~~~BitVec.ofInt 64 y) := by
  show IntKind.u64.wrap (N (BitVec.ofInt 64 x &&& ~~~BitVec.ofInt 64 y)) = _
  rw [wrap_u64, ofInt_N]
theorem bits_xor8 (x y : Int) : bits .xor .u8 x y = N (BitVec.ofInt 8 x ^^^ BitVec.ofInt 8 y) := by
  show IntKind.u8.wrap (N (BitVec.ofInt 8 x ^^^ BitVec.ofInt 8 y)) = _
  rw [wrap_u8, ofInt_N]
theorem bits_and8 (x y : Int) : bits .and .u8 x y = N (BitVec.ofInt 8 x &&& BitVec.ofInt 8 y) := by
  show IntKind.u8.wrap (N (BitVec.ofInt 8 x &&& BitVec.ofInt 8 y)) = _
  rw [wrap_u8, ofInt_N]
theorem bits_or8 (x y : Int) : bits .or .u8 x y = N (BitVec.ofInt 8 x ||| BitVec.ofInt 8 y) := by
  show IntKind.u8.wrap (N (BitVec.ofInt 8 x ||| BitVec.ofInt 8 y)) = _
  rw [wrap_u8, ofInt_N]
theorem max64 : IntKind.u64.max = N (BitVec.allOnes 64) := by decide
theorem signed64 : IntKind.u64.signed = false := rfl
theorem signed8 : IntKind.u8.signed = false := rfl
theorem bits_com64 (x : Int) : bits .xor .u64 IntKind.u64.max x = N (~~~BitVec.ofInt 64 x) := by
  rw [bits_xor64, max64, ofInt_N, BitVec.allOnes_xor]
theorem shr_pow (x : BitVec 64) (n : Nat) : N x / 2 ^ n = N (x >>> n) := by
  unfold N; rw [BitVec.toNat_ushiftRight, Nat.shiftRight_eq_div_pow]; simp
theorem shr_min (x : BitVec 64) (n : Nat) : N x / 2 ^ min n 64 = N (x >>> n) := by
  rw [shr_pow]
  rcases Nat.lt_or_ge n 64 with h | h
  · rw [Nat.min_eq_left (by omega)]
  · rw [Nat.min_eq_right h, BitVec.ushiftRight_eq_zero h, BitVec.ushiftRight_eq_zero (Nat.le_refl _)]
theorem wide8 (b : BitVec 8) : Value.int .u64 (N b) = Value.int .u64 (N (b.setWidth 64)) := by
  have h : N b = N (b.setWidth 64) := by
    unfold N; rw [BitVec.toNat_setWidth]; have := b.isLt; rw [Nat.mod_eq_of_lt (by omega)]
  rw [h]
theorem ofInt64_N8 (b : BitVec 8) : BitVec.ofInt 64 (N b) = b.setWidth 64 := by
  unfold N; rw [BitVec.ofInt_natCast]; apply BitVec.eq_of_toNat_eq; simp
theorem shl_wrap (x : Int) (n : Nat) : IntKind.u64.wrap (x * 2 ^ n) = N (BitVec.ofInt 64 x <<< n) := by
  have h2 : ((2 : Int) ^ n) = ((2 ^ n : Nat) : Int) := by simp
  rw [wrap_u64, BitVec.ofInt_mul, h2, BitVec.ofInt_natCast, BitVec.shiftLeft_eq_mul_twoPow]
  congr 2
  apply BitVec.eq_of_toNat_eq; simp [BitVec.toNat_twoPow]
theorem shr1 (x : BitVec 64) : N x / (2 : Int) = N (x >>> 1) := by have := shr_pow x 1; simpa using this
theorem shr7 (x : BitVec 64) : N x / (128 : Int) = N (x >>> 7) := by have := shr_pow x 7; simpa using this
theorem shr56 (x : BitVec 64) : N x / (72057594037927936 : Int) = N (x >>> 56) := by have := shr_pow x 56; simpa using this
theorem ofInt8_N64 (x : BitVec 64) : BitVec.ofInt 8 (N x) = x.setWidth 8 := by
  unfold N; rw [BitVec.ofInt_natCast]; apply BitVec.eq_of_toNat_eq; simp
theorem eqN {k : Nat} (a b : BitVec k) : ((N a == N b) : Bool) = (a == b) := by
  rw [Bool.eq_iff_iff, beq_iff_eq, beq_iff_eq, N_inj]
theorem neN {k : Nat} (a b : BitVec k) : ((N a != N b) : Bool) = (a != b) := by
  simp only [bne, eqN]
theorem ofInt_sub' {k : Nat} (x y : Int) : BitVec.ofInt k (x - y) = BitVec.ofInt k x - BitVec.ofInt k y := by
  rw [Int.sub_eq_add_neg, BitVec.ofInt_add, BitVec.ofInt_neg, BitVec.sub_eq_add_neg]
/-- A pure callee (its world is the caller's) inside a region that draws its order. -/
theorem quietL {P : Program} {f : FuncId} {args : Array Value} {w : World} {n : Nat} {v : Value}
    (h : Calls P f args (w.drewN n) fun e w' => e = .returned v ∧ w.drewN n = w') : Calls P f args (w.drewN n) fun e w'' => e = .returned v ∧ ∃ m, w'' = w.drewN m :=
  h.mono fun _ _ ⟨he, hm⟩ => ⟨he, n, hm.symm⟩
/-- The worlds that differ from W by new blocks and draws alone. -/
def Gar (W : World) : Type := { w : World // Ch [] W w }
instance (W : World) : Nonempty (Gar W) := ⟨⟨W, Ch.refl [] W⟩⟩
/-- A region that draws its order, whose operations read what W holds, and whose callees change no old block. -/
theorem wp_region_gar {P : Program} {l : List Oper} {id : Nat} {Q : Exit → Act → World → Prop} {a : Act} {w : World} (hm : P.follows .mixedOrders = true) (hB : Region.lexB .any l.toArray = true)
    (h : wpQuiet P l.toArray (fun w' => ∃ g : Gar w, w' = g.1) (fun a' => ∀ w', (∃ g : Gar w, w' = g.1) → Q .normal a' w') l a) : (Code.region id l.toArray true).wp P Q a w :=
  wp_region_quiet (C := fun w' => ∃ g : Gar w, w' = g.1) hm hB ⟨⟨_, (Ch.refl [] w).drew⟩, rfl⟩ (by simpa using h)
/-- A callee that changes no old block inside such a region. -/
theorem garC {P : Program} {f : FuncId} {args : Array Value} {w : World} {g : Gar w} {v : Value}
    (h : Calls P f args g.1 fun e w' => e = .returned v ∧ Ch [] g.1 w') : Calls P f args g.1 fun e w'' => e = .returned v ∧ ∃ g' : Gar w, w'' = g'.1 :=
  h.mono fun _ w'' ⟨he, hm⟩ => ⟨he, ⟨w'', g.2.trans hm⟩, rfl⟩
/-- A pure callee inside such a region. -/
theorem garL {P : Program} {f : FuncId} {args : Array Value} {w : World} {g : Gar w} {v : Value}
    (h : Calls P f args g.1 fun e w' => e = .returned v ∧ g.1 = w') : Calls P f args g.1 fun e w'' => e = .returned v ∧ ∃ g' : Gar w, w'' = g'.1 :=
  h.mono fun _ _ ⟨he, hm⟩ => ⟨he, g, hm.symm⟩
end Go.Proofs.Hc
/- Leaf contracts: words, bytes, hashes. -/
namespace Go.Proofs.Hc
open Go.RowKit
def lows : BitVec 64 := 0x7f7f7f7f7f7f7f7f#64
def tops : BitVec 64 := 0x8080808080808080#64
def ones : BitVec 64 := 0x0101010101010101#64
def byteAt (x : BitVec 64) (n : Nat) : BitVec 8 := (x >>> (8 * n)).setWidth 8
def withB (x : BitVec 64) (n : Nat) (b : BitVec 8) : BitVec 64 := (x &&& ~~~(255#64 <<< (8 * n))) ||| (b.setWidth 64 <<< (8 * n))
def noughts (x : BitVec 64) : BitVec 64 := ~~~(((x &&& lows) + lows) ||| x ||| lows)
def gathered (x : BitVec 64) : BitVec 8 := (((x >>> 7) * 0x0102040810204080#64) >>> 56).setWidth 8
def fillB (b : BitVec 8) : BitVec 64 := b.setWidth 64 * ones
def alike (v w : BitVec 64) : BitVec 8 := gathered (noughts (v ^^^ w))
def equalM (w : BitVec 64) (b : BitVec 8) : BitVec 8 := alike w (fillB b)
def lessM (x y : BitVec 64) : BitVec 64 := ~~~((x ||| tops) - (y &&& lows)) &&& tops
def belowM (x : BitVec 64) (b : BitVec 8) : BitVec 8 := gathered ((~~~x &&& fillB b &&& tops) ||| (~~~(x ^^^ fillB b) &&& lessM x (fillB b)))
def mixF (x : BitVec 64) (n : Nat) : BitVec 64 := x ^^^ (x >>> n)
def hashOf (s k : BitVec 64) : BitVec 64 := mixF (mixF ((k ^^^ s) * 0xbf58476d1ce4e5b9#64) 32 * 0x94d049bb133111eb#64) 29
def hash1 (h : BitVec 64) : BitVec 64 := h >>> 7
def hash2 (h : BitVec 64) : BitVec 8 := h.setWidth 8 &&& 127#8
attribute [local go_sem] wrap_u64 wrap_u8 bits_xor64 bits_and64 bits_or64 bits_not64 bits_xor8 bits_and8 bits_or8 signed64 signed8 ofInt_N BitVec.ofInt_add BitVec.ofInt_mul ofInt_sub' ofInt8_N64 ofInt64_N8 wide8 eqN neN shr_pow shr1 shr7 shr56
attribute [local go_sem high] bits_com64 shl_wrap
theorem shift_any (n : Nat) (w : World) (h : n < 8) :
    Calls Tryz.prog 248 #[I n] w fun e w' => e = .returned (I ((8 * n : Nat) : Int)) ∧ w = w' := by
  go_enter Tryz.func248, Tryz.ntmps248
  go_wp2
  go_ret
  exact ⟨by rw [show ((8 * n : Nat) : Int) = (n : Int) * 8 by omega]; rfl, rfl⟩
theorem word_at_any (x : BitVec 64) (n : Nat) (w : World) (h : n < 8) :
    Calls Tryz.prog 213 #[U x, I n] w fun e w' => e = .returned (Y (byteAt x n)) ∧ w = w' := by
  go_enter Tryz.func213, Tryz.ntmps213
  go_wp2_with (go_at_call 248; refine (shift_any _ _ h).mono ?_; rintro e w' ⟨rfl, rfl⟩)
  go_ret
  exact ⟨rfl, rfl⟩
theorem noughts_any (x : BitVec 64) (w : World) :
    Calls Tryz.prog 257 #[U x] w fun e w' => e = .returned (U (noughts x)) ∧ w = w' := by
  go_enter Tryz.func257, Tryz.ntmps257
  go_wp2
  go_ret
  exact ⟨by unfold noughts lows; rfl, rfl⟩
theorem gathered_any (x : BitVec 64) (w : World) :
    Calls Tryz.prog 256 #[U x] w fun e w' => e = .returned (Y (gathered x)) ∧ w = w' := by
  go_enter Tryz.func256, Tryz.ntmps256
  go_wp2
  go_ret
  exact ⟨by unfold gathered; rfl, rfl⟩
theorem with_any (x : BitVec 64) (n : Nat) (b : BitVec 8) (w : World) (h : n < 8) :
    Calls Tryz.prog 261 #[U x, I n, Y b] w fun e w' => e = .returned (U (withB x n b)) ∧ Ch [] w w' := by
  go_enter Tryz.func261, Tryz.ntmps261
  go_wp2
  go_quiet ((go_at_call 248; exact quietL (shift_any _ _ h)))
  go_wp2
  go_ret
  exact ⟨by unfold withB; rfl, (Ch.refl [] w).drewN nq⟩
theorem fillB_any (b : BitVec 8) (w : World) :
    Calls Tryz.prog 188 #[Y b] w fun e w' => e = .returned (U (fillB b)) ∧ w = w' := by
  go_enter Tryz.func188, Tryz.ntmps188
  go_wp2
  go_ret
  exact ⟨by unfold fillB ones; rfl, rfl⟩
theorem alike_any (x y : BitVec 64) (w : World) :
    Calls Tryz.prog 246 #[U x, U y] w fun e w' => e = .returned (Y (alike x y)) ∧ w = w' := by
  go_enter Tryz.func246, Tryz.ntmps246
  go_wp2_with (first
    | (go_at_call 257; refine (noughts_any _ _).mono ?_; rintro e w' ⟨rfl, rfl⟩)
    | (go_at_call 256; refine (gathered_any _ _).mono ?_; rintro e w' ⟨rfl, rfl⟩))
  go_ret
  exact ⟨rfl, rfl⟩
theorem equal_any (x : BitVec 64) (b : BitVec 8) (w : World) :
    Calls Tryz.prog 208 #[U x, Y b] w fun e w' => e = .returned (Y (equalM x b)) ∧ w = w' := by
  go_enter Tryz.func208, Tryz.ntmps208
  go_wp2_with (first
    | (go_at_call 188; refine (fillB_any _ _).mono ?_; rintro e w' ⟨rfl, rfl⟩)
    | (go_at_call 246; refine (alike_any _ _ _).mono ?_; rintro e w' ⟨rfl, rfl⟩))
  go_ret
  exact ⟨rfl, rfl⟩
theorem below_any (x : BitVec 64) (b : BitVec 8) (w : World) :
    Calls Tryz.prog 242 #[U x, Y b] w fun e w' => e = .returned (Y (belowM x b)) ∧ w = w' := by
  go_enter Tryz.func242, Tryz.ntmps242
  go_wp2_with (first
    | (go_at_call 188; refine (fillB_any _ _).mono ?_; rintro e w' ⟨rfl, rfl⟩)
    | (go_at_call 256; refine (gathered_any _ _).mono ?_; rintro e w' ⟨rfl, rfl⟩))
  go_ret
  exact ⟨by unfold belowM lessM lows tops; rfl, rfl⟩
theorem times_any (x : BitVec 64) (y : Int) (w : World) :
    Calls Tryz.prog 112 #[U x, .int .u64 y] w fun e w' => e = .returned (U (x * BitVec.ofInt 64 y)) ∧ w = w' := by
  go_enter Tryz.func112, Tryz.ntmps112
  go_wp2
  go_ret
  exact ⟨rfl, rfl⟩
theorem folded_any (x : BitVec 64) (n : Int) (h : 0 ≤ n) (w : World) :
    Calls Tryz.prog 113 #[U x, I n] w fun e w' => e = .returned (U (mixF x n.toNat)) ∧ w = w' := by
  obtain ⟨n, rfl⟩ := Int.eq_ofNat_of_zero_le h
  go_enter Tryz.func113, Tryz.ntmps113
  have hm : N x / 2 ^ min n 64 = N (x >>> n) := shr_min x n
  go_wp2
  go_ret
  exact ⟨by unfold mixF; rfl, rfl⟩
theorem hashOf_any (s k : BitVec 64) (w : World) :
    Calls Tryz.prog 54 #[U s, U k] w fun e w' => e = .returned (U (hashOf s k)) ∧ w = w' := by
  go_enter Tryz.func54, Tryz.ntmps54
  go_wp2_with (first
    | (go_at_call 112; refine (times_any _ _ _).mono ?_; rintro e w' ⟨rfl, rfl⟩)
    | (go_at_call 113; refine (folded_any _ _ (by decide) _).mono ?_; rintro e w' ⟨rfl, rfl⟩))
  go_ret
  exact ⟨by unfold hashOf; rfl, rfl⟩
theorem hash1_any (h : BitVec 64) (w : World) :
    Calls Tryz.prog 195 #[U h] w fun e w' => e = .returned (U (hash1 h)) ∧ w = w' := by
  go_enter Tryz.func195, Tryz.ntmps195
  go_wp2
  go_ret
  exact ⟨rfl, rfl⟩
theorem hash2_any (h : BitVec 64) (w : World) :
    Calls Tryz.prog 204 #[U h] w fun e w' => e = .returned (Y (hash2 h)) ∧ w = w' := by
  go_enter Tryz.func204, Tryz.ntmps204
  go_wp2
  go_ret
  exact ⟨rfl, rfl⟩
end Go.Proofs.Hc
/- Memory in the walk: blocks known whole, rows of cells loaded and stored at once. -/
namespace Go.Proofs.Hc
open Go.RowKit
/-- What a cell of an object holds. -/
def cellAt (o : Nat) : Obj → Option Value
  | .cells c _ _ => c[o]?
  | _ => none
def iceAt (o : Nat) : Obj → Bool
  | .cells _ _ fr => fr.1 ≤ o && o < fr.2
  | _ => false
def setAt (o : Nat) (v : Value) : Obj → Obj
  | .cells c t fr => .cells (c.setIfInBounds o v) t fr
  | x => x
def rowAt (o n : Nat) : Obj → Option (Array Value)
  | .cells c _ _ => if o + n ≤ c.size then some (c.extract o (o + n)) else none
  | _ => none
/-- The cells of a row from o on are these. -/
def laidAt (o : Nat) (vs : Array Value) : Obj → Obj
  | .cells c t fr => .cells (c.extract 0 o ++ vs ++ c.extract (o + vs.size) c.size) t fr
  | x => x
def World.onObj (w : World) (g : Nat) (f : Obj → Obj) : World := { w with heap := w.heap.modify g f }
theorem cell_heap (w : World) (g o : Nat) : w.cell? ⟨g, o, none⟩ = (w.heap[g]?).bind (cellAt o) := by
  unfold World.cell? cellAt
  cases h : w.heap[g]? with
  | none => simp
  | some x => cases x <;> simp
theorem ice_heap (w : World) (g o : Nat) : w.frozen? ⟨g, o, none⟩ = ((w.heap[g]?).map (iceAt o)).getD false := by
  unfold World.frozen? iceAt
  cases h : w.heap[g]? with
  | none => simp
  | some x => cases x <;> simp
theorem cellAt_cells (o : Nat) (c : Array Value) (t : TypeId) (fr : Nat × Nat) : cellAt o (.cells c t fr) = c[o]? := rfl
theorem iceAt_cells (o : Nat) (c : Array Value) (t : TypeId) (fr : Nat × Nat) : iceAt o (.cells c t fr) = (decide (fr.1 ≤ o) && decide (o < fr.2)) := rfl
theorem setAt_cells (o : Nat) (v : Value) (c : Array Value) (t : TypeId) (fr : Nat × Nat) : setAt o v (.cells c t fr) = .cells (c.setIfInBounds o v) t fr := rfl
theorem heap_alloc (w : World) (o : Obj) (g : Nat) : (w.alloc o).heap[g]? = if g = w.heap.size then some o else w.heap[g]? := by
  show (w.heap.push o)[g]? = _
  rw [Array.getElem?_push]
theorem heap_drew (w : World) (g : Nat) : w.drew.heap[g]? = w.heap[g]? := rfl
theorem heap_drewN (w : World) (n g : Nat) : (w.drewN n).heap[g]? = w.heap[g]? := rfl
theorem heap_setCell (w : World) (p o g : Nat) (v : Value) : (w.setCell ⟨p, o, none⟩ v).heap[g]? = if g = p then (w.heap[g]?).map (setAt o v) else w.heap[g]? := by
  simp only [World.setCell, Array.getElem?_modify]
  by_cases h : p = g
  · subst h
    simp only [if_true]
    cases w.heap[p]? with
    | none => rfl
    | some x => cases x <;> simp [setAt]
  · rw [if_neg h, if_neg (fun e => h e.symm)]
theorem heap_onObj (w : World) (p g : Nat) (f : Obj → Obj) : (World.onObj w p f).heap[g]? = if g = p then (w.heap[g]?).map f else w.heap[g]? := by
  simp only [World.onObj, Array.getElem?_modify]
  by_cases h : p = g
  · subst h; simp
  · rw [if_neg h, if_neg (fun e => h e.symm)]
theorem size_onObj (w : World) (p : Nat) (f : Obj → Obj) : (World.onObj w p f).heap.size = w.heap.size := by simp [World.onObj]
theorem size_setCell (w : World) (p : Addr) (v : Value) : (w.setCell p v).heap.size = w.heap.size := by simp [World.setCell]
theorem Ch.onObj {S : List Nat} {w w1 : World} (h : Ch S w w1) {p : Nat} (hp : p ∈ S ∨ w.heap.size ≤ p) (f : Obj → Obj) : Ch S w (World.onObj w1 p f) :=
  h.trans2 (T := [p]) ⟨rfl, rfl, rfl, by rw [size_onObj]; exact Nat.le_refl _, fun k _ hn => by
    rw [heap_onObj, if_neg (by simpa using hn)]⟩ fun t ht => by rw [List.mem_singleton.1 ht]; exact hp
/-- The same loads and stores, closed to the walk's simp. -/
def loadRow (t : TypeId) (a : Addr) : Sem Value := loadVar t a
def buildRow (t : TypeId) (ps : Array (Nat × Value)) : Sem Value := Instr.build t ps
def storeRow (t : TypeId) (a : Addr) (v : Value) : Sem Unit := storeVar t a v
/-- A row that is loaded at once; where there is none, the load as it is. -/
def stuckRow (P : Program) (t : TypeId) (g o : Nat) (w : World) : Result Value := (loadVar t ⟨g, o, none⟩).run P w
def stuckLay (P : Program) (t : TypeId) (g o : Nat) (v : Value) (w : World) : Result Unit := (storeVar t ⟨g, o, none⟩ v).run P w
def rowRes (P : Program) (t : TypeId) (g o : Nat) (w : World) : Option (Array Value) → Result Value
  | some r => .ok (.agg r) w
  | none => stuckRow P t g o w
theorem rowRes_some (P : Program) (t : TypeId) (g o : Nat) (w : World) (r : Array Value) : rowRes P t g o w (some r) = .ok (.agg r) w := rfl
theorem rowAt_cells (o n : Nat) (c : Array Value) (t : TypeId) (fr : Nat × Nat) : rowAt o n (.cells c t fr) = if o + n ≤ c.size then some (c.extract o (o + n)) else none := rfl
theorem run_row {P : Program} {t : TypeId} {n : Nat} {d : TypeDesc} (hu : P.underlying t = some d) (hd : (match d with | .struct _ | .array _ _ => true | _ => false) = true)
    (hi : (P.info? t).map (·.size) = some n) (g o : Nat) (w : World) :
    (loadRow t ⟨g, o, none⟩).run P w = rowRes P t g o w ((w.heap[g]?).bind (rowAt o n)) := by
  unfold loadRow
  cases hr : (w.heap[g]?).bind (rowAt o n) with
  | none => rfl
  | some r =>
    rw [rowRes_some]
    cases hg : w.heap[g]? with
    | none => rw [hg] at hr; cases hr
    | some x =>
      rw [hg] at hr
      cases x <;> first | (cases hr; done) | skip
      rename_i c e fr
      simp only [Option.bind_some, rowAt] at hr
      split at hr
      · rename_i hle
        have hr' : c.extract o (o + n) = r := by simpa using hr
        have hsz : r.size = n := by rw [← hr']; simp; omega
        have hl : (loadCells ⟨g, o, none⟩ r.toList.length).run P w = .ok r.toList.toArray w :=
          run_loadCells_list (P := P) w ⟨g, o, none⟩ r.toList (fun j v hv => by
            have hadd : (⟨g, o, none⟩ : Addr).add j = ⟨g, o + j, none⟩ := by unfold Addr.add; split <;> simp_all
            rw [hadd, cell_heap, hg, Option.bind_some, cellAt_cells]
            have hv' : r[j]? = some v := by simpa using hv
            rw [← hr', Array.getElem?_extract] at hv'
            split at hv' <;> simp_all)
        cases hq : P.info? t with
        | none => simp [hq] at hi
        | some i =>
          have hs : i.size = n := by simpa [hq] using hi
          have hagg : (isAgg t).run P w = .ok true w := by
            unfold isAgg
            rw [Sem.run_bind, run_underlying hu w]
            cases d <;> simp_all
          simp only [Array.length_toList, Array.toArray_toList, hsz] at hl
          simp [loadVar, Sem.run_bind, hagg, sizeOf, typeInfo, hq, hs, hl]
      · cases hr
def allOne (vs : Array Value) : Bool := vs.all (·.oneCell')
/-- A row that is stored at once. -/
def canLay (o n : Nat) (vs : Array Value) : Obj → Bool
  | .cells c _ fr => fr == (0, 0) && decide (o + n ≤ c.size) && decide (vs.size = n) && allOne vs
  | _ => false
theorem canLay_cells (o n : Nat) (vs c : Array Value) (t : TypeId) (fr : Nat × Nat) :
    canLay o n vs (.cells c t fr) = (fr == (0, 0) && decide (o + n ≤ c.size) && decide (vs.size = n) && allOne vs) := rfl
def layRes (P : Program) (t : TypeId) (g o : Nat) (vs : Array Value) (w : World) : Bool → Result Unit
  | true => .ok () (World.onObj w g (laidAt o vs))
  | false => stuckLay P t g o (.agg vs) w
theorem layRes_true (P : Program) (t : TypeId) (g o : Nat) (vs : Array Value) (w : World) : layRes P t g o vs w true = .ok () (World.onObj w g (laidAt o vs)) := rfl
theorem laidAt_cells (o : Nat) (vs c : Array Value) (t : TypeId) (fr : Nat × Nat) : laidAt o vs (.cells c t fr) = .cells (c.extract 0 o ++ vs ++ c.extract (o + vs.size) c.size) t fr := rfl
theorem laid_whole (vs c : Array Value) (h : c.size = vs.size) : c.extract 0 0 ++ vs ++ c.extract (0 + vs.size) c.size = vs := by
  have h1 : c.extract (0 + vs.size) c.size = #[] := by apply Array.eq_empty_of_size_eq_zero; simp; omega
  have h2 : c.extract 0 0 = #[] := by apply Array.eq_empty_of_size_eq_zero; simp
  rw [h1, h2]; simp
theorem run_lay {P : Program} {t : TypeId} {n : Nat} (hi : (P.info? t).map (·.size) = some n) (g o : Nat) (vs : Array Value) (w : World) :
    (storeRow t ⟨g, o, none⟩ (.agg vs)).run P w = layRes P t g o vs w (((w.heap[g]?).map (canLay o n vs)).getD false) := by
  unfold storeRow
  cases hr : ((w.heap[g]?).map (canLay o n vs)).getD false with
  | false => rfl
  | true =>
    rw [layRes_true]
    cases hg : w.heap[g]? with
    | none => rw [hg] at hr; cases hr
    | some x =>
      rw [hg] at hr
      cases x <;> first | (cases hr; done) | skip
      rename_i c e fr
      simp only [Option.map_some, Option.getD_some, canLay_cells, Bool.and_eq_true, decide_eq_true_eq, beq_iff_eq] at hr
      obtain ⟨⟨⟨hfr, hle⟩, hn⟩, hall⟩ := hr
      subst hfr
      have := run_storeCells_at (P := P) g o e vs.toList 0 c w hg (by simp; omega) (fun v hv => (Array.all_eq_true_iff_forall_mem.1 (show vs.all (·.oneCell') = true from hall)) v (by simpa using hv))
      cases hq : P.info? t with
      | none => simp [hq] at hi
      | some i =>
        have hs : i.size = n := by simpa [hq] using hi
        have he : w.setRow g (c.toList.take (o + 0) ++ vs.toList ++ c.toList.drop (o + 0 + vs.toList.length)).toArray = World.onObj w g (laidAt o vs) := by
          unfold World.setRow World.onObj
          congr 1
          apply Array.ext_getElem?
          intro k
          simp only [Array.getElem?_modify]
          by_cases hk : g = k
          · subst hk
            simp only [if_true, hg, Option.map_some, laidAt]
            congr 2
            apply Array.ext'
            simp [List.take_of_length_le]
          · simp [hk]
        rw [he] at this
        simp [storeVar, sizeOf, typeInfo, hq, Value.cells, hs, hn, this]
theorem results_cell2 {P : Program} {fn : Func} {p q : Tmp} {T1 T2 : TypeId} (h : fn.results = #[.cell p T1, .cell q T2]) (tmps : Array Value) (a b : Addr) (w : World) {x y : Value}
    (hp : tmps.getD p undef = .pointer (some a)) (hq : tmps.getD q undef = .pointer (some b)) (h1 : (loadVar T1 a).run P w = .ok x w) (h2 : (loadVar T2 b).run P w = .ok y w) :
    (results fn tmps).run P w = .ok (.tuple #[x, y]) w := by
  have hp' : tmps[p]?.getD undef = .pointer (some a) := by simpa using hp
  have hq' : tmps[q]?.getD undef = .pointer (some b) := by simpa using hq
  simp [results, h, hp', hq', asAddr, h1, h2]
theorem load_one {P : Program} {T : TypeId} {d : TypeDesc} (hu : P.underlying T = some d) (hd : (match d with | .struct _ | .array _ _ => true | _ => false) = false) (p : Nat) (w : World) {x : Value} {t : TypeId} {fr : Nat × Nat}
    (h : w.heap[p]? = some (.cells #[x] t fr)) : (loadVar T ⟨p, 0, none⟩).run P w = .ok x w := by
  have hagg : (isAgg T).run P w = .ok false w := by
    unfold isAgg
    rw [Sem.run_bind, run_underlying hu w]
    cases d <;> simp_all
  have hc : w.cell? ⟨p, 0, none⟩ = some x := by rw [cell_heap, h]; rfl
  simp [loadVar, Sem.run_bind, hagg, go_sem, hc]
theorem make_func1 {P : Program} (fn : Fn) (first cap : Array Value) (w : World) : (Instr.makeFunc fn first cap).run P w = .ok (.func fn first cap) w := rfl
end Go.Proofs.Hc
