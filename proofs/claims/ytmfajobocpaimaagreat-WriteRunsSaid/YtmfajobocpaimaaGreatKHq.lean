/- The words for memory that all walks of this seat use: which old blocks a call may have changed, and blocks that are known whole. -/
import Derived.Below
import Derived.Deep.Draws
import Derived.Lib.Hide
import Derived.RangeFuncRecord
import Derived.Test.YtmfajobocpaimaaGreatProg
import Derived.WalkKit
import Derived.BigQuiet
import Derived.Deep.QuietTactic
import Derived.StillTail
set_option linter.unusedSimpArgs false
set_option linter.unusedVariables false
namespace Go.Proofs.Hc
open Go.RowKit
/-- Of the blocks that there were only those of S may have changed; new ones may have come. -/
structure Ch (S : List Nat) (w w' : World) : Prop where
  os : w'.os = w.os
  tape : w'.tape = w.tape
  output : w'.output = w.output
  size : w.heap.size ≤ w'.heap.size
  block : ∀ k, k < w.heap.size → k ∉ S → w'.heap[k]? = w.heap[k]?
namespace Ch
variable {S T : List Nat} {w w1 w2 : World}
theorem refl (S : List Nat) (w : World) : Ch S w w := ⟨rfl, rfl, rfl, Nat.le_refl _, fun _ _ _ => rfl⟩
theorem trans2 (h : Ch S w w1) (k : Ch T w1 w2) (hT : ∀ t ∈ T, t ∈ S ∨ w.heap.size ≤ t) : Ch S w w2 :=
  ⟨k.os.trans h.os, k.tape.trans h.tape, k.output.trans h.output, Nat.le_trans h.size k.size, fun i hi hn =>
    (k.block i (Nat.lt_of_lt_of_le hi h.size) (fun ht => by rcases hT i ht with h1 | h1; exact hn h1; omega)).trans (h.block i hi hn)⟩
theorem trans (h : Ch S w w1) (k : Ch S w1 w2) : Ch S w w2 := h.trans2 k fun _ ht => .inl ht
theorem pure (h : Ch S w w1) (k : Ch [] w1 w2) : Ch S w w2 := h.trans2 k fun _ ht => by cases ht
theorem mono (h : Ch S w w1) (hS : ∀ s ∈ S, s ∈ T) : Ch T w w1 := ⟨h.os, h.tape, h.output, h.size, fun k hk hn => h.block k hk fun hs => hn (hS k hs)⟩
theorem of_nil (h : Ch [] w w1) : Ch S w w1 := h.mono fun _ hs => by cases hs
theorem alloc (h : Ch S w w1) (o : Obj) : Ch S w (w1.alloc o) :=
  h.trans2 (T := []) ⟨rfl, rfl, rfl, by simp, fun k hk _ => Below.heap_alloc _ _ _ hk⟩ fun _ ht => by cases ht
theorem drew (h : Ch S w w1) : Ch S w w1.drew := ⟨h.os, h.tape, h.output, h.size, h.block⟩
theorem drewN (h : Ch S w w1) (n : Nat) : Ch S w (w1.drewN n) := ⟨h.os, h.tape, h.output, h.size, h.block⟩
theorem setCell (h : Ch S w w1) {p : Addr} (hp : p.block ∈ S ∨ w.heap.size ≤ p.block) (u : Value) : Ch S w (w1.setCell p u) :=
  h.trans2 (T := [p.block]) ⟨rfl, rfl, rfl, by simp [World.setCell], fun k _ hn => Below.heap_setCell _ _ _ _ (by simpa using hn)⟩
    fun t ht => by rw [List.mem_singleton.1 ht]; exact hp
theorem below {B : Nat} (h : Ch S w w1) (hB : B ≤ w.heap.size) (hS : ∀ s ∈ S, B ≤ s) : Below B w w1 :=
  ⟨h.os, h.tape, h.output, h.size, fun k hk => h.block k (by omega) fun hs => by have := hS k hs; omega⟩
theorem below_nil (h : Ch [] w w1) : Below w.heap.size w w1 := h.below (Nat.le_refl _) fun _ hs => by cases hs
theorem of_grown {row : Option Nat} (h : w.grownBy w1 row) (hr : ∀ k, row = some k → k ∈ S) : Ch S w w1 :=
  ⟨h.os, h.tape, h.output, h.size, fun k hk hn => h.block k hk fun e => hn (hr k e.symm)⟩
theorem cell (h : Ch [] w w1) : ∀ b o, b < w.heap.size → w1.cell? ⟨b, o, none⟩ = w.cell? ⟨b, o, none⟩ :=
  fun b _ hb => World.cell?_of_block (w := w) (h.block b hb (by simp))
theorem frozen (h : Ch [] w w1) : ∀ b o, b < w.heap.size → w1.frozen? ⟨b, o, none⟩ = w.frozen? ⟨b, o, none⟩ :=
  fun b _ hb => World.frozen?_of_block (w := w) (h.block b hb (by simp))
end Ch
/-- A block that is known whole. -/
def Blk (w : World) (g : Nat) (t : TypeId) (cs : Array Value) : Prop := w.heap[g]? = some (.cells cs t (0, 0))
namespace Blk
variable {w w1 : World} {g : Nat} {t : TypeId} {cs : Array Value} {S : List Nat}
theorem lt (h : Blk w g t cs) : g < w.heap.size := (Array.getElem?_eq_some_iff.1 h).1
theorem ch (h : Blk w g t cs) (c : Ch S w w1) (hn : g ∉ S) : Blk w1 g t cs := (c.block g h.lt hn).trans h
theorem cell (h : Blk w g t cs) (i : Nat) : w.cell? ⟨g, i, none⟩ = cs[i]? := by
  unfold Blk at h; simp [World.cell?, h]
theorem frozen (h : Blk w g t cs) (i : Nat) : w.frozen? ⟨g, i, none⟩ = false := by
  unfold Blk at h; simp [World.frozen?, h]
theorem new (w : World) (t : TypeId) (cs : Array Value) : Blk (w.alloc (.cells cs t)) w.heap.size t cs := World.alloc_heap_new w _
theorem alloc (h : Blk w g t cs) (o : Obj) : Blk (w.alloc o) g t cs := (Below.heap_alloc w o g h.lt).trans h
theorem drew (h : Blk w g t cs) : Blk w.drew g t cs := h
theorem drewN (h : Blk w g t cs) (n : Nat) : Blk (w.drewN n) g t cs := h
end Blk
/-- An owned row lies on while other blocks change. -/
theorem own_ch {w w1 : World} {S : List Nat} {base : Nat} {e : TypeId} {size n : Nat} {v : Value} {xs : List Value} (h : w.ownsRow base e size v n xs) (c : Ch S w w1) (hS : ∀ s ∈ S, s < base) :
    w1.ownsRow base e size v n xs := by
  obtain ⟨h1, h2⟩ := h
  refine ⟨h1, ?_⟩
  rcases h2 with h2 | ⟨g, cap, cur, hv, hg, hh, r⟩
  · exact .inl h2
  · refine .inr ⟨g, cap, cur, hv, hg, (c.block g (Array.getElem?_eq_some_iff.1 hh).1 fun hs => ?_).trans hh, r⟩
    have := hS g hs; omega
theorem own_block {w : World} {base : Nat} {e : TypeId} {size n : Nat} {v : Value} {xs : List Value} (h : w.ownsRow base e size v n xs) : ∀ k, v.ownBlock = some k → base ≤ k := by
  rcases h.2 with ⟨rfl, _⟩ | ⟨g, cap, cur, rfl, hg, _⟩
  · intro k hk; cases hk
  · intro k hk; cases hk; exact hg
theorem nn2 (n : Nat) : (n = n + 1 + 1) = False := by simp <;> omega
theorem nm2 (n : Nat) : (n + 1 + 1 = n) = False := by simp <;> omega
theorem nn3 (n : Nat) : (n = n + 1 + 1 + 1) = False := by simp <;> omega
theorem nm3 (n : Nat) : (n + 1 + 1 + 1 = n) = False := by simp <;> omega
theorem nn4 (n : Nat) : (n = n + 1 + 1 + 1 + 1) = False := by simp <;> omega
theorem nm4 (n : Nat) : (n + 1 + 1 + 1 + 1 = n) = False := by simp <;> omega
theorem nn5 (n : Nat) : (n = n + 1 + 1 + 1 + 1 + 1) = False := by simp <;> omega
theorem nm5 (n : Nat) : (n + 1 + 1 + 1 + 1 + 1 = n) = False := by simp <;> omega
theorem nn6 (n : Nat) : (n = n + 1 + 1 + 1 + 1 + 1 + 1) = False := by simp <;> omega
theorem nm6 (n : Nat) : (n + 1 + 1 + 1 + 1 + 1 + 1 = n) = False := by simp <;> omega
theorem nn7 (n : Nat) : (n = n + 1 + 1 + 1 + 1 + 1 + 1 + 1) = False := by simp <;> omega
theorem nm7 (n : Nat) : (n + 1 + 1 + 1 + 1 + 1 + 1 + 1 = n) = False := by simp <;> omega
theorem nn8 (n : Nat) : (n = n + 1 + 1 + 1 + 1 + 1 + 1 + 1 + 1) = False := by simp <;> omega
theorem nm8 (n : Nat) : (n + 1 + 1 + 1 + 1 + 1 + 1 + 1 + 1 = n) = False := by simp <;> omega
end Go.Proofs.Hc
/- Words of 64 and of 8 bits as bit vectors: the walk's integer operations on them. -/
namespace Go.Proofs.Hc
open Go.RowKit
/-- A bit vector's number, closed to the walk's simp. -/
def N {k : Nat} (b : BitVec k) : Int := (b.toNat : Int)
/-- A word of 64 bits, a byte, an int: as values. -/
abbrev U (b : BitVec 64) : Value := .int .u64 (N b)
abbrev Y (b : BitVec 8) : Value := .int .u8 (N b)
abbrev I (n : Int) : Value := .int .i64 n
theorem N_nonneg {k : Nat} (b : BitVec k) : 0 ≤ N b := Int.natCast_nonneg _
theorem N8_lt (b : BitVec 8) : N b < 256 := by unfold N; have := b.isLt; omega
theorem N_inj {k : Nat} (a b : BitVec k) : N a = N b ↔ a = b := by
  unfold N; rw [Int.natCast_inj, BitVec.toNat_inj]
theorem ofInt_N {k : Nat} (b : BitVec k) : BitVec.ofInt k (N b) = b := by
  unfold N; rw [BitVec.ofInt_natCast]; simp
theorem wrap_u64 (n : Int) : IntKind.u64.wrap n = N (BitVec.ofInt 64 n) := by
  unfold N; simp [IntKind.wrap, IntKind.bits, IntKind.signed, BitVec.toNat_ofInt]; omega
theorem wrap_u8 (n : Int) : IntKind.u8.wrap n = N (BitVec.ofInt 8 n) := by
  unfold N; simp [IntKind.wrap, IntKind.bits, IntKind.signed, BitVec.toNat_ofInt]; omega
theorem bits_xor64 (x y : Int) : bits .xor .u64 x y = N (BitVec.ofInt 64 x ^^^ BitVec.ofInt 64 y) := by
  show IntKind.u64.wrap (N (BitVec.ofInt 64 x ^^^ BitVec.ofInt 64 y)) = _
  rw [wrap_u64, ofInt_N]
theorem bits_and64 (x y : Int) : bits .and .u64 x y = N (BitVec.ofInt 64 x &&& BitVec.ofInt 64 y) := by
  show IntKind.u64.wrap (N (BitVec.ofInt 64 x &&& BitVec.ofInt 64 y)) = _
  rw [wrap_u64, ofInt_N]
theorem bits_or64 (x y : Int) : bits .or .u64 x y = N (BitVec.ofInt 64 x ||| BitVec.ofInt 64 y) := by
  show IntKind.u64.wrap (N (BitVec.ofInt 64 x ||| BitVec.ofInt 64 y)) = _
  rw [wrap_u64, ofInt_N]
theorem bits_not64 (x y : Int) : bits .andNot .u64 x y = N (BitVec.ofInt 64 x &&& ~~~BitVec.ofInt 64 y) := by
  show IntKind.u64.wrap (N (BitVec.ofInt 64 x &&& ~~~BitVec.ofInt 64 y)) = _
  rw [wrap_u64, ofInt_N]
theorem bits_xor8 (x y : Int) : bits .xor .u8 x y = N (BitVec.ofInt 8 x ^^^ BitVec.ofInt 8 y) := by
  show IntKind.u8.wrap (N (BitVec.ofInt 8 x ^^^ BitVec.ofInt 8 y)) = _
  rw [wrap_u8, ofInt_N]
theorem bits_and8 (x y : Int) : bits .and .u8 x y = N (BitVec.ofInt 8 x &&& BitVec.ofInt 8 y) := by
  show IntKind.u8.wrap (N (BitVec.ofInt 8 x &&& BitVec.ofInt 8 y)) = _
  rw [wrap_u8, ofInt_N]
theorem bits_or8 (x y : Int) : bits .or .u8 x y = N (BitVec.ofInt 8 x ||| BitVec.ofInt 8 y) := by
  show IntKind.u8.wrap (N (BitVec.ofInt 8 x ||| BitVec.ofInt 8 y)) = _
  rw [wrap_u8, ofInt_N]
theorem max64 : IntKind.u64.max = N (BitVec.allOnes 64) := by decide
theorem signed64 : IntKind.u64.signed = false := rfl
theorem signed8 : IntKind.u8.signed = false := rfl
theorem bits_com64 (x : Int) : bits .xor .u64 IntKind.u64.max x = N (~~~BitVec.ofInt 64 x) := by
  rw [bits_xor64, max64, ofInt_N, BitVec.allOnes_xor]
theorem shr_pow (x : BitVec 64) (n : Nat) : N x / 2 ^ n = N (x >>> n) := by
  unfold N; rw [BitVec.toNat_ushiftRight, Nat.shiftRight_eq_div_pow]; simp
theorem wide8 (b : BitVec 8) : Value.int .u64 (N b) = Value.int .u64 (N (b.setWidth 64)) := by
  have h : N b = N (b.setWidth 64) := by
    unfold N; rw [BitVec.toNat_setWidth]; have := b.isLt; rw [Nat.mod_eq_of_lt (by omega)]
  rw [h]
theorem ofInt64_N8 (b : BitVec 8) : BitVec.ofInt 64 (N b) = b.setWidth 64 := by
  unfold N; rw [BitVec.ofInt_natCast]; apply BitVec.eq_of_toNat_eq; simp
theorem shl_wrap (x : Int) (n : Nat) : IntKind.u64.wrap (x * 2 ^ n) = N (BitVec.ofInt 64 x <<< n) := by
  have h2 : ((2 : Int) ^ n) = ((2 ^ n : Nat) : Int) := by simp
  rw [wrap_u64, BitVec.ofInt_mul, h2, BitVec.ofInt_natCast, BitVec.shiftLeft_eq_mul_twoPow]
  congr 2
  apply BitVec.eq_of_toNat_eq; simp [BitVec.toNat_twoPow]
theorem shr1 (x : BitVec 64) : N x / (2 : Int) = N (x >>> 1) := by have := shr_pow x 1; simpa using this
theorem shr7 (x : BitVec 64) : N x / (128 : Int) = N (x >>> 7) := by have := shr_pow x 7; simpa using this
theorem shr8 (x : BitVec 64) : N x / (256 : Int) = N (x >>> 8) := by have := shr_pow x 8; simpa using this
theorem shr56 (x : BitVec 64) : N x / (72057594037927936 : Int) = N (x >>> 56) := by have := shr_pow x 56; simpa using this
theorem ofInt8_N64 (x : BitVec 64) : BitVec.ofInt 8 (N x) = x.setWidth 8 := by
  unfold N; rw [BitVec.ofInt_natCast]; apply BitVec.eq_of_toNat_eq; simp
theorem eqN {k : Nat} (a b : BitVec k) : ((N a == N b) : Bool) = (a == b) := by
  rw [Bool.eq_iff_iff, beq_iff_eq, beq_iff_eq, N_inj]
theorem neN {k : Nat} (a b : BitVec k) : ((N a != N b) : Bool) = (a != b) := by
  simp only [bne, eqN]
theorem ofInt_sub' {k : Nat} (x y : Int) : BitVec.ofInt k (x - y) = BitVec.ofInt k x - BitVec.ofInt k y := by
  rw [Int.sub_eq_add_neg, BitVec.ofInt_add, BitVec.ofInt_neg, BitVec.sub_eq_add_neg]
/-- A pure callee (its world is the caller's) inside a region that draws its order. -/
theorem quietL {P : Program} {f : FuncId} {args : Array Value} {w : World} {n : Nat} {v : Value}
    (h : Calls P f args (w.drewN n) fun e w' => e = .returned v ∧ w.drewN n = w') : Calls P f args (w.drewN n) fun e w'' => e = .returned v ∧ ∃ m, w'' = w.drewN m :=
  h.mono fun _ _ ⟨he, hm⟩ => ⟨he, n, hm.symm⟩
/-- The worlds that differ from W by new blocks and draws alone. -/
def Gar (W : World) : Type := { w : World // Ch [] W w }
instance (W : World) : Nonempty (Gar W) := ⟨⟨W, Ch.refl [] W⟩⟩
/-- A region that draws its order, whose operations read what W holds, and whose callees change no old block. -/
theorem wp_region_gar {P : Program} {l : List Oper} {id : Nat} {Q : Exit → Act → World → Prop} {a : Act} {w : World} (hm : P.follows .mixedOrders = true) (hB : Region.lexB .any l.toArray = true)
    (h : wpQuiet P l.toArray (fun w' => ∃ g : Gar w, w' = g.1) (fun a' => ∀ w', (∃ g : Gar w, w' = g.1) → Q .normal a' w') l a) : (Code.region id l.toArray true).wp P Q a w :=
  wp_region_quiet (C := fun w' => ∃ g : Gar w, w' = g.1) hm hB ⟨⟨_, (Ch.refl [] w).drew⟩, rfl⟩ (by simpa using h)
/-- A callee that changes no old block inside such a region. -/
theorem garC {P : Program} {f : FuncId} {args : Array Value} {w : World} {g : Gar w} {v : Value}
    (h : Calls P f args g.1 fun e w' => e = .returned v ∧ Ch [] g.1 w') : Calls P f args g.1 fun e w'' => e = .returned v ∧ ∃ g' : Gar w, w'' = g'.1 :=
  h.mono fun _ w'' ⟨he, hm⟩ => ⟨he, ⟨w'', g.2.trans hm⟩, rfl⟩
/-- A pure callee inside such a region. -/
theorem garL {P : Program} {f : FuncId} {args : Array Value} {w : World} {g : Gar w} {v : Value}
    (h : Calls P f args g.1 fun e w' => e = .returned v ∧ g.1 = w') : Calls P f args g.1 fun e w'' => e = .returned v ∧ ∃ g' : Gar w, w'' = g'.1 :=
  h.mono fun _ _ ⟨he, hm⟩ => ⟨he, g, hm.symm⟩
end Go.Proofs.Hc
/- A region that draws its order: its first operations read, or call what changes no old block; the others are forced behind them, one by one, and may write. -/
namespace Go.Proofs.Hc
open Go.RowKit
section
variable {P : Program} {ops : Array Oper} {md : Region.Mode} {C : World → Prop}
/-- Whatever order the first n are picked in, L holds behind them. -/
def headAny (P : Program) (md : Region.Mode) (ops : Array Oper) (C : World → Prop) (n : Nat) (L : Array Bool → Act → Prop) : Nat → Array Bool → Act → Prop
  | 0, listed, a => L listed a
  | f + 1, listed, a => Region.ready md ops listed ≠ [] ∧ ∀ i ∈ Region.ready md ops listed, i < n ∧ qOp P ops C i (headAny P md ops C n L f (listed.setIfInBounds i true)) a
theorem any_of_head {n g : Nat} {L : Array Bool → Act → Prop} {Q : Exit → Act → World → Prop} (hL : ∀ listed a w, C w → L listed a → wpAny P md ops Q g listed a w) (f : Nat) :
    ∀ (listed : Array Bool) (a : Act) (w : World), C w → headAny P md ops C n L f listed a → wpAny P md ops Q (f + g) listed a w := by
  induction f with
  | zero => intro listed a w hw h; rw [Nat.zero_add]; exact hL _ _ _ hw h
  | succ f ih =>
    intro listed a w hw h
    rw [show f + 1 + g = f + g + 1 by omega]
    exact ⟨fun h0 => absurd h0 h.1, fun i hi => wpOp_of_qOp hw (fun a' w' hw' => ih _ a' w' hw') (h.2 i hi).2⟩
theorem head_first {n i : Nat} {oi : Oper} {v : Value} {L : Array Bool → Act → Prop} (hi : ops[i]? = some oi) (hsel : ∀ (j : Nat) (o : Oper) cs b, ops[j]? = some o → o.op ≠ .select cs b)
    (hs : Region.sinkB md ops n = true) (hc : Region.chainB md ops n = true) (hn : n < ops.size) (hin : i < n) (hdone : ∀ listed a, L listed a → ∀ j ∈ Region.ready md ops listed, n ≤ j) (f : Nat) :
    ∀ (listed : Array Bool) (a : Act), HeadInv md ops n listed →
      (∀ j oj, ops[j]? = some oj → j ≠ i → listed.getD j true = false → (∀ e ∈ oj.after, Region.binds md e = true → e.on ≠ i) → oi.apart ops oj = true) →
      i ∈ Region.ready md ops listed → YieldsIn P ops C oi v a →
      headAny P md ops C n L f (listed.setIfInBounds i true) (a.put oi.dst v) → headAny P md ops C n L (f + 1) listed a := by
  have small : ∀ listed : Array Bool, HeadInv md ops n listed → i ∈ Region.ready md ops listed → ∀ j ∈ Region.ready md ops listed, j < n := fun listed inv hr j hj =>
    (Nat.lt_or_ge j n).elim id fun h => absurd hj (tail_waits hs hc hn inv _ i rfl hin (mem_ready.1 hr).1 j h)
  induction f with
  | zero =>
    intro listed a inv _ hr hy H
    refine ⟨List.ne_nil_of_mem hr, fun j hj => ⟨small listed inv hr j hj, ?_⟩⟩
    by_cases hji : j = i
    · subst hji; exact hy.qOp hi H
    · have h1 := hdone _ _ H j (ready_mono hj hji)
      have h2 := small listed inv hr j hj
      omega
  | succ f ih =>
    intro listed a inv hfree hr hy H
    refine ⟨List.ne_nil_of_mem hr, fun j hj => ⟨small listed inv hr j hj, ?_⟩⟩
    by_cases hji : j = i
    · subst hji; exact hy.qOp hi H
    · obtain ⟨hjun, oj, hoj, hall⟩ := mem_ready.1 hj
      have hun := (mem_ready.1 hr).1
      have hnot : ∀ e ∈ oj.after, Region.binds md e = true → e.on ≠ i := fun e he hb heq => by
        have h1 := hall e he hb
        rw [heq, getD_both hun] at h1
        cases h1
      have h2 := qOp_put hoj (hfree j oj hoj hji hjun hnot) (fun cs b => hsel i oi cs b hi) (fun cs b => hsel j oj cs b hoj) hy (H.2 j (ready_mono hj hji)).2
      refine qOp_mono (fun a' h3 => ih (listed.setIfInBounds j true) a' (inv.set hj (small listed inv hr j hj)) (fun k ok hk hki hu hno => ?_) (ready_mono hr (Ne.symm hji)) h3.1 ?_) h2
      · refine hfree k ok hk hki ?_ hno
        by_cases hjk : j = k
        · subst hjk; exact hjun
        · rwa [getD_set_ne true hjk] at hu
      · rw [Array.setIfInBounds_comm _ _ hji]
        exact h3.2
theorem head_lex {n g : Nat} {Lq : Act → Prop} (hsel : Region.noSelect ops = true) (hs : Region.sinkB md ops n = true) (hc : Region.chainB md ops n = true) (hn : n < ops.size) (l : List Oper) :
    ∀ (k : Nat) (listed : Array Bool) (a : Act), (∀ j, j < l.length → l[j]? = ops[k + j]?) → k + l.length = n → HeadInv md ops n listed →
    Region.lexHead md ops g l.length k listed = true → wpQuiet P ops C Lq l a →
    headAny P md ops C n (fun listed' a' => Region.seqB md ops g n listed' = true ∧ Lq a') l.length listed a := by
  induction l with
  | nil =>
    intro k listed a _ hk _ hB h
    have : k = n := by simpa using hk
    subst this
    exact ⟨by simpa [Region.lexHead] using hB, h⟩
  | cons o l ih =>
    intro k listed a hl hk inv hB h
    have h0 : ops[k]? = some o := by simpa using (hl 0 (by simp)).symm
    simp only [List.length_cons, Region.lexHead, Bool.and_eq_true] at hB
    obtain ⟨⟨hr, hf⟩, hB'⟩ := hB
    have hk' : k + 1 + l.length = n := by simp only [List.length_cons] at hk; omega
    have hkn : k < n := by omega
    have hr' : k ∈ Region.ready md ops listed := by simpa using hr
    have hst : qOp P ops C k (wpQuiet P ops C Lq l) a := by unfold qOp; simp only [h0]; exact h
    obtain ⟨v, hy, hK⟩ := yieldsIn_of_qOp h0 hst
    exact head_first h0 (Region.noSelect_spec hsel) hs hc hn hkn (fun listed' a' hL => seqB_ready hL.1) l.length listed a inv (Region.free_spec h0 hf) hr' hy
      (ih (k + 1) _ _ (fun j hj => by have := hl (j + 1) (by simp; omega); simpa [Nat.add_assoc, Nat.add_comm 1 j] using this) hk' (inv.set hr' hkn) hB' hK)
end
/-- Such a region, at the worlds that differ from w by new blocks and draws alone. -/
theorem wp_region_gar_tail {P : Program} {id : Nat} {Q : Exit → Act → World → Prop} {a : Act} {w : World} {l : List Oper} (n : Nat) (hm : P.follows .mixedOrders = true) (hB : Region.lexTailB .any l.toArray n = true)
    (h : wpQuiet P l.toArray (fun w' => ∃ g : Gar w, w' = g.1) (fun a' => ∀ w', (∃ g : Gar w, w' = g.1) → wpList P l.toArray Q (l.drop n) a' w') (l.take n) a) : (Code.region id l.toArray true).wp P Q a w := by
  simp only [Region.lexTailB, Bool.and_eq_true, decide_eq_true_eq] at hB
  obtain ⟨⟨⟨⟨hsel, hn⟩, hs⟩, hc⟩, hlex⟩ := hB
  have hn' : n < l.length := by simpa using hn
  have htl : (l.take n).length = n := by simp; omega
  have hdl : (l.drop n).length = l.toArray.size - n := by simp
  have inv0 : HeadInv .any l.toArray n (Array.replicate l.toArray.size false) :=
    ⟨by simp, fun j oj _ hl => (by rw [getD_replicate_false] at hl; cases hl), fun t _ ht => getD_in (by simpa using ht) (getD_replicate_false _ _)⟩
  have H := head_lex (md := .any) (g := l.toArray.size - n) hsel hs hc hn (l.take n) 0 _ a (fun j hj => by
    have hj' : j < n := by rw [htl] at hj; exact hj
    simp [hj']) (by simpa using htl) inv0 (by rw [htl]; exact hlex) h
  refine wp_region_any hm ?_
  have := any_of_head (Q := Q) (g := l.toArray.size - n) (fun listed a' w' hw' hL => by
    have := wpAny_of_seq (md := .any) (Q' := Q) (l.drop n) n listed a' w' (fun j => by simp [List.getElem?_drop]) (by rw [hdl]; exact hL.1) (hL.2 w' hw')
    rwa [hdl] at this) (l.take n).length _ a { w with drawn := w.drawn + 1 } ⟨⟨_, (Ch.refl [] w).drew⟩, rfl⟩ H
  rw [htl, show n + (l.toArray.size - n) = l.toArray.size by omega] at this
  exact this
end Go.Proofs.Hc
