/- The words for memory that all walks of this seat use: which old blocks a call may have changed, and blocks that are known whole. -/
import Derived.Lib.Hide
import Derived.Test.YtcikopeddljgkaaGreatProg
import Derived.WalkKit
import Derived.BigQuiet
import Derived.StillTail
import Derived.LoopIn
import Derived.LoopNIn
import Derived.OwnWalkIn
import Derived.RangeFuncCalls
import Derived.TacticsInMore
set_option linter.unusedSimpArgs false
set_option linter.unusedVariables false
namespace Go.Proofs.Hc
open Go.RowKit
structure Ch (S : List Nat) (w w' : World) : Prop where
  os : w'.os = w.os
  tape : w'.tape = w.tape
  output : w'.output = w.output
  size : w.heap.size ≤ w'.heap.size
  block : ∀ k, k < w.heap.size → k ∉ S → w'.heap[k]? = w.heap[k]?
namespace Ch
variable {S T : List Nat} {w w1 w2 : World}
theorem refl (S : List Nat) (w : World) : Ch S w w := ⟨rfl, rfl, rfl, Nat.le_refl _, fun _ _ _ => rfl⟩
theorem trans2 (h : Ch S w w1) (k : Ch T w1 w2) (hT : ∀ t ∈ T, t ∈ S ∨ w.heap.size ≤ t) : Ch S w w2 :=
  ⟨k.os.trans h.os, k.tape.trans h.tape, k.output.trans h.output, Nat.le_trans h.size k.size, fun i hi hn =>
    (k.block i (Nat.lt_of_lt_of_le hi h.size) (fun ht => by rcases hT i ht with h1 | h1; exact hn h1; omega)).trans (h.block i hi hn)⟩
theorem trans (h : Ch S w w1) (k : Ch S w1 w2) : Ch S w w2 := h.trans2 k fun _ ht => .inl ht
theorem pure (h : Ch S w w1) (k : Ch [] w1 w2) : Ch S w w2 := h.trans2 k fun _ ht => by cases ht
theorem mono (h : Ch S w w1) (hS : ∀ s ∈ S, s ∈ T) : Ch T w w1 := ⟨h.os, h.tape, h.output, h.size, fun k hk hn => h.block k hk fun hs => hn (hS k hs)⟩
theorem of_nil (h : Ch [] w w1) : Ch S w w1 := h.mono fun _ hs => by cases hs
theorem alloc (h : Ch S w w1) (o : Obj) : Ch S w (w1.alloc o) :=
  h.trans2 (T := []) ⟨rfl, rfl, rfl, by simp, fun k hk _ => Below.heap_alloc _ _ _ hk⟩ fun _ ht => by cases ht
theorem drew (h : Ch S w w1) : Ch S w w1.drew := ⟨h.os, h.tape, h.output, h.size, h.block⟩
theorem drewN (h : Ch S w w1) (n : Nat) : Ch S w (w1.drewN n) := ⟨h.os, h.tape, h.output, h.size, h.block⟩
theorem setCell (h : Ch S w w1) {p : Addr} (hp : p.block ∈ S ∨ w.heap.size ≤ p.block) (u : Value) : Ch S w (w1.setCell p u) :=
  h.trans2 (T := [p.block]) ⟨rfl, rfl, rfl, by simp [World.setCell], fun k _ hn => Below.heap_setCell _ _ _ _ (by simpa using hn)⟩
    fun t ht => by rw [List.mem_singleton.1 ht]; exact hp
theorem below {B : Nat} (h : Ch S w w1) (hB : B ≤ w.heap.size) (hS : ∀ s ∈ S, B ≤ s) : Below B w w1 :=
  ⟨h.os, h.tape, h.output, h.size, fun k hk => h.block k (by omega) fun hs => by have := hS k hs; omega⟩
theorem below_nil (h : Ch [] w w1) : Below w.heap.size w w1 := h.below (Nat.le_refl _) fun _ hs => by cases hs
theorem of_below (h : Below w.heap.size w w1) : Ch S w w1 := ⟨h.os, h.tape, h.output, h.size, fun k hk _ => h.block k hk⟩
theorem of_grown {row : Option Nat} (h : w.grownBy w1 row) (hr : ∀ k, row = some k → k ∈ S) : Ch S w w1 :=
  ⟨h.os, h.tape, h.output, h.size, fun k hk hn => h.block k hk fun e => hn (hr k e.symm)⟩
theorem cell (h : Ch [] w w1) : ∀ b o, b < w.heap.size → w1.cell? ⟨b, o, none⟩ = w.cell? ⟨b, o, none⟩ :=
  fun b _ hb => World.cell?_of_block (w := w) (h.block b hb (by simp))
end Ch
def Blk (w : World) (g : Nat) (t : TypeId) (cs : Array Value) : Prop := w.heap[g]? = some (.cells cs t (0, 0))
namespace Blk
variable {w w1 : World} {g : Nat} {t : TypeId} {cs : Array Value} {S : List Nat}
end Blk
theorem own_ch {w w1 : World} {S : List Nat} {base : Nat} {e : TypeId} {size n : Nat} {v : Value} {xs : List Value} (h : w.ownsRow base e size v n xs) (c : Ch S w w1) (hS : ∀ s ∈ S, s < base) :
    w1.ownsRow base e size v n xs := by
  obtain ⟨h1, h2⟩ := h
  refine ⟨h1, ?_⟩
  rcases h2 with h2 | ⟨g, cap, cur, hv, hg, hh, r⟩
  · exact .inl h2
  · refine .inr ⟨g, cap, cur, hv, hg, (c.block g (Array.getElem?_eq_some_iff.1 hh).1 fun hs => ?_).trans hh, r⟩
    have := hS g hs; omega
theorem own_mono {w : World} {base base' : Nat} {e : TypeId} {size n : Nat} {v : Value} {xs : List Value} (h : w.ownsRow base e size v n xs) (hb : base' ≤ base) : w.ownsRow base' e size v n xs := by
  obtain ⟨h1, h2⟩ := h
  refine ⟨h1, ?_⟩
  rcases h2 with h2 | ⟨g, cap, cur, hv, hg, r⟩
  · exact .inl h2
  · exact .inr ⟨g, cap, cur, hv, by omega, r⟩
theorem own_block {w : World} {base : Nat} {e : TypeId} {size n : Nat} {v : Value} {xs : List Value} (h : w.ownsRow base e size v n xs) : ∀ k, v.ownBlock = some k → base ≤ k := by
  rcases h.2 with ⟨rfl, _⟩ | ⟨g, cap, cur, rfl, hg, _⟩
  · intro k hk; cases hk
  · intro k hk; cases hk; exact hg
theorem nn2 (n : Nat) : (n = n + 1 + 1) = False := by simp <;> omega
theorem nm2 (n : Nat) : (n + 1 + 1 = n) = False := by simp <;> omega
theorem nn3 (n : Nat) : (n = n + 1 + 1 + 1) = False := by simp <;> omega
theorem nm3 (n : Nat) : (n + 1 + 1 + 1 = n) = False := by simp <;> omega
theorem nn4 (n : Nat) : (n = n + 1 + 1 + 1 + 1) = False := by simp <;> omega
theorem nm4 (n : Nat) : (n + 1 + 1 + 1 + 1 = n) = False := by simp <;> omega
theorem nn5 (n : Nat) : (n = n + 1 + 1 + 1 + 1 + 1) = False := by simp <;> omega
theorem nm5 (n : Nat) : (n + 1 + 1 + 1 + 1 + 1 = n) = False := by simp <;> omega
theorem nn6 (n : Nat) : (n = n + 1 + 1 + 1 + 1 + 1 + 1) = False := by simp <;> omega
theorem nm6 (n : Nat) : (n + 1 + 1 + 1 + 1 + 1 + 1 = n) = False := by simp <;> omega
theorem nn7 (n : Nat) : (n = n + 1 + 1 + 1 + 1 + 1 + 1 + 1) = False := by simp <;> omega
theorem nm7 (n : Nat) : (n + 1 + 1 + 1 + 1 + 1 + 1 + 1 = n) = False := by simp <;> omega
theorem nn8 (n : Nat) : (n = n + 1 + 1 + 1 + 1 + 1 + 1 + 1 + 1) = False := by simp <;> omega
theorem nm8 (n : Nat) : (n + 1 + 1 + 1 + 1 + 1 + 1 + 1 + 1 = n) = False := by simp <;> omega
end Go.Proofs.Hc
namespace Go.Proofs.Hc
open Go.RowKit
def N {k : Nat} (b : BitVec k) : Int := (b.toNat : Int)
abbrev U (b : BitVec 64) : Value := .int .u64 (N b)
abbrev Y (b : BitVec 8) : Value := .int .u8 (N b)
abbrev I (n : Int) : Value := .int .i64 n
theorem N_nonneg {k : Nat} (b : BitVec k) : 0 ≤ N b := Int.natCast_nonneg _
theorem N8_lt (b : BitVec 8) : N b < 256 := by unfold N; have := b.isLt; omega
theorem N_inj {k : Nat} (a b : BitVec k) : N a = N b ↔ a = b := by
  unfold N; rw [Int.natCast_inj, BitVec.toNat_inj]
theorem zap {k : Nat} (b : BitVec k) : BitVec.ofInt k (N b) = b := by
  unfold N; rw [BitVec.ofInt_natCast]; simp
theorem zbv (n : Int) : IntKind.u64.wrap n = N (BitVec.ofInt 64 n) := by
  unfold N; simp [IntKind.wrap, IntKind.bits, IntKind.signed, BitVec.toNat_ofInt]; omega
theorem zcb (n : Int) : IntKind.u8.wrap n = N (BitVec.ofInt 8 n) := by
  unfold N; simp [IntKind.wrap, IntKind.bits, IntKind.signed, BitVec.toNat_ofInt]; omega
theorem zba (x y : Int) : bits .xor .u64 x y = N (BitVec.ofInt 64 x ^^^ BitVec.ofInt 64 y) := by
  show IntKind.u64.wrap (N (BitVec.ofInt 64 x ^^^ BitVec.ofInt 64 y)) = _
  rw [zbv, zap]
theorem zbf (x y : Int) : bits .and .u64 x y = N (BitVec.ofInt 64 x &&& BitVec.ofInt 64 y) := by
  show IntKind.u64.wrap (N (BitVec.ofInt 64 x &&& BitVec.ofInt 64 y)) = _
  rw [zbv, zap]
theorem zbr (x y : Int) : bits .or .u64 x y = N (BitVec.ofInt 64 x ||| BitVec.ofInt 64 y) := by
  show IntKind.u64.wrap (N (BitVec.ofInt 64 x ||| BitVec.ofInt 64 y)) = _
  rw [zbv, zap]
theorem zbd (x y : Int) : bits .andNot .u64 x y = N (BitVec.ofInt 64 x &&& ~~~BitVec.ofInt 64 y) := by
  show IntKind.u64.wrap (N (BitVec.ofInt 64 x &&& ~~~BitVec.ofInt 64 y)) = _
  rw [zbv, zap]
theorem zbq (x y : Int) : bits .xor .u8 x y = N (BitVec.ofInt 8 x ^^^ BitVec.ofInt 8 y) := by
  show IntKind.u8.wrap (N (BitVec.ofInt 8 x ^^^ BitVec.ofInt 8 y)) = _
  rw [zcb, zap]
theorem zbs (x y : Int) : bits .and .u8 x y = N (BitVec.ofInt 8 x &&& BitVec.ofInt 8 y) := by
  show IntKind.u8.wrap (N (BitVec.ofInt 8 x &&& BitVec.ofInt 8 y)) = _
  rw [zcb, zap]
theorem zbx (x y : Int) : bits .or .u8 x y = N (BitVec.ofInt 8 x ||| BitVec.ofInt 8 y) := by
  show IntKind.u8.wrap (N (BitVec.ofInt 8 x ||| BitVec.ofInt 8 y)) = _
  rw [zcb, zap]
theorem max64 : IntKind.u64.max = N (BitVec.allOnes 64) := by decide
theorem signed64 : IntKind.u64.signed = false := rfl
theorem signed8 : IntKind.u8.signed = false := rfl
theorem zbe (x : Int) : bits .xor .u64 IntKind.u64.max x = N (~~~BitVec.ofInt 64 x) := by
  rw [zba, max64, zap, BitVec.allOnes_xor]
theorem zca (x : BitVec 64) (n : Nat) : N x / 2 ^ n = N (x >>> n) := by
  unfold N; rw [BitVec.toNat_ushiftRight, Nat.shiftRight_eq_div_pow]; simp
theorem shr_min (x : BitVec 64) (n : Nat) : N x / 2 ^ min n 64 = N (x >>> n) := by
  rw [zca]
  rcases Nat.lt_or_ge n 64 with h | h
  · rw [Nat.min_eq_left (by omega)]
  · rw [Nat.min_eq_right h, BitVec.ushiftRight_eq_zero h, BitVec.ushiftRight_eq_zero (Nat.le_refl _)]
theorem wide8 (b : BitVec 8) : Value.int .u64 (N b) = Value.int .u64 (N (b.setWidth 64)) := by
  have h : N b = N (b.setWidth 64) := by
    unfold N; rw [BitVec.toNat_setWidth]; have := b.isLt; rw [Nat.mod_eq_of_lt (by omega)]
  rw [h]
theorem zbc (b : BitVec 8) : BitVec.ofInt 64 (N b) = b.setWidth 64 := by
  unfold N; rw [BitVec.ofInt_natCast]; apply BitVec.eq_of_toNat_eq; simp
theorem zbw (x : Int) (n : Nat) : IntKind.u64.wrap (x * 2 ^ n) = N (BitVec.ofInt 64 x <<< n) := by
  have h2 : ((2 : Int) ^ n) = ((2 ^ n : Nat) : Int) := by simp
  rw [zbv, BitVec.ofInt_mul, h2, BitVec.ofInt_natCast, BitVec.shiftLeft_eq_mul_twoPow]
  congr 2
  apply BitVec.eq_of_toNat_eq; simp [BitVec.toNat_twoPow]
theorem shr1 (x : BitVec 64) : N x / (2 : Int) = N (x >>> 1) := by have := zca x 1; simpa using this
theorem shr7 (x : BitVec 64) : N x / (128 : Int) = N (x >>> 7) := by have := zca x 7; simpa using this
theorem shr8 (x : BitVec 64) : N x / (256 : Int) = N (x >>> 8) := by have := zca x 8; simpa using this
theorem shr56 (x : BitVec 64) : N x / (72057594037927936 : Int) = N (x >>> 56) := by have := zca x 56; simpa using this
theorem zbb (x : BitVec 64) : BitVec.ofInt 8 (N x) = x.setWidth 8 := by
  unfold N; rw [BitVec.ofInt_natCast]; apply BitVec.eq_of_toNat_eq; simp
theorem eqN {k : Nat} (a b : BitVec k) : ((N a == N b) : Bool) = (a == b) := by
  rw [Bool.eq_iff_iff, beq_iff_eq, beq_iff_eq, N_inj]
theorem neN {k : Nat} (a b : BitVec k) : ((N a != N b) : Bool) = (a != b) := by
  simp only [bne, eqN]
theorem ofInt_sub' {k : Nat} (x y : Int) : BitVec.ofInt k (x - y) = BitVec.ofInt k x - BitVec.ofInt k y := by
  rw [Int.sub_eq_add_neg, BitVec.ofInt_add, BitVec.ofInt_neg, BitVec.sub_eq_add_neg]
theorem quietL {P : Program} {f : FuncId} {args : Array Value} {w : World} {n : Nat} {v : Value}
    (h : Calls P f args (w.drewN n) fun e w' => e = .returned v ∧ w.drewN n = w') : Calls P f args (w.drewN n) fun e w'' => e = .returned v ∧ ∃ m, w'' = w.drewN m :=
  h.mono fun _ _ ⟨he, hm⟩ => ⟨he, n, hm.symm⟩
def Gar (W : World) : Type := { w : World // Ch [] W w }
instance (W : World) : Nonempty (Gar W) := ⟨⟨W, Ch.refl [] W⟩⟩
theorem wp_region_gar {P : Program} {l : List Oper} {id : Nat} {Q : Exit → Act → World → Prop} {a : Act} {w : World} (hm : P.follows .mixedOrders = true) (hB : Region.lexB .any l.toArray = true)
    (h : wpQuiet P l.toArray (fun w' => ∃ g : Gar w, w' = g.1) (fun a' => ∀ w', (∃ g : Gar w, w' = g.1) → Q .normal a' w') l a) : (Code.region id l.toArray true).wp P Q a w :=
  wp_region_quiet (C := fun w' => ∃ g : Gar w, w' = g.1) hm hB ⟨⟨_, (Ch.refl [] w).drew⟩, rfl⟩ (by simpa using h)
theorem garC {P : Program} {f : FuncId} {args : Array Value} {w : World} {g : Gar w} {v : Value}
    (h : Calls P f args g.1 fun e w' => e = .returned v ∧ Ch [] g.1 w') : Calls P f args g.1 fun e w'' => e = .returned v ∧ ∃ g' : Gar w, w'' = g'.1 :=
  h.mono fun _ w'' ⟨he, hm⟩ => ⟨he, ⟨w'', g.2.trans hm⟩, rfl⟩
theorem garL {P : Program} {f : FuncId} {args : Array Value} {w : World} {g : Gar w} {v : Value}
    (h : Calls P f args g.1 fun e w' => e = .returned v ∧ g.1 = w') : Calls P f args g.1 fun e w'' => e = .returned v ∧ ∃ g' : Gar w, w'' = g'.1 :=
  h.mono fun _ _ ⟨he, hm⟩ => ⟨he, g, hm.symm⟩
end Go.Proofs.Hc
namespace Go.Proofs.Hc
open Go.RowKit
def cellAt (o : Nat) : Obj → Option Value
  | .cells c _ _ => c[o]?
  | _ => none
def iceAt (o : Nat) : Obj → Bool
  | .cells _ _ fr => fr.1 ≤ o && o < fr.2
  | _ => false
def setAt (o : Nat) (v : Value) : Obj → Obj
  | .cells c t fr => .cells (c.setIfInBounds o v) t fr
  | x => x
def rowAt (o n : Nat) : Obj → Option (Array Value)
  | .cells c _ _ => if o + n ≤ c.size then some (c.extract o (o + n)) else none
  | _ => none
def laidAt (o : Nat) (vs : Array Value) : Obj → Obj
  | .cells c t fr => .cells (c.extract 0 o ++ vs ++ c.extract (o + vs.size) c.size) t fr
  | x => x
def World.onObj (w : World) (g : Nat) (f : Obj → Obj) : World := { w with heap := w.heap.modify g f }
theorem zaw (w : World) (g o : Nat) : w.cell? ⟨g, o, none⟩ = (w.heap[g]?).bind (cellAt o) := by
  unfold World.cell? cellAt
  cases h : w.heap[g]? with
  | none => simp
  | some x => cases x <;> simp
theorem zby (w : World) (g o : Nat) : w.frozen? ⟨g, o, none⟩ = ((w.heap[g]?).map (iceAt o)).getD false := by
  unfold World.frozen? iceAt
  cases h : w.heap[g]? with
  | none => simp
  | some x => cases x <;> simp
theorem zaj (o : Nat) (c : Array Value) (t : TypeId) (fr : Nat × Nat) : cellAt o (.cells c t fr) = c[o]? := rfl
theorem zas (o : Nat) (c : Array Value) (t : TypeId) (fr : Nat × Nat) : iceAt o (.cells c t fr) = (decide (fr.1 ≤ o) && decide (o < fr.2)) := rfl
theorem zae (o : Nat) (v : Value) (c : Array Value) (t : TypeId) (fr : Nat × Nat) : setAt o v (.cells c t fr) = .cells (c.setIfInBounds o v) t fr := rfl
theorem zac (w : World) (o : Obj) (g : Nat) : (w.alloc o).heap[g]? = if g = w.heap.size then some o else w.heap[g]? := by
  show (w.heap.push o)[g]? = _
  rw [Array.getElem?_push]
theorem zbk (w : World) (g : Nat) : w.drew.heap[g]? = w.heap[g]? := rfl
theorem zbg (w : World) (n g : Nat) : (w.drewN n).heap[g]? = w.heap[g]? := rfl
theorem zaa (w : World) (p o g : Nat) (v : Value) : (w.setCell ⟨p, o, none⟩ v).heap[g]? = if g = p then (w.heap[g]?).map (setAt o v) else w.heap[g]? := by
  simp only [World.setCell, Array.getElem?_modify]
  by_cases h : p = g
  · subst h
    simp only [if_true]
    cases w.heap[p]? with
    | none => rfl
    | some x => cases x <;> simp [setAt]
  · rw [if_neg h, if_neg (fun e => h e.symm)]
theorem zab (w : World) (p g : Nat) (f : Obj → Obj) : (World.onObj w p f).heap[g]? = if g = p then (w.heap[g]?).map f else w.heap[g]? := by
  simp only [World.onObj, Array.getElem?_modify]
  by_cases h : p = g
  · subst h; simp
  · rw [if_neg h, if_neg (fun e => h e.symm)]
theorem zbn (w : World) (p : Nat) (f : Obj → Obj) : (World.onObj w p f).heap.size = w.heap.size := by simp [World.onObj]
theorem zam (w : World) (p : Addr) (v : Value) : (w.setCell p v).heap.size = w.heap.size := by simp [World.setCell]
theorem Ch.onObj {S : List Nat} {w w1 : World} (h : Ch S w w1) {p : Nat} (hp : p ∈ S ∨ w.heap.size ≤ p) (f : Obj → Obj) : Ch S w (World.onObj w1 p f) :=
  h.trans2 (T := [p]) ⟨rfl, rfl, rfl, by rw [zbn]; exact Nat.le_refl _, fun k _ hn => by
    rw [zab, if_neg (by simpa using hn)]⟩ fun t ht => by rw [List.mem_singleton.1 ht]; exact hp
def loadRow (t : TypeId) (a : Addr) : Sem Value := loadVar t a
def buildRow (t : TypeId) (ps : Array (Nat × Value)) : Sem Value := Instr.build t ps
def storeRow (t : TypeId) (a : Addr) (v : Value) : Sem Unit := storeVar t a v
def stuckRow (P : Program) (t : TypeId) (g o : Nat) (w : World) : Result Value := (loadVar t ⟨g, o, none⟩).run P w
def stuckLay (P : Program) (t : TypeId) (g o : Nat) (v : Value) (w : World) : Result Unit := (storeVar t ⟨g, o, none⟩ v).run P w
def rowRes (P : Program) (t : TypeId) (g o : Nat) (w : World) : Option (Array Value) → Result Value
  | some r => .ok (.agg r) w
  | none => stuckRow P t g o w
theorem zax (P : Program) (t : TypeId) (g o : Nat) (w : World) (r : Array Value) : rowRes P t g o w (some r) = .ok (.agg r) w := rfl
theorem zay (o n : Nat) (c : Array Value) (t : TypeId) (fr : Nat × Nat) : rowAt o n (.cells c t fr) = if o + n ≤ c.size then some (c.extract o (o + n)) else none := rfl
theorem run_row {P : Program} {t : TypeId} {n : Nat} {d : TypeDesc} (hu : P.underlying t = some d) (hd : (match d with | .struct _ | .array _ _ => true | _ => false) = true)
    (hi : (P.info? t).map (·.size) = some n) (g o : Nat) (w : World) :
    (loadRow t ⟨g, o, none⟩).run P w = rowRes P t g o w ((w.heap[g]?).bind (rowAt o n)) := by
  unfold loadRow
  cases hr : (w.heap[g]?).bind (rowAt o n) with
  | none => rfl
  | some r =>
    rw [zax]
    cases hg : w.heap[g]? with
    | none => rw [hg] at hr; cases hr
    | some x =>
      rw [hg] at hr
      cases x <;> first | (cases hr; done) | skip
      rename_i c e fr
      simp only [Option.bind_some, rowAt] at hr
      split at hr
      · rename_i hle
        have hr' : c.extract o (o + n) = r := by simpa using hr
        have hsz : r.size = n := by rw [← hr']; simp; omega
        have hl : (loadCells ⟨g, o, none⟩ r.toList.length).run P w = .ok r.toList.toArray w :=
          run_loadCells_list (P := P) w ⟨g, o, none⟩ r.toList (fun j v hv => by
            have hadd : (⟨g, o, none⟩ : Addr).add j = ⟨g, o + j, none⟩ := by unfold Addr.add; split <;> simp_all
            rw [hadd, zaw, hg, Option.bind_some, zaj]
            have hv' : r[j]? = some v := by simpa using hv
            rw [← hr', Array.getElem?_extract] at hv'
            split at hv' <;> simp_all)
        cases hq : P.info? t with
        | none => simp [hq] at hi
        | some i =>
          have hs : i.size = n := by simpa [hq] using hi
          have hagg : (isAgg t).run P w = .ok true w := by
            unfold isAgg
            rw [Sem.run_bind, run_underlying hu w]
            cases d <;> simp_all
          simp only [Array.length_toList, Array.toArray_toList, hsz] at hl
          simp [loadVar, Sem.run_bind, hagg, sizeOf, typeInfo, hq, hs, hl]
      · cases hr
def allOne (vs : Array Value) : Bool := vs.all (·.oneCell')
def canLay (o n : Nat) (vs : Array Value) : Obj → Bool
  | .cells c _ fr => fr == (0, 0) && decide (o + n ≤ c.size) && decide (vs.size = n) && allOne vs
  | _ => false
theorem zar (o n : Nat) (vs c : Array Value) (t : TypeId) (fr : Nat × Nat) :
    canLay o n vs (.cells c t fr) = (fr == (0, 0) && decide (o + n ≤ c.size) && decide (vs.size = n) && allOne vs) := rfl
def layRes (P : Program) (t : TypeId) (g o : Nat) (vs : Array Value) (w : World) : Bool → Result Unit
  | true => .ok () (World.onObj w g (laidAt o vs))
  | false => stuckLay P t g o (.agg vs) w
theorem zaz (P : Program) (t : TypeId) (g o : Nat) (vs : Array Value) (w : World) : layRes P t g o vs w true = .ok () (World.onObj w g (laidAt o vs)) := rfl
theorem zak (o : Nat) (vs c : Array Value) (t : TypeId) (fr : Nat × Nat) : laidAt o vs (.cells c t fr) = .cells (c.extract 0 o ++ vs ++ c.extract (o + vs.size) c.size) t fr := rfl
theorem laid_whole (vs c : Array Value) (h : c.size = vs.size) : c.extract 0 0 ++ vs ++ c.extract (0 + vs.size) c.size = vs := by
  have h1 : c.extract (0 + vs.size) c.size = #[] := by apply Array.eq_empty_of_size_eq_zero; simp; omega
  have h2 : c.extract 0 0 = #[] := by apply Array.eq_empty_of_size_eq_zero; simp
  rw [h1, h2]; simp
theorem run_lay {P : Program} {t : TypeId} {n : Nat} (hi : (P.info? t).map (·.size) = some n) (g o : Nat) (vs : Array Value) (w : World) :
    (storeRow t ⟨g, o, none⟩ (.agg vs)).run P w = layRes P t g o vs w (((w.heap[g]?).map (canLay o n vs)).getD false) := by
  unfold storeRow
  cases hr : ((w.heap[g]?).map (canLay o n vs)).getD false with
  | false => rfl
  | true =>
    rw [zaz]
    cases hg : w.heap[g]? with
    | none => rw [hg] at hr; cases hr
    | some x =>
      rw [hg] at hr
      cases x <;> first | (cases hr; done) | skip
      rename_i c e fr
      simp only [Option.map_some, Option.getD_some, zar, Bool.and_eq_true, decide_eq_true_eq, beq_iff_eq] at hr
      obtain ⟨⟨⟨hfr, hle⟩, hn⟩, hall⟩ := hr
      subst hfr
      have := run_storeCells_at (P := P) g o e vs.toList 0 c w hg (by simp; omega) (fun v hv => (Array.all_eq_true_iff_forall_mem.1 (show vs.all (·.oneCell') = true from hall)) v (by simpa using hv))
      cases hq : P.info? t with
      | none => simp [hq] at hi
      | some i =>
        have hs : i.size = n := by simpa [hq] using hi
        have he : w.setRow g (c.toList.take (o + 0) ++ vs.toList ++ c.toList.drop (o + 0 + vs.toList.length)).toArray = World.onObj w g (laidAt o vs) := by
          unfold World.setRow World.onObj
          congr 1
          apply Array.ext_getElem?
          intro k
          simp only [Array.getElem?_modify]
          by_cases hk : g = k
          · subst hk
            simp only [if_true, hg, Option.map_some, laidAt]
            congr 2
            apply Array.ext'
            simp [List.take_of_length_le]
          · simp [hk]
        rw [he] at this
        simp [storeVar, sizeOf, typeInfo, hq, Value.cells, hs, hn, this]
theorem results_cell2 {P : Program} {fn : Func} {p q : Tmp} {T1 T2 : TypeId} (h : fn.results = #[.cell p T1, .cell q T2]) (tmps : Array Value) (a b : Addr) (w : World) {x y : Value}
    (hp : tmps.getD p undef = .pointer (some a)) (hq : tmps.getD q undef = .pointer (some b)) (h1 : (loadVar T1 a).run P w = .ok x w) (h2 : (loadVar T2 b).run P w = .ok y w) :
    (results fn tmps).run P w = .ok (.tuple #[x, y]) w := by
  have hp' : tmps[p]?.getD undef = .pointer (some a) := by simpa using hp
  have hq' : tmps[q]?.getD undef = .pointer (some b) := by simpa using hq
  simp [results, h, hp', hq', asAddr, h1, h2]
theorem load_one {P : Program} {T : TypeId} {d : TypeDesc} (hu : P.underlying T = some d) (hd : (match d with | .struct _ | .array _ _ => true | _ => false) = false) (p : Nat) (w : World) {x : Value} {t : TypeId} {fr : Nat × Nat}
    (h : w.heap[p]? = some (.cells #[x] t fr)) : (loadVar T ⟨p, 0, none⟩).run P w = .ok x w := by
  have hagg : (isAgg T).run P w = .ok false w := by
    unfold isAgg
    rw [Sem.run_bind, run_underlying hu w]
    cases d <;> simp_all
  have hc : w.cell? ⟨p, 0, none⟩ = some x := by rw [zaw, h]; rfl
  simp [loadVar, Sem.run_bind, hagg, go_sem, hc]
theorem zao {P : Program} (fn : Fn) (first cap : Array Value) (w : World) : (Instr.makeFunc fn first cap).run P w = .ok (.func fn first cap) w := rfl
end Go.Proofs.Hc
namespace Go.Proofs.Hc
open Go.RowKit
section
variable {P : Program} {ops : Array Oper} {md : Region.Mode} {C : World → Prop}
def headAny (P : Program) (md : Region.Mode) (ops : Array Oper) (C : World → Prop) (n : Nat) (L : Array Bool → Act → Prop) : Nat → Array Bool → Act → Prop
  | 0, listed, a => L listed a
  | f + 1, listed, a => Region.ready md ops listed ≠ [] ∧ ∀ i ∈ Region.ready md ops listed, i < n ∧ qOp P ops C i (headAny P md ops C n L f (listed.setIfInBounds i true)) a
theorem any_of_head {n g : Nat} {L : Array Bool → Act → Prop} {Q : Exit → Act → World → Prop} (hL : ∀ listed a w, C w → L listed a → wpAny P md ops Q g listed a w) (f : Nat) :
    ∀ (listed : Array Bool) (a : Act) (w : World), C w → headAny P md ops C n L f listed a → wpAny P md ops Q (f + g) listed a w := by
  induction f with
  | zero => intro listed a w hw h; rw [Nat.zero_add]; exact hL _ _ _ hw h
  | succ f ih =>
    intro listed a w hw h
    rw [show f + 1 + g = f + g + 1 by omega]
    exact ⟨fun h0 => absurd h0 h.1, fun i hi => wpOp_of_qOp hw (fun a' w' hw' => ih _ a' w' hw') (h.2 i hi).2⟩
theorem head_first {n i : Nat} {oi : Oper} {v : Value} {L : Array Bool → Act → Prop} (hi : ops[i]? = some oi) (hsel : ∀ (j : Nat) (o : Oper) cs b, ops[j]? = some o → o.op ≠ .select cs b)
    (hs : Region.sinkB md ops n = true) (hc : Region.chainB md ops n = true) (hn : n < ops.size) (hin : i < n) (hdone : ∀ listed a, L listed a → ∀ j ∈ Region.ready md ops listed, n ≤ j) (f : Nat) :
    ∀ (listed : Array Bool) (a : Act), HeadInv md ops n listed →
      (∀ j oj, ops[j]? = some oj → j ≠ i → listed.getD j true = false → (∀ e ∈ oj.after, Region.binds md e = true → e.on ≠ i) → oi.apart ops oj = true) →
      i ∈ Region.ready md ops listed → YieldsIn P ops C oi v a →
      headAny P md ops C n L f (listed.setIfInBounds i true) (a.put oi.dst v) → headAny P md ops C n L (f + 1) listed a := by
  have small : ∀ listed : Array Bool, HeadInv md ops n listed → i ∈ Region.ready md ops listed → ∀ j ∈ Region.ready md ops listed, j < n := fun listed inv hr j hj =>
    (Nat.lt_or_ge j n).elim id fun h => absurd hj (tail_waits hs hc hn inv _ i rfl hin (mem_ready.1 hr).1 j h)
  induction f with
  | zero =>
    intro listed a inv _ hr hy H
    refine ⟨List.ne_nil_of_mem hr, fun j hj => ⟨small listed inv hr j hj, ?_⟩⟩
    by_cases hji : j = i
    · subst hji; exact hy.qOp hi H
    · have h1 := hdone _ _ H j (ready_mono hj hji)
      have h2 := small listed inv hr j hj
      omega
  | succ f ih =>
    intro listed a inv hfree hr hy H
    refine ⟨List.ne_nil_of_mem hr, fun j hj => ⟨small listed inv hr j hj, ?_⟩⟩
    by_cases hji : j = i
    · subst hji; exact hy.qOp hi H
    · obtain ⟨hjun, oj, hoj, hall⟩ := mem_ready.1 hj
      have hun := (mem_ready.1 hr).1
      have hnot : ∀ e ∈ oj.after, Region.binds md e = true → e.on ≠ i := fun e he hb heq => by
        have h1 := hall e he hb
        rw [heq, getD_both hun] at h1
        cases h1
      have h2 := qOp_put hoj (hfree j oj hoj hji hjun hnot) (fun cs b => hsel i oi cs b hi) (fun cs b => hsel j oj cs b hoj) hy (H.2 j (ready_mono hj hji)).2
      refine qOp_mono (fun a' h3 => ih (listed.setIfInBounds j true) a' (inv.set hj (small listed inv hr j hj)) (fun k ok hk hki hu hno => ?_) (ready_mono hr (Ne.symm hji)) h3.1 ?_) h2
      · refine hfree k ok hk hki ?_ hno
        by_cases hjk : j = k
        · subst hjk; exact hjun
        · rwa [getD_set_ne true hjk] at hu
      · rw [Array.setIfInBounds_comm _ _ hji]
        exact h3.2
theorem head_lex {n g : Nat} {Lq : Act → Prop} (hsel : Region.noSelect ops = true) (hs : Region.sinkB md ops n = true) (hc : Region.chainB md ops n = true) (hn : n < ops.size) (l : List Oper) :
    ∀ (k : Nat) (listed : Array Bool) (a : Act), (∀ j, j < l.length → l[j]? = ops[k + j]?) → k + l.length = n → HeadInv md ops n listed →
    Region.lexHead md ops g l.length k listed = true → wpQuiet P ops C Lq l a →
    headAny P md ops C n (fun listed' a' => Region.seqB md ops g n listed' = true ∧ Lq a') l.length listed a := by
  induction l with
  | nil =>
    intro k listed a _ hk _ hB h
    have : k = n := by simpa using hk
    subst this
    exact ⟨by simpa [Region.lexHead] using hB, h⟩
  | cons o l ih =>
    intro k listed a hl hk inv hB h
    have h0 : ops[k]? = some o := by simpa using (hl 0 (by simp)).symm
    simp only [List.length_cons, Region.lexHead, Bool.and_eq_true] at hB
    obtain ⟨⟨hr, hf⟩, hB'⟩ := hB
    have hk' : k + 1 + l.length = n := by simp only [List.length_cons] at hk; omega
    have hkn : k < n := by omega
    have hr' : k ∈ Region.ready md ops listed := by simpa using hr
    have hst : qOp P ops C k (wpQuiet P ops C Lq l) a := by unfold qOp; simp only [h0]; exact h
    obtain ⟨v, hy, hK⟩ := yieldsIn_of_qOp h0 hst
    exact head_first h0 (Region.noSelect_spec hsel) hs hc hn hkn (fun listed' a' hL => seqB_ready hL.1) l.length listed a inv (Region.free_spec h0 hf) hr' hy
      (ih (k + 1) _ _ (fun j hj => by have := hl (j + 1) (by simp; omega); simpa [Nat.add_assoc, Nat.add_comm 1 j] using this) hk' (inv.set hr' hkn) hB' hK)
end
theorem zdh {P : Program} {id : Nat} {Q : Exit → Act → World → Prop} {a : Act} {w : World} {l : List Oper} (n : Nat) (hm : P.follows .mixedOrders = true) (hB : Region.lexTailB .any l.toArray n = true)
    (h : wpQuiet P l.toArray (fun w' => ∃ g : Gar w, w' = g.1) (fun a' => ∀ w', (∃ g : Gar w, w' = g.1) → wpList P l.toArray Q (l.drop n) a' w') (l.take n) a) : (Code.region id l.toArray true).wp P Q a w := by
  simp only [Region.lexTailB, Bool.and_eq_true, decide_eq_true_eq] at hB
  obtain ⟨⟨⟨⟨hsel, hn⟩, hs⟩, hc⟩, hlex⟩ := hB
  have hn' : n < l.length := by simpa using hn
  have htl : (l.take n).length = n := by simp; omega
  have hdl : (l.drop n).length = l.toArray.size - n := by simp
  have inv0 : HeadInv .any l.toArray n (Array.replicate l.toArray.size false) :=
    ⟨by simp, fun j oj _ hl => (by rw [getD_replicate_false] at hl; cases hl), fun t _ ht => getD_in (by simpa using ht) (getD_replicate_false _ _)⟩
  have H := head_lex (md := .any) (g := l.toArray.size - n) hsel hs hc hn (l.take n) 0 _ a (fun j hj => by
    have hj' : j < n := by rw [htl] at hj; exact hj
    simp [hj']) (by simpa using htl) inv0 (by rw [htl]; exact hlex) h
  refine wp_region_any hm ?_
  have := any_of_head (Q := Q) (g := l.toArray.size - n) (fun listed a' w' hw' hL => by
    have := wpAny_of_seq (md := .any) (Q' := Q) (l.drop n) n listed a' w' (fun j => by simp [List.getElem?_drop]) (by rw [hdl]; exact hL.1) (hL.2 w' hw')
    rwa [hdl] at this) (l.take n).length _ a { w with drawn := w.drawn + 1 } ⟨⟨_, (Ch.refl [] w).drew⟩, rfl⟩ H
  rw [htl, show n + (l.toArray.size - n) = l.toArray.size by omega] at this
  exact this
end Go.Proofs.Hc
namespace Go.Proofs.Hc
open Go.RowKit
abbrev Wd : Fence := Fence.wide
def Yields {α : Type} (P : Program) (g : Nat) (lb : Array Value) (encs : α → Array Value) (xs : List α) (own kept : List Nat) (w : World) : Prop :=
  ∀ (n l : Nat) (J : List α → World → Prop) (Jx : World → Prop) (W : World), Ch [] w W → (∀ b ∈ kept, W.heap[b]? = w.heap[b]?) →
    (∀ pre A B, J pre A → Ch own A B → J pre B) → (∀ A B, Jx A → Ch own A B → Jx B) →
    (∀ pre x post W1, xs = pre ++ x :: post → J pre W1 → YieldAt Wd n P l (encs x) W1 fun e W' =>
      (e = .returned (.bool true) ∧ J (pre ++ [x]) W' ∧ W1.heap.size ≤ W'.heap.size ∧ ∀ b ∈ kept, W'.heap[b]? = W1.heap[b]?) ∨ (e = .returned (.bool false) ∧ Jx W')) →
    J [] W →
    CallsIn Wd (n + 1) P g (#[.func (.yield l) #[] #[]] ++ lb) W fun e W' => (∃ v, e = .returned v) ∧ (J xs W' ∨ Jx W')
def bodyQ (I : World → Prop) (Ix : Code → World → Prop) (keep : Nat → Prop) (W : World) : Exit → Act → World → Prop
  | .normal, _, W' => I W' ∧ W.heap.size ≤ W'.heap.size ∧ ∀ b, keep b → W'.heap[b]? = W.heap[b]?
  | .ret, _, W' => Ix .ret W' ∧ ∀ b, keep b → W'.heap[b]? = W.heap[b]?
  | .exit id, _, W' => Ix (.exit id) W' ∧ ∀ b, keep b → W'.heap[b]? = W.heap[b]?
  | .goto t, _, W' => Ix (.goto t) W' ∧ ∀ b, keep b → W'.heap[b]? = W.heap[b]?
  | .panic _, _, _ => False
  | .outgrown, _, _ => False
theorem zcg (w : World) (l : Nat) (o : Obj) : Ch [l] w (w.putObj l o) :=
  ⟨rfl, rfl, rfl, by simp, fun k _ hn => World.putObj_heap_other (by simpa using hn)⟩
theorem range_law {α : Type} {P : Program} {n : Nat} {g : Operand} {ps : Array Tmp} {assign body : Code} {Q : Exit → Act → World → Prop} {a : Act} {w : World}
    {gf : Nat} {lb : Array Value} (hg : a.eval g = .func (.func gf) #[] lb) (eg : ∀ args w, (callFunc gf args).run P w = .ok (.enter gf args) w)
    {encs : α → Array Value} {xs : List α} {own kept : List Nat} (hseq : Yields P gf lb encs xs own kept w) (hps : ∀ x, (encs x).size = ps.size)
    (hown : ∀ b ∈ own, b < w.heap.size) (hkept : ∀ b ∈ kept, b < w.heap.size)
    (I : List α → World → Prop) (Ix : Code → World → Prop)
    (hI : ∀ pre A B, I pre A → Ch ((w.heap.size + 1) :: own) A B → I pre B) (hIx : ∀ c A B, Ix c A → Ch ((w.heap.size + 1) :: own) A B → Ix c B) (h0 : I [] w) (a₁ : α → Act)
    (hassign : ∀ (x : α) (W : World) (K : Act → World → Prop), K (a₁ x) W →
      assign.wpIn (Wd.inRound (w.heap.size + 1)) n P (Exit.then K (fun _ _ _ => False)) { tmps := (ps.zip (encs x)).foldl (fun t (p, v) => t.setIfInBounds p v) a.tmps, defers := [] } W)
    (hbody : ∀ (pre : List α) (x : α) (post : List α) (W : World), xs = pre ++ x :: post → I pre W → w.heap.size + 2 ≤ W.heap.size →
      body.wpIn (Wd.inRound (w.heap.size + 1)) n P (bodyQ (I (pre ++ [x])) Ix (fun b => b = w.heap.size ∨ b = w.heap.size + 1 ∨ b ∈ kept) W) (a₁ x) W)
    (hdone : ∀ (W : World), I xs W → W.heap[w.heap.size]? = some (.deferred (some [])) → Q .normal { a with defers := { target := .collected w.heap.size, args := #[] } :: a.defers } W)
    (hstop : ∀ (c : Code) (W : World), Ix c W → W.heap[w.heap.size]? = some (.deferred (some [])) → c.wpIn Wd (n + 2) P Q { a with defers := { target := .collected w.heap.size, args := #[] } :: a.defers } W) :
    (Code.rangeFunc g ps assign body).wpIn Wd (n + 2) P Q a w := by
  refine wpIn_rangeFunc ?_
  intro fn hfn
  rw [show Wd.round = none from rfl]
  obtain ⟨rec, hrec⟩ : ∃ rec : LoopState → Option Code → Loop, rec = fun st pe => { state := st, pending := pe, fn, tmps := a.tmps, params := ps, assign, body, defers := w.heap.size } := ⟨_, rfl⟩
  obtain ⟨W1, hW1⟩ : ∃ W1, (w.alloc (.deferred (some []))).alloc (.loop (rec .ready none)) = W1 := ⟨_, rfl⟩
  have hL1 : W1.heap[w.heap.size + 1]? = some (.loop (rec .ready none)) := by
    rw [← hW1, zac, if_pos (by simp)]
  have hK1 : W1.heap[w.heap.size]? = some (.deferred (some [])) := by
    rw [← hW1, zac, if_neg (by simp), zac, if_pos rfl]
  have hC1 : Ch [] w W1 := by rw [← hW1]; exact ((Ch.refl [] w).alloc _).alloc _
  have hsz1 : W1.heap.size = w.heap.size + 2 := by rw [← hW1]; simp
  refine ⟨w.heap.size + 1, [{ target := .collected w.heap.size, args := #[] }], W1, { target := .fn (.func gf) lb, args := #[.func (.yield (w.heap.size + 1)) #[] #[]] }, W1, gf,
    #[.func (.yield (w.heap.size + 1)) #[] #[]] ++ lb, W1, ?_, ?_, fun _ _ => trivial, ?_, fun _ => by omega, ?_⟩
  · rw [← hW1, hrec]; exact run_enterLoop_outer _ _ _ _ _
  · simp only [resolve, hg]
    simp [go_sem]
  · simp [invoke, go_sem, eg]
  · have hne : w.heap.size ∉ (w.heap.size + 1) :: own := by
      simp only [List.mem_cons, not_or]; exact ⟨by omega, fun hb => by have := hown _ hb; omega⟩
    have hle : w.heap.size + 1 ∉ own := fun hb => by have := hown _ hb; omega
    have hne' : w.heap.size ∉ own := fun hb => by have := hown _ hb; omega
    refine (hseq n (w.heap.size + 1)
      (fun pre W => I pre W ∧ W.heap[w.heap.size + 1]? = some (.loop (rec .ready none)) ∧ W.heap[w.heap.size]? = some (.deferred (some [])))
      (fun W => ∃ c, Ix c W ∧ W.heap[w.heap.size + 1]? = some (.loop (rec .done (some c))) ∧ W.heap[w.heap.size]? = some (.deferred (some [])))
      W1 hC1 (fun b hb => hC1.block b (hkept b hb) (by simp)) ?_ ?_ ?_ ⟨hI _ _ _ h0 hC1.of_nil, hL1, hK1⟩).mono ?_
    · rintro pre A B ⟨hi, hl, hk⟩ hc
      exact ⟨hI _ _ _ hi (hc.mono fun s hs => .tail _ hs), (hc.block _ (Array.getElem?_eq_some_iff.1 hl).1 hle).trans hl, (hc.block _ (Array.getElem?_eq_some_iff.1 hk).1 hne').trans hk⟩
    · rintro A B ⟨c, hi, hl, hk⟩ hc
      exact ⟨c, hIx _ _ _ hi (hc.mono fun s hs => .tail _ hs), (hc.block _ (Array.getElem?_eq_some_iff.1 hl).1 hle).trans hl, (hc.block _ (Array.getElem?_eq_some_iff.1 hk).1 hne').trans hk⟩
    · rintro pre x post W hxs ⟨hi, hl, hk⟩
      have hlt : w.heap.size + 1 < W.heap.size := (Array.getElem?_eq_some_iff.1 hl).1
      have hy := run_yield (P := P) (args := encs x) hl (by rw [hrec]; exact hps x)
      rw [hrec] at hy
      refine ⟨fn, _, assign, body, hy, roundIn_of_wpIn trivial (hassign x W _ ⟨_, run_beginRound hl (by rw [hrec]), ?_⟩)⟩
      have hl2 : (W.putObj (w.heap.size + 1) (.loop { rec .ready none with state := .busy })).heap[w.heap.size + 1]? = some (.loop { rec .ready none with state := .busy }) := World.putObj_heap_same hlt
      have hk2 : (W.putObj (w.heap.size + 1) (.loop { rec .ready none with state := .busy })).heap[w.heap.size]? = some (.deferred (some [])) := (World.putObj_heap_other (by omega)).trans hk
      refine wpIn_mono (hbody pre x post _ hxs (hI _ _ _ hi ((zcg _ _ _).mono fun s hs => by rw [List.mem_singleton.1 hs]; exact .head _)) (by simp; omega)) ?_
      have fin : ∀ (jump : Option Code) (W3 : World), (∀ b, (b = w.heap.size ∨ b = w.heap.size + 1 ∨ b ∈ kept) → W3.heap[b]? = (W.putObj (w.heap.size + 1) (.loop { rec .ready none with state := .busy })).heap[b]?) →
          (Instr.endRound (w.heap.size + 1) jump).run P W3 = .ok (.bool jump.isNone) (W3.putObj (w.heap.size + 1) (.loop (rec (if jump.isNone then .ready else .done) jump))) ∧
          (W3.putObj (w.heap.size + 1) (.loop (rec (if jump.isNone then .ready else .done) jump))).heap[w.heap.size + 1]? = some (.loop (rec (if jump.isNone then .ready else .done) jump)) ∧
          (W3.putObj (w.heap.size + 1) (.loop (rec (if jump.isNone then .ready else .done) jump))).heap[w.heap.size]? = some (.deferred (some [])) ∧
          (∀ b ∈ kept, (W3.putObj (w.heap.size + 1) (.loop (rec (if jump.isNone then .ready else .done) jump))).heap[b]? = W.heap[b]?) := fun jump W3 hk3 => by
        have hl3 := (hk3 _ (.inr (.inl rfl))).trans hl2
        have := run_endRound (P := P) jump hl3
        rw [hrec] at this ⊢
        refine ⟨this, World.putObj_heap_same (Array.getElem?_eq_some_iff.1 hl3).1, (World.putObj_heap_other (by omega)).trans ((hk3 _ (.inl rfl)).trans hk2), fun b hb => ?_⟩
        have hbl := hkept b hb
        exact (World.putObj_heap_other (by omega)).trans ((hk3 b (.inr (.inr hb))).trans (World.putObj_heap_other (by omega)))
      have one : ∀ s ∈ [w.heap.size + 1], s ∈ (w.heap.size + 1) :: own := fun s hs => by rw [List.mem_singleton.1 hs]; exact .head _
      rintro e a3 W3 hp
      cases e with
      | normal =>
        obtain ⟨hi3, hz3, hk3⟩ := hp
        obtain ⟨hr, hl4, hk4, hke⟩ := fin none W3 hk3
        exact ⟨_, _, hr, .inl ⟨rfl, ⟨hI _ _ _ hi3 ((zcg _ _ _).mono one), hl4, hk4⟩, by simp at hz3 ⊢; exact hz3, hke⟩⟩
      | ret =>
        obtain ⟨hi3, hk3⟩ := hp
        obtain ⟨hr, hl4, hk4, hke⟩ := fin (some .ret) W3 hk3
        exact ⟨_, _, hr, .inr ⟨rfl, .ret, hIx _ _ _ hi3 ((zcg _ _ _).mono one), hl4, hk4⟩⟩
      | exit id =>
        obtain ⟨hi3, hk3⟩ := hp
        obtain ⟨hr, hl4, hk4, hke⟩ := fin (some (.exit id)) W3 hk3
        exact ⟨_, _, hr, .inr ⟨rfl, .exit id, hIx _ _ _ hi3 ((zcg _ _ _).mono one), hl4, hk4⟩⟩
      | goto t =>
        obtain ⟨hi3, hk3⟩ := hp
        obtain ⟨hr, hl4, hk4, hke⟩ := fin (some (.goto t)) W3 hk3
        exact ⟨_, _, hr, .inr ⟨rfl, .goto t, hIx _ _ _ hi3 ((zcg _ _ _).mono one), hl4, hk4⟩⟩
      | panic ch => exact hp.elim
      | outgrown => exact hp.elim
    · have one : ∀ s ∈ [w.heap.size + 1], s ∈ (w.heap.size + 1) :: own := fun s hs => by rw [List.mem_singleton.1 hs]; exact .head _
      rintro e W2 ⟨⟨v, rfl⟩, ⟨hi, hl, hk⟩ | ⟨c, hi, hl, hk⟩⟩
      · exact ⟨none, _, by have := run_endLoop (P := P) hl (by rw [hrec]; simp); rw [hrec] at this; exact this, hdone _ (hI _ _ _ hi ((zcg _ _ _).mono one)) ((World.putObj_heap_other (by omega)).trans hk)⟩
      · exact ⟨some c, _, by have := run_endLoop (P := P) hl (by rw [hrec]; simp); rw [hrec] at this; exact this, hstop c _ (hIx _ _ _ hi ((zcg _ _ _).mono one)) ((World.putObj_heap_other (by omega)).trans hk)⟩
theorem marks_ret {P : Program} {fn : Func} {R : Ending → World → Prop} {tmps : Array Value} {n D : Nat} {W : World} {v : Value} (hk : W.heap[D]? = some (.deferred (some [])))
    (hr : (results fn tmps).run P (W.putObj D (.deferred none)) = .ok v (W.putObj D (.deferred none))) (hR : R (.returned v) (W.putObj D (.deferred none))) :
    bodyPostM Wd n P fn R .ret { tmps, defers := [{ target := .collected D, args := #[] }] } W :=
  ⟨by simp, .inl ⟨_, _, rfl, run_takeDeferred hk, ⟨_, hr, hR⟩⟩⟩
theorem marks_end {P : Program} {fn : Func} {R : Ending → World → Prop} {tmps : Array Value} {n D : Nat} {W : World} {v : Value} (hk : W.heap[D]? = some (.deferred (some [])))
    (hr : (results fn tmps).run P (W.putObj D (.deferred none)) = .ok v (W.putObj D (.deferred none))) (hR : R (.returned v) (W.putObj D (.deferred none))) :
    bodyPostM Wd n P fn R .normal { tmps, defers := [{ target := .collected D, args := #[] }] } W :=
  ⟨by simp, .inl ⟨_, _, rfl, run_takeDeferred hk, ⟨_, hr, hR⟩⟩⟩
theorem marks_panic {P : Program} {fn : Func} {R : Ending → World → Prop} {tmps : Array Value} {n D : Nat} {W : World} {ch : List PanicEntry} (hk : W.heap[D]? = some (.deferred (some [])))
    (hR : R (.panicked ch) (W.putObj D (.deferred none))) :
    bodyPostM Wd n P fn R (.panic ch) { tmps, defers := [{ target := .collected D, args := #[] }] } W :=
  ⟨by simp, .inl ⟨_, _, rfl, run_takeDeferred hk, hR⟩⟩
theorem heap_putObj (w : World) (r k : Nat) (o : Obj) : (w.putObj r o).heap[k]? = if k = r then (if r < w.heap.size then some o else none) else w.heap[k]? := by
  by_cases h : k = r
  · subst h; rw [if_pos rfl]
    by_cases h2 : k < w.heap.size
    · rw [if_pos h2, World.putObj_heap_same h2]
    · rw [if_neg h2]; apply Array.getElem?_eq_none; simp; omega
  · rw [if_neg h, World.putObj_heap_other h]
end Go.Proofs.Hc
