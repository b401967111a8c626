/- The words for memory that all walks of this seat use: which old blocks a call may have changed, and blocks that are known whole. -/
import Derived.Lib.Hide
import Derived.RangeFuncRecord
import Derived.Test.YtcikopeddljgkaaGreatProg
import Derived.WalkKit
import Derived.BigQuiet
import Derived.Maps.Views
set_option linter.unusedSimpArgs false
set_option linter.unusedVariables false
namespace Go.Proofs.Hc
open Go.RowKit
structure Ch (S : List Nat) (w w' : World) : Prop where
  os : w'.os = w.os
  tape : w'.tape = w.tape
  output : w'.output = w.output
  size : w.heap.size ≤ w'.heap.size
  block : ∀ k, k < w.heap.size → k ∉ S → w'.heap[k]? = w.heap[k]?
namespace Ch
variable {S T : List Nat} {w w1 w2 : World}
theorem refl (S : List Nat) (w : World) : Ch S w w := ⟨rfl, rfl, rfl, Nat.le_refl _, fun _ _ _ => rfl⟩
theorem trans2 (h : Ch S w w1) (k : Ch T w1 w2) (hT : ∀ t ∈ T, t ∈ S ∨ w.heap.size ≤ t) : Ch S w w2 :=
  ⟨k.os.trans h.os, k.tape.trans h.tape, k.output.trans h.output, Nat.le_trans h.size k.size, fun i hi hn =>
    (k.block i (Nat.lt_of_lt_of_le hi h.size) (fun ht => by rcases hT i ht with h1 | h1; exact hn h1; omega)).trans (h.block i hi hn)⟩
theorem trans (h : Ch S w w1) (k : Ch S w1 w2) : Ch S w w2 := h.trans2 k fun _ ht => .inl ht
theorem pure (h : Ch S w w1) (k : Ch [] w1 w2) : Ch S w w2 := h.trans2 k fun _ ht => by cases ht
theorem mono (h : Ch S w w1) (hS : ∀ s ∈ S, s ∈ T) : Ch T w w1 := ⟨h.os, h.tape, h.output, h.size, fun k hk hn => h.block k hk fun hs => hn (hS k hs)⟩
theorem of_nil (h : Ch [] w w1) : Ch S w w1 := h.mono fun _ hs => by cases hs
theorem alloc (h : Ch S w w1) (o : Obj) : Ch S w (w1.alloc o) :=
  h.trans2 (T := []) ⟨rfl, rfl, rfl, by simp, fun k hk _ => Below.heap_alloc _ _ _ hk⟩ fun _ ht => by cases ht
theorem drew (h : Ch S w w1) : Ch S w w1.drew := ⟨h.os, h.tape, h.output, h.size, h.block⟩
theorem drewN (h : Ch S w w1) (n : Nat) : Ch S w (w1.drewN n) := ⟨h.os, h.tape, h.output, h.size, h.block⟩
theorem setCell (h : Ch S w w1) {p : Addr} (hp : p.block ∈ S ∨ w.heap.size ≤ p.block) (u : Value) : Ch S w (w1.setCell p u) :=
  h.trans2 (T := [p.block]) ⟨rfl, rfl, rfl, by simp [World.setCell], fun k _ hn => Below.heap_setCell _ _ _ _ (by simpa using hn)⟩
    fun t ht => by rw [List.mem_singleton.1 ht]; exact hp
theorem below {B : Nat} (h : Ch S w w1) (hB : B ≤ w.heap.size) (hS : ∀ s ∈ S, B ≤ s) : Below B w w1 :=
  ⟨h.os, h.tape, h.output, h.size, fun k hk => h.block k (by omega) fun hs => by have := hS k hs; omega⟩
theorem below_nil (h : Ch [] w w1) : Below w.heap.size w w1 := h.below (Nat.le_refl _) fun _ hs => by cases hs
theorem of_below (h : Below w.heap.size w w1) : Ch S w w1 := ⟨h.os, h.tape, h.output, h.size, fun k hk _ => h.block k hk⟩
theorem of_grown {row : Option Nat} (h : w.grownBy w1 row) (hr : ∀ k, row = some k → k ∈ S) : Ch S w w1 :=
  ⟨h.os, h.tape, h.output, h.size, fun k hk hn => h.block k hk fun e => hn (hr k e.symm)⟩
theorem cell (h : Ch [] w w1) : ∀ b o, b < w.heap.size → w1.cell? ⟨b, o, none⟩ = w.cell? ⟨b, o, none⟩ :=
  fun b _ hb => World.cell?_of_block (w := w) (h.block b hb (by simp))
end Ch
def Blk (w : World) (g : Nat) (t : TypeId) (cs : Array Value) : Prop := w.heap[g]? = some (.cells cs t (0, 0))
namespace Blk
variable {w w1 : World} {g : Nat} {t : TypeId} {cs : Array Value} {S : List Nat}
end Blk
theorem own_ch {w w1 : World} {S : List Nat} {base : Nat} {e : TypeId} {size n : Nat} {v : Value} {xs : List Value} (h : w.ownsRow base e size v n xs) (c : Ch S w w1) (hS : ∀ s ∈ S, s < base) :
    w1.ownsRow base e size v n xs := by
  obtain ⟨h1, h2⟩ := h
  refine ⟨h1, ?_⟩
  rcases h2 with h2 | ⟨g, cap, cur, hv, hg, hh, r⟩
  · exact .inl h2
  · refine .inr ⟨g, cap, cur, hv, hg, (c.block g (Array.getElem?_eq_some_iff.1 hh).1 fun hs => ?_).trans hh, r⟩
    have := hS g hs; omega
theorem own_mono {w : World} {base base' : Nat} {e : TypeId} {size n : Nat} {v : Value} {xs : List Value} (h : w.ownsRow base e size v n xs) (hb : base' ≤ base) : w.ownsRow base' e size v n xs := by
  obtain ⟨h1, h2⟩ := h
  refine ⟨h1, ?_⟩
  rcases h2 with h2 | ⟨g, cap, cur, hv, hg, r⟩
  · exact .inl h2
  · exact .inr ⟨g, cap, cur, hv, by omega, r⟩
theorem own_block {w : World} {base : Nat} {e : TypeId} {size n : Nat} {v : Value} {xs : List Value} (h : w.ownsRow base e size v n xs) : ∀ k, v.ownBlock = some k → base ≤ k := by
  rcases h.2 with ⟨rfl, _⟩ | ⟨g, cap, cur, rfl, hg, _⟩
  · intro k hk; cases hk
  · intro k hk; cases hk; exact hg
theorem nn2 (n : Nat) : (n = n + 1 + 1) = False := by simp <;> omega
theorem nm2 (n : Nat) : (n + 1 + 1 = n) = False := by simp <;> omega
theorem nn3 (n : Nat) : (n = n + 1 + 1 + 1) = False := by simp <;> omega
theorem nm3 (n : Nat) : (n + 1 + 1 + 1 = n) = False := by simp <;> omega
theorem nn4 (n : Nat) : (n = n + 1 + 1 + 1 + 1) = False := by simp <;> omega
theorem nm4 (n : Nat) : (n + 1 + 1 + 1 + 1 = n) = False := by simp <;> omega
theorem nn5 (n : Nat) : (n = n + 1 + 1 + 1 + 1 + 1) = False := by simp <;> omega
theorem nm5 (n : Nat) : (n + 1 + 1 + 1 + 1 + 1 = n) = False := by simp <;> omega
theorem nn6 (n : Nat) : (n = n + 1 + 1 + 1 + 1 + 1 + 1) = False := by simp <;> omega
theorem nm6 (n : Nat) : (n + 1 + 1 + 1 + 1 + 1 + 1 = n) = False := by simp <;> omega
theorem nn7 (n : Nat) : (n = n + 1 + 1 + 1 + 1 + 1 + 1 + 1) = False := by simp <;> omega
theorem nm7 (n : Nat) : (n + 1 + 1 + 1 + 1 + 1 + 1 + 1 = n) = False := by simp <;> omega
theorem nn8 (n : Nat) : (n = n + 1 + 1 + 1 + 1 + 1 + 1 + 1 + 1) = False := by simp <;> omega
theorem nm8 (n : Nat) : (n + 1 + 1 + 1 + 1 + 1 + 1 + 1 + 1 = n) = False := by simp <;> omega
end Go.Proofs.Hc
namespace Go.Proofs.Hc
open Go.RowKit
def N {k : Nat} (b : BitVec k) : Int := (b.toNat : Int)
abbrev U (b : BitVec 64) : Value := .int .u64 (N b)
abbrev Y (b : BitVec 8) : Value := .int .u8 (N b)
abbrev I (n : Int) : Value := .int .i64 n
theorem N_nonneg {k : Nat} (b : BitVec k) : 0 ≤ N b := Int.natCast_nonneg _
theorem N8_lt (b : BitVec 8) : N b < 256 := by unfold N; have := b.isLt; omega
theorem N_inj {k : Nat} (a b : BitVec k) : N a = N b ↔ a = b := by
  unfold N; rw [Int.natCast_inj, BitVec.toNat_inj]
theorem zap {k : Nat} (b : BitVec k) : BitVec.ofInt k (N b) = b := by
  unfold N; rw [BitVec.ofInt_natCast]; simp
theorem zbu (n : Int) : IntKind.u64.wrap n = N (BitVec.ofInt 64 n) := by
  unfold N; simp [IntKind.wrap, IntKind.bits, IntKind.signed, BitVec.toNat_ofInt]; omega
theorem zcc (n : Int) : IntKind.u8.wrap n = N (BitVec.ofInt 8 n) := by
  unfold N; simp [IntKind.wrap, IntKind.bits, IntKind.signed, BitVec.toNat_ofInt]; omega
theorem zax (x y : Int) : bits .xor .u64 x y = N (BitVec.ofInt 64 x ^^^ BitVec.ofInt 64 y) := by
  show IntKind.u64.wrap (N (BitVec.ofInt 64 x ^^^ BitVec.ofInt 64 y)) = _
  rw [zbu, zap]
theorem zbf (x y : Int) : bits .and .u64 x y = N (BitVec.ofInt 64 x &&& BitVec.ofInt 64 y) := by
  show IntKind.u64.wrap (N (BitVec.ofInt 64 x &&& BitVec.ofInt 64 y)) = _
  rw [zbu, zap]
theorem zbo (x y : Int) : bits .or .u64 x y = N (BitVec.ofInt 64 x ||| BitVec.ofInt 64 y) := by
  show IntKind.u64.wrap (N (BitVec.ofInt 64 x ||| BitVec.ofInt 64 y)) = _
  rw [zbu, zap]
theorem zbd (x y : Int) : bits .andNot .u64 x y = N (BitVec.ofInt 64 x &&& ~~~BitVec.ofInt 64 y) := by
  show IntKind.u64.wrap (N (BitVec.ofInt 64 x &&& ~~~BitVec.ofInt 64 y)) = _
  rw [zbu, zap]
theorem zbn (x y : Int) : bits .xor .u8 x y = N (BitVec.ofInt 8 x ^^^ BitVec.ofInt 8 y) := by
  show IntKind.u8.wrap (N (BitVec.ofInt 8 x ^^^ BitVec.ofInt 8 y)) = _
  rw [zcc, zap]
theorem zbp (x y : Int) : bits .and .u8 x y = N (BitVec.ofInt 8 x &&& BitVec.ofInt 8 y) := by
  show IntKind.u8.wrap (N (BitVec.ofInt 8 x &&& BitVec.ofInt 8 y)) = _
  rw [zcc, zap]
theorem zbw (x y : Int) : bits .or .u8 x y = N (BitVec.ofInt 8 x ||| BitVec.ofInt 8 y) := by
  show IntKind.u8.wrap (N (BitVec.ofInt 8 x ||| BitVec.ofInt 8 y)) = _
  rw [zcc, zap]
theorem max64 : IntKind.u64.max = N (BitVec.allOnes 64) := by decide
theorem signed64 : IntKind.u64.signed = false := rfl
theorem signed8 : IntKind.u8.signed = false := rfl
theorem zbe (x : Int) : bits .xor .u64 IntKind.u64.max x = N (~~~BitVec.ofInt 64 x) := by
  rw [zax, max64, zap, BitVec.allOnes_xor]
theorem zca (x : BitVec 64) (n : Nat) : N x / 2 ^ n = N (x >>> n) := by
  unfold N; rw [BitVec.toNat_ushiftRight, Nat.shiftRight_eq_div_pow]; simp
theorem shr_min (x : BitVec 64) (n : Nat) : N x / 2 ^ min n 64 = N (x >>> n) := by
  rw [zca]
  rcases Nat.lt_or_ge n 64 with h | h
  · rw [Nat.min_eq_left (by omega)]
  · rw [Nat.min_eq_right h, BitVec.ushiftRight_eq_zero h, BitVec.ushiftRight_eq_zero (Nat.le_refl _)]
theorem wide8 (b : BitVec 8) : Value.int .u64 (N b) = Value.int .u64 (N (b.setWidth 64)) := by
  have h : N b = N (b.setWidth 64) := by
    unfold N; rw [BitVec.toNat_setWidth]; have := b.isLt; rw [Nat.mod_eq_of_lt (by omega)]
  rw [h]
theorem zbc (b : BitVec 8) : BitVec.ofInt 64 (N b) = b.setWidth 64 := by
  unfold N; rw [BitVec.ofInt_natCast]; apply BitVec.eq_of_toNat_eq; simp
theorem zbv (x : Int) (n : Nat) : IntKind.u64.wrap (x * 2 ^ n) = N (BitVec.ofInt 64 x <<< n) := by
  have h2 : ((2 : Int) ^ n) = ((2 ^ n : Nat) : Int) := by simp
  rw [zbu, BitVec.ofInt_mul, h2, BitVec.ofInt_natCast, BitVec.shiftLeft_eq_mul_twoPow]
  congr 2
  apply BitVec.eq_of_toNat_eq; simp [BitVec.toNat_twoPow]
theorem shr1 (x : BitVec 64) : N x / (2 : Int) = N (x >>> 1) := by have := zca x 1; simpa using this
theorem shr7 (x : BitVec 64) : N x / (128 : Int) = N (x >>> 7) := by have := zca x 7; simpa using this
theorem shr8 (x : BitVec 64) : N x / (256 : Int) = N (x >>> 8) := by have := zca x 8; simpa using this
theorem shr56 (x : BitVec 64) : N x / (72057594037927936 : Int) = N (x >>> 56) := by have := zca x 56; simpa using this
theorem zbb (x : BitVec 64) : BitVec.ofInt 8 (N x) = x.setWidth 8 := by
  unfold N; rw [BitVec.ofInt_natCast]; apply BitVec.eq_of_toNat_eq; simp
theorem eqN {k : Nat} (a b : BitVec k) : ((N a == N b) : Bool) = (a == b) := by
  rw [Bool.eq_iff_iff, beq_iff_eq, beq_iff_eq, N_inj]
theorem neN {k : Nat} (a b : BitVec k) : ((N a != N b) : Bool) = (a != b) := by
  simp only [bne, eqN]
theorem ofInt_sub' {k : Nat} (x y : Int) : BitVec.ofInt k (x - y) = BitVec.ofInt k x - BitVec.ofInt k y := by
  rw [Int.sub_eq_add_neg, BitVec.ofInt_add, BitVec.ofInt_neg, BitVec.sub_eq_add_neg]
theorem quietL {P : Program} {f : FuncId} {args : Array Value} {w : World} {n : Nat} {v : Value}
    (h : Calls P f args (w.drewN n) fun e w' => e = .returned v ∧ w.drewN n = w') : Calls P f args (w.drewN n) fun e w'' => e = .returned v ∧ ∃ m, w'' = w.drewN m :=
  h.mono fun _ _ ⟨he, hm⟩ => ⟨he, n, hm.symm⟩
def Gar (W : World) : Type := { w : World // Ch [] W w }
instance (W : World) : Nonempty (Gar W) := ⟨⟨W, Ch.refl [] W⟩⟩
theorem wp_region_gar {P : Program} {l : List Oper} {id : Nat} {Q : Exit → Act → World → Prop} {a : Act} {w : World} (hm : P.follows .mixedOrders = true) (hB : Region.lexB .any l.toArray = true)
    (h : wpQuiet P l.toArray (fun w' => ∃ g : Gar w, w' = g.1) (fun a' => ∀ w', (∃ g : Gar w, w' = g.1) → Q .normal a' w') l a) : (Code.region id l.toArray true).wp P Q a w :=
  wp_region_quiet (C := fun w' => ∃ g : Gar w, w' = g.1) hm hB ⟨⟨_, (Ch.refl [] w).drew⟩, rfl⟩ (by simpa using h)
theorem garC {P : Program} {f : FuncId} {args : Array Value} {w : World} {g : Gar w} {v : Value}
    (h : Calls P f args g.1 fun e w' => e = .returned v ∧ Ch [] g.1 w') : Calls P f args g.1 fun e w'' => e = .returned v ∧ ∃ g' : Gar w, w'' = g'.1 :=
  h.mono fun _ w'' ⟨he, hm⟩ => ⟨he, ⟨w'', g.2.trans hm⟩, rfl⟩
theorem garL {P : Program} {f : FuncId} {args : Array Value} {w : World} {g : Gar w} {v : Value}
    (h : Calls P f args g.1 fun e w' => e = .returned v ∧ g.1 = w') : Calls P f args g.1 fun e w'' => e = .returned v ∧ ∃ g' : Gar w, w'' = g'.1 :=
  h.mono fun _ _ ⟨he, hm⟩ => ⟨he, g, hm.symm⟩
end Go.Proofs.Hc
namespace Go.Proofs.Hc
open Go.RowKit
def cellAt (o : Nat) : Obj → Option Value
  | .cells c _ _ => c[o]?
  | _ => none
def iceAt (o : Nat) : Obj → Bool
  | .cells _ _ fr => fr.1 ≤ o && o < fr.2
  | _ => false
def setAt (o : Nat) (v : Value) : Obj → Obj
  | .cells c t fr => .cells (c.setIfInBounds o v) t fr
  | x => x
def rowAt (o n : Nat) : Obj → Option (Array Value)
  | .cells c _ _ => if o + n ≤ c.size then some (c.extract o (o + n)) else none
  | _ => none
def laidAt (o : Nat) (vs : Array Value) : Obj → Obj
  | .cells c t fr => .cells (c.extract 0 o ++ vs ++ c.extract (o + vs.size) c.size) t fr
  | x => x
def World.onObj (w : World) (g : Nat) (f : Obj → Obj) : World := { w with heap := w.heap.modify g f }
theorem zaw (w : World) (g o : Nat) : w.cell? ⟨g, o, none⟩ = (w.heap[g]?).bind (cellAt o) := by
  unfold World.cell? cellAt
  cases h : w.heap[g]? with
  | none => simp
  | some x => cases x <;> simp
theorem zby (w : World) (g o : Nat) : w.frozen? ⟨g, o, none⟩ = ((w.heap[g]?).map (iceAt o)).getD false := by
  unfold World.frozen? iceAt
  cases h : w.heap[g]? with
  | none => simp
  | some x => cases x <;> simp
theorem zaj (o : Nat) (c : Array Value) (t : TypeId) (fr : Nat × Nat) : cellAt o (.cells c t fr) = c[o]? := rfl
theorem zas (o : Nat) (c : Array Value) (t : TypeId) (fr : Nat × Nat) : iceAt o (.cells c t fr) = (decide (fr.1 ≤ o) && decide (o < fr.2)) := rfl
theorem zaf (o : Nat) (v : Value) (c : Array Value) (t : TypeId) (fr : Nat × Nat) : setAt o v (.cells c t fr) = .cells (c.setIfInBounds o v) t fr := rfl
theorem zae (w : World) (o : Obj) (g : Nat) : (w.alloc o).heap[g]? = if g = w.heap.size then some o else w.heap[g]? := by
  show (w.heap.push o)[g]? = _
  rw [Array.getElem?_push]
theorem zbk (w : World) (g : Nat) : w.drew.heap[g]? = w.heap[g]? := rfl
theorem zbg (w : World) (n g : Nat) : (w.drewN n).heap[g]? = w.heap[g]? := rfl
theorem zaa (w : World) (p o g : Nat) (v : Value) : (w.setCell ⟨p, o, none⟩ v).heap[g]? = if g = p then (w.heap[g]?).map (setAt o v) else w.heap[g]? := by
  simp only [World.setCell, Array.getElem?_modify]
  by_cases h : p = g
  · subst h
    simp only [if_true]
    cases w.heap[p]? with
    | none => rfl
    | some x => cases x <;> simp [setAt]
  · rw [if_neg h, if_neg (fun e => h e.symm)]
theorem zab (w : World) (p g : Nat) (f : Obj → Obj) : (World.onObj w p f).heap[g]? = if g = p then (w.heap[g]?).map f else w.heap[g]? := by
  simp only [World.onObj, Array.getElem?_modify]
  by_cases h : p = g
  · subst h; simp
  · rw [if_neg h, if_neg (fun e => h e.symm)]
theorem zbm (w : World) (p : Nat) (f : Obj → Obj) : (World.onObj w p f).heap.size = w.heap.size := by simp [World.onObj]
theorem zal (w : World) (p : Addr) (v : Value) : (w.setCell p v).heap.size = w.heap.size := by simp [World.setCell]
theorem Ch.onObj {S : List Nat} {w w1 : World} (h : Ch S w w1) {p : Nat} (hp : p ∈ S ∨ w.heap.size ≤ p) (f : Obj → Obj) : Ch S w (World.onObj w1 p f) :=
  h.trans2 (T := [p]) ⟨rfl, rfl, rfl, by rw [zbm]; exact Nat.le_refl _, fun k _ hn => by
    rw [zab, if_neg (by simpa using hn)]⟩ fun t ht => by rw [List.mem_singleton.1 ht]; exact hp
def loadRow (t : TypeId) (a : Addr) : Sem Value := loadVar t a
def buildRow (t : TypeId) (ps : Array (Nat × Value)) : Sem Value := Instr.build t ps
def storeRow (t : TypeId) (a : Addr) (v : Value) : Sem Unit := storeVar t a v
def stuckRow (P : Program) (t : TypeId) (g o : Nat) (w : World) : Result Value := (loadVar t ⟨g, o, none⟩).run P w
def stuckLay (P : Program) (t : TypeId) (g o : Nat) (v : Value) (w : World) : Result Unit := (storeVar t ⟨g, o, none⟩ v).run P w
def rowRes (P : Program) (t : TypeId) (g o : Nat) (w : World) : Option (Array Value) → Result Value
  | some r => .ok (.agg r) w
  | none => stuckRow P t g o w
theorem zay (P : Program) (t : TypeId) (g o : Nat) (w : World) (r : Array Value) : rowRes P t g o w (some r) = .ok (.agg r) w := rfl
theorem zaz (o n : Nat) (c : Array Value) (t : TypeId) (fr : Nat × Nat) : rowAt o n (.cells c t fr) = if o + n ≤ c.size then some (c.extract o (o + n)) else none := rfl
theorem run_row {P : Program} {t : TypeId} {n : Nat} {d : TypeDesc} (hu : P.underlying t = some d) (hd : (match d with | .struct _ | .array _ _ => true | _ => false) = true)
    (hi : (P.info? t).map (·.size) = some n) (g o : Nat) (w : World) :
    (loadRow t ⟨g, o, none⟩).run P w = rowRes P t g o w ((w.heap[g]?).bind (rowAt o n)) := by
  unfold loadRow
  cases hr : (w.heap[g]?).bind (rowAt o n) with
  | none => rfl
  | some r =>
    rw [zay]
    cases hg : w.heap[g]? with
    | none => rw [hg] at hr; cases hr
    | some x =>
      rw [hg] at hr
      cases x <;> first | (cases hr; done) | skip
      rename_i c e fr
      simp only [Option.bind_some, rowAt] at hr
      split at hr
      · rename_i hle
        have hr' : c.extract o (o + n) = r := by simpa using hr
        have hsz : r.size = n := by rw [← hr']; simp; omega
        have hl : (loadCells ⟨g, o, none⟩ r.toList.length).run P w = .ok r.toList.toArray w :=
          run_loadCells_list (P := P) w ⟨g, o, none⟩ r.toList (fun j v hv => by
            have hadd : (⟨g, o, none⟩ : Addr).add j = ⟨g, o + j, none⟩ := by unfold Addr.add; split <;> simp_all
            rw [hadd, zaw, hg, Option.bind_some, zaj]
            have hv' : r[j]? = some v := by simpa using hv
            rw [← hr', Array.getElem?_extract] at hv'
            split at hv' <;> simp_all)
        cases hq : P.info? t with
        | none => simp [hq] at hi
        | some i =>
          have hs : i.size = n := by simpa [hq] using hi
          have hagg : (isAgg t).run P w = .ok true w := by
            unfold isAgg
            rw [Sem.run_bind, run_underlying hu w]
            cases d <;> simp_all
          simp only [Array.length_toList, Array.toArray_toList, hsz] at hl
          simp [loadVar, Sem.run_bind, hagg, sizeOf, typeInfo, hq, hs, hl]
      · cases hr
def allOne (vs : Array Value) : Bool := vs.all (·.oneCell')
def canLay (o n : Nat) (vs : Array Value) : Obj → Bool
  | .cells c _ fr => fr == (0, 0) && decide (o + n ≤ c.size) && decide (vs.size = n) && allOne vs
  | _ => false
theorem zar (o n : Nat) (vs c : Array Value) (t : TypeId) (fr : Nat × Nat) :
    canLay o n vs (.cells c t fr) = (fr == (0, 0) && decide (o + n ≤ c.size) && decide (vs.size = n) && allOne vs) := rfl
def layRes (P : Program) (t : TypeId) (g o : Nat) (vs : Array Value) (w : World) : Bool → Result Unit
  | true => .ok () (World.onObj w g (laidAt o vs))
  | false => stuckLay P t g o (.agg vs) w
theorem zba (P : Program) (t : TypeId) (g o : Nat) (vs : Array Value) (w : World) : layRes P t g o vs w true = .ok () (World.onObj w g (laidAt o vs)) := rfl
theorem zak (o : Nat) (vs c : Array Value) (t : TypeId) (fr : Nat × Nat) : laidAt o vs (.cells c t fr) = .cells (c.extract 0 o ++ vs ++ c.extract (o + vs.size) c.size) t fr := rfl
theorem laid_whole (vs c : Array Value) (h : c.size = vs.size) : c.extract 0 0 ++ vs ++ c.extract (0 + vs.size) c.size = vs := by
  have h1 : c.extract (0 + vs.size) c.size = #[] := by apply Array.eq_empty_of_size_eq_zero; simp; omega
  have h2 : c.extract 0 0 = #[] := by apply Array.eq_empty_of_size_eq_zero; simp
  rw [h1, h2]; simp
theorem run_lay {P : Program} {t : TypeId} {n : Nat} (hi : (P.info? t).map (·.size) = some n) (g o : Nat) (vs : Array Value) (w : World) :
    (storeRow t ⟨g, o, none⟩ (.agg vs)).run P w = layRes P t g o vs w (((w.heap[g]?).map (canLay o n vs)).getD false) := by
  unfold storeRow
  cases hr : ((w.heap[g]?).map (canLay o n vs)).getD false with
  | false => rfl
  | true =>
    rw [zba]
    cases hg : w.heap[g]? with
    | none => rw [hg] at hr; cases hr
    | some x =>
      rw [hg] at hr
      cases x <;> first | (cases hr; done) | skip
      rename_i c e fr
      simp only [Option.map_some, Option.getD_some, zar, Bool.and_eq_true, decide_eq_true_eq, beq_iff_eq] at hr
      obtain ⟨⟨⟨hfr, hle⟩, hn⟩, hall⟩ := hr
      subst hfr
      have := run_storeCells_at (P := P) g o e vs.toList 0 c w hg (by simp; omega) (fun v hv => (Array.all_eq_true_iff_forall_mem.1 (show vs.all (·.oneCell') = true from hall)) v (by simpa using hv))
      cases hq : P.info? t with
      | none => simp [hq] at hi
      | some i =>
        have hs : i.size = n := by simpa [hq] using hi
        have he : w.setRow g (c.toList.take (o + 0) ++ vs.toList ++ c.toList.drop (o + 0 + vs.toList.length)).toArray = World.onObj w g (laidAt o vs) := by
          unfold World.setRow World.onObj
          congr 1
          apply Array.ext_getElem?
          intro k
          simp only [Array.getElem?_modify]
          by_cases hk : g = k
          · subst hk
            simp only [if_true, hg, Option.map_some, laidAt]
            congr 2
            apply Array.ext'
            simp [List.take_of_length_le]
          · simp [hk]
        rw [he] at this
        simp [storeVar, sizeOf, typeInfo, hq, Value.cells, hs, hn, this]
theorem results_cell2 {P : Program} {fn : Func} {p q : Tmp} {T1 T2 : TypeId} (h : fn.results = #[.cell p T1, .cell q T2]) (tmps : Array Value) (a b : Addr) (w : World) {x y : Value}
    (hp : tmps.getD p undef = .pointer (some a)) (hq : tmps.getD q undef = .pointer (some b)) (h1 : (loadVar T1 a).run P w = .ok x w) (h2 : (loadVar T2 b).run P w = .ok y w) :
    (results fn tmps).run P w = .ok (.tuple #[x, y]) w := by
  have hp' : tmps[p]?.getD undef = .pointer (some a) := by simpa using hp
  have hq' : tmps[q]?.getD undef = .pointer (some b) := by simpa using hq
  simp [results, h, hp', hq', asAddr, h1, h2]
theorem load_one {P : Program} {T : TypeId} {d : TypeDesc} (hu : P.underlying T = some d) (hd : (match d with | .struct _ | .array _ _ => true | _ => false) = false) (p : Nat) (w : World) {x : Value} {t : TypeId} {fr : Nat × Nat}
    (h : w.heap[p]? = some (.cells #[x] t fr)) : (loadVar T ⟨p, 0, none⟩).run P w = .ok x w := by
  have hagg : (isAgg T).run P w = .ok false w := by
    unfold isAgg
    rw [Sem.run_bind, run_underlying hu w]
    cases d <;> simp_all
  have hc : w.cell? ⟨p, 0, none⟩ = some x := by rw [zaw, h]; rfl
  simp [loadVar, Sem.run_bind, hagg, go_sem, hc]
theorem zao {P : Program} (fn : Fn) (first cap : Array Value) (w : World) : (Instr.makeFunc fn first cap).run P w = .ok (.func fn first cap) w := rfl
end Go.Proofs.Hc
namespace Go.Proofs.Hc
open Go.RowKit
structure Tab where
  count : BitVec 64
  depth : Int
  pre : BitVec 64
  can : Int
  live : Int
  c : Nat → BitVec 64
  k : Nat → BitVec 64
  v : Nat → BitVec 64
def Tab.cell (t : Tab) : Nat → Value
  | 0 => U t.count
  | 1 => I t.depth
  | 2 => U t.pre
  | 3 => I t.can
  | 4 => I t.live
  | 5 => U (t.c 0)
  | 6 => U (t.c 1)
  | i + 7 => if i < 16 then U (t.k i) else U (t.v (i - 16))
def tcells (t : Tab) : Array Value := Array.ofFn (n := 39) fun i => t.cell i.1
def hcells (t : Tab) (s : BitVec 64) : Array Value := Array.ofFn (n := 40) fun i => if i.1 = 39 then U s else t.cell i.1
def zeroT : Tab := ⟨0#64, 0, 0#64, 0, 0, fun _ => 0#64, fun _ => 0#64, fun _ => 0#64⟩
theorem zai (t : Tab) : (tcells t).size = 39 := by simp [tcells]
theorem zav (t : Tab) (s : BitVec 64) : (hcells t s).size = 40 := by simp [hcells]
theorem zat (t : Tab) (i : Nat) : (tcells t)[i]? = if i < 39 then some (t.cell i) else none := by
  unfold tcells; rw [Array.getElem?_ofFn]; simp
theorem zbj (t : Tab) (s : BitVec 64) (i : Nat) : (hcells t s)[i]? = if i < 40 then some (if i = 39 then U s else t.cell i) else none := by
  unfold hcells; rw [Array.getElem?_ofFn]; simp
theorem cell_one (t : Tab) (i : Nat) : (t.cell i).oneCell' = true := by
  unfold Tab.cell; split <;> try rfl
  split <;> rfl
theorem zbl (t : Tab) : allOne (tcells t) = true := by
  unfold allOne
  simp only [tcells, Array.all_eq_true_iff_forall_mem, Array.mem_ofFn]; rintro v ⟨i, rfl⟩; exact cell_one ..
theorem zbr (t : Tab) (s : BitVec 64) : allOne (hcells t s) = true := by
  unfold allOne
  simp only [hcells, Array.all_eq_true_iff_forall_mem, Array.mem_ofFn]; rintro v ⟨i, rfl⟩; split; rfl; exact cell_one ..
theorem zaq (t : Tab) (s : BitVec 64) : (hcells t s).extract 0 39 = tcells t := by
  apply Array.ext_getElem?; intro i
  rw [Array.getElem?_extract, zat, zbj, zav]
  by_cases h : i < 39
  · simp [h, show i < 40 by omega, show i ≠ 39 by omega]
  · simp [h]
theorem zau (t : Tab) : (tcells t).extract 0 39 = tcells t := by
  have := Array.extract_size (xs := tcells t); rwa [zai] at this
theorem zbs (t : Tab) (s : BitVec 64) : (hcells t s).extract 0 40 = hcells t s := by
  have := Array.extract_size (xs := hcells t s); rwa [zav] at this
theorem zbi (t : Tab) (s : BitVec 64) : (hcells t s).extract 5 7 = #[U (t.c 0), U (t.c 1)] := by
  apply Array.ext_getElem?; intro i
  rw [Array.getElem?_extract, zbj, zav]
  match i with
  | 0 => simp [Tab.cell]
  | 1 => simp [Tab.cell]
  | i + 2 => simp; omega
theorem zbh (t : Tab) : (tcells t).extract 5 7 = #[U (t.c 0), U (t.c 1)] := by
  apply Array.ext_getElem?; intro i
  rw [Array.getElem?_extract, zat, zai]
  match i with
  | 0 => simp [Tab.cell]
  | 1 => simp [Tab.cell]
  | i + 2 => simp; omega
theorem hcells_key (t : Tab) (s : BitVec 64) (i : Nat) (h : i < 16) : (hcells t s)[7 + i]? = some (U (t.k i)) := by
  rw [zbj, if_pos (by omega), if_neg (by omega), Nat.add_comm]; simp [Tab.cell, h]
theorem hcells_val (t : Tab) (s : BitVec 64) (i : Nat) (h : i < 16) : (hcells t s)[23 + i]? = some (U (t.v i)) := by
  rw [zbj, if_pos (by omega), if_neg (by omega), show 23 + i = (16 + i) + 7 by omega]; simp [Tab.cell, show ¬ 16 + i < 16 by omega]
theorem tcells_key (t : Tab) (i : Nat) (h : i < 16) : (tcells t)[7 + i]? = some (U (t.k i)) := by
  rw [zat, if_pos (by omega), Nat.add_comm]; simp [Tab.cell, h]
theorem tcells_val (t : Tab) (i : Nat) (h : i < 16) : (tcells t)[23 + i]? = some (U (t.v i)) := by
  rw [zat, if_pos (by omega), show 23 + i = (16 + i) + 7 by omega]; simp [Tab.cell, show ¬ 16 + i < 16 by omega]
theorem hset {t t' : Tab} {s s' : BitVec 64} {j : Nat} {x : Value} (hj : j < 39) (hx : t'.cell j = x) (ho : ∀ i, i < 39 → i ≠ j → t'.cell i = t.cell i) (hs : s = s') :
    (hcells t s).setIfInBounds j x = hcells t' s' := by
  subst hs
  apply Array.ext_getElem?; intro i
  rw [Array.getElem?_setIfInBounds, zbj, zbj, zav]
  by_cases h : j = i
  · subst h; simp [show j < 40 by omega, show j ≠ 39 by omega, hx]
  · rw [if_neg h]
    by_cases h2 : i < 40
    · simp only [h2, if_true]
      by_cases h3 : i = 39
      · simp [h3]
      · simp only [h3, if_false]; rw [ho i (by omega) (fun e => h e.symm)]
    · simp [h2]
theorem hset_can (t : Tab) (s : BitVec 64) (x : Int) : (hcells t s).setIfInBounds 3 (I x) = hcells { t with can := x } s :=
  hset (by omega) rfl (fun i _ h => by unfold Tab.cell; split <;> first | rfl | omega) rfl
theorem hset_live (t : Tab) (s : BitVec 64) (x : Int) : (hcells t s).setIfInBounds 4 (I x) = hcells { t with live := x } s :=
  hset (by omega) rfl (fun i _ h => by unfold Tab.cell; split <;> first | rfl | omega) rfl
theorem hset_ctrl (t : Tab) (s : BitVec 64) (g : Nat) (hg : g < 2) (x : BitVec 64) : (hcells t s).setIfInBounds (5 + g) (U x) = hcells { t with c := fun i => if i = g then x else t.c i } s := by
  refine hset (by omega) ?_ (fun i _ h => ?_) rfl
  · match g, hg with
    | 0, _ => rfl
    | 1, _ => rfl
  · unfold Tab.cell
    split <;> first | rfl | skip
    · simp [show (0 : Nat) ≠ g by omega]
    · simp [show (1 : Nat) ≠ g by omega]
theorem hset_key (t : Tab) (s : BitVec 64) (j : Nat) (hj : j < 16) (x : BitVec 64) : (hcells t s).setIfInBounds (7 + j) (U x) = hcells { t with k := fun i => if i = j then x else t.k i } s := by
  refine hset (by omega) ?_ (fun i hi h => ?_) rfl
  · rw [Nat.add_comm]; simp [Tab.cell, hj]
  · unfold Tab.cell
    split <;> first | rfl | skip
    rename_i i
    by_cases h2 : i < 16
    · simp [h2, show i ≠ j by omega]
    · simp [h2]
theorem hset_val (t : Tab) (s : BitVec 64) (j : Nat) (hj : j < 16) (x : BitVec 64) : (hcells t s).setIfInBounds (23 + j) (U x) = hcells { t with v := fun i => if i = j then x else t.v i } s := by
  refine hset (by omega) ?_ (fun i hi h => ?_) rfl
  · rw [show 23 + j = (16 + j) + 7 by omega]; simp [Tab.cell, show ¬ 16 + j < 16 by omega]
  · unfold Tab.cell
    split <;> first | rfl | skip
    rename_i i
    by_cases h2 : i < 16
    · simp [h2]
    · simp [h2, show i - 16 ≠ j by omega]
theorem load26 (g o : Nat) (w : World) : (loadRow 26 ⟨g, o, none⟩).run Tryz.prog w = rowRes Tryz.prog 26 g o w ((w.heap[g]?).bind (rowAt o 39)) :=
  run_row Tryz.underlying26 rfl (by kernel_rfl) g o w
theorem load73 (g o : Nat) (w : World) : (loadRow 141 ⟨g, o, none⟩).run Tryz.prog w = rowRes Tryz.prog 141 g o w ((w.heap[g]?).bind (rowAt o 40)) :=
  run_row Tryz.underlying141 rfl (by kernel_rfl) g o w
theorem load23 (g o : Nat) (w : World) : (loadRow 23 ⟨g, o, none⟩).run Tryz.prog w = rowRes Tryz.prog 23 g o w ((w.heap[g]?).bind (rowAt o 2)) :=
  run_row Tryz.underlying23 rfl (by kernel_rfl) g o w
theorem store26 (g o : Nat) (vs : Array Value) (w : World) : (storeRow 26 ⟨g, o, none⟩ (.agg vs)).run Tryz.prog w = layRes Tryz.prog 26 g o vs w (((w.heap[g]?).map (canLay o 39 vs)).getD false) :=
  run_lay (by kernel_rfl) g o vs w
theorem lrow26 (a : Addr) : loadVar 26 a = loadRow 26 a := rfl
theorem lrow73 (a : Addr) : loadVar 141 a = loadRow 141 a := rfl
theorem lrow23 (a : Addr) : loadVar 23 a = loadRow 23 a := rfl
theorem srow26 (a : Addr) (v : Value) : storeVar 26 a v = storeRow 26 a v := rfl
theorem zero26 (w : World) : (zeroValue 26).run Tryz.prog w = .ok (.agg (tcells zeroT)) w := by kernel_rfl
theorem brow73 (ps : Array (Nat × Value)) : Instr.build 141 ps = buildRow 141 ps := rfl
theorem build73 (t : Tab) (s : BitVec 64) (w : World) : (buildRow 141 #[(0, .agg (tcells t)), (1, U s)]).run Tryz.prog w = .ok (.agg (hcells t s)) w := by kernel_rfl
end Go.Proofs.Hc
namespace Go.Proofs.Hc
open Go.RowKit
structure At where
  t : Tab
  slot : Int
  many : Int
def acells (a : At) : Array Value := Array.ofFn (n := 41) fun i => if i.1 = 39 then I a.slot else if i.1 = 40 then I a.many else a.t.cell i.1
def zeroA : At := ⟨zeroT, 0, 0⟩
structure T2 where
  l : Tab
  r : Tab
def t2cells (a : T2) : Array Value := Array.ofFn (n := 78) fun i => if i.1 < 39 then a.l.cell i.1 else a.r.cell (i.1 - 39)
def zeroT2 : T2 := ⟨zeroT, zeroT⟩
theorem zda (t : At) : (acells t).size = 41 := by simp [acells]
theorem zcd (t : T2) : (t2cells t).size = 78 := by simp [t2cells]
theorem acells_get (t : At) (i : Nat) : (acells t)[i]? = if i < 41 then some (if i = 39 then I t.slot else if i = 40 then I t.many else t.t.cell i) else none := by
  unfold acells; rw [Array.getElem?_ofFn]; simp
theorem zcz (t : T2) (i : Nat) : (t2cells t)[i]? = if i < 78 then some (if i < 39 then t.l.cell i else t.r.cell (i - 39)) else none := by
  unfold t2cells; rw [Array.getElem?_ofFn]; simp
theorem acells_one (t : At) : allOne (acells t) = true := by
  unfold allOne
  simp only [acells, Array.all_eq_true_iff_forall_mem, Array.mem_ofFn]; rintro v ⟨i, rfl⟩; split; rfl; split; rfl; exact cell_one ..
theorem t2cells_one (t : T2) : allOne (t2cells t) = true := by
  unfold allOne
  simp only [t2cells, Array.all_eq_true_iff_forall_mem, Array.mem_ofFn]; rintro v ⟨i, rfl⟩; split <;> exact cell_one ..
theorem zcy (t : At) : (acells t).extract 0 39 = tcells t.t := by
  apply Array.ext_getElem?; intro i
  rw [Array.getElem?_extract, zat, acells_get, zda]
  by_cases h : i < 39
  · simp [h, show i < 41 by omega, show i ≠ 39 by omega, show i ≠ 40 by omega]
  · simp [h]
theorem acells_all (t : At) : (acells t).extract 0 41 = acells t := by
  have := Array.extract_size (xs := acells t); rwa [zda] at this
theorem t2cells_all (t : T2) : (t2cells t).extract 0 78 = t2cells t := by
  have := Array.extract_size (xs := t2cells t); rwa [zcd] at this
theorem t2cells_l (t : T2) : (t2cells t).extract 0 39 = tcells t.l := by
  apply Array.ext_getElem?; intro i
  rw [Array.getElem?_extract, zat, zcz, zcd]
  by_cases h : i < 39
  · simp [h, show i < 78 by omega]
  · simp [h]
theorem t2cells_r (t : T2) : (t2cells t).extract 39 78 = tcells t.r := by
  apply Array.ext_getElem?; intro i
  rw [Array.getElem?_extract, zat, zcz, zcd]
  by_cases h : i < 39
  · simp [h, show 39 + i < 78 by omega, show ¬ 39 + i < 39 by omega]
  · simp [h]
theorem lrowA (a : Addr) : loadVar 210 a = loadRow 210 a := rfl
theorem lrowT2 (a : Addr) : loadVar 35 a = loadRow 35 a := rfl
theorem srowA (a : Addr) (v : Value) : storeVar 210 a v = storeRow 210 a v := rfl
theorem srowT2 (a : Addr) (v : Value) : storeVar 35 a v = storeRow 35 a v := rfl
theorem browA (ps : Array (Nat × Value)) : Instr.build 210 ps = buildRow 210 ps := rfl
theorem loadA (g o : Nat) (w : World) : (loadRow 210 ⟨g, o, none⟩).run Tryz.prog w = rowRes Tryz.prog 210 g o w ((w.heap[g]?).bind (rowAt o 41)) :=
  run_row Tryz.underlying210 rfl (by kernel_rfl) g o w
theorem loadT2 (g o : Nat) (w : World) : (loadRow 35 ⟨g, o, none⟩).run Tryz.prog w = rowRes Tryz.prog 35 g o w ((w.heap[g]?).bind (rowAt o 78)) :=
  run_row Tryz.underlying35 rfl (by kernel_rfl) g o w
theorem storeA (g o : Nat) (vs : Array Value) (w : World) : (storeRow 210 ⟨g, o, none⟩ (.agg vs)).run Tryz.prog w = layRes Tryz.prog 210 g o vs w (((w.heap[g]?).map (canLay o 41 vs)).getD false) :=
  run_lay (by kernel_rfl) g o vs w
theorem storeT2 (g o : Nat) (vs : Array Value) (w : World) : (storeRow 35 ⟨g, o, none⟩ (.agg vs)).run Tryz.prog w = layRes Tryz.prog 35 g o vs w (((w.heap[g]?).map (canLay o 78 vs)).getD false) :=
  run_lay (by kernel_rfl) g o vs w
theorem zeroA_run (w : World) : (zeroValue 210).run Tryz.prog w = .ok (.agg (acells zeroA)) w := by kernel_rfl
theorem zeroT2_run (w : World) : (zeroValue 35).run Tryz.prog w = .ok (.agg (t2cells zeroT2)) w := by kernel_rfl
theorem buildA_ts (t : Tab) (n : Int) (w : World) : (buildRow 210 #[(0, .agg (tcells t)), (1, I n)]).run Tryz.prog w = .ok (.agg (acells ⟨t, n, 0⟩)) w := by kernel_rfl
theorem buildA_sm (n m : Int) (w : World) : (buildRow 210 #[(1, I n), (2, I m)]).run Tryz.prog w = .ok (.agg (acells ⟨zeroT, n, m⟩)) w := by kernel_rfl
def retOr {α : Type} (enc : α → Value) : Except Int α → Ending
  | .ok v => .returned (enc v)
  | .error c => .panicked [{ v := .iface 32 (I c), recovered := false }]
def tupOr {α : Type} (enc : α → Value) (zero : Value) : Except Int α → Value
  | .ok v => .tuple #[enc v, I 0]
  | .error c => .tuple #[zero, I c]
theorem zdd (v : Value) (w : World) : (Instr.typeAssert (.iface 32 v) 20 32 true).run Tryz.prog w = .ok (.tuple #[v, .bool true]) w := by kernel_rfl
theorem make_func (fn : Fn) (first cap : Array Value) (w : World) : (Instr.makeFunc fn first cap).run Tryz.prog w = .ok (.func fn first cap) w := rfl
end Go.Proofs.Hc
namespace Go.Proofs.Hc
open Go.RowKit
def MetAt (w : World) (bm n : Nat) (f : BitVec 64 → Int) : Prop :=
  ∃ D : DataW Unit, w.ownsMap Tryz.prog 22 (plainElem Tryz.prog 3) bm n D ∧ ∀ k : BitVec 64, D.atKey (.int .u64 (N k)) (.lit (.int .i64 0)) = .lit (.int .i64 (f k))
theorem keyLaw : Go.Maps.Keyed Tryz.prog 22 := Go.Maps.int_keyed Tryz.underlying22
theorem wf_u64 (k : BitVec 64) : (Lit.int .u64 (N k)).wf = true := by
  have h := k.isLt
  have h2 : (IntKind.u64.max : Int) = 18446744073709551615 := by decide
  have h3 : (IntKind.u64.min : Int) = 0 := by decide
  simp [Lit.wf, N, h2, h3]; omega
theorem zeroInt (w : World) : (zeroValue 3).run Tryz.prog w = .ok (.int .i64 0) w := by kernel_rfl
theorem met_made (w : World) : MetAt (w.alloc (.map #[] 0)) w.heap.size 0 fun _ => 0 :=
  ⟨.map [], World.ownsMap_made _ _ _ _, fun _ => rfl⟩
theorem met_look {w : World} {bm n : Nat} {f : BitVec 64 → Int} (h : MetAt w bm n f) (k : BitVec 64) :
    (Instr.lookup 252 (.map (some bm)) (U k) false).run Tryz.prog w = .ok (I (f k)) w := by
  obtain ⟨D, ho, hf⟩ := h
  obtain ⟨c, hr, hc, _⟩ := ho.lookup_int keyLaw Tryz.underlying252 Tryz.underlying3 (zeroInt _) (Go.Maps.keyOf_int_mk Tryz.underlying22 (wf_u64 k))
  rw [hf k] at hc
  have : f k = c := by simpa using hc
  rw [this]; exact hr
theorem met_put {w : World} {bm n : Nat} {f : BitVec 64 → Int} (h : MetAt w bm n f) (hn : n < 1000) (k : BitVec 64) (x : Int) (hx : (Lit.int .i64 x).wf = true) :
    ∃ w', (Instr.mapUpdate 252 (.map (some bm)) (U k) (I x)).run Tryz.prog w = .ok () w' ∧ MetAt w' bm (n + 1) (fun j => if j = k then x else f j) ∧ Ch [bm] w w' ∧ w'.heap.size = w.heap.size := by
  obtain ⟨D, ho, hf⟩ := h
  have hm : Go.Maps.IsMap D := ⟨_, ho.choose_spec.choose_spec.2.2.2⟩
  obtain ⟨es, clock, hb, F, hs, hD⟩ := ho
  obtain ⟨es', clock', hrun, F', hput, _⟩ := Go.Maps.fit_store (R' := plainElem Tryz.prog 3) keyLaw Tryz.underlying252 hb F (Nat.lt_of_le_of_lt hs (by unfold maxLen; omega)) (fun _ _ _ _ hz => hz) (Go.Maps.keyOf_int_mk Tryz.underlying22 (wf_u64 k)) (plainElem_int (H := Unit) Tryz.underlying3 hx)
  obtain ⟨w', hr, ho', hg⟩ := World.ownsMap.update ⟨es, clock, hb, F, hs, hD⟩ keyLaw Tryz.underlying252 (by unfold maxLen; omega) (Go.Maps.keyOf_int_mk Tryz.underlying22 (wf_u64 k)) (plainElem_int (H := Unit) Tryz.underlying3 hx)
  refine ⟨w', hr, ⟨_, ho', fun j => ?_⟩, Ch.of_grown hg (fun b hb => by simpa using hb.symm), ?_⟩
  · show _ = DataW.lit (Lit.int .i64 (if j = k then x else f j))
    by_cases hj : j = k
    · subst hj
      rw [if_pos rfl]
      exact Go.Maps.atKey_put_same hm (Go.Maps.Keyed.key keyLaw (Go.Maps.keyOf_int_mk Tryz.underlying22 (wf_u64 j))) _ _
    · have hne : Lit.int .u64 (N j) ≠ Lit.int .u64 (N k) := fun e => hj ((N_inj _ _).1 (by simpa using e))
      rw [if_neg hj, Go.Maps.atKey_put_other hne]
      exact hf j
  · have h1 := hrun.symm.trans hr
    have h2 : w' = _ := (Result.ok.inj h1).2.symm
    rw [h2]; simp [Go.ChangeMaps.setBlock]
theorem met_ch {w w' : World} {bm n : Nat} {f : BitVec 64 → Int} {S : List Nat} (h : MetAt w bm n f) (c : Ch S w w') (hS : bm ∉ S) : MetAt w' bm n f := by
  obtain ⟨D, ⟨es, clock, hb, r⟩, hf⟩ := h
  exact ⟨D, ⟨es, clock, (c.block bm (Array.getElem?_eq_some_iff.1 hb).1 hS).trans hb, r⟩, hf⟩
end Go.Proofs.Hc
