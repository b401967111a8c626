/- Layer 19, who writes: the model. Plain law, no program in sight. -/
import Derived.Test.YtmfajobocpaimaaGreatKHf
import Derived.Test.YtmfajobocpaimaaGreatKHm
import Derived.Test.YtmfajobocpaimaaGreatKHxg
import Derived.Test.YtmfajobocpaimaaGreatKHni
import Derived.Test.YtmfajobocpaimaaGreatKHq
import Derived.Test.YtmfajobocpaimaaGreatKHop2
import Derived.Test.YtmfajobocpaimaaGreatKHye
import Derived.Below
import Derived.BigQuiet
import Derived.Deep.Draws
import Derived.Deep.Light
import Derived.Deep.QuietTactic
import Derived.Deep.RegionHeld
import Derived.Laws.CopyRow
import Derived.Laws.Tables
import Derived.Lib.AppendZerosOnto
import Derived.Lib.Hide
import Derived.Lib.Tables
import Derived.Lib.Walk
import Derived.LoopIn
import Derived.LoopN
import Derived.LoopNIn
import Derived.Maps.AppendAt
import Derived.Maps.Views
import Derived.OwnWalkIn
import Derived.RangeFuncBox
import Derived.RangeFuncCalls
import Derived.RangeFuncRecord
import Derived.RangeFuncSeq
import Derived.Recover
import Derived.RegionTactic
import Derived.Shelf.Slices.Clone
import Derived.StillTail
import Derived.StillTailTactics
import Derived.TacticsInMore
import Derived.Test.YtmfajobocpaimaaGreatProg
import Derived.WalkKit
import Derived.WalkLawsBesides
import Derived.WalkMore
import Derived.WalkSpells
set_option linter.unusedSimpArgs false
set_option linter.unusedVariables false
namespace Go.Proofs.Hc
open Go.RowKit
/-- Who writes (api.Pen). -/
structure PenT where
  ph : Int
  sl : Int
  op : Int
  key : BitVec 64
  a : BitVec 64
  b : BitVec 64
  hash : BitVec 64
  count : BitVec 64
  can : BitVec 64
  live : BitVec 64
  grp : Int
  ctrl : BitVec 64
  left : BitVec 8
  free : Int
  fctrl : BitVec 64
  slot : Int
  val : BitVec 64
  found : Bool
def penC (p : PenT) : Array Value := #[I p.ph, I p.sl, I p.op, U p.key, U p.a, U p.b, U p.hash, U p.count, U p.can, U p.live, I p.grp, U p.ctrl, Y p.left, I p.free, U p.fctrl, I p.slot, U p.val, .bool p.found]
def zeroPen : PenT := ⟨0, 0, 0, 0#64, 0#64, 0#64, 0#64, 0#64, 0#64, 0#64, 0, 0#64, 0#8, 0, 0#64, 0, 0#64, false⟩
theorem penC_size (p : PenT) : (penC p).size = 18 := rfl
theorem penC_one (p : PenT) : allOne (penC p) = true := by unfold allOne penC; simp [Value.oneCell']
theorem penC_all (p : PenT) : (penC p).extract 0 18 = penC p := by have := Array.extract_size (xs := penC p); rwa [penC_size] at this
/-- An odd word. -/
def oddB (x : BitVec 64) : Bool := (x &&& 1#64) == 1#64
/-- What it wants: 0 nothing, 1 to put, 2 to set, 3 to drop. -/
def wantsP (p : PenT) : Nat :=
  if p.found then (if p.op == 2 || p.op == 4 && p.val == p.a then 2 else if p.op == 3 then 3 else 0)
  else if p.op == 2 || p.op == 5 then 1 else 0
theorem wantsP_le (p : PenT) : wantsP p ≤ 3 := by unfold wantsP; repeat' split
                                                  all_goals omega
/-- Does one go through a phase of a section, by what it wants? -/
def throughP (w : Nat) (ph : Int) : Bool :=
  if ph == 4 || ph == 5 || ph == 9 || ph == 10 || ph == 11 || ph == 12 then w == 1 || w == 3
  else if ph == 6 || ph == 13 then decide (0 < w)
  else if ph == 7 then w == 1
  else w == 1 || w == 2
/-- May it be? -/
def rightP (p : PenT) : Bool :=
  (decide (0 ≤ p.ph) && decide (p.ph ≤ 16)) && (decide (0 ≤ p.sl) && decide (p.sl < 128)) && (decide (2 ≤ p.op) && decide (p.op ≤ 5)) && !oddB p.count &&
  (p.grp == 0 || p.grp == 1) && (decide (0 ≤ p.slot) && decide (p.slot ≤ 15)) && (decide (0 ≤ p.free) && decide (p.free ≤ 16)) && !(p.ph == 2 && p.left == 0#8) &&
  (decide (p.ph < 4) || decide (13 < p.ph) || throughP (wantsP p) p.ph && (wantsP p != 1 || decide (0 < p.free)))
/-- The group it is at. -/
def groupP (p : PenT) : Nat := (g0 (hash1 p.hash) + p.grp.toNat) % 2
/-- The slot in which it stores. -/
def slotP (p : PenT) : Int := if wantsP p == 1 then p.free - 1 else p.slot
/-- The least lane that is left. -/
def laneP (m : BitVec 8) : Nat := ((lanesOf m).head?).getD 0
/-- Once it is decided what it wants. -/
def decidedP (p : PenT) : PenT :=
  { p with ph := if wantsP p = 0 then 14 else if wantsP p = 2 then 6 else if wantsP p = 1 ∧ p.free = 0 then 16 else 4 }
/-- Behind a control word, or a key. -/
def onP (p : PenT) : PenT :=
  if p.left != 0#8 then { p with ph := 2 }
  else if emptyM p.ctrl != 0#8 || p.grp == 1 then decidedP p
  else { p with grp := 1, ph := 1 }
/-- The phase behind a store. -/
def nextP (w : Nat) (ph : Int) : Int :=
  (((List.range 14).map fun n : Nat => (n : Int)).find? fun n => decide (ph < n) && throughP w n).getD 14
/-- A control word is looked at. -/
def seenP (p : PenT) (w : BitVec 64) : PenT := { p with ctrl := w, left := equalM w (hash2 p.hash) }
/-- The first free lane of a control word, if there is one. -/
def freeP (p : PenT) (w : BitVec 64) : Option Nat → PenT
  | none => p
  | some x => if p.free = 0 then { p with free := ((8 * groupP p + x + 1 : Nat) : Int), fctrl := w } else p
/-- Behind a control word. -/
def lookedP (p : PenT) (w : BitVec 64) : PenT := onP (freeP (seenP p w) w (lanesOf (freeM w)).head?)
/-- Was the free slot empty? -/
def wasP (p : PenT) : Bool := (emptyM p.fctrl).getLsbD ((p.free - 1).toNat % 8)
/-- Behind its access, that told a word. -/
def takeP (p : PenT) (w : BitVec 64) : PenT :=
  if p.ph = 0 then (if oddB w then { p with ph := 15 } else { p with count := w, grp := 0, ph := 1 })
  else if p.ph = 1 then lookedP p w
  else if p.ph = 2 then (if w == p.key then { p with slot := ((8 * groupP p + laneP p.left : Nat) : Int), ph := 3 } else onP { p with left := p.left &&& ~~~(1#8 <<< laneP p.left) })
  else if p.ph = 3 then decidedP { p with val := w, found := true }
  else if p.ph = 4 then { p with can := w, ph := if wantsP p == 1 && wasP p && w == 0#64 then 16 else 5 }
  else if p.ph = 5 then { p with live := w, ph := 6 }
  else { p with ph := nextP (wantsP p) p.ph }
/-- Which word of the slab it accesses. -/
def wordP (p : PenT) : Int :=
  if p.ph = 0 ∨ p.ph = 6 ∨ p.ph = 13 then 0
  else if p.ph = 1 then ((4 + groupP p : Nat) : Int)
  else if p.ph = 2 then ((6 + 8 * groupP p + laneP p.left : Nat) : Int)
  else if p.ph = 3 then 22 + p.slot
  else if p.ph = 4 ∨ p.ph = 10 then 2
  else if p.ph = 5 ∨ p.ph = 11 then 3
  else if p.ph = 7 then 6 + slotP p
  else if p.ph = 8 then 22 + slotP p
  else 4 + slotP p / 8
/-- The control word that it stores. -/
def markP (p : PenT) : BitVec 64 :=
  if wantsP p == 1 then withB p.fctrl ((slotP p).toNat % 8) (hash2 p.hash)
  else withB p.ctrl ((slotP p).toNat % 8) (if emptyM p.ctrl != 0#8 then 128#8 else 254#8)
/-- How many keys there are more. -/
def byP (n : Nat) : BitVec 64 := if n == 1 then 1#64 else 0#64 - 1#64
theorem byP_drop (n : Nat) (h : n ≠ 1) : byP n = 0#64 - 1#64 := by unfold byP; rw [if_neg (by simpa using h)]
theorem U_minus : U (0#64 - 1#64) = .int .u64 18446744073709551615 := by
  have h : N (0#64 - 1#64) = 18446744073709551615 := by unfold N; decide +kernel
  rw [show U (0#64 - 1#64) = Value.int .u64 (N (0#64 - 1#64)) from rfl, h]
theorem add_minus (x : BitVec 64) : x + (0#64 - 1#64) = x - 1#64 := by rw [BitVec.sub_eq_add_neg x, BitVec.zero_sub]
/-- What it stores. -/
def whatP (p : PenT) : BitVec 64 :=
  if p.ph = 6 then p.count + 1#64
  else if p.ph = 13 then p.count + 2#64
  else if p.ph = 7 then p.key
  else if p.ph = 8 then (if p.op = 4 then p.b else p.a)
  else if p.ph = 9 then markP p
  else if p.ph = 10 then (if wantsP p == 1 && wasP p then p.can - 1#64 else if wantsP p == 3 && emptyM p.ctrl != 0#8 then p.can + 1#64 else p.can)
  else p.live + byP (wantsP p)
/-- An access: its kind (1 load, 2 store, 4 add), its cell, its word. -/
structure AccT where
  kind : Int
  at_ : Int
  new : BitVec 64
/-- Its access; none: it has none, or may not be. -/
def needP (p : PenT) : Option AccT :=
  if rightP p && decide (p.ph ≤ 13) then
    some (if p.ph = 12 then ⟨4, 1, byP (wantsP p)⟩
      else ⟨if 5 < p.ph then 2 else 1, 16 + 40 * p.sl + wordP p, if 5 < p.ph then whatP p else 0#64⟩)
  else none
/-- Cells behind an access, and what it told. -/
def doP (c : List (BitVec 64)) (x : AccT) : Option (List (BitVec 64) × BitVec 64) :=
  match c[x.at_.toNat]? with
  | none => none
  | some w => some (if x.kind = 1 then c else if x.kind = 2 then c.set x.at_.toNat x.new else c.set x.at_.toNat (w + x.new), w)
/-- Its step, in cells. -/
def stepP (c : List (BitVec 64)) (p : PenT) : Option (List (BitVec 64) × PenT) :=
  match needP p with
  | none => some (c, p)
  | some x => (doP c x).map fun y => (y.1, takeP p y.2)
end Go.Proofs.Hc
/- Accesses as values: their cells. -/
namespace Go.Proofs.Hc
open Go.RowKit
/-- An access: who, which kind, where, what. -/
def accC (a b c d : Int) : Array Value := #[I a, I b, I c, .int .u64 0, .int .u64 d]
theorem accC_size (a b c d : Int) : (accC a b c d).size = 5 := rfl
theorem accC_one (a b c d : Int) : allOne (accC a b c d) = true := by unfold allOne accC; simp [Value.oneCell']
theorem accC_all (a b c d : Int) : (accC a b c d).extract 0 5 = accC a b c d := by have := Array.extract_size (xs := accC a b c d); rwa [accC_size] at this
theorem acc_g0 (a b c d : Int) : (accC a b c d)[0]? = some (I a) := rfl
theorem acc_g1 (a b c d : Int) : (accC a b c d)[1]? = some (I b) := rfl
theorem acc_g2 (a b c d : Int) : (accC a b c d)[2]? = some (I c) := rfl
theorem acc_g4 (a b c d : Int) : (accC a b c d)[4]? = some (.int .u64 d) := rfl
theorem acc_s0 (a b c d x : Int) : (accC a b c d).setIfInBounds 0 (I x) = accC x b c d := rfl
theorem acc_s1 (a b c d x : Int) : (accC a b c d).setIfInBounds 1 (I x) = accC a x c d := rfl
theorem acc_s2 (a b c d x : Int) : (accC a b c d).setIfInBounds 2 (I x) = accC a b x d := rfl
theorem acc_s4 (a b c d x : Int) : (accC a b c d).setIfInBounds 4 (.int .u64 x) = accC a b c x := rfl
theorem loadAcc (g o : Nat) (w : World) : (loadRow 96 ⟨g, o, none⟩).run Tryz.prog w = rowRes Tryz.prog 96 g o w ((w.heap[g]?).bind (rowAt o 5)) :=
  run_row Tryz.underlying96 rfl (by kernel_rfl) g o w
theorem storeAcc (g o : Nat) (vs : Array Value) (w : World) : (storeRow 96 ⟨g, o, none⟩ (.agg vs)).run Tryz.prog w = layRes Tryz.prog 96 g o vs w (((w.heap[g]?).map (canLay o 5 vs)).getD false) :=
  run_lay (by kernel_rfl) g o vs w
theorem lrowAcc (a : Addr) : loadVar 96 a = loadRow 96 a := rfl
theorem srowAcc (a : Addr) (v : Value) : storeVar 96 a v = storeRow 96 a v := rfl
theorem browAcc (ps : Array (Nat × Value)) : Instr.build 96 ps = buildRow 96 ps := rfl
theorem zeroAcc_run (w : World) : (zeroValue 96).run Tryz.prog w = .ok (.agg (accC 0 0 0 0)) w := by kernel_rfl
theorem bacc0 (w : World) : (buildRow 96 #[]).run Tryz.prog w = .ok (.agg (accC 0 0 0 0)) w := by kernel_rfl
theorem bacc2 (b c : Int) (w : World) : (buildRow 96 #[(1, I b), (2, I c)]).run Tryz.prog w = .ok (.agg (accC 0 b c 0)) w := by kernel_rfl
theorem bacc3 (a b c : Int) (w : World) : (buildRow 96 #[(0, I a), (1, I b), (2, I c)]).run Tryz.prog w = .ok (.agg (accC a b c 0)) w := by kernel_rfl
theorem bacc3u (b c d : Int) (w : World) : (buildRow 96 #[(1, I b), (2, I c), (4, .int .u64 d)]).run Tryz.prog w = .ok (.agg (accC 0 b c d)) w := by kernel_rfl
theorem bacc4 (a b c d : Int) (w : World) : (buildRow 96 #[(0, I a), (1, I b), (2, I c), (4, .int .u64 d)]).run Tryz.prog w = .ok (.agg (accC a b c d)) w := by kernel_rfl
theorem laidAt_acc (a b c d a' b' c' d' : Int) (T : TypeId) (fr : Nat × Nat) : laidAt 0 (accC a b c d) (.cells (accC a' b' c' d') T fr) = .cells (accC a b c d) T fr := by
  rw [laidAt_cells, laid_whole _ _ (by rw [accC_size, accC_size])]
/-- The answer of Need. -/
def needV (who : Int) : Option AccT → Value
  | none => .tuple #[.agg (accC 0 0 0 0), .bool false]
  | some x => .tuple #[.agg (accC who x.kind x.at_ (N x.new)), .bool true]
theorem need_results {fn : Func} {p q : Tmp} (h : fn.results = #[.cell p 96, .tmp q]) (tmps : Array Value) (b : Nat) (w : World) (x y z u : Int) (v : Value) (hp : tmps.getD p undef = .pointer (some ⟨b, 0, none⟩)) (hq : tmps.getD q undef = v)
    (hb : w.heap[b]? = some (.cells (accC x y z u) 96 (0, 0))) : (results fn tmps).run Tryz.prog w = .ok (.tuple #[.agg (accC x y z u), v]) w := by
  have hl := run_loadVar_row (P := Tryz.prog) w b 96 96 (accC x y z u) (0, 0) _ hb Tryz.underlying96 rfl (by rw [accC_size]; kernel_rfl)
  have hp' : tmps[p]?.getD undef = .pointer (some ⟨b, 0, none⟩) := by simpa using hp
  have hq' : tmps[q]?.getD undef = v := by simpa using hq
  simp [results, h, hp', hq', asAddr, hl]
theorem acc_result {fn : Func} {p : Tmp} (h : fn.results = #[.cell p 96]) (tmps : Array Value) (b : Nat) (w : World) (x y z u : Int) (hp : tmps.getD p undef = .pointer (some ⟨b, 0, none⟩))
    (hb : w.heap[b]? = some (.cells (accC x y z u) 96 (0, 0))) : (results fn tmps).run Tryz.prog w = .ok (.agg (accC x y z u)) w := by
  have hl := run_loadVar_row (P := Tryz.prog) w b 96 96 (accC x y z u) (0, 0) _ hb Tryz.underlying96 rfl (by rw [accC_size]; kernel_rfl)
  have hp' : tmps[p]?.getD undef = .pointer (some ⟨b, 0, none⟩) := by simpa using hp
  simp [results, h, hp', asAddr, hl]
end Go.Proofs.Hc
