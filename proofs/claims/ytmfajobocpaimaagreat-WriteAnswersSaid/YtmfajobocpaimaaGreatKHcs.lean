/- Layer 19, who writes: the model. Plain law, no program in sight. -/
import Derived.Test.YtmfajobocpaimaaGreatKHmet
import Derived.Test.YtmfajobocpaimaaGreatKHg
import Derived.Test.YtmfajobocpaimaaGreatKHj
import Derived.Test.YtmfajobocpaimaaGreatKHm
import Derived.Test.YtmfajobocpaimaaGreatKHye
import Derived.Test.YtmfajobocpaimaaGreatKHni
import Derived.Test.YtmfajobocpaimaaGreatKHxh
import Derived.Below
import Derived.BigQuiet
import Derived.Deep.Draws
import Derived.Deep.Light
import Derived.Deep.QuietTactic
import Derived.Deep.RegionHeld
import Derived.Laws.CopyRow
import Derived.Laws.Tables
import Derived.Lib.AppendZerosOnto
import Derived.Lib.Hide
import Derived.Lib.Tables
import Derived.Lib.Walk
import Derived.LoopIn
import Derived.LoopN
import Derived.LoopNIn
import Derived.Maps.AppendAt
import Derived.Maps.Views
import Derived.OwnWalkIn
import Derived.RangeFuncBox
import Derived.RangeFuncCalls
import Derived.RangeFuncRecord
import Derived.RangeFuncSeq
import Derived.Recover
import Derived.RegionTactic
import Derived.Shelf.Slices.Clone
import Derived.StillTail
import Derived.StillTailTactics
import Derived.TacticsInMore
import Derived.Test.YtmfajobocpaimaaGreatProg
import Derived.WalkKit
import Derived.WalkLawsBesides
import Derived.WalkMore
import Derived.WalkSpells
import Derived.Laws.StructEq
import Derived.ScopeJumps
set_option linter.unusedSimpArgs false
set_option linter.unusedVariables false
namespace Go.Proofs.Hc
open Go.RowKit
/-- Who writes (api.Pen). -/
structure PenT where
  ph : Int
  sl : Int
  op : Int
  key : BitVec 64
  a : BitVec 64
  b : BitVec 64
  hash : BitVec 64
  count : BitVec 64
  can : BitVec 64
  live : BitVec 64
  grp : Int
  ctrl : BitVec 64
  left : BitVec 8
  free : Int
  fctrl : BitVec 64
  slot : Int
  val : BitVec 64
  found : Bool
def penC (p : PenT) : Array Value := #[I p.ph, I p.sl, I p.op, U p.key, U p.a, U p.b, U p.hash, U p.count, U p.can, U p.live, I p.grp, U p.ctrl, Y p.left, I p.free, U p.fctrl, I p.slot, U p.val, .bool p.found]
def zeroPen : PenT := ⟨0, 0, 0, 0#64, 0#64, 0#64, 0#64, 0#64, 0#64, 0#64, 0, 0#64, 0#8, 0, 0#64, 0, 0#64, false⟩
theorem penC_size (p : PenT) : (penC p).size = 18 := rfl
theorem penC_one (p : PenT) : allOne (penC p) = true := by unfold allOne penC; simp [Value.oneCell']
theorem penC_all (p : PenT) : (penC p).extract 0 18 = penC p := by have := Array.extract_size (xs := penC p); rwa [penC_size] at this
/-- An odd word. -/
def oddB (x : BitVec 64) : Bool := (x &&& 1#64) == 1#64
/-- What it wants: 0 nothing, 1 to put, 2 to set, 3 to drop. -/
def wantsP (p : PenT) : Nat :=
  if p.found then (if p.op == 2 || p.op == 4 && p.val == p.a then 2 else if p.op == 3 then 3 else 0)
  else if p.op == 2 || p.op == 5 then 1 else 0
theorem wantsP_le (p : PenT) : wantsP p ≤ 3 := by unfold wantsP; repeat' split
                                                  all_goals omega
/-- Does one go through a phase of a section, by what it wants? -/
def throughP (w : Nat) (ph : Int) : Bool :=
  if ph == 4 || ph == 5 || ph == 9 || ph == 10 || ph == 11 || ph == 12 then w == 1 || w == 3
  else if ph == 6 || ph == 13 then decide (0 < w)
  else if ph == 7 then w == 1
  else w == 1 || w == 2
/-- May it be? -/
def rightP (p : PenT) : Bool :=
  (decide (0 ≤ p.ph) && decide (p.ph ≤ 16)) && (decide (0 ≤ p.sl) && decide (p.sl < 128)) && (decide (2 ≤ p.op) && decide (p.op ≤ 5)) && !oddB p.count &&
  (p.grp == 0 || p.grp == 1) && (decide (0 ≤ p.slot) && decide (p.slot ≤ 15)) && (decide (0 ≤ p.free) && decide (p.free ≤ 16)) && !(p.ph == 2 && p.left == 0#8) &&
  (decide (p.ph < 4) || decide (13 < p.ph) || throughP (wantsP p) p.ph && (wantsP p != 1 || decide (0 < p.free)))
/-- The group it is at. -/
def groupP (p : PenT) : Nat := (g0 (hash1 p.hash) + p.grp.toNat) % 2
/-- The slot in which it stores. -/
def slotP (p : PenT) : Int := if wantsP p == 1 then p.free - 1 else p.slot
/-- The least lane that is left. -/
def laneP (m : BitVec 8) : Nat := ((lanesOf m).head?).getD 0
/-- Once it is decided what it wants. -/
def decidedP (p : PenT) : PenT :=
  { p with ph := if wantsP p = 0 then 14 else if wantsP p = 2 then 6 else if wantsP p = 1 ∧ p.free = 0 then 16 else 4 }
/-- Behind a control word, or a key. -/
def onP (p : PenT) : PenT :=
  if p.left != 0#8 then { p with ph := 2 }
  else if emptyM p.ctrl != 0#8 || p.grp == 1 then decidedP p
  else { p with grp := 1, ph := 1 }
/-- The phase behind a store. -/
def nextP (w : Nat) (ph : Int) : Int :=
  (((List.range 14).map fun n : Nat => (n : Int)).find? fun n => decide (ph < n) && throughP w n).getD 14
/-- A control word is looked at. -/
def seenP (p : PenT) (w : BitVec 64) : PenT := { p with ctrl := w, left := equalM w (hash2 p.hash) }
/-- The first free lane of a control word, if there is one. -/
def freeP (p : PenT) (w : BitVec 64) : Option Nat → PenT
  | none => p
  | some x => if p.free = 0 then { p with free := ((8 * groupP p + x + 1 : Nat) : Int), fctrl := w } else p
/-- Behind a control word. -/
def lookedP (p : PenT) (w : BitVec 64) : PenT := onP (freeP (seenP p w) w (lanesOf (freeM w)).head?)
/-- Was the free slot empty? -/
def wasP (p : PenT) : Bool := (emptyM p.fctrl).getLsbD ((p.free - 1).toNat % 8)
/-- Behind its access, that told a word. -/
def takeP (p : PenT) (w : BitVec 64) : PenT :=
  if p.ph = 0 then (if oddB w then { p with ph := 15 } else { p with count := w, grp := 0, ph := 1 })
  else if p.ph = 1 then lookedP p w
  else if p.ph = 2 then (if w == p.key then { p with slot := ((8 * groupP p + laneP p.left : Nat) : Int), ph := 3 } else onP { p with left := p.left &&& ~~~(1#8 <<< laneP p.left) })
  else if p.ph = 3 then decidedP { p with val := w, found := true }
  else if p.ph = 4 then { p with can := w, ph := if wantsP p == 1 && wasP p && w == 0#64 then 16 else 5 }
  else if p.ph = 5 then { p with live := w, ph := 6 }
  else { p with ph := nextP (wantsP p) p.ph }
/-- Which word of the slab it accesses. -/
def wordP (p : PenT) : Int :=
  if p.ph = 0 ∨ p.ph = 6 ∨ p.ph = 13 then 0
  else if p.ph = 1 then ((4 + groupP p : Nat) : Int)
  else if p.ph = 2 then ((6 + 8 * groupP p + laneP p.left : Nat) : Int)
  else if p.ph = 3 then 22 + p.slot
  else if p.ph = 4 ∨ p.ph = 10 then 2
  else if p.ph = 5 ∨ p.ph = 11 then 3
  else if p.ph = 7 then 6 + slotP p
  else if p.ph = 8 then 22 + slotP p
  else 4 + slotP p / 8
/-- The control word that it stores. -/
def markP (p : PenT) : BitVec 64 :=
  if wantsP p == 1 then withB p.fctrl ((slotP p).toNat % 8) (hash2 p.hash)
  else withB p.ctrl ((slotP p).toNat % 8) (if emptyM p.ctrl != 0#8 then 128#8 else 254#8)
/-- How many keys there are more. -/
def byP (n : Nat) : BitVec 64 := if n == 1 then 1#64 else 0#64 - 1#64
theorem byP_drop (n : Nat) (h : n ≠ 1) : byP n = 0#64 - 1#64 := by unfold byP; rw [if_neg (by simpa using h)]
theorem U_minus : U (0#64 - 1#64) = .int .u64 18446744073709551615 := by
  have h : N (0#64 - 1#64) = 18446744073709551615 := by unfold N; decide +kernel
  rw [show U (0#64 - 1#64) = Value.int .u64 (N (0#64 - 1#64)) from rfl, h]
theorem add_minus (x : BitVec 64) : x + (0#64 - 1#64) = x - 1#64 := by rw [BitVec.sub_eq_add_neg x, BitVec.zero_sub]
/-- What it stores. -/
def whatP (p : PenT) : BitVec 64 :=
  if p.ph = 6 then p.count + 1#64
  else if p.ph = 13 then p.count + 2#64
  else if p.ph = 7 then p.key
  else if p.ph = 8 then (if p.op = 4 then p.b else p.a)
  else if p.ph = 9 then markP p
  else if p.ph = 10 then (if wantsP p == 1 && wasP p then p.can - 1#64 else if wantsP p == 3 && emptyM p.ctrl != 0#8 then p.can + 1#64 else p.can)
  else p.live + byP (wantsP p)
/-- An access: its kind (1 load, 2 store, 4 add), its cell, its word. -/
structure AccT where
  kind : Int
  at_ : Int
  new : BitVec 64
/-- Its access; none: it has none, or may not be. -/
def needP (p : PenT) : Option AccT :=
  if rightP p && decide (p.ph ≤ 13) then
    some (if p.ph = 12 then ⟨4, 1, byP (wantsP p)⟩
      else ⟨if 5 < p.ph then 2 else 1, 16 + 40 * p.sl + wordP p, if 5 < p.ph then whatP p else 0#64⟩)
  else none
/-- Cells behind an access, and what it told. -/
def doP (c : List (BitVec 64)) (x : AccT) : Option (List (BitVec 64) × BitVec 64) :=
  match c[x.at_.toNat]? with
  | none => none
  | some w => some (if x.kind = 1 then c else if x.kind = 2 then c.set x.at_.toNat x.new else c.set x.at_.toNat (w + x.new), w)
/-- Its step, in cells. -/
def stepP (c : List (BitVec 64)) (p : PenT) : Option (List (BitVec 64) × PenT) :=
  match needP p with
  | none => some (c, p)
  | some x => (doP c x).map fun y => (y.1, takeP p y.2)
end Go.Proofs.Hc
/- The reference of layer 19: Wants, through. -/
namespace Go.Proofs.Hc
open Go.RowKit
attribute [local go_sem] wrap_u64 wrap_u8 bits_xor64 bits_and64 bits_or64 bits_not64 bits_xor8 bits_and8 bits_or8 signed64 signed8 ofInt_N BitVec.ofInt_add BitVec.ofInt_mul ofInt_sub' ofInt8_N64 ofInt64_N8 wide8 eqN neN shr_pow shr1 shr7 shr56
attribute [local go_sem high] bits_com64 shl_wrap
attribute [local go_sem] cell_heap ice_heap cellAt_cells iceAt_cells setAt_cells rowAt_cells canLay_cells laidAt_cells size_onObj size_setCell rowRes_some layRes_true
attribute [local go_sem] load26 load73 load23 store26 build73
attribute [local go_sem ↓] lrow26 lrow73 lrow23 srow26 zero26 brow73 heap_alloc heap_drew heap_drewN heap_setCell heap_onObj
attribute [local go_sem] tcells_size hcells_size tcells_get hcells_get tcells_one hcells_one hcells_table tcells_table hcells_all hcells_ctrl tcells_ctrl
attribute [local go_sem] nn2 nm2 nn3 nm3 nn4 nm4 nn5 nm5 nn6 nm6 nn7 nm7 nn8 nm8
attribute [local go_sem] nn2 nm2 nn3 nm3 nn4 nm4 nn5 nm5 nn6 nm6 nn7 nm7 nn8 nm8
attribute [local go_sem] ofInt_N
theorem pen_g0 (p : PenT) : (penC p)[0]? = some (I p.ph) := rfl
theorem pen_g1 (p : PenT) : (penC p)[1]? = some (I p.sl) := rfl
theorem pen_g2 (p : PenT) : (penC p)[2]? = some (I p.op) := rfl
theorem pen_g3 (p : PenT) : (penC p)[3]? = some (U p.key) := rfl
theorem pen_g4 (p : PenT) : (penC p)[4]? = some (U p.a) := rfl
theorem pen_g5 (p : PenT) : (penC p)[5]? = some (U p.b) := rfl
theorem pen_g6 (p : PenT) : (penC p)[6]? = some (U p.hash) := rfl
theorem pen_g7 (p : PenT) : (penC p)[7]? = some (U p.count) := rfl
theorem pen_g8 (p : PenT) : (penC p)[8]? = some (U p.can) := rfl
theorem pen_g9 (p : PenT) : (penC p)[9]? = some (U p.live) := rfl
theorem pen_g10 (p : PenT) : (penC p)[10]? = some (I p.grp) := rfl
theorem pen_g11 (p : PenT) : (penC p)[11]? = some (U p.ctrl) := rfl
theorem pen_g12 (p : PenT) : (penC p)[12]? = some (Y p.left) := rfl
theorem pen_g13 (p : PenT) : (penC p)[13]? = some (I p.free) := rfl
theorem pen_g14 (p : PenT) : (penC p)[14]? = some (U p.fctrl) := rfl
theorem pen_g15 (p : PenT) : (penC p)[15]? = some (I p.slot) := rfl
theorem pen_g16 (p : PenT) : (penC p)[16]? = some (U p.val) := rfl
theorem pen_g17 (p : PenT) : (penC p)[17]? = some (.bool p.found) := rfl
theorem pen_s0 (p : PenT) (x : Int) : (penC p).setIfInBounds 0 (I x) = penC { p with ph := x } := rfl
theorem pen_s1 (p : PenT) (x : Int) : (penC p).setIfInBounds 1 (I x) = penC { p with sl := x } := rfl
theorem pen_s2 (p : PenT) (x : Int) : (penC p).setIfInBounds 2 (I x) = penC { p with op := x } := rfl
theorem pen_s3 (p : PenT) (x : BitVec 64) : (penC p).setIfInBounds 3 (U x) = penC { p with key := x } := rfl
theorem pen_s4 (p : PenT) (x : BitVec 64) : (penC p).setIfInBounds 4 (U x) = penC { p with a := x } := rfl
theorem pen_s5 (p : PenT) (x : BitVec 64) : (penC p).setIfInBounds 5 (U x) = penC { p with b := x } := rfl
theorem pen_s6 (p : PenT) (x : BitVec 64) : (penC p).setIfInBounds 6 (U x) = penC { p with hash := x } := rfl
theorem pen_s7 (p : PenT) (x : BitVec 64) : (penC p).setIfInBounds 7 (U x) = penC { p with count := x } := rfl
theorem pen_s8 (p : PenT) (x : BitVec 64) : (penC p).setIfInBounds 8 (U x) = penC { p with can := x } := rfl
theorem pen_s9 (p : PenT) (x : BitVec 64) : (penC p).setIfInBounds 9 (U x) = penC { p with live := x } := rfl
theorem pen_s10 (p : PenT) (x : Int) : (penC p).setIfInBounds 10 (I x) = penC { p with grp := x } := rfl
theorem pen_s11 (p : PenT) (x : BitVec 64) : (penC p).setIfInBounds 11 (U x) = penC { p with ctrl := x } := rfl
theorem pen_s12 (p : PenT) (x : BitVec 8) : (penC p).setIfInBounds 12 (Y x) = penC { p with left := x } := rfl
theorem pen_s13 (p : PenT) (x : Int) : (penC p).setIfInBounds 13 (I x) = penC { p with free := x } := rfl
theorem pen_s14 (p : PenT) (x : BitVec 64) : (penC p).setIfInBounds 14 (U x) = penC { p with fctrl := x } := rfl
theorem pen_s15 (p : PenT) (x : Int) : (penC p).setIfInBounds 15 (I x) = penC { p with slot := x } := rfl
theorem pen_s16 (p : PenT) (x : BitVec 64) : (penC p).setIfInBounds 16 (U x) = penC { p with val := x } := rfl
theorem pen_s17 (p : PenT) (x : Bool) : (penC p).setIfInBounds 17 (.bool x) = penC { p with found := x } := rfl
theorem boxPen (p : PenT) (w : World) : (Instr.box 71 (.agg (penC p))).run Tryz.prog w = .ok (.pointer (some ⟨w.heap.size, 0, none⟩)) (w.alloc (.cells (penC p) 71)) := rfl
theorem loadPen (g o : Nat) (w : World) : (loadRow 71 ⟨g, o, none⟩).run Tryz.prog w = rowRes Tryz.prog 71 g o w ((w.heap[g]?).bind (rowAt o 18)) :=
  run_row Tryz.underlying71 rfl (by kernel_rfl) g o w
theorem storePen (g o : Nat) (vs : Array Value) (w : World) : (storeRow 71 ⟨g, o, none⟩ (.agg vs)).run Tryz.prog w = layRes Tryz.prog 71 g o vs w (((w.heap[g]?).map (canLay o 18 vs)).getD false) :=
  run_lay (by kernel_rfl) g o vs w
theorem lrowPen (a : Addr) : loadVar 71 a = loadRow 71 a := rfl
theorem srowPen (a : Addr) (v : Value) : storeVar 71 a v = storeRow 71 a v := rfl
attribute [local go_sem] pen_g0 pen_g1 pen_g2 pen_g3 pen_g4 pen_g5 pen_g6 pen_g7 pen_g8 pen_g9 pen_g10 pen_g11 pen_g12 pen_g13 pen_g14 pen_g15 pen_g16 pen_g17 penC_size penC_one penC_all boxPen loadPen storePen
attribute [local go_sem ↓] lrowPen srowPen
attribute [local irreducible] penC
theorem rCell_any (n k : Int) (h0 : 0 ≤ n) (h1 : n < 128) (h2 : 0 ≤ k) (h3 : k ≤ 40) (w : World) : Calls Tryz.prog 49 #[I n, I k] w fun e w' => e = .returned (I (16 + 40 * n + k)) ∧ w = w' := by
  go_enter Tryz.func49, Tryz.ntmps49
  go_wp2
  go_ret
  exact ⟨rfl, rfl⟩
end Go.Proofs.Hc
/- The references of layer 19: decided, on, next. -/
namespace Go.Proofs.Hc
open Go.RowKit
attribute [local go_sem] wrap_u64 wrap_u8 bits_xor64 bits_and64 bits_or64 bits_not64 bits_xor8 bits_and8 bits_or8 signed64 signed8 ofInt_N BitVec.ofInt_add BitVec.ofInt_mul ofInt_sub' ofInt8_N64 ofInt64_N8 wide8 eqN neN shr_pow shr1 shr7 shr56
attribute [local go_sem high] bits_com64 shl_wrap
attribute [local go_sem] cell_heap ice_heap cellAt_cells iceAt_cells setAt_cells rowAt_cells canLay_cells laidAt_cells size_onObj size_setCell rowRes_some layRes_true
attribute [local go_sem] load26 load73 load23 store26 build73
attribute [local go_sem ↓] lrow26 lrow73 lrow23 srow26 zero26 brow73 heap_alloc heap_drew heap_drewN heap_setCell heap_onObj
attribute [local go_sem] tcells_size hcells_size tcells_get hcells_get tcells_one hcells_one hcells_table tcells_table hcells_all hcells_ctrl tcells_ctrl
attribute [local go_sem] nn2 nm2 nn3 nm3 nn4 nm4 nn5 nm5 nn6 nm6 nn7 nm7 nn8 nm8
attribute [local go_sem] nn2 nm2 nn3 nm3 nn4 nm4 nn5 nm5 nn6 nm6 nn7 nm7 nn8 nm8
attribute [local go_sem] ofInt_N
theorem zeroPen_run (w : World) : (zeroValue 71).run Tryz.prog w = .ok (.agg (penC zeroPen)) w := by kernel_rfl
theorem laidAt_pen (p q : PenT) (T : TypeId) (fr : Nat × Nat) : laidAt 0 (penC q) (.cells (penC p) T fr) = .cells (penC q) T fr := by
  rw [laidAt_cells, laid_whole _ _ (by rw [penC_size, penC_size])]
attribute [local go_sem] pen_g0 pen_g1 pen_g2 pen_g3 pen_g4 pen_g5 pen_g6 pen_g7 pen_g8 pen_g9 pen_g10 pen_g11 pen_g12 pen_g13 pen_g14 pen_g15 pen_g16 pen_g17 penC_size penC_one penC_all boxPen loadPen storePen
attribute [local go_sem ↓] lrowPen srowPen
attribute [local go_sem] pen_s0 pen_s1 pen_s2 pen_s3 pen_s4 pen_s5 pen_s6 pen_s7 pen_s8 pen_s9 pen_s10 pen_s11 pen_s12 pen_s13 pen_s14 pen_s15 pen_s16 pen_s17
attribute [local go_sem ↓] zeroPen_run
attribute [local go_sem high] laidAt_pen
attribute [local irreducible] penC
end Go.Proofs.Hc
/- The reference of layer 19: Take, a control word. -/
namespace Go.Proofs.Hc
open Go.RowKit
attribute [local go_sem] wrap_u64 wrap_u8 bits_xor64 bits_and64 bits_or64 bits_not64 bits_xor8 bits_and8 bits_or8 signed64 signed8 ofInt_N BitVec.ofInt_add BitVec.ofInt_mul ofInt_sub' ofInt8_N64 ofInt64_N8 wide8 eqN neN shr_pow shr1 shr7 shr56
attribute [local go_sem high] bits_com64 shl_wrap
attribute [local go_sem] cell_heap ice_heap cellAt_cells iceAt_cells setAt_cells rowAt_cells canLay_cells laidAt_cells size_onObj size_setCell rowRes_some layRes_true
attribute [local go_sem] load26 load73 load23 store26 build73
attribute [local go_sem ↓] lrow26 lrow73 lrow23 srow26 zero26 brow73 heap_alloc heap_drew heap_drewN heap_setCell heap_onObj
attribute [local go_sem] tcells_size hcells_size tcells_get hcells_get tcells_one hcells_one hcells_table tcells_table hcells_all hcells_ctrl tcells_ctrl
attribute [local go_sem] nn2 nm2 nn3 nm3 nn4 nm4 nn5 nm5 nn6 nm6 nn7 nm7 nn8 nm8
attribute [local go_sem] nn2 nm2 nn3 nm3 nn4 nm4 nn5 nm5 nn6 nm6 nn7 nm7 nn8 nm8
attribute [local go_sem] ofInt_N
attribute [local go_sem] pen_g0 pen_g1 pen_g2 pen_g3 pen_g4 pen_g5 pen_g6 pen_g7 pen_g8 pen_g9 pen_g10 pen_g11 pen_g12 pen_g13 pen_g14 pen_g15 pen_g16 pen_g17 penC_size penC_one penC_all boxPen loadPen storePen
attribute [local go_sem ↓] lrowPen srowPen
attribute [local go_sem] pen_s0 pen_s1 pen_s2 pen_s3 pen_s4 pen_s5 pen_s6 pen_s7 pen_s8 pen_s9 pen_s10 pen_s11 pen_s12 pen_s13 pen_s14 pen_s15 pen_s16 pen_s17
attribute [local go_sem ↓] zeroPen_run
attribute [local go_sem high] laidAt_pen
attribute [local irreducible] penC
theorem freeP_kept (p : PenT) (w : BitVec 64) (o : Option Nat) (h : p.free ≠ 0) : freeP p w o = p := by
  cases o with
  | none => rfl
  | some x => exact if_neg h
theorem freeP_put (p : PenT) (w : BitVec 64) (x : Nat) (h : p.free = 0) : freeP p w (some x) = { p with free := ((8 * groupP p + x + 1 : Nat) : Int), fctrl := w } := if_pos h
end Go.Proofs.Hc
