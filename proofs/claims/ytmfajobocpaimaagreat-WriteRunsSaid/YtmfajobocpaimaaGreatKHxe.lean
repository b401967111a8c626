/- Package ctrl: a lane that is put, filled, erased; the sets of a word. -/
import Derived.Test.YtmfajobocpaimaaGreatKHlan
import Derived.Test.YtmfajobocpaimaaGreatKHni
import Derived.Test.YtmfajobocpaimaaGreatKHpa
import Derived.Test.YtmfajobocpaimaaGreatKHq
import Derived.Test.YtmfajobocpaimaaGreatKHr
import Derived.Test.YtmfajobocpaimaaGreatKHta
import Derived.Test.YtmfajobocpaimaaGreatKHop2
import Derived.Below
import Derived.BigQuiet
import Derived.Deep.Draws
import Derived.Deep.QuietTactic
import Derived.Laws.CopyRow
import Derived.Laws.Tables
import Derived.Lib.Hide
import Derived.RangeFuncRecord
import Derived.Recover
import Derived.Test.YtmfajobocpaimaaGreatProg
import Derived.WalkKit
import Derived.WalkLawsBesides
import Derived.WalkMore
import Derived.WalkSpells
import Derived.Deep.Light
import Derived.Deep.RegionHeld
import Derived.Lib.AppendZerosOnto
import Derived.Lib.Tables
import Derived.Lib.Walk
import Derived.LoopIn
import Derived.LoopN
import Derived.LoopNIn
import Derived.Maps.AppendAt
import Derived.Maps.Views
import Derived.OwnWalkIn
import Derived.RangeFuncBox
import Derived.RangeFuncCalls
import Derived.RangeFuncSeq
import Derived.RegionTactic
import Derived.Shelf.Slices.Clone
import Derived.StillTail
import Derived.StillTailTactics
import Derived.TacticsInMore
import Derived.Laws.StructEq
set_option linter.unusedSimpArgs false
set_option linter.unusedVariables false
namespace Go.Proofs.Hc
open Go.RowKit
attribute [local go_sem] wrap_u64 wrap_u8 bits_xor64 bits_and64 bits_or64 bits_not64 bits_xor8 bits_and8 bits_or8 signed64 signed8 ofInt_N BitVec.ofInt_add BitVec.ofInt_mul ofInt_sub' ofInt8_N64 ofInt64_N8 wide8 eqN neN shr_pow shr1 shr7 shr56
attribute [local go_sem high] bits_com64 shl_wrap
attribute [local go_sem] nn2 nm2 nn3 nm3 nn4 nm4 nn5 nm5 nn6 nm6 nn7 nm7 nn8 nm8
attribute [local go_sem] make_func1
attribute [local go_sem] cell_heap ice_heap cellAt_cells iceAt_cells setAt_cells size_setCell
attribute [local go_sem ↓] heap_alloc heap_drew heap_drewN heap_setCell
theorem is_yes (n : Nat) (h : n < 8) (w : World) : Calls Tryz.prog 212 #[I n] w fun e w' => e = .returned (.bool true) ∧ w = w' := by
  go_enter Tryz.func212, Tryz.ntmps212
  go_wp2
  go_ret
  exact ⟨by simp; omega, rfl⟩
theorem lay_yes (b : Nat) (c : BitVec 64) (n : Nat) (x : BitVec 8) (h : n < 8) (w : World) (hb : w.heap[b]? = some (.cells #[U c] 274 (0, 0))) :
    Calls Tryz.prog 258 #[.pointer (some ⟨b, 0, none⟩), I n, Y x] w fun e w' => e = .returned (.bool true) ∧ Ch [b] w w' ∧ w'.heap[b]? = some (.cells #[U (withB c n x)] 274 (0, 0)) := by
  go_enter Tryz.func258, Tryz.ntmps258
  go_wp2_with (first
    | (go_at_call 212; refine (is_yes _ h _).mono ?_; rintro e w' ⟨rfl, rfl⟩)
    | (go_at_call 261; refine (with_any _ _ _ _ h).mono ?_; rintro e w1 ⟨rfl, hc1⟩; have hb1 := (hc1.block b (Array.getElem?_eq_some_iff.1 hb).1 (by simp)).trans hb))
  go_ret
  refine ⟨rfl, (hc1.of_nil).setCell (p := ⟨b, 0, none⟩) (.inl (by simp)) _, ?_⟩
  rw [heap_setCell, if_pos rfl, hb1]; rfl
theorem put1_yes (c : BitVec 64) (x : BitVec 8) (n : Nat) (h : n < 8) (g : Nat) (w : World) (hg : w.heap[g]? = some (.cells #[I n] 3 (0, 0))) :
    Calls Tryz.prog 247 #[U c, Y x, .slice (some ⟨g, 0, none⟩) 1 1] w fun e w' => e = .returned (.tuple #[U (withB c n x), I 0]) ∧ Ch [] w w' := by
  have hgn : (g = w.heap.size) = False := by have := (Array.getElem?_eq_some_iff.1 hg).1; simp; omega
  go_enter Tryz.func247, Tryz.ntmps247
  go_wp2
  go_step3
  go_wp2
  go_step3
  go_wp2_with fail
  refine wp_loop_rounds 2 ?_
  rw [rounds_succ]
  go_wp2_with fail
  refine (lay_yes w.heap.size c n x h _ (by simp [go_sem])).mono ?_
  rintro e w1 ⟨rfl, hc1, hb1⟩
  go_wp2_with fail
  rw [rounds_succ]
  go_wp2_with fail
  rw [Exit.noGoto_ret]
  go_ret2
  exact ⟨rfl, ((Ch.refl [] w).alloc _).trans2 hc1 (by simp)⟩
/-- A lane as a mask. -/
def laneM (n : Nat) : BitVec 8 := 1#8 <<< n
theorem ofInt_pow8 (n : Nat) : BitVec.ofInt 8 (2 ^ n) = laneM n := by
  have h2 : ((2 : Int) ^ n) = ((2 ^ n : Nat) : Int) := by simp
  unfold laneM
  rw [h2, BitVec.ofInt_natCast]
  apply BitVec.eq_of_toNat_eq; simp [Nat.shiftLeft_eq]
attribute [local go_sem] ofInt_pow8
/-- What a slot that is erased holds then. -/
def gone (c : BitVec 64) : BitVec 8 := if emptyM c = 0#8 then 254#8 else 128#8
end Go.Proofs.Hc
/- Package table: where a key is put. -/
namespace Go.Proofs.Hc
open Go.RowKit
attribute [local go_sem] wrap_u64 wrap_u8 bits_xor64 bits_and64 bits_or64 bits_not64 bits_xor8 bits_and8 bits_or8 signed64 signed8 ofInt_N BitVec.ofInt_add BitVec.ofInt_mul ofInt_sub' ofInt8_N64 ofInt64_N8 wide8 eqN neN shr_pow shr1 shr7 shr56
attribute [local go_sem high] bits_com64 shl_wrap
attribute [local go_sem] cell_heap ice_heap cellAt_cells iceAt_cells setAt_cells rowAt_cells canLay_cells laidAt_cells size_onObj size_setCell rowRes_some layRes_true
attribute [local go_sem] load26 load73 load23 store26 build73
attribute [local go_sem ↓] lrow26 lrow73 lrow23 srow26 zero26 brow73 heap_alloc heap_drew heap_drewN heap_setCell heap_onObj
attribute [local go_sem] tcells_size hcells_size tcells_get hcells_get tcells_one hcells_one hcells_table tcells_table hcells_all hcells_ctrl tcells_ctrl
attribute [local go_sem] nn2 nm2 nn3 nm3 nn4 nm4 nn5 nm5 nn6 nm6 nn7 nm7 nn8 nm8
attribute [local go_sem] nn2 nm2 nn3 nm3 nn4 nm4 nn5 nm5 nn6 nm6 nn7 nm7 nn8 nm8
attribute [local go_sem] Oper.semAt_some make_func1 ofInt_pow8
attribute [local go_sem] box26 tcells_idx cell0 cell1 cell2 cell3 cell4 hcells_idx hcells_pop
attribute [local go_sem] cell5 cell6
/-- The lanes of a group that may be filled. -/
def freeM (c : BitVec 64) : BitVec 8 := emptyM c ||| delM c
theorem first_cases (m : BitVec 8) : ((lanesOf m).head? = none ∧ firstV m = .tuple #[I 0, .bool false]) ∨ ∃ x : Nat, x < 8 ∧ (lanesOf m).head? = some x ∧ firstV m = .tuple #[I x, .bool true] := by
  unfold firstV
  have hl : ∀ x ∈ lanesOf m, x < 8 := fun x hx => by
    unfold lanesOf at hx
    simpa using (List.mem_filter.1 hx).1
  generalize lanesOf m = l at *
  cases l with
  | nil => exact .inl ⟨rfl, rfl⟩
  | cons x l => exact .inr ⟨x, hl x (by simp), rfl, rfl⟩
end Go.Proofs.Hc
/- Package table: a key that is put. -/
namespace Go.Proofs.Hc
open Go.RowKit
attribute [local go_sem] wrap_u64 wrap_u8 bits_xor64 bits_and64 bits_or64 bits_not64 bits_xor8 bits_and8 bits_or8 signed64 signed8 ofInt_N BitVec.ofInt_add BitVec.ofInt_mul ofInt_sub' ofInt8_N64 ofInt64_N8 wide8 eqN neN shr_pow shr1 shr7 shr56
attribute [local go_sem high] bits_com64 shl_wrap
attribute [local go_sem] cell_heap ice_heap cellAt_cells iceAt_cells setAt_cells rowAt_cells canLay_cells laidAt_cells size_onObj size_setCell rowRes_some layRes_true
attribute [local go_sem] load26 load73 load23 store26 build73
attribute [local go_sem ↓] lrow26 lrow73 lrow23 srow26 zero26 brow73 heap_alloc heap_drew heap_drewN heap_setCell heap_onObj
attribute [local go_sem] tcells_size hcells_size tcells_get hcells_get tcells_one hcells_one hcells_table tcells_table hcells_all hcells_ctrl tcells_ctrl
attribute [local go_sem] nn2 nm2 nn3 nm3 nn4 nm4 nn5 nm5 nn6 nm6 nn7 nm7 nn8 nm8
attribute [local go_sem] nn2 nm2 nn3 nm3 nn4 nm4 nn5 nm5 nn6 nm6 nn7 nm7 nn8 nm8
attribute [local go_sem] Oper.semAt_some make_func1 ofInt_pow8
attribute [local go_sem] box26 tcells_idx cell0 cell1 cell2 cell3 cell4 hcells_idx hcells_pop
attribute [local go_sem] cell5 cell6
theorem mem_lanes (m : BitVec 8) (x : Nat) : x ∈ lanesOf m ↔ x < 8 ∧ m.getLsbD x = true := by
  unfold lanesOf; simp
theorem head_mem {m : BitVec 8} {x : Nat} (h : (lanesOf m).head? = some x) : x < 8 ∧ m.getLsbD x = true := by
  rw [← mem_lanes]
  generalize lanesOf m = l at *
  cases l with
  | nil => cases h
  | cons y l => simp at h; subst h; simp
theorem free_byte (c : BitVec 64) (x : Nat) (hx : x < 8) : (freeM c).getLsbD x = (byteAt c x == 128#8 || byteAt c x == 254#8) := by
  rw [freeM, BitVec.getLsbD_or, emptyM_bit c x hx, delM_bit c x hx]
end Go.Proofs.Hc
/- Layer 19, who writes: the model. Plain law, no program in sight. -/
namespace Go.Proofs.Hc
open Go.RowKit
/-- Who writes (api.Pen). -/
structure PenT where
  ph : Int
  sl : Int
  op : Int
  key : BitVec 64
  a : BitVec 64
  b : BitVec 64
  hash : BitVec 64
  count : BitVec 64
  can : BitVec 64
  live : BitVec 64
  grp : Int
  ctrl : BitVec 64
  left : BitVec 8
  free : Int
  fctrl : BitVec 64
  slot : Int
  val : BitVec 64
  found : Bool
def penC (p : PenT) : Array Value := #[I p.ph, I p.sl, I p.op, U p.key, U p.a, U p.b, U p.hash, U p.count, U p.can, U p.live, I p.grp, U p.ctrl, Y p.left, I p.free, U p.fctrl, I p.slot, U p.val, .bool p.found]
def zeroPen : PenT := ⟨0, 0, 0, 0#64, 0#64, 0#64, 0#64, 0#64, 0#64, 0#64, 0, 0#64, 0#8, 0, 0#64, 0, 0#64, false⟩
theorem penC_size (p : PenT) : (penC p).size = 18 := rfl
theorem penC_one (p : PenT) : allOne (penC p) = true := by unfold allOne penC; simp [Value.oneCell']
theorem penC_all (p : PenT) : (penC p).extract 0 18 = penC p := by have := Array.extract_size (xs := penC p); rwa [penC_size] at this
/-- An odd word. -/
def oddB (x : BitVec 64) : Bool := (x &&& 1#64) == 1#64
/-- What it wants: 0 nothing, 1 to put, 2 to set, 3 to drop. -/
def wantsP (p : PenT) : Nat :=
  if p.found then (if p.op == 2 || p.op == 4 && p.val == p.a then 2 else if p.op == 3 then 3 else 0)
  else if p.op == 2 || p.op == 5 then 1 else 0
theorem wantsP_le (p : PenT) : wantsP p ≤ 3 := by unfold wantsP; repeat' split
                                                  all_goals omega
/-- Does one go through a phase of a section, by what it wants? -/
def throughP (w : Nat) (ph : Int) : Bool :=
  if ph == 4 || ph == 5 || ph == 9 || ph == 10 || ph == 11 || ph == 12 then w == 1 || w == 3
  else if ph == 6 || ph == 13 then decide (0 < w)
  else if ph == 7 then w == 1
  else w == 1 || w == 2
/-- May it be? -/
def rightP (p : PenT) : Bool :=
  (decide (0 ≤ p.ph) && decide (p.ph ≤ 16)) && (decide (0 ≤ p.sl) && decide (p.sl < 128)) && (decide (2 ≤ p.op) && decide (p.op ≤ 5)) && !oddB p.count &&
  (p.grp == 0 || p.grp == 1) && (decide (0 ≤ p.slot) && decide (p.slot ≤ 15)) && (decide (0 ≤ p.free) && decide (p.free ≤ 16)) && !(p.ph == 2 && p.left == 0#8) &&
  (decide (p.ph < 4) || decide (13 < p.ph) || throughP (wantsP p) p.ph && (wantsP p != 1 || decide (0 < p.free)))
/-- The group it is at. -/
def groupP (p : PenT) : Nat := (g0 (hash1 p.hash) + p.grp.toNat) % 2
/-- The slot in which it stores. -/
def slotP (p : PenT) : Int := if wantsP p == 1 then p.free - 1 else p.slot
/-- The least lane that is left. -/
def laneP (m : BitVec 8) : Nat := ((lanesOf m).head?).getD 0
/-- Once it is decided what it wants. -/
def decidedP (p : PenT) : PenT :=
  { p with ph := if wantsP p = 0 then 14 else if wantsP p = 2 then 6 else if wantsP p = 1 ∧ p.free = 0 then 16 else 4 }
/-- Behind a control word, or a key. -/
def onP (p : PenT) : PenT :=
  if p.left != 0#8 then { p with ph := 2 }
  else if emptyM p.ctrl != 0#8 || p.grp == 1 then decidedP p
  else { p with grp := 1, ph := 1 }
/-- The phase behind a store. -/
def nextP (w : Nat) (ph : Int) : Int :=
  (((List.range 14).map fun n : Nat => (n : Int)).find? fun n => decide (ph < n) && throughP w n).getD 14
/-- A control word is looked at. -/
def seenP (p : PenT) (w : BitVec 64) : PenT := { p with ctrl := w, left := equalM w (hash2 p.hash) }
/-- The first free lane of a control word, if there is one. -/
def freeP (p : PenT) (w : BitVec 64) : Option Nat → PenT
  | none => p
  | some x => if p.free = 0 then { p with free := ((8 * groupP p + x + 1 : Nat) : Int), fctrl := w } else p
/-- Behind a control word. -/
def lookedP (p : PenT) (w : BitVec 64) : PenT := onP (freeP (seenP p w) w (lanesOf (freeM w)).head?)
/-- Was the free slot empty? -/
def wasP (p : PenT) : Bool := (emptyM p.fctrl).getLsbD ((p.free - 1).toNat % 8)
/-- Behind its access, that told a word. -/
def takeP (p : PenT) (w : BitVec 64) : PenT :=
  if p.ph = 0 then (if oddB w then { p with ph := 15 } else { p with count := w, grp := 0, ph := 1 })
  else if p.ph = 1 then lookedP p w
  else if p.ph = 2 then (if w == p.key then { p with slot := ((8 * groupP p + laneP p.left : Nat) : Int), ph := 3 } else onP { p with left := p.left &&& ~~~(1#8 <<< laneP p.left) })
  else if p.ph = 3 then decidedP { p with val := w, found := true }
  else if p.ph = 4 then { p with can := w, ph := if wantsP p == 1 && wasP p && w == 0#64 then 16 else 5 }
  else if p.ph = 5 then { p with live := w, ph := 6 }
  else { p with ph := nextP (wantsP p) p.ph }
/-- Which word of the slab it accesses. -/
def wordP (p : PenT) : Int :=
  if p.ph = 0 ∨ p.ph = 6 ∨ p.ph = 13 then 0
  else if p.ph = 1 then ((4 + groupP p : Nat) : Int)
  else if p.ph = 2 then ((6 + 8 * groupP p + laneP p.left : Nat) : Int)
  else if p.ph = 3 then 22 + p.slot
  else if p.ph = 4 ∨ p.ph = 10 then 2
  else if p.ph = 5 ∨ p.ph = 11 then 3
  else if p.ph = 7 then 6 + slotP p
  else if p.ph = 8 then 22 + slotP p
  else 4 + slotP p / 8
/-- The control word that it stores. -/
def markP (p : PenT) : BitVec 64 :=
  if wantsP p == 1 then withB p.fctrl ((slotP p).toNat % 8) (hash2 p.hash)
  else withB p.ctrl ((slotP p).toNat % 8) (if emptyM p.ctrl != 0#8 then 128#8 else 254#8)
/-- How many keys there are more. -/
def byP (n : Nat) : BitVec 64 := if n == 1 then 1#64 else 0#64 - 1#64
theorem byP_drop (n : Nat) (h : n ≠ 1) : byP n = 0#64 - 1#64 := by unfold byP; rw [if_neg (by simpa using h)]
theorem U_minus : U (0#64 - 1#64) = .int .u64 18446744073709551615 := by
  have h : N (0#64 - 1#64) = 18446744073709551615 := by unfold N; decide +kernel
  rw [show U (0#64 - 1#64) = Value.int .u64 (N (0#64 - 1#64)) from rfl, h]
theorem add_minus (x : BitVec 64) : x + (0#64 - 1#64) = x - 1#64 := by rw [BitVec.sub_eq_add_neg x, BitVec.zero_sub]
/-- What it stores. -/
def whatP (p : PenT) : BitVec 64 :=
  if p.ph = 6 then p.count + 1#64
  else if p.ph = 13 then p.count + 2#64
  else if p.ph = 7 then p.key
  else if p.ph = 8 then (if p.op = 4 then p.b else p.a)
  else if p.ph = 9 then markP p
  else if p.ph = 10 then (if wantsP p == 1 && wasP p then p.can - 1#64 else if wantsP p == 3 && emptyM p.ctrl != 0#8 then p.can + 1#64 else p.can)
  else p.live + byP (wantsP p)
/-- An access: its kind (1 load, 2 store, 4 add), its cell, its word. -/
structure AccT where
  kind : Int
  at_ : Int
  new : BitVec 64
/-- Its access; none: it has none, or may not be. -/
def needP (p : PenT) : Option AccT :=
  if rightP p && decide (p.ph ≤ 13) then
    some (if p.ph = 12 then ⟨4, 1, byP (wantsP p)⟩
      else ⟨if 5 < p.ph then 2 else 1, 16 + 40 * p.sl + wordP p, if 5 < p.ph then whatP p else 0#64⟩)
  else none
/-- Cells behind an access, and what it told. -/
def doP (c : List (BitVec 64)) (x : AccT) : Option (List (BitVec 64) × BitVec 64) :=
  match c[x.at_.toNat]? with
  | none => none
  | some w => some (if x.kind = 1 then c else if x.kind = 2 then c.set x.at_.toNat x.new else c.set x.at_.toNat (w + x.new), w)
/-- Its step, in cells. -/
def stepP (c : List (BitVec 64)) (p : PenT) : Option (List (BitVec 64) × PenT) :=
  match needP p with
  | none => some (c, p)
  | some x => (doP c x).map fun y => (y.1, takeP p y.2)
end Go.Proofs.Hc
/- The reference of layer 9. -/
namespace Go.Proofs.Hc
open Go.RowKit
attribute [local go_sem] wrap_u64 wrap_u8 bits_xor64 bits_and64 bits_or64 bits_not64 bits_xor8 bits_and8 bits_or8 signed64 signed8 ofInt_N BitVec.ofInt_add BitVec.ofInt_mul ofInt_sub' ofInt8_N64 ofInt64_N8 wide8 eqN neN shr_pow shr1 shr7 shr56
attribute [local go_sem high] bits_com64 shl_wrap
attribute [local go_sem] cell_heap ice_heap cellAt_cells iceAt_cells setAt_cells rowAt_cells canLay_cells laidAt_cells size_onObj size_setCell rowRes_some layRes_true
attribute [local go_sem] load26 load73 load23 store26 build73
attribute [local go_sem ↓] lrow26 lrow73 lrow23 srow26 zero26 brow73 heap_alloc heap_drew heap_drewN heap_setCell heap_onObj
attribute [local go_sem] tcells_size hcells_size tcells_get hcells_get tcells_one hcells_one hcells_table tcells_table hcells_all hcells_ctrl tcells_ctrl
attribute [local go_sem] nn2 nm2 nn3 nm3 nn4 nm4 nn5 nm5 nn6 nm6 nn7 nm7 nn8 nm8
attribute [local go_sem] nn2 nm2 nn3 nm3 nn4 nm4 nn5 nm5 nn6 nm6 nn7 nm7 nn8 nm8
attribute [local go_sem] ofInt_N
theorem Y128 (b : BitVec 8) : (N b == 128) = (b == 128#8) := by rw [← eqN]; rfl
/-- The lanes below j that a test takes. -/
def setM (p : Nat → Bool) : Nat → BitVec 8
  | 0 => 0#8
  | j + 1 => if p j then setM p j + laneM j else setM p j
end Go.Proofs.Hc
