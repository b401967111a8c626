/- Layer 19, who writes: the model. Plain law, no program in sight. -/
import Derived.Test.YtcikopeddljgkaaGreatKHd
import Derived.Test.YtcikopeddljgkaaGreatKHg
import Derived.Test.YtcikopeddljgkaaGreatKHh
import Derived.Test.YtcikopeddljgkaaGreatKHmet
import Derived.Test.YtcikopeddljgkaaGreatKHo
import Derived.Test.YtcikopeddljgkaaGreatKHr
import Derived.Test.YtcikopeddljgkaaGreatKHtd
import Derived.Test.YtcikopeddljgkaaGreatKHnac
import Derived.Below
import Derived.BigQuiet
import Derived.Deep.Draws
import Derived.Deep.Light
import Derived.Deep.QuietTactic
import Derived.Deep.RegionHeld
import Derived.Laws.CopyRow
import Derived.Laws.Tables
import Derived.Lib.AppendZerosOnto
import Derived.Lib.Hide
import Derived.Lib.Tables
import Derived.Lib.Walk
import Derived.LoopIn
import Derived.LoopN
import Derived.LoopNIn
import Derived.Maps.AppendAt
import Derived.Maps.Views
import Derived.OwnWalkIn
import Derived.RangeFuncBox
import Derived.RangeFuncCalls
import Derived.RangeFuncRecord
import Derived.RangeFuncSeq
import Derived.Recover
import Derived.RegionTactic
import Derived.Shelf.Slices.Clone
import Derived.StillTail
import Derived.StillTailTactics
import Derived.TacticsInMore
import Derived.Test.YtcikopeddljgkaaGreatProg
import Derived.WalkKit
import Derived.WalkLawsBesides
import Derived.WalkMore
import Derived.WalkSpells
import Derived.Laws.StructEq
import Derived.Deep.OwnRows
import Derived.IntWalk
import Derived.Laws.CopyOwn
import Derived.ScopeJumps
import Derived.ChangeKeysEq
set_option linter.unusedSimpArgs false
set_option linter.unusedVariables false
namespace Go.Proofs.Hc
open Go.RowKit
/-- Who writes (api.Pen). -/
structure PenT where
  ph : Int
  sl : Int
  op : Int
  key : BitVec 64
  a : BitVec 64
  b : BitVec 64
  hash : BitVec 64
  count : BitVec 64
  can : BitVec 64
  live : BitVec 64
  grp : Int
  ctrl : BitVec 64
  left : BitVec 8
  free : Int
  fctrl : BitVec 64
  slot : Int
  val : BitVec 64
  found : Bool
def penC (p : PenT) : Array Value := #[I p.ph, I p.sl, I p.op, U p.key, U p.a, U p.b, U p.hash, U p.count, U p.can, U p.live, I p.grp, U p.ctrl, Y p.left, I p.free, U p.fctrl, I p.slot, U p.val, .bool p.found]
def zeroPen : PenT := ⟨0, 0, 0, 0#64, 0#64, 0#64, 0#64, 0#64, 0#64, 0#64, 0, 0#64, 0#8, 0, 0#64, 0, 0#64, false⟩
theorem penC_size (p : PenT) : (penC p).size = 18 := rfl
theorem penC_one (p : PenT) : allOne (penC p) = true := by unfold allOne penC; simp [Value.oneCell']
theorem penC_all (p : PenT) : (penC p).extract 0 18 = penC p := by have := Array.extract_size (xs := penC p); rwa [penC_size] at this
/-- An odd word. -/
def oddB (x : BitVec 64) : Bool := (x &&& 1#64) == 1#64
/-- What it wants: 0 nothing, 1 to put, 2 to set, 3 to drop. -/
def wantsP (p : PenT) : Nat :=
  if p.found then (if p.op == 2 || p.op == 4 && p.val == p.a then 2 else if p.op == 3 then 3 else 0)
  else if p.op == 2 || p.op == 5 then 1 else 0
theorem wantsP_le (p : PenT) : wantsP p ≤ 3 := by unfold wantsP; repeat' split
                                                  all_goals omega
/-- Does one go through a phase of a section, by what it wants? -/
def throughP (w : Nat) (ph : Int) : Bool :=
  if ph == 4 || ph == 5 || ph == 9 || ph == 10 || ph == 11 || ph == 12 then w == 1 || w == 3
  else if ph == 6 || ph == 13 then decide (0 < w)
  else if ph == 7 then w == 1
  else w == 1 || w == 2
/-- May it be? -/
def rightP (p : PenT) : Bool :=
  (decide (0 ≤ p.ph) && decide (p.ph ≤ 16)) && (decide (0 ≤ p.sl) && decide (p.sl < 128)) && (decide (2 ≤ p.op) && decide (p.op ≤ 5)) && !oddB p.count &&
  (p.grp == 0 || p.grp == 1) && (decide (0 ≤ p.slot) && decide (p.slot ≤ 15)) && (decide (0 ≤ p.free) && decide (p.free ≤ 16)) && !(p.ph == 2 && p.left == 0#8) &&
  (decide (p.ph < 4) || decide (13 < p.ph) || throughP (wantsP p) p.ph && (wantsP p != 1 || decide (0 < p.free)))
/-- The group it is at. -/
def groupP (p : PenT) : Nat := (g0 (hash1 p.hash) + p.grp.toNat) % 2
/-- The slot in which it stores. -/
def slotP (p : PenT) : Int := if wantsP p == 1 then p.free - 1 else p.slot
/-- The least lane that is left. -/
def laneP (m : BitVec 8) : Nat := ((lanesOf m).head?).getD 0
/-- Once it is decided what it wants. -/
def decidedP (p : PenT) : PenT :=
  { p with ph := if wantsP p = 0 then 14 else if wantsP p = 2 then 6 else if wantsP p = 1 ∧ p.free = 0 then 16 else 4 }
/-- Behind a control word, or a key. -/
def onP (p : PenT) : PenT :=
  if p.left != 0#8 then { p with ph := 2 }
  else if emptyM p.ctrl != 0#8 || p.grp == 1 then decidedP p
  else { p with grp := 1, ph := 1 }
/-- The phase behind a store. -/
def nextP (w : Nat) (ph : Int) : Int :=
  (((List.range 14).map fun n : Nat => (n : Int)).find? fun n => decide (ph < n) && throughP w n).getD 14
/-- A control word is looked at. -/
def seenP (p : PenT) (w : BitVec 64) : PenT := { p with ctrl := w, left := equalM w (hash2 p.hash) }
/-- The first free lane of a control word, if there is one. -/
def freeP (p : PenT) (w : BitVec 64) : Option Nat → PenT
  | none => p
  | some x => if p.free = 0 then { p with free := ((8 * groupP p + x + 1 : Nat) : Int), fctrl := w } else p
/-- Behind a control word. -/
def lookedP (p : PenT) (w : BitVec 64) : PenT := onP (freeP (seenP p w) w (lanesOf (freeM w)).head?)
/-- Was the free slot empty? -/
def wasP (p : PenT) : Bool := (emptyM p.fctrl).getLsbD ((p.free - 1).toNat % 8)
/-- Behind its access, that told a word. -/
def takeP (p : PenT) (w : BitVec 64) : PenT :=
  if p.ph = 0 then (if oddB w then { p with ph := 15 } else { p with count := w, grp := 0, ph := 1 })
  else if p.ph = 1 then lookedP p w
  else if p.ph = 2 then (if w == p.key then { p with slot := ((8 * groupP p + laneP p.left : Nat) : Int), ph := 3 } else onP { p with left := p.left &&& ~~~(1#8 <<< laneP p.left) })
  else if p.ph = 3 then decidedP { p with val := w, found := true }
  else if p.ph = 4 then { p with can := w, ph := if wantsP p == 1 && wasP p && w == 0#64 then 16 else 5 }
  else if p.ph = 5 then { p with live := w, ph := 6 }
  else { p with ph := nextP (wantsP p) p.ph }
/-- Which word of the slab it accesses. -/
def wordP (p : PenT) : Int :=
  if p.ph = 0 ∨ p.ph = 6 ∨ p.ph = 13 then 0
  else if p.ph = 1 then ((4 + groupP p : Nat) : Int)
  else if p.ph = 2 then ((6 + 8 * groupP p + laneP p.left : Nat) : Int)
  else if p.ph = 3 then 22 + p.slot
  else if p.ph = 4 ∨ p.ph = 10 then 2
  else if p.ph = 5 ∨ p.ph = 11 then 3
  else if p.ph = 7 then 6 + slotP p
  else if p.ph = 8 then 22 + slotP p
  else 4 + slotP p / 8
/-- The control word that it stores. -/
def markP (p : PenT) : BitVec 64 :=
  if wantsP p == 1 then withB p.fctrl ((slotP p).toNat % 8) (hash2 p.hash)
  else withB p.ctrl ((slotP p).toNat % 8) (if emptyM p.ctrl != 0#8 then 128#8 else 254#8)
/-- How many keys there are more. -/
def byP (n : Nat) : BitVec 64 := if n == 1 then 1#64 else 0#64 - 1#64
/-- What it stores. -/
def whatP (p : PenT) : BitVec 64 :=
  if p.ph = 6 then p.count + 1#64
  else if p.ph = 13 then p.count + 2#64
  else if p.ph = 7 then p.key
  else if p.ph = 8 then (if p.op = 4 then p.b else p.a)
  else if p.ph = 9 then markP p
  else if p.ph = 10 then (if wantsP p == 1 && wasP p then p.can - 1#64 else if wantsP p == 3 && emptyM p.ctrl != 0#8 then p.can + 1#64 else p.can)
  else p.live + byP (wantsP p)
/-- An access: its kind (1 load, 2 store, 4 add), its cell, its word. -/
structure AccT where
  kind : Int
  at_ : Int
  new : BitVec 64
/-- Its access; none: it has none, or may not be. -/
def needP (p : PenT) : Option AccT :=
  if rightP p && decide (p.ph ≤ 13) then
    some (if p.ph = 12 then ⟨4, 1, byP (wantsP p)⟩
      else ⟨if 5 < p.ph then 2 else 1, 16 + 40 * p.sl + wordP p, if 5 < p.ph then whatP p else 0#64⟩)
  else none
/-- Cells behind an access, and what it told. -/
def doP (c : List (BitVec 64)) (x : AccT) : Option (List (BitVec 64) × BitVec 64) :=
  match c[x.at_.toNat]? with
  | none => none
  | some w => some (if x.kind = 1 then c else if x.kind = 2 then c.set x.at_.toNat x.new else c.set x.at_.toNat (w + x.new), w)
end Go.Proofs.Hc
/- The references of layers 8 (the groups' order). -/
namespace Go.Proofs.Hc
open Go.RowKit
attribute [local go_sem] wrap_u64 wrap_u8 bits_xor64 bits_and64 bits_or64 bits_not64 bits_xor8 bits_and8 bits_or8 signed64 signed8 ofInt_N BitVec.ofInt_add BitVec.ofInt_mul ofInt_sub' ofInt8_N64 ofInt64_N8 wide8 eqN neN shr_pow shr1 shr7 shr56
attribute [local go_sem high] bits_com64 shl_wrap
attribute [local go_sem] cell_heap ice_heap cellAt_cells iceAt_cells setAt_cells rowAt_cells canLay_cells laidAt_cells size_onObj size_setCell rowRes_some layRes_true
attribute [local go_sem] load26 load73 load23 store26 build73
attribute [local go_sem ↓] lrow26 lrow73 lrow23 srow26 zero26 brow73 heap_alloc heap_drew heap_drewN heap_setCell heap_onObj
attribute [local go_sem] tcells_size hcells_size tcells_get hcells_get tcells_one hcells_one hcells_table tcells_table hcells_all hcells_ctrl tcells_ctrl
attribute [local go_sem] nn2 nm2 nn3 nm3 nn4 nm4 nn5 nm5 nn6 nm6 nn7 nm7 nn8 nm8
attribute [local go_sem] nn2 nm2 nn3 nm3 nn4 nm4 nn5 nm5 nn6 nm6 nn7 nm7 nn8 nm8
attribute [local go_sem] ofInt_N
theorem N_two : N 2#64 = 2 := rfl
attribute [local go_sem] N_two
/-- Both groups in a key's order, the first j of them. -/
def grp (g j : Nat) : List Nat := (List.range j).map fun i => (g + i) % 2
end Go.Proofs.Hc
/- Package write: Step, as a model. -/
namespace Go.Proofs.Hc
open Go.RowKit
theorem needP_some {p : PenT} {a : AccT} (h : needP p = some a) : rightP p = true ∧ p.ph ≤ 13 := by
  unfold needP at h
  cases hb : (rightP p && decide (p.ph ≤ 13)) with
  | false => rw [hb, if_neg (by decide)] at h; cases h
  | true => simpa using hb
end Go.Proofs.Hc
/- Tables compared with themselves. -/
namespace Go.Proofs.Hc
open Go.RowKit
/-- A value that is equal to itself. -/
def SelfEq (d : Nat) (T : TypeId) (v : Value) : Prop := ∀ w, (Op.equalIn d T v v).run Tryz.prog w = .ok true w
theorem self_int (d : Nat) (T : TypeId) (k k' : IntKind) (a : Int) (h : Tryz.prog.underlying T = some (.int k')) : SelfEq (d + 1) T (.int k a) := fun w => by
  rw [run_equalIn_int w d T k k' a a h, beq_self_eq_true]
theorem self_items {d c : Nat} {e : TypeId} {xs : Array Value} : ∀ (is : List Nat), (∀ i ∈ is, ∃ a, (∀ w, (part e xs (i * c)).run Tryz.prog w = .ok a w) ∧ SelfEq d e a) → ∀ w, (Op.eqItems d e c xs xs is).run Tryz.prog w = .ok true w
  | [], _, w => by simp [Op.eqItems]
  | i :: is, h, w => by
    obtain ⟨a, h1, h2⟩ := h i (by simp)
    have ih := self_items is (fun j hj => h j (by simp [hj])) w
    simp only [Op.eqItems, Sem.run_bind, h1, h2 w, Result.andThen_ok, Bool.not_true, Bool.false_eq_true, if_false, ih]
theorem self_fields {d : Nat} {xs : Array Value} : ∀ (fs : List Field), (∀ f ∈ fs, ∃ a, (∀ w, (part f.type xs f.offset).run Tryz.prog w = .ok a w) ∧ SelfEq d f.type a) → ∀ w, (Op.eqFields d xs xs fs).run Tryz.prog w = .ok true w
  | [], _, w => by simp [Op.eqFields]
  | f :: fs, h, w => by
    obtain ⟨a, h1, h2⟩ := h f (by simp)
    have ih := self_fields fs (fun j hj => h j (by simp [hj])) w
    simp only [Op.eqFields]
    split
    · simp only [Sem.run_bind, h1, h2 w, Result.andThen_ok, Bool.not_true, Bool.false_eq_true, if_false, ih]
    · exact ih
theorem part_int {T : TypeId} {k : IntKind} (h : Tryz.prog.underlying T = some (.int k)) {xs : Array Value} {off : Nat} {v : Value} (hx : xs[off]? = some v) (w : World) : (part T xs off).run Tryz.prog w = .ok v w :=
  run_part_plain w (by simp [Program.plainKey, h]) hx
theorem part_arr {T e : TypeId} {n : Nat} (h : Tryz.prog.underlying T = some (.array n e)) {i : TypeInfo} (hi : Tryz.prog.info? T = some i) (hs : Tryz.prog.cellsOf T = n) (xs : Array Value) (off : Nat) (w : World) : (part T xs off).run Tryz.prog w = .ok (.agg (xs.extract off (off + n))) w := by
  simp [part, isAgg, run_underlying h, run_sizeOf w hi, hs]
theorem self_words {d n : Nat} {T : TypeId} (h : Tryz.prog.underlying T = some (.array n 22)) (xs : Array Value) (hx : ∀ i, i < n → ∃ b : BitVec 64, xs[i]? = some (U b)) : SelfEq (d + 2) T (.agg xs) := fun w => by
  obtain ⟨i, hi⟩ : ∃ i, Tryz.prog.info? 22 = some i := info_of_underlying Tryz.underlying22
  rw [run_equalIn_array w (d + 1) xs xs h hi]
  have hc : Tryz.prog.cellsOf 22 = 1 := by kernel_rfl
  rw [hc]
  refine self_items _ (fun j hj => ?_) w
  obtain ⟨b, hb⟩ := hx j (by simpa using hj)
  exact ⟨U b, fun w => part_int Tryz.underlying22 (by rw [Nat.mul_one]; exact hb) w, self_int d _ _ _ _ Tryz.underlying22⟩
end Go.Proofs.Hc
/- A pen compared with itself. -/
namespace Go.Proofs.Hc
open Go.RowKit
theorem bool_under : Tryz.prog.underlying 4 = some .bool := by kernel_rfl
theorem self_bool (d : Nat) (T : TypeId) (a : Bool) (h : Tryz.prog.underlying T = some .bool) : SelfEq (d + 1) T (.bool a) := fun w => by
  rw [run_equalIn_bool' w d T a a h, beq_self_eq_true]
theorem part_bool {T : TypeId} (h : Tryz.prog.underlying T = some .bool) {xs : Array Value} {off : Nat} {v : Value} (hx : xs[off]? = some v) (w : World) : (part T xs off).run Tryz.prog w = .ok v w :=
  run_part_plain w (by simp [Program.plainKey, h]) hx
end Go.Proofs.Hc
