/- Layer 19, who writes: the model. Plain law, no program in sight. -/
import Derived.Test.YtcikopeddljgkaaGreatKHcb
import Derived.Test.YtcikopeddljgkaaGreatKHd
import Derived.Test.YtcikopeddljgkaaGreatKHg
import Derived.Test.YtcikopeddljgkaaGreatKHdn
import Derived.Test.YtcikopeddljgkaaGreatKHj
import Derived.Test.YtcikopeddljgkaaGreatKHma
import Derived.Test.YtcikopeddljgkaaGreatKHmet
import Derived.Test.YtcikopeddljgkaaGreatKHn
import Derived.Test.YtcikopeddljgkaaGreatKHo
import Derived.Test.YtcikopeddljgkaaGreatKHpb
import Derived.Test.YtcikopeddljgkaaGreatKHr
import Derived.Test.YtcikopeddljgkaaGreatKHrw
import Derived.Test.YtcikopeddljgkaaGreatKHtd
import Derived.Test.YtcikopeddljgkaaGreatKHtm
import Derived.Test.YtcikopeddljgkaaGreatKHtr
import Derived.Below
import Derived.BigQuiet
import Derived.Deep.Draws
import Derived.Deep.Light
import Derived.Deep.QuietTactic
import Derived.Deep.RegionHeld
import Derived.Laws.CopyRow
import Derived.Laws.Tables
import Derived.Lib.AppendZerosOnto
import Derived.Lib.Hide
import Derived.Lib.Tables
import Derived.Lib.Walk
import Derived.LoopIn
import Derived.LoopN
import Derived.LoopNIn
import Derived.Maps.AppendAt
import Derived.Maps.Views
import Derived.OwnWalkIn
import Derived.RangeFuncBox
import Derived.RangeFuncCalls
import Derived.RangeFuncRecord
import Derived.RangeFuncSeq
import Derived.Recover
import Derived.RegionTactic
import Derived.Shelf.Slices.Clone
import Derived.StillTail
import Derived.StillTailTactics
import Derived.TacticsInMore
import Derived.Test.YtcikopeddljgkaaGreatProg
import Derived.WalkKit
import Derived.WalkLawsBesides
import Derived.WalkMore
import Derived.WalkSpells
import Derived.Laws.StructEq
import Derived.Deep.OwnRows
import Derived.IntWalk
import Derived.Laws.CopyOwn
import Derived.ScopeJumps
set_option linter.unusedSimpArgs false
set_option linter.unusedVariables false
namespace Go.Proofs.Hc
open Go.RowKit
/-- Who writes (api.Pen). -/
structure PenT where
  ph : Int
  sl : Int
  op : Int
  key : BitVec 64
  a : BitVec 64
  b : BitVec 64
  hash : BitVec 64
  count : BitVec 64
  can : BitVec 64
  live : BitVec 64
  grp : Int
  ctrl : BitVec 64
  left : BitVec 8
  free : Int
  fctrl : BitVec 64
  slot : Int
  val : BitVec 64
  found : Bool
def penC (p : PenT) : Array Value := #[I p.ph, I p.sl, I p.op, U p.key, U p.a, U p.b, U p.hash, U p.count, U p.can, U p.live, I p.grp, U p.ctrl, Y p.left, I p.free, U p.fctrl, I p.slot, U p.val, .bool p.found]
def zeroPen : PenT := ⟨0, 0, 0, 0#64, 0#64, 0#64, 0#64, 0#64, 0#64, 0#64, 0, 0#64, 0#8, 0, 0#64, 0, 0#64, false⟩
theorem penC_size (p : PenT) : (penC p).size = 18 := rfl
theorem penC_one (p : PenT) : allOne (penC p) = true := by unfold allOne penC; simp [Value.oneCell']
theorem penC_all (p : PenT) : (penC p).extract 0 18 = penC p := by have := Array.extract_size (xs := penC p); rwa [penC_size] at this
/-- An odd word. -/
def oddB (x : BitVec 64) : Bool := (x &&& 1#64) == 1#64
/-- What it wants: 0 nothing, 1 to put, 2 to set, 3 to drop. -/
def wantsP (p : PenT) : Nat :=
  if p.found then (if p.op == 2 || p.op == 4 && p.val == p.a then 2 else if p.op == 3 then 3 else 0)
  else if p.op == 2 || p.op == 5 then 1 else 0
theorem wantsP_le (p : PenT) : wantsP p ≤ 3 := by unfold wantsP; repeat' split
                                                  all_goals omega
/-- Does one go through a phase of a section, by what it wants? -/
def throughP (w : Nat) (ph : Int) : Bool :=
  if ph == 4 || ph == 5 || ph == 9 || ph == 10 || ph == 11 || ph == 12 then w == 1 || w == 3
  else if ph == 6 || ph == 13 then decide (0 < w)
  else if ph == 7 then w == 1
  else w == 1 || w == 2
/-- May it be? -/
def rightP (p : PenT) : Bool :=
  (decide (0 ≤ p.ph) && decide (p.ph ≤ 16)) && (decide (0 ≤ p.sl) && decide (p.sl < 128)) && (decide (2 ≤ p.op) && decide (p.op ≤ 5)) && !oddB p.count &&
  (p.grp == 0 || p.grp == 1) && (decide (0 ≤ p.slot) && decide (p.slot ≤ 15)) && (decide (0 ≤ p.free) && decide (p.free ≤ 16)) && !(p.ph == 2 && p.left == 0#8) &&
  (decide (p.ph < 4) || decide (13 < p.ph) || throughP (wantsP p) p.ph && (wantsP p != 1 || decide (0 < p.free)))
/-- The group it is at. -/
def groupP (p : PenT) : Nat := (g0 (hash1 p.hash) + p.grp.toNat) % 2
/-- The slot in which it stores. -/
def slotP (p : PenT) : Int := if wantsP p == 1 then p.free - 1 else p.slot
/-- The least lane that is left. -/
def laneP (m : BitVec 8) : Nat := ((lanesOf m).head?).getD 0
/-- Once it is decided what it wants. -/
def decidedP (p : PenT) : PenT :=
  { p with ph := if wantsP p = 0 then 14 else if wantsP p = 2 then 6 else if wantsP p = 1 ∧ p.free = 0 then 16 else 4 }
/-- Behind a control word, or a key. -/
def onP (p : PenT) : PenT :=
  if p.left != 0#8 then { p with ph := 2 }
  else if emptyM p.ctrl != 0#8 || p.grp == 1 then decidedP p
  else { p with grp := 1, ph := 1 }
/-- The phase behind a store. -/
def nextP (w : Nat) (ph : Int) : Int :=
  (((List.range 14).map fun n : Nat => (n : Int)).find? fun n => decide (ph < n) && throughP w n).getD 14
/-- A control word is looked at. -/
def seenP (p : PenT) (w : BitVec 64) : PenT := { p with ctrl := w, left := equalM w (hash2 p.hash) }
/-- The first free lane of a control word, if there is one. -/
def freeP (p : PenT) (w : BitVec 64) : Option Nat → PenT
  | none => p
  | some x => if p.free = 0 then { p with free := ((8 * groupP p + x + 1 : Nat) : Int), fctrl := w } else p
/-- Behind a control word. -/
def lookedP (p : PenT) (w : BitVec 64) : PenT := onP (freeP (seenP p w) w (lanesOf (freeM w)).head?)
/-- Was the free slot empty? -/
def wasP (p : PenT) : Bool := (emptyM p.fctrl).getLsbD ((p.free - 1).toNat % 8)
/-- Behind its access, that told a word. -/
def takeP (p : PenT) (w : BitVec 64) : PenT :=
  if p.ph = 0 then (if oddB w then { p with ph := 15 } else { p with count := w, grp := 0, ph := 1 })
  else if p.ph = 1 then lookedP p w
  else if p.ph = 2 then (if w == p.key then { p with slot := ((8 * groupP p + laneP p.left : Nat) : Int), ph := 3 } else onP { p with left := p.left &&& ~~~(1#8 <<< laneP p.left) })
  else if p.ph = 3 then decidedP { p with val := w, found := true }
  else if p.ph = 4 then { p with can := w, ph := if wantsP p == 1 && wasP p && w == 0#64 then 16 else 5 }
  else if p.ph = 5 then { p with live := w, ph := 6 }
  else { p with ph := nextP (wantsP p) p.ph }
/-- Which word of the slab it accesses. -/
def wordP (p : PenT) : Int :=
  if p.ph = 0 ∨ p.ph = 6 ∨ p.ph = 13 then 0
  else if p.ph = 1 then ((4 + groupP p : Nat) : Int)
  else if p.ph = 2 then ((6 + 8 * groupP p + laneP p.left : Nat) : Int)
  else if p.ph = 3 then 22 + p.slot
  else if p.ph = 4 ∨ p.ph = 10 then 2
  else if p.ph = 5 ∨ p.ph = 11 then 3
  else if p.ph = 7 then 6 + slotP p
  else if p.ph = 8 then 22 + slotP p
  else 4 + slotP p / 8
/-- The control word that it stores. -/
def markP (p : PenT) : BitVec 64 :=
  if wantsP p == 1 then withB p.fctrl ((slotP p).toNat % 8) (hash2 p.hash)
  else withB p.ctrl ((slotP p).toNat % 8) (if emptyM p.ctrl != 0#8 then 128#8 else 254#8)
/-- How many keys there are more. -/
def byP (n : Nat) : BitVec 64 := if n == 1 then 1#64 else 0#64 - 1#64
/-- What it stores. -/
def whatP (p : PenT) : BitVec 64 :=
  if p.ph = 6 then p.count + 1#64
  else if p.ph = 13 then p.count + 2#64
  else if p.ph = 7 then p.key
  else if p.ph = 8 then (if p.op = 4 then p.b else p.a)
  else if p.ph = 9 then markP p
  else if p.ph = 10 then (if wantsP p == 1 && wasP p then p.can - 1#64 else if wantsP p == 3 && emptyM p.ctrl != 0#8 then p.can + 1#64 else p.can)
  else p.live + byP (wantsP p)
/-- An access: its kind (1 load, 2 store, 4 add), its cell, its word. -/
structure AccT where
  kind : Int
  at_ : Int
  new : BitVec 64
/-- Its access; none: it has none, or may not be. -/
def needP (p : PenT) : Option AccT :=
  if rightP p && decide (p.ph ≤ 13) then
    some (if p.ph = 12 then ⟨4, 1, byP (wantsP p)⟩
      else ⟨if 5 < p.ph then 2 else 1, 16 + 40 * p.sl + wordP p, if 5 < p.ph then whatP p else 0#64⟩)
  else none
/-- Cells behind an access, and what it told. -/
def doP (c : List (BitVec 64)) (x : AccT) : Option (List (BitVec 64) × BitVec 64) :=
  match c[x.at_.toNat]? with
  | none => none
  | some w => some (if x.kind = 1 then c else if x.kind = 2 then c.set x.at_.toNat x.new else c.set x.at_.toNat (w + x.new), w)
end Go.Proofs.Hc
/- The references of layers 8 (the groups' order). -/
namespace Go.Proofs.Hc
open Go.RowKit
attribute [local go_sem] wrap_u64 wrap_u8 bits_xor64 bits_and64 bits_or64 bits_not64 bits_xor8 bits_and8 bits_or8 signed64 signed8 ofInt_N BitVec.ofInt_add BitVec.ofInt_mul ofInt_sub' ofInt8_N64 ofInt64_N8 wide8 eqN neN shr_pow shr1 shr7 shr56
attribute [local go_sem high] bits_com64 shl_wrap
attribute [local go_sem] cell_heap ice_heap cellAt_cells iceAt_cells setAt_cells rowAt_cells canLay_cells laidAt_cells size_onObj size_setCell rowRes_some layRes_true
attribute [local go_sem] load26 load73 load23 store26 build73
attribute [local go_sem ↓] lrow26 lrow73 lrow23 srow26 zero26 brow73 heap_alloc heap_drew heap_drewN heap_setCell heap_onObj
attribute [local go_sem] tcells_size hcells_size tcells_get hcells_get tcells_one hcells_one hcells_table tcells_table hcells_all hcells_ctrl tcells_ctrl
attribute [local go_sem] nn2 nm2 nn3 nm3 nn4 nm4 nn5 nm5 nn6 nm6 nn7 nm7 nn8 nm8
attribute [local go_sem] nn2 nm2 nn3 nm3 nn4 nm4 nn5 nm5 nn6 nm6 nn7 nm7 nn8 nm8
attribute [local go_sem] ofInt_N
theorem N_two : N 2#64 = 2 := rfl
attribute [local go_sem] N_two
/-- Both groups in a key's order, the first j of them. -/
def grp (g j : Nat) : List Nat := (List.range j).map fun i => (g + i) % 2
end Go.Proofs.Hc
/- Package write: Step, as a model. -/
namespace Go.Proofs.Hc
open Go.RowKit
theorem needP_some {p : PenT} {a : AccT} (h : needP p = some a) : rightP p = true ∧ p.ph ≤ 13 := by
  unfold needP at h
  cases hb : (rightP p && decide (p.ph ≤ 13)) with
  | false => rw [hb, if_neg (by decide)] at h; cases h
  | true => simpa using hb
end Go.Proofs.Hc
/- A whole run of a pen: the plain law. -/
namespace Go.Proofs.Hc
open Go.RowKit
/-- A whole run: the words and the pen behind it, and how many steps. -/
inductive RunsTo : List (BitVec 64) → PenT → Nat → List (BitVec 64) → PenT → Prop
  | done {l p} : 13 < p.ph → RunsTo l p 0 l p
  | step {l p a y k l' p'} : p.ph ≤ 13 → rightP p = true → needP p = some a → doP l a = some y → RunsTo y.1 (takeP p y.2) k l' p' → RunsTo l p (k + 1) l' p'
end Go.Proofs.Hc
/- Package table: Put. -/
namespace Go.Proofs.Hc
open Go.RowKit
attribute [local go_sem] wrap_u64 wrap_u8 bits_xor64 bits_and64 bits_or64 bits_not64 bits_xor8 bits_and8 bits_or8 signed64 signed8 ofInt_N BitVec.ofInt_add BitVec.ofInt_mul ofInt_sub' ofInt8_N64 ofInt64_N8 wide8 eqN neN shr_pow shr1 shr7 shr56
attribute [local go_sem high] bits_com64 shl_wrap
attribute [local go_sem] cell_heap ice_heap cellAt_cells iceAt_cells setAt_cells rowAt_cells canLay_cells laidAt_cells size_onObj size_setCell rowRes_some layRes_true
attribute [local go_sem] load26 load73 load23 store26 build73
attribute [local go_sem ↓] lrow26 lrow73 lrow23 srow26 zero26 brow73 heap_alloc heap_drew heap_drewN heap_setCell heap_onObj
attribute [local go_sem] tcells_size hcells_size tcells_get hcells_get tcells_one hcells_one hcells_table tcells_table hcells_all hcells_ctrl tcells_ctrl
attribute [local go_sem] nn2 nm2 nn3 nm3 nn4 nm4 nn5 nm5 nn6 nm6 nn7 nm7 nn8 nm8
attribute [local go_sem] loadA loadT2 storeA storeT2 buildA_ts buildA_sm assert_errno make_func acells_size t2cells_size acells_get t2cells_get acells_one t2cells_one acells_table acells_all t2cells_all t2cells_l t2cells_r
attribute [local go_sem ↓] lrowA lrowT2 srowA srowT2 browA zeroA_run zeroT2_run
attribute [local go_sem] nn2 nm2 nn3 nm3 nn4 nm4 nn5 nm5 nn6 nm6 nn7 nm7 nn8 nm8
attribute [local go_sem] Oper.semAt_some make_func1 ofInt_pow8
attribute [local go_sem] box26 tcells_idx cell0 cell1 cell2 cell3 cell4 hcells_idx hcells_pop
attribute [local go_sem] cell5 cell6 acells_idx acells_table
attribute [local go_sem high] laidAt_t laidAt_a
def putV (r : Except Int At) : Value := match r with
  | .ok y => .tuple #[.agg (tcells y.t), I y.slot, I 0]
  | .error c => .tuple #[.agg (tcells zeroT), I 0, I c]
theorem put_cases (r : Except Int At) : ∃ (y : At) (c : Int), tupOr (fun v => Value.agg (acells v)) (.agg (acells zeroA)) r = .tuple #[.agg (acells y), I c] ∧ putV r = .tuple #[.agg (tcells y.t), I y.slot, I c] := by
  cases r with
  | error c => exact ⟨zeroA, c, rfl, rfl⟩
  | ok y => exact ⟨y, 0, rfl, rfl⟩
theorem results_c0tt {P : Program} {fn : Func} {p q r : Tmp} {T1 : TypeId} (h : fn.results = #[.cell p T1, .tmp q, .tmp r]) (tmps : Array Value) (a : Addr) (w : World) {x y z : Value}
    (hp : tmps.getD p undef = .pointer (some a)) (hq : tmps.getD q undef = y) (hr : tmps.getD r undef = z) (h1 : (loadVar T1 a).run P w = .ok x w) :
    (results fn tmps).run P w = .ok (.tuple #[x, y, z]) w := by
  have hp' : tmps[p]?.getD undef = .pointer (some a) := by simpa using hp
  have hq' : tmps[q]?.getD undef = y := by simpa using hq
  have hr' : tmps[r]?.getD undef = z := by simpa using hr
  simp [results, h, hp', hq', hr', asAddr, h1]
end Go.Proofs.Hc
/- Package table: Drop. -/
namespace Go.Proofs.Hc
open Go.RowKit
attribute [local go_sem] wrap_u64 wrap_u8 bits_xor64 bits_and64 bits_or64 bits_not64 bits_xor8 bits_and8 bits_or8 signed64 signed8 ofInt_N BitVec.ofInt_add BitVec.ofInt_mul ofInt_sub' ofInt8_N64 ofInt64_N8 wide8 eqN neN shr_pow shr1 shr7 shr56
attribute [local go_sem high] bits_com64 shl_wrap
attribute [local go_sem] cell_heap ice_heap cellAt_cells iceAt_cells setAt_cells rowAt_cells canLay_cells laidAt_cells size_onObj size_setCell rowRes_some layRes_true
attribute [local go_sem] load26 load73 load23 store26 build73
attribute [local go_sem ↓] lrow26 lrow73 lrow23 srow26 zero26 brow73 heap_alloc heap_drew heap_drewN heap_setCell heap_onObj
attribute [local go_sem] tcells_size hcells_size tcells_get hcells_get tcells_one hcells_one hcells_table tcells_table hcells_all hcells_ctrl tcells_ctrl
attribute [local go_sem] nn2 nm2 nn3 nm3 nn4 nm4 nn5 nm5 nn6 nm6 nn7 nm7 nn8 nm8
attribute [local go_sem] loadA loadT2 storeA storeT2 buildA_ts buildA_sm assert_errno make_func acells_size t2cells_size acells_get t2cells_get acells_one t2cells_one acells_table acells_all t2cells_all t2cells_l t2cells_r
attribute [local go_sem ↓] lrowA lrowT2 srowA srowT2 browA zeroA_run zeroT2_run
attribute [local go_sem] nn2 nm2 nn3 nm3 nn4 nm4 nn5 nm5 nn6 nm6 nn7 nm7 nn8 nm8
attribute [local go_sem] Oper.semAt_some make_func1 ofInt_pow8
attribute [local go_sem] box26 tcells_idx cell0 cell1 cell2 cell3 cell4 hcells_idx hcells_pop
attribute [local go_sem] cell5 cell6 acells_idx acells_table
attribute [local go_sem high] laidAt_t laidAt_a
set_option maxHeartbeats 1000000 in
set_option maxRecDepth 100000 in
theorem Drop_any (t : Tab) (s k : BitVec 64) (w : World) :
    Calls Tryz.prog 73 #[U s, .agg (tcells t), U k] w fun e w' => e = .returned (putV (ifMay t s (dropE t s k))) ∧ Ch [] w w' := by
  have T1 : ∀ (w : World) (cap : Array Value), _ → Calls Tryz.prog 130 #[U s, .agg (tcells t), .func (.func 136) #[] cap] w fun e w' => e = .returned (tupOr (fun v => .agg (acells v)) (.agg (acells zeroA)) (ifMay t s (dropE t s k))) ∧ Ch [] w w' := fun w cap hd => tries91_any t s 136 cap (dropE t s k) w enters_drop1 hd
  have D1 := fun b p w hok hb hp => drop1_any t s k b p w hok hb hp
  have hm := fun h => may_okT (t := t) (s := s) h
  generalize ifMay t s (dropE t s k) = R at *
  generalize dropE t s k = r at *
  obtain ⟨W0, hW0⟩ : ∃ W0, ((w.alloc (.cells (tcells t) 26)).alloc (.cells #[U k] 22)).alloc (.cells (tcells zeroT) 26) = W0 := ⟨_, rfl⟩
  have hC0 : Ch [] w W0 := by rw [← hW0]; exact (((Ch.refl [] w).alloc _).alloc _).alloc _
  have b0 : W0.heap[w.heap.size]? = some (.cells (tcells t) 26 (0, 0)) := by rw [← hW0]; simp [go_sem]
  have b1 : W0.heap[w.heap.size + 1]? = some (.cells #[U k] 22 (0, 0)) := by rw [← hW0]; simp [go_sem]
  have b3 : W0.heap[w.heap.size + 1 + 1]? = some (.cells (tcells zeroT) 26 (0, 0)) := by rw [← hW0]; simp [go_sem]
  go_enter Tryz.func73, Tryz.ntmps73
  go_wp2_with fail
  refine (T1 W0 #[.pointer (some ⟨w.heap.size + 1, 0, none⟩)] ?_).mono ?_
  · intro hmt b w1 hb hc hle
    exact D1 b (w.heap.size + 1) w1 (hm hmt) hb (hkeep hc b1)
  · rintro e w1 ⟨rfl, hc1⟩
    have d3 := hkeep hc1 b3
    clear T1 D1 hm b0 b1 b3
    obtain ⟨y, c, htup, hput⟩ := put_cases R
    rw [htup]
    have HPUT := Lib.hid hput
    clear htup hput
    go_wp2
    have hz1 := hc1.size
    have hA : ((World.onObj (w1.alloc (.cells (acells zeroA) 210)) w1.heap.size (laidAt 0 (acells y)))).heap[w1.heap.size]? = some (.cells (acells y) 210 (0, 0)) := by
      simp only [heap_onObj, if_true, heap_alloc, Option.map_some, laidAt_a]
    have hlt3 := (Array.getElem?_eq_some_iff.1 d3).1
    have hD : ((World.onObj (w1.alloc (.cells (acells zeroA) 210)) w1.heap.size (laidAt 0 (acells y)))).heap[w.heap.size + 1 + 1]? = some (.cells (tcells zeroT) 26 (0, 0)) := by
      rw [heap_onObj, if_neg (by omega), heap_alloc, if_neg (by omega)]; exact d3
    have hcf : Ch [] w (World.onObj (w1.alloc (.cells (acells zeroA) 210)) w1.heap.size (laidAt 0 (acells y))) := ((hC0.trans hc1).alloc _).onObj (.inr (by have := (hC0.trans hc1).size; exact this)) _
    generalize World.onObj (w1.alloc (.cells (acells zeroA) 210)) w1.heap.size (laidAt 0 (acells y)) = W2 at *
    have hne : ¬ w1.heap.size = w.heap.size + 1 + 1 := by omega
    have hne2 : ¬ w.heap.size + 1 + 1 = w1.heap.size := by omega
    generalize w1.heap.size = X at *
    clear hc1 hC0 hW0 d3 hz1
    refine wp_region_held_drew (S := fun W' => W'.heap[X]? = some (.cells (acells y) 210 (0, 0))) (by kernel_rfl) hA ?_
    intro hS
    simp only [List.size_toArray, List.length_cons, List.length_nil, Nat.reduceAdd]
    refine wpAnyH_take (i := 0) (v := ?_) rfl (by kernel_rfl) (by kernel_rfl) (by kernel_rfl) (fun _ _ _ h => h) (Or.inl ⟨by rfl, ?_⟩) hS ?_
    rotate_left
    · intro wq hSq
      first | (go_simp; done) | (go_simp; with_reducible rfl)
    try simp only [Act.put, List.setIfInBounds_toArray, List.set_cons_zero, List.set_cons_succ]
    refine wpAnyH_take (i := 1) (v := ?_) rfl (by kernel_rfl) (by kernel_rfl) (by kernel_rfl) (fun _ _ _ h => h) (Or.inl ⟨by rfl, ?_⟩) hS ?_
    rotate_left
    · intro wq hSq
      first | (go_simp; done) | (go_simp; with_reducible rfl)
    try simp only [Act.put, List.setIfInBounds_toArray, List.set_cons_zero, List.set_cons_succ]
    refine wpAnyH_take (i := 2) (v := ?_) rfl (by kernel_rfl) (by kernel_rfl) (by kernel_rfl) (fun _ _ _ h => h) (Or.inl ⟨by rfl, ?_⟩) hS ?_
    rotate_left
    · intro wq hSq
      first | (go_simp; done) | (go_simp; with_reducible rfl)
    try simp only [Act.put, List.setIfInBounds_toArray, List.set_cons_zero, List.set_cons_succ]
    refine wpAnyH_take (i := 3) (v := ?_) rfl (by kernel_rfl) (by kernel_rfl) (by kernel_rfl) (fun _ _ _ h => h) (Or.inl ⟨by rfl, ?_⟩) hS ?_
    rotate_left
    · intro wq hSq
      first | (go_simp; done) | (go_simp; with_reducible rfl)
    try simp only [Act.put, List.setIfInBounds_toArray, List.set_cons_zero, List.set_cons_succ]
    refine wpAnyH_take (i := 4) (v := ?_) rfl (by kernel_rfl) (by kernel_rfl) (by kernel_rfl) (fun _ _ _ h => h) (Or.inl ⟨by rfl, ?_⟩) hS ?_
    rotate_left
    · intro wq hSq
      first | (go_simp; done) | (go_simp; with_reducible rfl)
    try simp only [Act.put, List.setIfInBounds_toArray, List.set_cons_zero, List.set_cons_succ]
    refine wpAnyH_ready (rs := [5]) (by kernel_rfl) (by simp) ?_
    refine AllReadyH.cons (o := ⟨none, .store 26 (.tmp 6) (.tmp 19), 0, _, _, none⟩) rfl (fun K hK => ?_) AllReadyH.nil
    go_simp
    try simp only [laidAt_t]
    have hS9 : (World.onObj W2 (w.heap.size + 1 + 1) (laidAt 0 (tcells y.t))).heap[X]? = some (.cells (acells y) 210 (0, 0)) := by rw [heap_onObj, if_neg (by omega)]; exact hA
    refine hK.out _ _ hS9 (fun hS2 => ?_)
    refine wpAnyH_take (i := 6) (oi := ⟨some 7, .assign (.tmp 21), 3, _, _, none⟩) (v := ?_) rfl (by kernel_rfl) (by kernel_rfl) (by kernel_rfl) (fun _ _ _ h => h) (Or.inl ⟨by rfl, ?_⟩) hS9 ?_
    rotate_left
    · intro wq hSq
      first | (go_simp; done) | (go_simp; with_reducible rfl)
    try simp only [Act.put, List.setIfInBounds_toArray, List.set_cons_zero, List.set_cons_succ]
    refine wpAnyH_take (i := 7) (oi := ⟨some 8, .assign (.tmp 22), 32, _, _, none⟩) (v := ?_) rfl (by kernel_rfl) (by kernel_rfl) (by kernel_rfl) (fun _ _ _ h => h) (Or.inl ⟨by rfl, ?_⟩) hS9 ?_
    rotate_left
    · intro wq hSq
      first | (go_simp; done) | (go_simp; with_reducible rfl)
    try simp only [Act.put, List.setIfInBounds_toArray, List.set_cons_zero, List.set_cons_succ]
    refine wpAnyH_done (by kernel_rfl) ?_ _
    have hD2 : (World.onObj W2.drew (w.heap.size + 1 + 1) (laidAt 0 (tcells y.t))).heap[w.heap.size + 1 + 1]? = some (.cells (tcells y.t) 26 (0, 0)) := by
      rw [heap_onObj, if_pos rfl, heap_drew, hD, Option.map_some, laidAt_t]
    have hC2 : Ch [] w (World.onObj W2.drew (w.heap.size + 1 + 1) (laidAt 0 (tcells y.t))) := (hcf.drew).onObj (.inr (by omega)) _
    generalize World.onObj W2.drew (w.heap.size + 1 + 1) (laidAt 0 (tcells y.t)) = W3 at *
    go_wp2
    refine bodyPost_ret (v := .tuple #[.agg (tcells y.t), I y.slot, I c]) (results_c0tt Tryz.results73 _ _ _ rfl rfl rfl (run_loadVar_row _ _ 26 26 (tcells y.t) (0, 0) _ hD2 Tryz.underlying26 rfl (by rw [tcells_size]; kernel_rfl))) rfl ⟨?_, hC2⟩
    rw [HPUT.out]
end Go.Proofs.Hc
