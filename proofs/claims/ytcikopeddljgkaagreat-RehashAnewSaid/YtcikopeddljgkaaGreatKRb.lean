/- Package table: Halves. -/
import Derived.Test.YtcikopeddljgkaaGreatKHcb
import Derived.Test.YtcikopeddljgkaaGreatKHdb
import Derived.Test.YtcikopeddljgkaaGreatKHdn
import Derived.Test.YtcikopeddljgkaaGreatKHj
import Derived.Test.YtcikopeddljgkaaGreatKHma
import Derived.Test.YtcikopeddljgkaaGreatKHmet
import Derived.Test.YtcikopeddljgkaaGreatKHpb
import Derived.Test.YtcikopeddljgkaaGreatKHr
import Derived.Test.YtcikopeddljgkaaGreatKHrw
import Derived.Test.YtcikopeddljgkaaGreatKHtm
import Derived.Test.YtcikopeddljgkaaGreatKHtr2
import Derived.Test.YtcikopeddljgkaaGreatKHtw
import Derived.Test.YtcikopeddljgkaaGreatKHyf
import Derived.Below
import Derived.BigQuiet
import Derived.Deep.Draws
import Derived.Deep.Light
import Derived.Deep.QuietTactic
import Derived.Deep.RegionHeld
import Derived.Laws.CopyRow
import Derived.Laws.Tables
import Derived.Lib.AppendZerosOnto
import Derived.Lib.Hide
import Derived.Lib.Tables
import Derived.Lib.Walk
import Derived.LoopIn
import Derived.LoopN
import Derived.LoopNIn
import Derived.Maps.AppendAt
import Derived.Maps.Views
import Derived.OwnWalkIn
import Derived.RangeFuncBox
import Derived.RangeFuncCalls
import Derived.RangeFuncRecord
import Derived.RangeFuncSeq
import Derived.Recover
import Derived.RegionTactic
import Derived.Shelf.Slices.Clone
import Derived.StillTail
import Derived.StillTailTactics
import Derived.TacticsInMore
import Derived.Test.YtcikopeddljgkaaGreatProg
import Derived.WalkKit
import Derived.WalkLawsBesides
import Derived.WalkMore
import Derived.WalkSpells
import Derived.Deep.OwnRows
import Derived.IntWalk
import Derived.Laws.CopyOwn
import Derived.Laws.StructEq
import Derived.ScopeJumps
set_option linter.unusedSimpArgs false
set_option linter.unusedVariables false
namespace Go.Proofs.Hc
open Go.RowKit
attribute [local go_sem] wrap_u64 wrap_u8 bits_xor64 bits_and64 bits_or64 bits_not64 bits_xor8 bits_and8 bits_or8 signed64 signed8 ofInt_N BitVec.ofInt_add BitVec.ofInt_mul ofInt_sub' ofInt8_N64 ofInt64_N8 wide8 eqN neN shr_pow shr1 shr7 shr56
attribute [local go_sem high] bits_com64 shl_wrap
attribute [local go_sem] cell_heap ice_heap cellAt_cells iceAt_cells setAt_cells rowAt_cells canLay_cells laidAt_cells size_onObj size_setCell rowRes_some layRes_true
attribute [local go_sem] load26 load73 load23 store26 build73
attribute [local go_sem ↓] lrow26 lrow73 lrow23 srow26 zero26 brow73 heap_alloc heap_drew heap_drewN heap_setCell heap_onObj
attribute [local go_sem] tcells_size hcells_size tcells_get hcells_get tcells_one hcells_one hcells_table tcells_table hcells_all hcells_ctrl tcells_ctrl
attribute [local go_sem] nn2 nm2 nn3 nm3 nn4 nm4 nn5 nm5 nn6 nm6 nn7 nm7 nn8 nm8
attribute [local go_sem] loadA loadT2 storeA storeT2 buildA_ts buildA_sm assert_errno make_func acells_size t2cells_size acells_get t2cells_get acells_one t2cells_one acells_table acells_all t2cells_all t2cells_l t2cells_r
attribute [local go_sem ↓] lrowA lrowT2 srowA srowT2 browA zeroA_run zeroT2_run
attribute [local go_sem] nn2 nm2 nn3 nm3 nn4 nm4 nn5 nm5 nn6 nm6 nn7 nm7 nn8 nm8
attribute [local go_sem] Oper.semAt_some make_func1 ofInt_pow8
attribute [local go_sem] box26 tcells_idx cell0 cell1 cell2 cell3 cell4 hcells_idx hcells_pop
attribute [local go_sem] cell5 cell6
attribute [local go_sem] loadP storeP allOne_pair
attribute [local go_sem ↓] lrowP srowP zeroP
attribute [local go_sem high] laidAt_t laidAt_p
theorem laidAt_t2 (a b : T2) (T : TypeId) (fr : Nat × Nat) : laidAt 0 (t2cells b) (.cells (t2cells a) T fr) = .cells (t2cells b) T fr := by
  rw [laidAt_cells, laid_whole _ _ (by rw [t2cells_size, t2cells_size])]
attribute [local go_sem high] laidAt_t2
end Go.Proofs.Hc
/- One who writes, in cells that hold a table: the whole run. Plain law, no program in sight. -/
namespace Go.Proofs.Hc
open Go.RowKit
def wd1 (t : Tab) : BitVec 64 := BitVec.ofInt 64 t.depth ||| t.pre * 256#64
/-- A table's words. -/
def tword (t : Tab) (i : Nat) : BitVec 64 :=
  if i = 0 then t.count else if i = 1 then wd1 t else if i = 2 then BitVec.ofInt 64 t.can else if i = 3 then BitVec.ofInt 64 t.live
  else if i < 6 then t.c (i - 4) else if i < 22 then t.k (i - 6) else if i < 38 then t.v (i - 22) else 0#64
def twords (t : Tab) : List (BitVec 64) := (List.range 40).map (tword t)
theorem twords_len (t : Tab) : (twords t).length = 40 := by unfold twords; simp
theorem twords_get (t : Tab) (i : Nat) (h : i < 40) : (twords t)[i]? = some (tword t i) := by
  unfold twords
  rw [List.getElem?_map, List.getElem?_range h]
  rfl
theorem tw_c (t : Tab) (g : Nat) (h : g < 2) : tword t (4 + g) = t.c g := by
  unfold tword
  rw [if_neg (by omega), if_neg (by omega), if_neg (by omega), if_neg (by omega), if_pos (by omega), show 4 + g - 4 = g by omega]
theorem tw_k (t : Tab) (j : Nat) (h : j < 16) : tword t (6 + j) = t.k j := by
  unfold tword
  rw [if_neg (by omega), if_neg (by omega), if_neg (by omega), if_neg (by omega), if_neg (by omega), if_pos (by omega), show 6 + j - 6 = j by omega]
theorem tw_v (t : Tab) (j : Nat) (h : j < 16) : tword t (22 + j) = t.v j := by
  unfold tword
  rw [if_neg (by omega), if_neg (by omega), if_neg (by omega), if_neg (by omega), if_neg (by omega), if_neg (by omega), if_pos (by omega), show 22 + j - 22 = j by omega]
theorem tws_count (t : Tab) (x : BitVec 64) (n : Nat) : tword { t with count := x } n = if n = 0 then x else tword t n := by
  unfold tword
  refine ite_congr rfl (fun _ => rfl) (fun h => ?_)
  rw [if_neg h]; rfl
/-- Cells with a table's words at B. -/
def laidW (c : List (BitVec 64)) (B : Nat) (t : Tab) : List (BitVec 64) := c.take B ++ (twords t ++ c.drop (B + 40))
theorem laidW_len {c : List (BitVec 64)} {B : Nat} (t : Tab) (hB : B + 40 ≤ c.length) : (laidW c B t).length = c.length := by
  unfold laidW; simp [twords_len]; omega
theorem laidW_get {c : List (BitVec 64)} {B : Nat} (t : Tab) (hB : B + 40 ≤ c.length) (i : Nat) : (laidW c B t)[i]? = if B ≤ i ∧ i < B + 40 then some (tword t (i - B)) else c[i]? := by
  unfold laidW
  have hl : (c.take B).length = B := by simp; omega
  by_cases h1 : i < B
  · rw [if_neg (by omega), List.getElem?_append_left (by omega), List.getElem?_take, if_pos h1]
  · rw [List.getElem?_append_right (by omega), hl]
    by_cases h2 : i < B + 40
    · rw [if_pos (by omega), List.getElem?_append_left (by rw [twords_len]; omega), twords_get _ _ (by omega)]
    · rw [if_neg (by omega), List.getElem?_append_right (by rw [twords_len]; omega), twords_len, List.getElem?_drop]
      congr 1; omega
end Go.Proofs.Hc
/- Law 17: does the layer do anything? -/
namespace Go.Proofs.Hc
open Go.RowKit
attribute [local go_sem] wrap_u64 wrap_u8 bits_xor64 bits_and64 bits_or64 bits_not64 bits_xor8 bits_and8 bits_or8 signed64 signed8 ofInt_N BitVec.ofInt_add BitVec.ofInt_mul ofInt_sub' ofInt8_N64 ofInt64_N8 wide8 eqN neN shr_pow shr1 shr7 shr56
attribute [local go_sem high] bits_com64 shl_wrap
attribute [local go_sem] cell_heap ice_heap cellAt_cells iceAt_cells setAt_cells rowAt_cells canLay_cells laidAt_cells size_onObj size_setCell rowRes_some layRes_true
attribute [local go_sem] load26 load73 load23 store26 build73
attribute [local go_sem ↓] lrow26 lrow73 lrow23 srow26 zero26 brow73 heap_alloc heap_drew heap_drewN heap_setCell heap_onObj
attribute [local go_sem] tcells_size hcells_size tcells_get hcells_get tcells_one hcells_one hcells_table tcells_table hcells_all hcells_ctrl tcells_ctrl
attribute [local go_sem] nn2 nm2 nn3 nm3 nn4 nm4 nn5 nm5 nn6 nm6 nn7 nm7 nn8 nm8
attribute [local go_sem] loadA loadT2 storeA storeT2 buildA_ts buildA_sm assert_errno make_func acells_size t2cells_size acells_get t2cells_get acells_one t2cells_one acells_table acells_all t2cells_all t2cells_l t2cells_r
attribute [local go_sem ↓] lrowA lrowT2 srowA srowT2 browA zeroA_run zeroT2_run
attribute [local go_sem] nn2 nm2 nn3 nm3 nn4 nm4 nn5 nm5 nn6 nm6 nn7 nm7 nn8 nm8
attribute [local go_sem] Oper.semAt_some make_func1 ofInt_pow8
attribute [local go_sem] box26 tcells_idx cell0 cell1 cell2 cell3 cell4 hcells_idx hcells_pop
attribute [local go_sem] cell5 cell6 acells_idx acells_table
attribute [local go_sem high] laidAt_t laidAt_a laidAt_t2
/-- A half, if it can be laid. -/
def okOr : Except Int Tab → Tab
  | .ok x => x
  | .error _ => zeroT
theorem okOr_ok (x : Tab) : okOr (.ok x) = x := rfl
end Go.Proofs.Hc
/- Layer 20, who lays a table anew: the model. Plain law, no program in sight. -/
namespace Go.Proofs.Hc
open Go.RowKit
/-- Who lays a table anew (api.Laying). -/
structure LayT where
  ph : Int
  who : Int
  sl : Int
  seed : BitVec 64
  count : BitVec 64
  at_ : Int
  ws : Nat → BitVec 64
  bad : Bool
def zeroLay : LayT := ⟨0, 0, 0, 0#64, 0#64, 0, fun _ => 0#64, false⟩
/-- May it be? -/
def rightL (p : LayT) : Bool :=
  (decide (0 ≤ p.ph) && decide (p.ph ≤ 6)) && (decide (0 ≤ p.who) && decide (p.who < 8)) && (decide (0 ≤ p.sl) && decide (p.sl < 128)) && !oddB p.count && ((decide (1 ≤ p.at_) && decide (p.at_ < 40)) || p.ph != 2 && p.ph != 3)
/-- The table of words, if they are one's. -/
def readTab (ws : Nat → BitVec 64) : Tab := ⟨ws 0, ((ws 1 &&& 255#64).toNat : Int), ws 1 >>> 8, ((ws 2).toNat : Int), ((ws 3).toNat : Int), fun g => if g < 2 then ws (4 + g) else 0#64, fun j => if j < 16 then ws (6 + j) else 0#64, fun j => if j < 16 then ws (22 + j) else 0#64⟩
def readOk (ws : Nat → BitVec 64) : Bool := decide ((ws 2).toNat ≤ 14) && decide ((ws 3).toNat ≤ 14) && flatT (readTab ws) && (ws 38 == 0#64) && (ws 39 == 0#64)
def updW (ws : Nat → BitVec 64) (j : Nat) (x : BitVec 64) : Nat → BitVec 64 := fun i => if i = j then x else ws i
/-- Once it has read all words. -/
def laidL (p : LayT) : LayT :=
  if readOk p.ws && mayT (readTab p.ws) p.seed then { p with ws := tword (okOr (anewT (readTab p.ws) p.seed)), ph := 3, at_ := 1 }
  else { p with bad := true, ph := 4 }
/-- Behind its access, that told a word. -/
def takeL (p : LayT) (w : BitVec 64) : LayT :=
  if p.ph = 0 then (if oddB w then { p with ph := 6 } else { p with ph := 1, count := w })
  else if p.ph = 1 then { p with ph := 2, at_ := 1 }
  else if p.ph = 2 then (if p.at_ = 39 then laidL { p with ws := updW (updW p.ws 39 w) 0 p.count, at_ := 40 } else { p with ws := updW p.ws p.at_.toNat w, at_ := p.at_ + 1 })
  else if p.ph = 3 then { p with at_ := p.at_ + 1, ph := if p.at_ = 39 then 4 else 3 }
  else { p with ph := 5 }
/-- Its access; none: it has none, or may not be. -/
def needL (p : LayT) : Option AccT :=
  if rightL p && decide (p.ph ≤ 4) then
    some ⟨if p.ph = 0 ∨ p.ph = 2 then 1 else 2, 16 + 40 * p.sl + (if p.ph = 2 ∨ p.ph = 3 then p.at_ else 0), if p.ph = 1 then p.count + 1#64 else if p.ph = 3 then p.ws p.at_.toNat else if p.ph = 4 then p.count + 2#64 else 0#64⟩
  else none
/-- How many accesses it still makes, at most. -/
def measL (p : LayT) : Nat :=
  if p.ph = 0 then 100 else if p.ph = 1 then 99 else if p.ph = 2 then (98 - p.at_).toNat else if p.ph = 3 then (42 - p.at_).toNat else if p.ph = 4 then 1 else 0
end Go.Proofs.Hc
/- Layer 20, who lays a table anew, as a value: its cells. -/
namespace Go.Proofs.Hc
open Go.RowKit
def LayT.cell (p : LayT) : Nat → Value
  | 0 => I p.ph
  | 1 => I p.who
  | 2 => I p.sl
  | 3 => U p.seed
  | 4 => U p.count
  | 5 => I p.at_
  | i + 6 => if i < 40 then U (p.ws i) else .bool p.bad
def layC (p : LayT) : Array Value := Array.ofFn (n := 47) fun i => p.cell i.1
/-- Words in a row. -/
def wsC (ws : Nat → BitVec 64) : Array Value := Array.ofFn (n := 40) fun i => U (ws i.1)
theorem layC_size (p : LayT) : (layC p).size = 47 := by simp [layC]
theorem layC_get (p : LayT) (i : Nat) : (layC p)[i]? = if i < 47 then some (p.cell i) else none := by
  unfold layC; rw [Array.getElem?_ofFn]; simp
theorem layCell_one (p : LayT) (i : Nat) : (p.cell i).oneCell' = true := by
  unfold LayT.cell; split <;> try rfl
  split <;> rfl
theorem layC_one (p : LayT) : allOne (layC p) = true := by
  unfold allOne
  simp only [layC, Array.all_eq_true_iff_forall_mem, Array.mem_ofFn]; rintro v ⟨i, rfl⟩; exact layCell_one ..
theorem layC_all (p : LayT) : (layC p).extract 0 47 = layC p := by
  have := Array.extract_size (xs := layC p); rwa [layC_size] at this
theorem wsC_get (ws : Nat → BitVec 64) (i : Nat) : (wsC ws)[i]? = if i < 40 then some (U (ws i)) else none := by
  unfold wsC; rw [Array.getElem?_ofFn]; simp
theorem layC_ws (p : LayT) : (layC p).extract 6 46 = wsC p.ws := by
  apply Array.ext_getElem?; intro i
  rw [Array.getElem?_extract, layC_get, wsC_get, layC_size]
  by_cases h : i < 40
  · rw [if_pos (by omega), if_pos (by omega), if_pos h, Nat.add_comm]
    simp [LayT.cell, h]
  · rw [if_neg (by omega), if_neg h]
theorem lay_g0 (p : LayT) : (layC p)[0]? = some (I p.ph) := by rw [layC_get]; rfl
theorem lay_g1 (p : LayT) : (layC p)[1]? = some (I p.who) := by rw [layC_get]; rfl
theorem lay_g2 (p : LayT) : (layC p)[2]? = some (I p.sl) := by rw [layC_get]; rfl
theorem lay_g3 (p : LayT) : (layC p)[3]? = some (U p.seed) := by rw [layC_get]; rfl
theorem lay_g4 (p : LayT) : (layC p)[4]? = some (U p.count) := by rw [layC_get]; rfl
theorem lay_g5 (p : LayT) : (layC p)[5]? = some (I p.at_) := by rw [layC_get]; rfl
theorem lay_g46 (p : LayT) : (layC p)[46]? = some (.bool p.bad) := by rw [layC_get]; rfl
theorem layC_idx (p : LayT) (i : Nat) (h : i < (layC p).size) : (layC p)[i] = p.cell i := by simp [layC]
theorem lcell0 (p : LayT) : p.cell 0 = I p.ph := rfl
theorem lcell1 (p : LayT) : p.cell 1 = I p.who := rfl
theorem lcell2 (p : LayT) : p.cell 2 = I p.sl := rfl
theorem lcell3 (p : LayT) : p.cell 3 = U p.seed := rfl
theorem lcell4 (p : LayT) : p.cell 4 = U p.count := rfl
theorem lcell5 (p : LayT) : p.cell 5 = I p.at_ := rfl
theorem lcell46 (p : LayT) : p.cell 46 = .bool p.bad := rfl
theorem lay_gw (p : LayT) (j : Nat) (h : j < 40) : (layC p)[6 + j]? = some (U (p.ws j)) := by
  rw [layC_get, if_pos (by omega), Nat.add_comm]; simp [LayT.cell, h]
theorem lset {p p' : LayT} {j : Nat} {x : Value} (hj : j < 47) (hx : p'.cell j = x) (ho : ∀ i, i < 47 → i ≠ j → p'.cell i = p.cell i) :
    (layC p).setIfInBounds j x = layC p' := by
  apply Array.ext_getElem?; intro i
  rw [Array.getElem?_setIfInBounds, layC_get, layC_get, layC_size]
  by_cases h : j = i
  · subst h; simp [hj, hx]
  · rw [if_neg h]
    by_cases h2 : i < 47
    · simp only [h2, if_true]; rw [ho i h2 (fun e => h e.symm)]
    · simp [h2]
theorem lay_s0 (p : LayT) (x : Int) : (layC p).setIfInBounds 0 (I x) = layC { p with ph := x } :=
  lset (by omega) rfl (fun i _ h => by unfold LayT.cell; split <;> first | rfl | omega)
theorem lay_s4 (p : LayT) (x : BitVec 64) : (layC p).setIfInBounds 4 (U x) = layC { p with count := x } :=
  lset (by omega) rfl (fun i _ h => by unfold LayT.cell; split <;> first | rfl | omega)
theorem lay_s5 (p : LayT) (x : Int) : (layC p).setIfInBounds 5 (I x) = layC { p with at_ := x } :=
  lset (by omega) rfl (fun i _ h => by unfold LayT.cell; split <;> first | rfl | omega)
theorem lay_s46 (p : LayT) (x : Bool) : (layC p).setIfInBounds 46 (.bool x) = layC { p with bad := x } := by
  refine lset (by omega) rfl (fun i hi h => ?_)
  unfold LayT.cell
  split <;> first | rfl | skip
  rename_i i
  rw [if_pos (by omega), if_pos (by omega)]
theorem lay_sw (p : LayT) (j : Nat) (hj : j < 40) (x : BitVec 64) : (layC p).setIfInBounds (6 + j) (U x) = layC { p with ws := updW p.ws j x } := by
  refine lset (by omega) ?_ (fun i hi h => ?_)
  · rw [Nat.add_comm]; simp [LayT.cell, hj, updW]
  · unfold LayT.cell
    split <;> first | rfl | skip
    rename_i i
    by_cases h2 : i < 40
    · simp [h2, updW, show i ≠ j by omega]
    · simp [h2]
theorem boxLay (p : LayT) (w : World) : (Instr.box 72 (.agg (layC p))).run Tryz.prog w = .ok (.pointer (some ⟨w.heap.size, 0, none⟩)) (w.alloc (.cells (layC p) 72)) := rfl
theorem loadLay (g o : Nat) (w : World) : (loadRow 72 ⟨g, o, none⟩).run Tryz.prog w = rowRes Tryz.prog 72 g o w ((w.heap[g]?).bind (rowAt o 47)) :=
  run_row Tryz.underlying72 rfl (by kernel_rfl) g o w
theorem storeLay (g o : Nat) (vs : Array Value) (w : World) : (storeRow 72 ⟨g, o, none⟩ (.agg vs)).run Tryz.prog w = layRes Tryz.prog 72 g o vs w (((w.heap[g]?).map (canLay o 47 vs)).getD false) :=
  run_lay (by kernel_rfl) g o vs w
theorem lrowLay (a : Addr) : loadVar 72 a = loadRow 72 a := rfl
theorem srowLay (a : Addr) (v : Value) : storeVar 72 a v = storeRow 72 a v := rfl
theorem browLay (ps : Array (Nat × Value)) : Instr.build 72 ps = buildRow 72 ps := rfl
theorem brow_lay (ps : Array (Nat × Value)) : Instr.build 163 ps = buildRow 163 ps := rfl
theorem build_lay (p : LayT) (w : World) : (buildRow 163 #[(0, .agg (layC p))]).run Tryz.prog w = .ok (.agg (layC p)) w := by kernel_rfl
theorem box_lay (p : LayT) (w : World) : (Instr.box 163 (.agg (layC p))).run Tryz.prog w = .ok (.pointer (some ⟨w.heap.size, 0, none⟩)) (w.alloc (.cells (layC p) 163)) := rfl
theorem zeroLay_run (w : World) : (zeroValue 72).run Tryz.prog w = .ok (.agg (layC zeroLay)) w := by kernel_rfl
theorem laidAt_lay (p q : LayT) (T : TypeId) (fr : Nat × Nat) : laidAt 0 (layC q) (.cells (layC p) T fr) = .cells (layC q) T fr := by
  rw [laidAt_cells, laid_whole _ _ (by rw [layC_size, layC_size])]
theorem buildLay0 (w : World) : (buildRow 72 #[]).run Tryz.prog w = .ok (.agg (layC zeroLay)) w := by kernel_rfl
def firstL (who sl : Int) (seed : BitVec 64) : LayT := ⟨0, who, sl, seed, 0#64, 0, fun _ => 0#64, false⟩
theorem buildLay3 (who sl : Int) (seed : BitVec 64) (w : World) : (buildRow 72 #[(1, I who), (2, I sl), (3, U seed)]).run Tryz.prog w = .ok (.agg (layC (firstL who sl seed))) w := by kernel_rfl
theorem buildLay2 (sl : Int) (seed : BitVec 64) (w : World) : (buildRow 72 #[(2, I sl), (3, U seed)]).run Tryz.prog w = .ok (.agg (layC (firstL 0 sl seed))) w := by kernel_rfl
end Go.Proofs.Hc
