/- The answers of package table that hold whole tables: a table with two numbers, a pair of tables. -/
import Derived.Test.YtmfajobocpaimaaGreatKHni
import Derived.Test.YtmfajobocpaimaaGreatKHq
import Derived.Test.YtmfajobocpaimaaGreatKHr
import Derived.Test.YtmfajobocpaimaaGreatKHop2
import Derived.Below
import Derived.BigQuiet
import Derived.Deep.Draws
import Derived.Deep.QuietTactic
import Derived.Laws.CopyRow
import Derived.Laws.Tables
import Derived.Lib.Hide
import Derived.RangeFuncRecord
import Derived.Test.YtmfajobocpaimaaGreatProg
import Derived.WalkKit
import Derived.Recover
import Derived.WalkLawsBesides
import Derived.Lib.Tables
import Derived.LoopIn
import Derived.LoopNIn
import Derived.Maps.AppendAt
import Derived.OwnWalkIn
import Derived.RangeFuncBox
import Derived.RangeFuncCalls
import Derived.RangeFuncSeq
import Derived.RegionTactic
import Derived.Shelf.Slices.Clone
import Derived.StillTail
import Derived.TacticsInMore
import Derived.WalkMore
import Derived.WalkSpells
import Derived.Lib.AppendZerosOnto
import Derived.Lib.Walk
import Derived.LoopN
import Derived.Deep.Light
import Derived.Deep.RegionHeld
import Derived.Maps.Views
import Derived.StillTailTactics
set_option linter.unusedSimpArgs false
set_option linter.unusedVariables false
namespace Go.Proofs.Hc
open Go.RowKit
structure At where
  t : Tab
  slot : Int
  many : Int
def acells (a : At) : Array Value := Array.ofFn (n := 41) fun i => if i.1 = 39 then I a.slot else if i.1 = 40 then I a.many else a.t.cell i.1
def zeroA : At := ⟨zeroT, 0, 0⟩
structure T2 where
  l : Tab
  r : Tab
def t2cells (a : T2) : Array Value := Array.ofFn (n := 78) fun i => if i.1 < 39 then a.l.cell i.1 else a.r.cell (i.1 - 39)
def zeroT2 : T2 := ⟨zeroT, zeroT⟩
theorem acells_size (t : At) : (acells t).size = 41 := by simp [acells]
theorem t2cells_size (t : T2) : (t2cells t).size = 78 := by simp [t2cells]
theorem acells_get (t : At) (i : Nat) : (acells t)[i]? = if i < 41 then some (if i = 39 then I t.slot else if i = 40 then I t.many else t.t.cell i) else none := by
  unfold acells; rw [Array.getElem?_ofFn]; simp
theorem t2cells_get (t : T2) (i : Nat) : (t2cells t)[i]? = if i < 78 then some (if i < 39 then t.l.cell i else t.r.cell (i - 39)) else none := by
  unfold t2cells; rw [Array.getElem?_ofFn]; simp
theorem acells_one (t : At) : allOne (acells t) = true := by
  unfold allOne
  simp only [acells, Array.all_eq_true_iff_forall_mem, Array.mem_ofFn]; rintro v ⟨i, rfl⟩; split; rfl; split; rfl; exact cell_one ..
theorem t2cells_one (t : T2) : allOne (t2cells t) = true := by
  unfold allOne
  simp only [t2cells, Array.all_eq_true_iff_forall_mem, Array.mem_ofFn]; rintro v ⟨i, rfl⟩; split <;> exact cell_one ..
theorem acells_table (t : At) : (acells t).extract 0 39 = tcells t.t := by
  apply Array.ext_getElem?; intro i
  rw [Array.getElem?_extract, tcells_get, acells_get, acells_size]
  by_cases h : i < 39
  · simp [h, show i < 41 by omega, show i ≠ 39 by omega, show i ≠ 40 by omega]
  · simp [h]
theorem acells_all (t : At) : (acells t).extract 0 41 = acells t := by
  have := Array.extract_size (xs := acells t); rwa [acells_size] at this
theorem t2cells_all (t : T2) : (t2cells t).extract 0 78 = t2cells t := by
  have := Array.extract_size (xs := t2cells t); rwa [t2cells_size] at this
theorem t2cells_l (t : T2) : (t2cells t).extract 0 39 = tcells t.l := by
  apply Array.ext_getElem?; intro i
  rw [Array.getElem?_extract, tcells_get, t2cells_get, t2cells_size]
  by_cases h : i < 39
  · simp [h, show i < 78 by omega]
  · simp [h]
theorem t2cells_r (t : T2) : (t2cells t).extract 39 78 = tcells t.r := by
  apply Array.ext_getElem?; intro i
  rw [Array.getElem?_extract, tcells_get, t2cells_get, t2cells_size]
  by_cases h : i < 39
  · simp [h, show 39 + i < 78 by omega, show ¬ 39 + i < 39 by omega]
  · simp [h]
theorem lrowA (a : Addr) : loadVar 130 a = loadRow 130 a := rfl
theorem lrowT2 (a : Addr) : loadVar 35 a = loadRow 35 a := rfl
theorem srowA (a : Addr) (v : Value) : storeVar 130 a v = storeRow 130 a v := rfl
theorem srowT2 (a : Addr) (v : Value) : storeVar 35 a v = storeRow 35 a v := rfl
theorem browA (ps : Array (Nat × Value)) : Instr.build 130 ps = buildRow 130 ps := rfl
theorem loadA (g o : Nat) (w : World) : (loadRow 130 ⟨g, o, none⟩).run Tryz.prog w = rowRes Tryz.prog 130 g o w ((w.heap[g]?).bind (rowAt o 41)) :=
  run_row Tryz.underlying130 rfl (by kernel_rfl) g o w
theorem loadT2 (g o : Nat) (w : World) : (loadRow 35 ⟨g, o, none⟩).run Tryz.prog w = rowRes Tryz.prog 35 g o w ((w.heap[g]?).bind (rowAt o 78)) :=
  run_row Tryz.underlying35 rfl (by kernel_rfl) g o w
theorem storeA (g o : Nat) (vs : Array Value) (w : World) : (storeRow 130 ⟨g, o, none⟩ (.agg vs)).run Tryz.prog w = layRes Tryz.prog 130 g o vs w (((w.heap[g]?).map (canLay o 41 vs)).getD false) :=
  run_lay (by kernel_rfl) g o vs w
theorem storeT2 (g o : Nat) (vs : Array Value) (w : World) : (storeRow 35 ⟨g, o, none⟩ (.agg vs)).run Tryz.prog w = layRes Tryz.prog 35 g o vs w (((w.heap[g]?).map (canLay o 78 vs)).getD false) :=
  run_lay (by kernel_rfl) g o vs w
theorem zeroA_run (w : World) : (zeroValue 130).run Tryz.prog w = .ok (.agg (acells zeroA)) w := by kernel_rfl
theorem zeroT2_run (w : World) : (zeroValue 35).run Tryz.prog w = .ok (.agg (t2cells zeroT2)) w := by kernel_rfl
theorem buildA_ts (t : Tab) (n : Int) (w : World) : (buildRow 130 #[(0, .agg (tcells t)), (1, I n)]).run Tryz.prog w = .ok (.agg (acells ⟨t, n, 0⟩)) w := by kernel_rfl
theorem buildA_sm (n m : Int) (w : World) : (buildRow 130 #[(1, I n), (2, I m)]).run Tryz.prog w = .ok (.agg (acells ⟨zeroT, n, m⟩)) w := by kernel_rfl
theorem assert_errno (v : Value) (w : World) : (Instr.typeAssert (.iface 32 v) 20 32 true).run Tryz.prog w = .ok (.tuple #[v, .bool true]) w := by kernel_rfl
theorem make_func (fn : Fn) (first cap : Array Value) (w : World) : (Instr.makeFunc fn first cap).run Tryz.prog w = .ok (.func fn first cap) w := rfl
end Go.Proofs.Hc
/- Package ctrl: its words, and what is tried on them. -/
namespace Go.Proofs.Hc
open Go.RowKit
attribute [local go_sem] wrap_u64 wrap_u8 bits_xor64 bits_and64 bits_or64 bits_not64 bits_xor8 bits_and8 bits_or8 signed64 signed8 ofInt_N BitVec.ofInt_add BitVec.ofInt_mul ofInt_sub' ofInt8_N64 ofInt64_N8 wide8 eqN neN shr_pow shr1 shr7 shr56
attribute [local go_sem high] bits_com64 shl_wrap
attribute [local go_sem] make_func1 assert_errno
attribute [local go_sem] nn2 nm2 nn3 nm3 nn4 nm4 nn5 nm5 nn6 nm6 nn7 nm7 nn8 nm8
attribute [local go_sem] cell_heap ice_heap cellAt_cells iceAt_cells setAt_cells size_setCell
attribute [local go_sem ↓] heap_alloc heap_drew heap_drewN heap_setCell
def fullM (c : BitVec 64) : BitVec 8 := belowM c 128#8
def emptyM (c : BitVec 64) : BitVec 8 := equalM c 128#8
def delM (c : BitVec 64) : BitVec 8 := equalM c 254#8
end Go.Proofs.Hc
/- Package layout: flat, top, Has. -/
namespace Go.Proofs.Hc
open Go.RowKit
attribute [local go_sem] wrap_u64 wrap_u8 bits_xor64 bits_and64 bits_or64 bits_not64 bits_xor8 bits_and8 bits_or8 signed64 signed8 ofInt_N BitVec.ofInt_add BitVec.ofInt_mul ofInt_sub' ofInt8_N64 ofInt64_N8 wide8 eqN neN shr_pow shr1 shr7 shr56
attribute [local go_sem high] bits_com64 shl_wrap
attribute [local go_sem] cell_heap ice_heap cellAt_cells iceAt_cells setAt_cells rowAt_cells canLay_cells laidAt_cells size_onObj size_setCell rowRes_some layRes_true
attribute [local go_sem] load26 load73 load23 store26 build73
attribute [local go_sem ↓] lrow26 lrow73 lrow23 srow26 zero26 brow73 heap_alloc heap_drew heap_drewN heap_setCell heap_onObj
attribute [local go_sem] tcells_size hcells_size tcells_get hcells_get tcells_one hcells_one hcells_table tcells_table hcells_all hcells_ctrl tcells_ctrl
attribute [local go_sem] nn2 nm2 nn3 nm3 nn4 nm4 nn5 nm5 nn6 nm6 nn7 nm7 nn8 nm8
attribute [local go_sem] nn2 nm2 nn3 nm3 nn4 nm4 nn5 nm5 nn6 nm6 nn7 nm7 nn8 nm8
theorem box26 (t : Tab) (w : World) : (Instr.box 26 (.agg (tcells t))).run Tryz.prog w = .ok (.pointer (some ⟨w.heap.size, 0, none⟩)) (w.alloc (.cells (tcells t) 26)) := rfl
theorem tcells_idx (t : Tab) (i : Nat) (h : i < (tcells t).size) : (tcells t)[i] = t.cell i := by simp [tcells]
theorem cell0 (t : Tab) : t.cell 0 = U t.count := rfl
theorem cell1 (t : Tab) : t.cell 1 = I t.depth := rfl
theorem cell2 (t : Tab) : t.cell 2 = U t.pre := rfl
theorem cell3 (t : Tab) : t.cell 3 = I t.can := rfl
theorem cell4 (t : Tab) : t.cell 4 = I t.live := rfl
attribute [local go_sem] box26 tcells_idx cell0 cell1 cell2 cell3 cell4
/-- May a table's numbers be such? -/
def flatT (t : Tab) : Bool :=
  decide (0 ≤ t.depth) && decide (t.depth ≤ 5) && (N (t.pre >>> t.depth.toNat) == 0) && (decide (0 ≤ t.can) && decide (t.can ≤ 14)) && (decide (0 ≤ t.live) && decide (t.live ≤ 14))
/-- The top bits of a hash. -/
def topT (h : BitVec 64) (d : Int) : BitVec 64 := h >>> 1 >>> (63 - d).toNat
/-- Does a hash go to a table? -/
def hasT (t : Tab) (h : BitVec 64) : Bool := flatT t && (topT h t.depth == t.pre)
end Go.Proofs.Hc
/- Package table: a key's byte, whether it goes, and its row of groups. -/
namespace Go.Proofs.Hc
open Go.RowKit
attribute [local go_sem] wrap_u64 wrap_u8 bits_xor64 bits_and64 bits_or64 bits_not64 bits_xor8 bits_and8 bits_or8 signed64 signed8 ofInt_N BitVec.ofInt_add BitVec.ofInt_mul ofInt_sub' ofInt8_N64 ofInt64_N8 wide8 eqN neN shr_pow shr1 shr7 shr56
attribute [local go_sem high] bits_com64 shl_wrap
attribute [local go_sem] cell_heap ice_heap cellAt_cells iceAt_cells setAt_cells rowAt_cells canLay_cells laidAt_cells size_onObj size_setCell rowRes_some layRes_true
attribute [local go_sem] load26 load73 load23 store26 build73
attribute [local go_sem ↓] lrow26 lrow73 lrow23 srow26 zero26 brow73 heap_alloc heap_drew heap_drewN heap_setCell heap_onObj
attribute [local go_sem] tcells_size hcells_size tcells_get hcells_get tcells_one hcells_one hcells_table tcells_table hcells_all hcells_ctrl tcells_ctrl
attribute [local go_sem] nn2 nm2 nn3 nm3 nn4 nm4 nn5 nm5 nn6 nm6 nn7 nm7 nn8 nm8
attribute [local go_sem] nn2 nm2 nn3 nm3 nn4 nm4 nn5 nm5 nn6 nm6 nn7 nm7 nn8 nm8
attribute [local go_sem] make_func1
attribute [local go_sem] box26 tcells_idx cell0 cell1 cell2 cell3 cell4
theorem hcells_idx (t : Tab) (s : BitVec 64) (i : Nat) (h : i < (hcells t s).size) : (hcells t s)[i] = if i = 39 then U s else t.cell i := by simp [hcells]
theorem hcells_pop (t : Tab) (s : BitVec 64) : (hcells t s).pop = tcells t := by
  rw [← hcells_table t s, Array.extract_eq_pop (by rw [hcells_size])]
attribute [local go_sem] hcells_idx hcells_pop
end Go.Proofs.Hc
/- Package table: the row of a key's groups, told one by one. -/
namespace Go.Proofs.Hc
open Go.RowKit
attribute [local go_sem] wrap_u64 wrap_u8 bits_xor64 bits_and64 bits_or64 bits_not64 bits_xor8 bits_and8 bits_or8 signed64 signed8 ofInt_N BitVec.ofInt_add BitVec.ofInt_mul ofInt_sub' ofInt8_N64 ofInt64_N8 wide8 eqN neN shr_pow shr1 shr7 shr56
attribute [local go_sem high] bits_com64 shl_wrap
attribute [local go_sem] cell_heap ice_heap cellAt_cells iceAt_cells setAt_cells rowAt_cells canLay_cells laidAt_cells size_onObj size_setCell rowRes_some layRes_true
attribute [local go_sem] load26 load73 load23 store26 build73
attribute [local go_sem ↓] lrow26 lrow73 lrow23 srow26 zero26 brow73 heap_alloc heap_drew heap_drewN heap_setCell heap_onObj
attribute [local go_sem] tcells_size hcells_size tcells_get hcells_get tcells_one hcells_one hcells_table tcells_table hcells_all hcells_ctrl tcells_ctrl
attribute [local go_sem] nn2 nm2 nn3 nm3 nn4 nm4 nn5 nm5 nn6 nm6 nn7 nm7 nn8 nm8
attribute [local go_sem] nn2 nm2 nn3 nm3 nn4 nm4 nn5 nm5 nn6 nm6 nn7 nm7 nn8 nm8
attribute [local go_sem] Oper.semAt_some make_func1
attribute [local go_sem] box26 tcells_idx cell0 cell1 cell2 cell3 cell4 hcells_idx hcells_pop
/-- The first group of a key. -/
def gOf (s k : BitVec 64) : Nat := g0 (hash1 (hashOf s k))
/-- A key's groups, as long as their control words do not stop. -/
def rowT (t : Tab) (s k : BitVec 64) : List Nat := if emptyM (t.c (gOf s k)) != 0#8 then [gOf s k] else [gOf s k, 1 - gOf s k]
theorem cell5 (t : Tab) : t.cell 5 = U (t.c 0) := rfl
theorem cell6 (t : Tab) : t.cell 6 = U (t.c 1) := rfl
attribute [local go_sem] cell5 cell6
end Go.Proofs.Hc
/- Package table: does who looks for a key come to a group? -/
namespace Go.Proofs.Hc
open Go.RowKit
attribute [local go_sem] wrap_u64 wrap_u8 bits_xor64 bits_and64 bits_or64 bits_not64 bits_xor8 bits_and8 bits_or8 signed64 signed8 ofInt_N BitVec.ofInt_add BitVec.ofInt_mul ofInt_sub' ofInt8_N64 ofInt64_N8 wide8 eqN neN shr_pow shr1 shr7 shr56
attribute [local go_sem high] bits_com64 shl_wrap
attribute [local go_sem] cell_heap ice_heap cellAt_cells iceAt_cells setAt_cells rowAt_cells canLay_cells laidAt_cells size_onObj size_setCell rowRes_some layRes_true
attribute [local go_sem] load26 load73 load23 store26 build73
attribute [local go_sem ↓] lrow26 lrow73 lrow23 srow26 zero26 brow73 heap_alloc heap_drew heap_drewN heap_setCell heap_onObj
attribute [local go_sem] tcells_size hcells_size tcells_get hcells_get tcells_one hcells_one hcells_table tcells_table hcells_all hcells_ctrl tcells_ctrl
attribute [local go_sem] nn2 nm2 nn3 nm3 nn4 nm4 nn5 nm5 nn6 nm6 nn7 nm7 nn8 nm8
attribute [local go_sem] nn2 nm2 nn3 nm3 nn4 nm4 nn5 nm5 nn6 nm6 nn7 nm7 nn8 nm8
attribute [local go_sem] Oper.semAt_some make_func1
attribute [local go_sem] box26 tcells_idx cell0 cell1 cell2 cell3 cell4 hcells_idx hcells_pop
theorem results_cell1 {P : Program} {fn : Func} {p : Tmp} {T1 : TypeId} (h : fn.results = #[.cell p T1]) (tmps : Array Value) (a : Addr) (w : World) {x : Value}
    (hp : tmps.getD p undef = .pointer (some a)) (h1 : (loadVar T1 a).run P w = .ok x w) : (results fn tmps).run P w = .ok x w := by
  have hp' : tmps[p]?.getD undef = .pointer (some a) := by simpa using hp
  simp [results, h, hp', asAddr, h1]
end Go.Proofs.Hc
/- Package table: sure, bare, and whether a table has a key. -/
namespace Go.Proofs.Hc
open Go.RowKit
attribute [local go_sem] wrap_u64 wrap_u8 bits_xor64 bits_and64 bits_or64 bits_not64 bits_xor8 bits_and8 bits_or8 signed64 signed8 ofInt_N BitVec.ofInt_add BitVec.ofInt_mul ofInt_sub' ofInt8_N64 ofInt64_N8 wide8 eqN neN shr_pow shr1 shr7 shr56
attribute [local go_sem high] bits_com64 shl_wrap
attribute [local go_sem] cell_heap ice_heap cellAt_cells iceAt_cells setAt_cells rowAt_cells canLay_cells laidAt_cells size_onObj size_setCell rowRes_some layRes_true
attribute [local go_sem] load26 load73 load23 store26 build73
attribute [local go_sem ↓] lrow26 lrow73 lrow23 srow26 zero26 brow73 heap_alloc heap_drew heap_drewN heap_setCell heap_onObj
attribute [local go_sem] tcells_size hcells_size tcells_get hcells_get tcells_one hcells_one hcells_table tcells_table hcells_all hcells_ctrl tcells_ctrl
attribute [local go_sem] nn2 nm2 nn3 nm3 nn4 nm4 nn5 nm5 nn6 nm6 nn7 nm7 nn8 nm8
attribute [local go_sem] nn2 nm2 nn3 nm3 nn4 nm4 nn5 nm5 nn6 nm6 nn7 nm7 nn8 nm8
attribute [local go_sem] Oper.semAt_some make_func1
attribute [local go_sem] box26 tcells_idx cell0 cell1 cell2 cell3 cell4 hcells_idx hcells_pop
attribute [local go_sem] cell5 cell6
/-- A table of empty slots. -/
def bareT (count : BitVec 64) (d : Int) (p : BitVec 64) : Tab := ⟨count, d, p, 14, 0, fun _ => tops, fun _ => 0#64, fun _ => 0#64⟩
end Go.Proofs.Hc
