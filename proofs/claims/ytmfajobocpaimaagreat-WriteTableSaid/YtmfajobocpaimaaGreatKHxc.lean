/- Tables as values: their cells. -/
import Derived.Test.YtmfajobocpaimaaGreatKHm
import Derived.Below
import Derived.BigQuiet
import Derived.Deep.Draws
import Derived.Deep.QuietTactic
import Derived.Laws.CopyRow
import Derived.Laws.Tables
import Derived.Lib.Hide
import Derived.RangeFuncRecord
import Derived.Test.YtmfajobocpaimaaGreatProg
import Derived.WalkKit
import Derived.Lib.AppendZerosOnto
import Derived.Lib.Tables
import Derived.Lib.Walk
import Derived.LoopIn
import Derived.LoopN
import Derived.LoopNIn
import Derived.Maps.AppendAt
import Derived.OwnWalkIn
import Derived.RangeFuncBox
import Derived.RangeFuncCalls
import Derived.RangeFuncSeq
import Derived.Recover
import Derived.RegionTactic
import Derived.Shelf.Slices.Clone
import Derived.StillTail
import Derived.TacticsInMore
import Derived.WalkLawsBesides
import Derived.WalkMore
import Derived.WalkSpells
import Derived.Maps.Views
import Derived.Deep.Light
import Derived.Deep.RegionHeld
import Derived.Laws.StructEq
import Derived.StillTailTactics
set_option linter.unusedSimpArgs false
set_option linter.unusedVariables false
namespace Go.Proofs.Hc
open Go.RowKit
structure Tab where
  count : BitVec 64
  depth : Int
  pre : BitVec 64
  can : Int
  live : Int
  c : Nat → BitVec 64
  k : Nat → BitVec 64
  v : Nat → BitVec 64
/-- The i-th cell of a table. -/
def Tab.cell (t : Tab) : Nat → Value
  | 0 => U t.count
  | 1 => I t.depth
  | 2 => U t.pre
  | 3 => I t.can
  | 4 => I t.live
  | 5 => U (t.c 0)
  | 6 => U (t.c 1)
  | i + 7 => if i < 16 then U (t.k i) else U (t.v (i - 16))
def tcells (t : Tab) : Array Value := Array.ofFn (n := 39) fun i => t.cell i.1
def hcells (t : Tab) (s : BitVec 64) : Array Value := Array.ofFn (n := 40) fun i => if i.1 = 39 then U s else t.cell i.1
def zeroT : Tab := ⟨0#64, 0, 0#64, 0, 0, fun _ => 0#64, fun _ => 0#64, fun _ => 0#64⟩
theorem tcells_size (t : Tab) : (tcells t).size = 39 := by simp [tcells]
theorem hcells_size (t : Tab) (s : BitVec 64) : (hcells t s).size = 40 := by simp [hcells]
theorem tcells_get (t : Tab) (i : Nat) : (tcells t)[i]? = if i < 39 then some (t.cell i) else none := by
  unfold tcells; rw [Array.getElem?_ofFn]; simp
theorem hcells_get (t : Tab) (s : BitVec 64) (i : Nat) : (hcells t s)[i]? = if i < 40 then some (if i = 39 then U s else t.cell i) else none := by
  unfold hcells; rw [Array.getElem?_ofFn]; simp
theorem cell_one (t : Tab) (i : Nat) : (t.cell i).oneCell' = true := by
  unfold Tab.cell; split <;> try rfl
  split <;> rfl
theorem tcells_one (t : Tab) : allOne (tcells t) = true := by
  unfold allOne
  simp only [tcells, Array.all_eq_true_iff_forall_mem, Array.mem_ofFn]; rintro v ⟨i, rfl⟩; exact cell_one ..
theorem hcells_one (t : Tab) (s : BitVec 64) : allOne (hcells t s) = true := by
  unfold allOne
  simp only [hcells, Array.all_eq_true_iff_forall_mem, Array.mem_ofFn]; rintro v ⟨i, rfl⟩; split; rfl; exact cell_one ..
theorem hcells_table (t : Tab) (s : BitVec 64) : (hcells t s).extract 0 39 = tcells t := by
  apply Array.ext_getElem?; intro i
  rw [Array.getElem?_extract, tcells_get, hcells_get, hcells_size]
  by_cases h : i < 39
  · simp [h, show i < 40 by omega, show i ≠ 39 by omega]
  · simp [h]
theorem tcells_table (t : Tab) : (tcells t).extract 0 39 = tcells t := by
  have := Array.extract_size (xs := tcells t); rwa [tcells_size] at this
theorem hcells_all (t : Tab) (s : BitVec 64) : (hcells t s).extract 0 40 = hcells t s := by
  have := Array.extract_size (xs := hcells t s); rwa [hcells_size] at this
theorem hcells_ctrl (t : Tab) (s : BitVec 64) : (hcells t s).extract 5 7 = #[U (t.c 0), U (t.c 1)] := by
  apply Array.ext_getElem?; intro i
  rw [Array.getElem?_extract, hcells_get, hcells_size]
  match i with
  | 0 => simp [Tab.cell]
  | 1 => simp [Tab.cell]
  | i + 2 => simp; omega
theorem tcells_ctrl (t : Tab) : (tcells t).extract 5 7 = #[U (t.c 0), U (t.c 1)] := by
  apply Array.ext_getElem?; intro i
  rw [Array.getElem?_extract, tcells_get, tcells_size]
  match i with
  | 0 => simp [Tab.cell]
  | 1 => simp [Tab.cell]
  | i + 2 => simp; omega
theorem hcells_key (t : Tab) (s : BitVec 64) (i : Nat) (h : i < 16) : (hcells t s)[7 + i]? = some (U (t.k i)) := by
  rw [hcells_get, if_pos (by omega), if_neg (by omega), Nat.add_comm]; simp [Tab.cell, h]
theorem hcells_val (t : Tab) (s : BitVec 64) (i : Nat) (h : i < 16) : (hcells t s)[23 + i]? = some (U (t.v i)) := by
  rw [hcells_get, if_pos (by omega), if_neg (by omega), show 23 + i = (16 + i) + 7 by omega]; simp [Tab.cell, show ¬ 16 + i < 16 by omega]
theorem tcells_val (t : Tab) (i : Nat) (h : i < 16) : (tcells t)[23 + i]? = some (U (t.v i)) := by
  rw [tcells_get, if_pos (by omega), show 23 + i = (16 + i) + 7 by omega]; simp [Tab.cell, show ¬ 16 + i < 16 by omega]
theorem hset {t t' : Tab} {s s' : BitVec 64} {j : Nat} {x : Value} (hj : j < 39) (hx : t'.cell j = x) (ho : ∀ i, i < 39 → i ≠ j → t'.cell i = t.cell i) (hs : s = s') :
    (hcells t s).setIfInBounds j x = hcells t' s' := by
  subst hs
  apply Array.ext_getElem?; intro i
  rw [Array.getElem?_setIfInBounds, hcells_get, hcells_get, hcells_size]
  by_cases h : j = i
  · subst h; simp [show j < 40 by omega, show j ≠ 39 by omega, hx]
  · rw [if_neg h]
    by_cases h2 : i < 40
    · simp only [h2, if_true]
      by_cases h3 : i = 39
      · simp [h3]
      · simp only [h3, if_false]; rw [ho i (by omega) (fun e => h e.symm)]
    · simp [h2]
theorem hset_can (t : Tab) (s : BitVec 64) (x : Int) : (hcells t s).setIfInBounds 3 (I x) = hcells { t with can := x } s :=
  hset (by omega) rfl (fun i _ h => by unfold Tab.cell; split <;> first | rfl | omega) rfl
theorem hset_live (t : Tab) (s : BitVec 64) (x : Int) : (hcells t s).setIfInBounds 4 (I x) = hcells { t with live := x } s :=
  hset (by omega) rfl (fun i _ h => by unfold Tab.cell; split <;> first | rfl | omega) rfl
theorem hset_ctrl (t : Tab) (s : BitVec 64) (g : Nat) (hg : g < 2) (x : BitVec 64) : (hcells t s).setIfInBounds (5 + g) (U x) = hcells { t with c := fun i => if i = g then x else t.c i } s := by
  refine hset (by omega) ?_ (fun i _ h => ?_) rfl
  · match g, hg with
    | 0, _ => rfl
    | 1, _ => rfl
  · unfold Tab.cell
    split <;> first | rfl | skip
    · simp [show (0 : Nat) ≠ g by omega]
    · simp [show (1 : Nat) ≠ g by omega]
theorem hset_key (t : Tab) (s : BitVec 64) (j : Nat) (hj : j < 16) (x : BitVec 64) : (hcells t s).setIfInBounds (7 + j) (U x) = hcells { t with k := fun i => if i = j then x else t.k i } s := by
  refine hset (by omega) ?_ (fun i hi h => ?_) rfl
  · rw [Nat.add_comm]; simp [Tab.cell, hj]
  · unfold Tab.cell
    split <;> first | rfl | skip
    rename_i i
    by_cases h2 : i < 16
    · simp [h2, show i ≠ j by omega]
    · simp [h2]
theorem hset_val (t : Tab) (s : BitVec 64) (j : Nat) (hj : j < 16) (x : BitVec 64) : (hcells t s).setIfInBounds (23 + j) (U x) = hcells { t with v := fun i => if i = j then x else t.v i } s := by
  refine hset (by omega) ?_ (fun i hi h => ?_) rfl
  · rw [show 23 + j = (16 + j) + 7 by omega]; simp [Tab.cell, show ¬ 16 + j < 16 by omega]
  · unfold Tab.cell
    split <;> first | rfl | skip
    rename_i i
    by_cases h2 : i < 16
    · simp [h2]
    · simp [h2, show i - 16 ≠ j by omega]
/- What the walk does with whole tables. -/
theorem load26 (g o : Nat) (w : World) : (loadRow 26 ⟨g, o, none⟩).run Tryz.prog w = rowRes Tryz.prog 26 g o w ((w.heap[g]?).bind (rowAt o 39)) :=
  run_row Tryz.underlying26 rfl (by kernel_rfl) g o w
theorem load73 (g o : Nat) (w : World) : (loadRow 112 ⟨g, o, none⟩).run Tryz.prog w = rowRes Tryz.prog 112 g o w ((w.heap[g]?).bind (rowAt o 40)) :=
  run_row Tryz.underlying112 rfl (by kernel_rfl) g o w
theorem load23 (g o : Nat) (w : World) : (loadRow 23 ⟨g, o, none⟩).run Tryz.prog w = rowRes Tryz.prog 23 g o w ((w.heap[g]?).bind (rowAt o 2)) :=
  run_row Tryz.underlying23 rfl (by kernel_rfl) g o w
theorem store26 (g o : Nat) (vs : Array Value) (w : World) : (storeRow 26 ⟨g, o, none⟩ (.agg vs)).run Tryz.prog w = layRes Tryz.prog 26 g o vs w (((w.heap[g]?).map (canLay o 39 vs)).getD false) :=
  run_lay (by kernel_rfl) g o vs w
theorem lrow26 (a : Addr) : loadVar 26 a = loadRow 26 a := rfl
theorem lrow73 (a : Addr) : loadVar 112 a = loadRow 112 a := rfl
theorem lrow23 (a : Addr) : loadVar 23 a = loadRow 23 a := rfl
theorem srow26 (a : Addr) (v : Value) : storeVar 26 a v = storeRow 26 a v := rfl
theorem zero26 (w : World) : (zeroValue 26).run Tryz.prog w = .ok (.agg (tcells zeroT)) w := by kernel_rfl
theorem brow73 (ps : Array (Nat × Value)) : Instr.build 112 ps = buildRow 112 ps := rfl
theorem build73 (t : Tab) (s : BitVec 64) (w : World) : (buildRow 112 #[(0, .agg (tcells t)), (1, U s)]).run Tryz.prog w = .ok (.agg (hcells t s)) w := by kernel_rfl
end Go.Proofs.Hc
/- The answers of package table that hold whole tables: a table with two numbers, a pair of tables. -/
namespace Go.Proofs.Hc
open Go.RowKit
structure At where
  t : Tab
  slot : Int
  many : Int
def acells (a : At) : Array Value := Array.ofFn (n := 41) fun i => if i.1 = 39 then I a.slot else if i.1 = 40 then I a.many else a.t.cell i.1
def zeroA : At := ⟨zeroT, 0, 0⟩
structure T2 where
  l : Tab
  r : Tab
def t2cells (a : T2) : Array Value := Array.ofFn (n := 78) fun i => if i.1 < 39 then a.l.cell i.1 else a.r.cell (i.1 - 39)
def zeroT2 : T2 := ⟨zeroT, zeroT⟩
theorem acells_size (t : At) : (acells t).size = 41 := by simp [acells]
theorem t2cells_size (t : T2) : (t2cells t).size = 78 := by simp [t2cells]
theorem acells_get (t : At) (i : Nat) : (acells t)[i]? = if i < 41 then some (if i = 39 then I t.slot else if i = 40 then I t.many else t.t.cell i) else none := by
  unfold acells; rw [Array.getElem?_ofFn]; simp
theorem t2cells_get (t : T2) (i : Nat) : (t2cells t)[i]? = if i < 78 then some (if i < 39 then t.l.cell i else t.r.cell (i - 39)) else none := by
  unfold t2cells; rw [Array.getElem?_ofFn]; simp
theorem acells_one (t : At) : allOne (acells t) = true := by
  unfold allOne
  simp only [acells, Array.all_eq_true_iff_forall_mem, Array.mem_ofFn]; rintro v ⟨i, rfl⟩; split; rfl; split; rfl; exact cell_one ..
theorem t2cells_one (t : T2) : allOne (t2cells t) = true := by
  unfold allOne
  simp only [t2cells, Array.all_eq_true_iff_forall_mem, Array.mem_ofFn]; rintro v ⟨i, rfl⟩; split <;> exact cell_one ..
theorem acells_table (t : At) : (acells t).extract 0 39 = tcells t.t := by
  apply Array.ext_getElem?; intro i
  rw [Array.getElem?_extract, tcells_get, acells_get, acells_size]
  by_cases h : i < 39
  · simp [h, show i < 41 by omega, show i ≠ 39 by omega, show i ≠ 40 by omega]
  · simp [h]
theorem acells_all (t : At) : (acells t).extract 0 41 = acells t := by
  have := Array.extract_size (xs := acells t); rwa [acells_size] at this
theorem t2cells_all (t : T2) : (t2cells t).extract 0 78 = t2cells t := by
  have := Array.extract_size (xs := t2cells t); rwa [t2cells_size] at this
theorem t2cells_l (t : T2) : (t2cells t).extract 0 39 = tcells t.l := by
  apply Array.ext_getElem?; intro i
  rw [Array.getElem?_extract, tcells_get, t2cells_get, t2cells_size]
  by_cases h : i < 39
  · simp [h, show i < 78 by omega]
  · simp [h]
theorem t2cells_r (t : T2) : (t2cells t).extract 39 78 = tcells t.r := by
  apply Array.ext_getElem?; intro i
  rw [Array.getElem?_extract, tcells_get, t2cells_get, t2cells_size]
  by_cases h : i < 39
  · simp [h, show 39 + i < 78 by omega, show ¬ 39 + i < 39 by omega]
  · simp [h]
theorem lrowA (a : Addr) : loadVar 130 a = loadRow 130 a := rfl
theorem lrowT2 (a : Addr) : loadVar 35 a = loadRow 35 a := rfl
theorem srowA (a : Addr) (v : Value) : storeVar 130 a v = storeRow 130 a v := rfl
theorem srowT2 (a : Addr) (v : Value) : storeVar 35 a v = storeRow 35 a v := rfl
theorem browA (ps : Array (Nat × Value)) : Instr.build 130 ps = buildRow 130 ps := rfl
theorem loadA (g o : Nat) (w : World) : (loadRow 130 ⟨g, o, none⟩).run Tryz.prog w = rowRes Tryz.prog 130 g o w ((w.heap[g]?).bind (rowAt o 41)) :=
  run_row Tryz.underlying130 rfl (by kernel_rfl) g o w
theorem loadT2 (g o : Nat) (w : World) : (loadRow 35 ⟨g, o, none⟩).run Tryz.prog w = rowRes Tryz.prog 35 g o w ((w.heap[g]?).bind (rowAt o 78)) :=
  run_row Tryz.underlying35 rfl (by kernel_rfl) g o w
theorem storeA (g o : Nat) (vs : Array Value) (w : World) : (storeRow 130 ⟨g, o, none⟩ (.agg vs)).run Tryz.prog w = layRes Tryz.prog 130 g o vs w (((w.heap[g]?).map (canLay o 41 vs)).getD false) :=
  run_lay (by kernel_rfl) g o vs w
theorem storeT2 (g o : Nat) (vs : Array Value) (w : World) : (storeRow 35 ⟨g, o, none⟩ (.agg vs)).run Tryz.prog w = layRes Tryz.prog 35 g o vs w (((w.heap[g]?).map (canLay o 78 vs)).getD false) :=
  run_lay (by kernel_rfl) g o vs w
theorem zeroA_run (w : World) : (zeroValue 130).run Tryz.prog w = .ok (.agg (acells zeroA)) w := by kernel_rfl
theorem zeroT2_run (w : World) : (zeroValue 35).run Tryz.prog w = .ok (.agg (t2cells zeroT2)) w := by kernel_rfl
theorem buildA_ts (t : Tab) (n : Int) (w : World) : (buildRow 130 #[(0, .agg (tcells t)), (1, I n)]).run Tryz.prog w = .ok (.agg (acells ⟨t, n, 0⟩)) w := by kernel_rfl
theorem buildA_sm (n m : Int) (w : World) : (buildRow 130 #[(1, I n), (2, I m)]).run Tryz.prog w = .ok (.agg (acells ⟨zeroT, n, m⟩)) w := by kernel_rfl
/-- How a call ends that answers or leaves by an error. -/
def retOr {α : Type} (enc : α → Value) : Except Int α → Ending
  | .ok v => .returned (enc v)
  | .error c => .panicked [{ v := .iface 32 (I c), recovered := false }]
/-- An answer and its error. -/
def tupOr {α : Type} (enc : α → Value) (zero : Value) : Except Int α → Value
  | .ok v => .tuple #[enc v, I 0]
  | .error c => .tuple #[zero, I c]
theorem assert_errno (v : Value) (w : World) : (Instr.typeAssert (.iface 32 v) 20 32 true).run Tryz.prog w = .ok (.tuple #[v, .bool true]) w := by kernel_rfl
theorem make_func (fn : Fn) (first cap : Array Value) (w : World) : (Instr.makeFunc fn first cap).run Tryz.prog w = .ok (.func fn first cap) w := rfl
end Go.Proofs.Hc
/- Rows of words that are joined and filled up: slices.Grow, slices.Concat, layout.padded. -/
namespace Go.Proofs.Hc
open Go.RowKit
attribute [local go_sem] wrap_u64 wrap_u8 bits_xor64 bits_and64 bits_or64 bits_not64 bits_xor8 bits_and8 bits_or8 signed64 signed8 ofInt_N BitVec.ofInt_add BitVec.ofInt_mul ofInt_sub' ofInt8_N64 ofInt64_N8 wide8 eqN neN shr_pow shr1 shr7 shr56
attribute [local go_sem high] bits_com64 shl_wrap
attribute [local go_sem] nn2 nm2 nn3 nm3 nn4 nm4 nn5 nm5 nn6 nm6 nn7 nm7 nn8 nm8
attribute [local go_sem] Oper.semAt_some make_func1
attribute [local go_sem] cell_heap ice_heap cellAt_cells iceAt_cells setAt_cells size_setCell
attribute [local go_sem ↓] heap_alloc heap_drew heap_drewN heap_setCell
theorem infoU : (Tryz.prog.info? 22).map (fun i => (i.zero, i.size, i.bytes)) = some (some (U 0#64), 1, 8) := by kernel_rfl
theorem zeroCells_one (v : Value) (n : Nat) : Builtin.zeroCells #[v] n = Array.replicate n v := by
  apply Array.ext_getElem?; intro i
  by_cases h : i < n
  · simp [Builtin.zeroCells, Nat.mod_one, h]
  · simp [Builtin.zeroCells, Nat.mod_one, h]
set_option maxRecDepth 100000 in
theorem grow_nil (w : World) : Calls Tryz.prog 187 #[.slice none 0 0, .int .i64 38] w fun e w' => ∃ v, e = .returned v ∧ w'.ownsRow w.heap.size 22 1 v 0 [] ∧ v ≠ .slice none 0 0 ∧ Ch [] w w' := by
  obtain ⟨i0, hi, hz0, hz1, hz2⟩ := info_parts infoU
  go_enter Tryz.func187, Tryz.ntmps187
  go_wp2_with (at_builtin; refine Lib.wpList_append_run _ rfl _ _ 53 3 rfl _ _ rfl rfl _ _ (Lib.run_append_nil_zeros _ 53 3 _ 22 i0 (U 0#64) .i64 .i64 Tryz.underlying53 Tryz.underlying3 hi hz0 38 (by omega) (by omega) (by omega) (by omega)) ?_)
  go_ret
  have hge := grownCap_ge w 38 0 22
  have hle := grownCap_le_maxLen w 38 0 22 (by unfold maxLen; omega)
  refine ⟨_, rfl, ⟨rfl, .inr ⟨w.heap.size, grownCap w 38 0 22, Builtin.zeroCells #[U 0#64] 38 ++ Builtin.zeroCells #[U 0#64] (grownCap w 38 0 22 - 38), rfl, Nat.le_refl _, ?_, Nat.zero_le _, hle, ?_, rfl⟩⟩, by simp, ((Ch.refl [] w).alloc _).drew⟩
  · rw [heap_drew, heap_alloc, if_pos rfl]
  · rw [zeroCells_one, zeroCells_one]; simp; omega
/-- A row that lies in memory. -/
structure RowAt (w : World) (b o : Nat) (xs : List Value) : Prop where
  old : b < w.heap.size
  one : ∀ u ∈ xs, u.oneCell' = true
  cells : ∀ j u, xs[j]? = some u → w.cell? ⟨b, o + j, none⟩ = some u
theorem RowAt.ch {w w1 : World} {b o : Nat} {xs : List Value} (h : RowAt w b o xs) (c : Ch [] w w1) : RowAt w1 b o xs :=
  ⟨Nat.lt_of_lt_of_le h.old c.size, h.one, fun j u hj => (c.cell b (o + j) h.old).trans (h.cells j u hj)⟩
theorem own_grow {w W W' : World} {base n size : Nat} {e : TypeId} {v : Value} {xs : List Value} (ho : W.ownsRow base e size v n xs) (c : Ch [] w W) (hg : W.grownBy W' v.ownBlock) (hb : w.heap.size ≤ base) : Ch [] w W' :=
  c.trans2 (Ch.of_grown (S := v.ownBlock.toList) hg (fun k hk => by simp [hk])) (fun t ht => .inr (by have := own_block ho t (by simpa using ht); omega))
set_option maxRecDepth 100000 in
theorem concat4 (g c0 c1 c2 c3 b0 b1 b2 b3 o0 o1 o2 o3 : Nat) (x0 x1 x2 x3 : List Value) (w : World) (hg : w.heap[g]? = some (.cells #[.slice (some ⟨b0, o0, none⟩) 4 c0, .slice (some ⟨b1, o1, none⟩) 2 c1, .slice (some ⟨b2, o2, none⟩) 16 c2, .slice (some ⟨b3, o3, none⟩) 16 c3] 53 (0, 0)))
    (l0 : x0.length = 4) (l1 : x1.length = 2) (l2 : x2.length = 16) (l3 : x3.length = 16) (r0 : RowAt w b0 o0 x0) (r1 : RowAt w b1 o1 x1) (r2 : RowAt w b2 o2 x2) (r3 : RowAt w b3 o3 x3) :
    Calls Tryz.prog 119 #[.slice (some ⟨g, 0, none⟩) 4 4] w fun e w' => ∃ v, e = .returned v ∧ w'.ownsRow w.heap.size 22 1 v 38 (x0 ++ x1 ++ x2 ++ x3) ∧ Ch [] w w' := by
  have hgl := (Array.getElem?_eq_some_iff.1 hg).1
  obtain ⟨gl, hgl'⟩ : ∃ f : ∀ w', Ch [] w w' → w'.heap[g]? = some (.cells #[.slice (some ⟨b0, o0, none⟩) 4 c0, .slice (some ⟨b1, o1, none⟩) 2 c1, .slice (some ⟨b2, o2, none⟩) 16 c2, .slice (some ⟨b3, o3, none⟩) 16 c3] 53 (0, 0)), True :=
    ⟨fun w' c => (c.block g hgl (by simp)).trans hg, trivial⟩
  clear hgl hgl'
  obtain ⟨i0, hi, hz0, hz1, hz2⟩ := info_parts infoU
  go_enter Tryz.func119, Tryz.ntmps119
  go_wp2
  refine wp_loop_rounds 5 ?_
  rw [rounds_succ]
  go_wp2
  rw [rounds_succ]
  go_wp2
  rw [rounds_succ]
  go_wp2
  rw [rounds_succ]
  go_wp2
  rw [rounds_succ]
  go_wp2_with (go_at_call 187; refine (grow_nil _).mono ?_; rintro e w1 ⟨v, rfl, hown, hnn, hc1⟩)
  clear hg
  have hg1 := gl w1 hc1
  refine wp_loop_rounds 5 ?_
  rw [rounds_succ]
  go_wp2_with (at_builtin; refine wpList_append_own _ rfl _ _ 53 rfl w.heap.size 22 i0 (U 0#64) 1 8 Tryz.underlying53 hi hz0 hz1 hz2 rfl (by decide) _ _ _ rfl hown ⟨b0, o0, none⟩ 4 c0 x0 rfl (by simp [l0]) (fun j u hj => by rw [Addr.add_lit]; exact (r0.ch hc1).cells j u hj) r0.one (by unfold maxLen; omega) (by omega) hc1.size ?_; intro v2 w2 hown2 hgr2 _; have hc2 := own_grow hown hc1 hgr2 (Nat.le_refl _); have hg2 := gl w2 hc2; clear hg1 hgr2)
  rw [rounds_succ]
  go_wp2_with (at_builtin; refine wpList_append_own _ rfl _ _ 53 rfl w.heap.size 22 i0 (U 0#64) 1 8 Tryz.underlying53 hi hz0 hz1 hz2 rfl (by decide) _ _ _ rfl hown2 ⟨b1, o1, none⟩ 2 c1 x1 rfl (by simp [l1]) (fun j u hj => by rw [Addr.add_lit]; exact (r1.ch hc2).cells j u hj) r1.one (by unfold maxLen; omega) (by omega) hc2.size ?_; intro v3 w3 hown3 hgr3 _; have hc3 := own_grow hown2 hc2 hgr3 (Nat.le_refl _); have hg3 := gl w3 hc3; clear hg2 hgr3)
  rw [rounds_succ]
  go_wp2_with (at_builtin; refine wpList_append_own _ rfl _ _ 53 rfl w.heap.size 22 i0 (U 0#64) 1 8 Tryz.underlying53 hi hz0 hz1 hz2 rfl (by decide) _ _ _ rfl hown3 ⟨b2, o2, none⟩ 16 c2 x2 rfl (by simp [l2]) (fun j u hj => by rw [Addr.add_lit]; exact (r2.ch hc3).cells j u hj) r2.one (by unfold maxLen; omega) (by omega) hc3.size ?_; intro v4 w4 hown4 hgr4 _; have hc4 := own_grow hown3 hc3 hgr4 (Nat.le_refl _); have hg4 := gl w4 hc4; clear hg3 hgr4)
  rw [rounds_succ]
  go_wp2_with (at_builtin; refine wpList_append_own _ rfl _ _ 53 rfl w.heap.size 22 i0 (U 0#64) 1 8 Tryz.underlying53 hi hz0 hz1 hz2 rfl (by decide) _ _ _ rfl hown4 ⟨b3, o3, none⟩ 16 c3 x3 rfl (by simp [l3]) (fun j u hj => by rw [Addr.add_lit]; exact (r3.ch hc4).cells j u hj) r3.one (by unfold maxLen; omega) (by omega) hc4.size ?_; intro v5 w5 hown5 hgr5 _; have hc5 := own_grow hown4 hc4 hgr5 (Nat.le_refl _); clear hg4 hgr5)
  rw [rounds_succ]
  go_wp2
  go_ret
  exact ⟨_, rfl, by simpa using hown5, hc5⟩
theorem run_append_fits_zeros {P : Program} (w : World) (t tn ty e : TypeId) (i : TypeInfo) (z : Value) (kq kn : IntKind) (ht : P.underlying t = some (.slice e)) (htn : P.underlying tn = some (.int kn)) (hi : P.info? e = some i) (hz : i.zero = some z)
    (hs1 : i.size = 1) (hzc : z.cells = #[z]) (hz1 : z.oneCell' = true) (q n cap k : Nat) (cur : Array Value) (T : TypeId) (hq : w.heap[q]? = some (.cells cur T (0, 0))) (hcur : cur.size = cap) (h0 : 0 < k) (hfit : n + k ≤ cap) (h63 : k * i.bytes ≤ 281474976710656) (hk : k ≤ 1000) :
    ∃ w', (Builtin.append_ #[t, tn] ty #[.slice (some ⟨q, 0, none⟩) n cap, .int kq k]).run P w = .ok (.slice (some ⟨q, 0, none⟩) (n + k) cap) w' ∧ Ch [q] w w' := by
  have hkn : k ≠ 0 := by omega
  have hw : IntKind.i64.wrap (k : Int) = k := by rw [IntKind.wrap_i64]; omega
  have hneg : ¬ ((k : Int) < 0) := by omega
  have h48i : ¬ (281474976710656 < (k : Int) * (i.bytes : Int)) := by
    rw [← Int.natCast_mul]
    omega
  have hst := run_storeCells_at (P := P) q n T (List.replicate k z) 0 cur w hq (by simp; omega) (fun v hv => by rw [(List.mem_replicate.1 hv).2]; exact hz1)
  have hadd : (⟨q, 0, none⟩ : Addr).add n = ⟨q, n, none⟩ := by unfold Addr.add; split <;> simp_all
  refine ⟨w.setRow q (List.take (n + 0) cur.toList ++ List.replicate k z ++ List.drop (n + 0 + (List.replicate k z).length) cur.toList).toArray, ?_, ?_⟩
  · generalize w.setRow q (List.take (n + 0) cur.toList ++ List.replicate k z ++ List.drop (n + 0 + (List.replicate k z).length) cur.toList).toArray = w' at *
    have hst' : (storeCells ⟨q, n, none⟩ (List.replicate k z)).run P w = .ok () w' := hst
    simp [Builtin.append_, run_underlying ht, run_underlying htn, sizeOf, typeInfo, zeroValue, hi, hz, hs1, asInt, asIntOf, hw, hkn, hneg, h48i, hfit, hzc, zeroCells_one, hadd, hst']
  · refine ⟨rfl, rfl, rfl, by simp [World.setRow], fun j hj hn => ?_⟩
    simp only [World.setRow, Array.getElem?_modify]
    rw [if_neg (fun e => hn (by simp [e]))]
set_option maxRecDepth 100000 in
theorem padded38 (base : Nat) (v : Value) (xs : List Value) (w : World) (hown : w.ownsRow base 22 1 v 38 xs) :
    Calls Tryz.prog 118 #[v] w fun e w' => ∃ v', e = .returned v' ∧ Ch v.ownBlock.toList w w' := by
  obtain ⟨hlen, h⟩ := hown
  rcases h with ⟨_, h⟩ | ⟨q, cap, cur, rfl, hq, hb, h38, hcm, hsz, hx⟩
  · cases h
  obtain ⟨i0, hi, hz0, hz1, hz2⟩ := info_parts infoU
  have hsz' : cur.size = cap := by omega
  rcases Nat.lt_or_ge cap 40 with hlt | hge
  · go_enter Tryz.func118, Tryz.ntmps118
    go_wp2_with (at_builtin; refine Lib.wpList_append_run _ rfl _ _ 53 3 rfl _ _ rfl rfl _ _ (Lib.run_append_grow_zeros _ 53 3 _ 22 i0 (U 0#64) .i64 .i64 Tryz.underlying53 Tryz.underlying3 hi hz0 (some ⟨q, 0, none⟩) 38 cap (cur.toList.take 38) ?hold 2 (by omega) (by omega) (by omega) (by omega) (by omega) ?hfit) ?_)
    case hold =>
      have := run_firstCells_some (P := Tryz.prog) w.drew i0.size 38 ⟨q, 0, none⟩ 38 cap (cur.toList.take 38) (by simp; omega) (fun j u hj => by
        rw [Addr.add_lit, cell_heap, heap_drew, hb, Option.bind_some, cellAt_cells, Nat.zero_add]
        rw [List.getElem?_take] at hj
        split at hj
        · simpa using hj
        · cases hj)
      exact this
    case hfit =>
      have : cap = 38 ∨ cap = 39 := by omega
      rw [hz2]
      rcases this with rfl | rfl <;> decide
    go_ret
    exact ⟨_, rfl, (((Ch.refl [] w).drew).alloc _).of_nil⟩
  · obtain ⟨w2, hr2, hc2⟩ := run_append_fits_zeros (P := Tryz.prog) w 53 3 53 22 i0 (U 0#64) .i64 .i64 Tryz.underlying53 Tryz.underlying3 hi hz0 hz1 rfl rfl q 38 cap 2 cur 22 hb hsz' (by omega) (by omega) (by omega) (by omega)
    go_enter Tryz.func118, Tryz.ntmps118
    go_wp2_with (at_builtin; refine Lib.wpList_append_run _ rfl _ _ 53 3 rfl _ _ rfl rfl _ _ hr2 ?_)
    go_ret
    exact ⟨_, rfl, hc2⟩
end Go.Proofs.Hc
/- A map from words to numbers that the call makes: what it holds, as a function. -/
namespace Go.Proofs.Hc
open Go.RowKit
/-- Block bm is a map of at most n entries that holds f (0 where there is none). -/
def MetAt (w : World) (bm n : Nat) (f : BitVec 64 → Int) : Prop :=
  ∃ D : DataW Unit, w.ownsMap Tryz.prog 22 (plainElem Tryz.prog 3) bm n D ∧ ∀ k : BitVec 64, D.atKey (.int .u64 (N k)) (.lit (.int .i64 0)) = .lit (.int .i64 (f k))
theorem keyLaw : Go.Maps.Keyed Tryz.prog 22 := Go.Maps.int_keyed Tryz.underlying22
theorem wf_u64 (k : BitVec 64) : (Lit.int .u64 (N k)).wf = true := by
  have h := k.isLt
  have h2 : (IntKind.u64.max : Int) = 18446744073709551615 := by decide
  have h3 : (IntKind.u64.min : Int) = 0 := by decide
  simp [Lit.wf, N, h2, h3]; omega
theorem zeroInt (w : World) : (zeroValue 3).run Tryz.prog w = .ok (.int .i64 0) w := by kernel_rfl
theorem met_made (w : World) : MetAt (w.alloc (.map #[] 0)) w.heap.size 0 fun _ => 0 :=
  ⟨.map [], World.ownsMap_made _ _ _ _, fun _ => rfl⟩
theorem met_look {w : World} {bm n : Nat} {f : BitVec 64 → Int} (h : MetAt w bm n f) (k : BitVec 64) :
    (Instr.lookup 211 (.map (some bm)) (U k) false).run Tryz.prog w = .ok (I (f k)) w := by
  obtain ⟨D, ho, hf⟩ := h
  obtain ⟨c, hr, hc, _⟩ := ho.lookup_int keyLaw Tryz.underlying211 Tryz.underlying3 (zeroInt _) (Go.Maps.keyOf_int_mk Tryz.underlying22 (wf_u64 k))
  rw [hf k] at hc
  have : f k = c := by simpa using hc
  rw [this]; exact hr
theorem met_put {w : World} {bm n : Nat} {f : BitVec 64 → Int} (h : MetAt w bm n f) (hn : n < 1000) (k : BitVec 64) (x : Int) (hx : (Lit.int .i64 x).wf = true) :
    ∃ w', (Instr.mapUpdate 211 (.map (some bm)) (U k) (I x)).run Tryz.prog w = .ok () w' ∧ MetAt w' bm (n + 1) (fun j => if j = k then x else f j) ∧ Ch [bm] w w' ∧ w'.heap.size = w.heap.size := by
  obtain ⟨D, ho, hf⟩ := h
  have hm : Go.Maps.IsMap D := ⟨_, ho.choose_spec.choose_spec.2.2.2⟩
  obtain ⟨es, clock, hb, F, hs, hD⟩ := ho
  obtain ⟨es', clock', hrun, F', hput, _⟩ := Go.Maps.fit_store (R' := plainElem Tryz.prog 3) keyLaw Tryz.underlying211 hb F (Nat.lt_of_le_of_lt hs (by unfold maxLen; omega)) (fun _ _ _ _ hz => hz) (Go.Maps.keyOf_int_mk Tryz.underlying22 (wf_u64 k)) (plainElem_int (H := Unit) Tryz.underlying3 hx)
  obtain ⟨w', hr, ho', hg⟩ := World.ownsMap.update ⟨es, clock, hb, F, hs, hD⟩ keyLaw Tryz.underlying211 (by unfold maxLen; omega) (Go.Maps.keyOf_int_mk Tryz.underlying22 (wf_u64 k)) (plainElem_int (H := Unit) Tryz.underlying3 hx)
  refine ⟨w', hr, ⟨_, ho', fun j => ?_⟩, Ch.of_grown hg (fun b hb => by simpa using hb.symm), ?_⟩
  · show _ = DataW.lit (Lit.int .i64 (if j = k then x else f j))
    by_cases hj : j = k
    · subst hj
      rw [if_pos rfl]
      exact Go.Maps.atKey_put_same hm (Go.Maps.Keyed.key keyLaw (Go.Maps.keyOf_int_mk Tryz.underlying22 (wf_u64 j))) _ _
    · have hne : Lit.int .u64 (N j) ≠ Lit.int .u64 (N k) := fun e => hj ((N_inj _ _).1 (by simpa using e))
      rw [if_neg hj, Go.Maps.atKey_put_other hne]
      exact hf j
  · have h1 := hrun.symm.trans hr
    have h2 : w' = _ := (Result.ok.inj h1).2.symm
    rw [h2]; simp [Go.ChangeMaps.setBlock]
theorem met_ch {w w' : World} {bm n : Nat} {f : BitVec 64 → Int} {S : List Nat} (h : MetAt w bm n f) (c : Ch S w w') (hS : bm ∉ S) : MetAt w' bm n f := by
  obtain ⟨D, ⟨es, clock, hb, r⟩, hf⟩ := h
  exact ⟨D, ⟨es, clock, (c.block bm (Array.getElem?_eq_some_iff.1 hb).1 hS).trans hb, r⟩, hf⟩
end Go.Proofs.Hc
/- The reference of layer 1: the word of bytes; a byte that is put. -/
namespace Go.Proofs.Hc
open Go.RowKit
attribute [local go_sem] wrap_u64 wrap_u8 bits_xor64 bits_and64 bits_or64 bits_not64 bits_xor8 bits_and8 bits_or8 signed64 signed8 ofInt_N BitVec.ofInt_add BitVec.ofInt_mul ofInt_sub' ofInt8_N64 ofInt64_N8 wide8 eqN neN shr_pow shr1 shr7 shr56
attribute [local go_sem high] bits_com64 shl_wrap
attribute [local go_sem] cell_heap ice_heap cellAt_cells iceAt_cells setAt_cells rowAt_cells canLay_cells laidAt_cells size_onObj size_setCell rowRes_some layRes_true
attribute [local go_sem] load26 load73 load23 store26 build73
attribute [local go_sem ↓] lrow26 lrow73 lrow23 srow26 zero26 brow73 heap_alloc heap_drew heap_drewN heap_setCell heap_onObj
attribute [local go_sem] tcells_size hcells_size tcells_get hcells_get tcells_one hcells_one hcells_table tcells_table hcells_all hcells_ctrl tcells_ctrl
attribute [local go_sem] nn2 nm2 nn3 nm3 nn4 nm4 nn5 nm5 nn6 nm6 nn7 nm7 nn8 nm8
attribute [local go_sem] nn2 nm2 nn3 nm3 nn4 nm4 nn5 nm5 nn6 nm6 nn7 nm7 nn8 nm8
attribute [local go_sem] ofInt_N
/-- The word of bytes. -/
def accB (l : List (BitVec 8)) : BitVec 64 := l.foldr (fun b y => 256#64 * y + b.setWidth 64) 0#64
theorem acc_drop {l : List (BitVec 8)} {k : Nat} {b : BitVec 8} (h : l[k]? = some b) : accB (l.drop k) = 256#64 * accB (l.drop (k + 1)) + b.setWidth 64 := by
  have hk := (List.getElem?_eq_some_iff.1 h).1
  have e : l.drop k = b :: l.drop (k + 1) := by
    rw [List.drop_eq_getElem_cons hk]
    have := (List.getElem?_eq_some_iff.1 h).2
    rw [this]
  rw [e]; rfl
set_option maxHeartbeats 1000000 in
set_option maxRecDepth 100000 in
theorem rOf_any (l : List (BitVec 8)) (hl : l.length ≤ 8) (g c : Nat) (cur : Array Value) (w : World) (hW : w.heap[g]? = some (.cells cur 5 (0, 0))) (hcur : ∀ (j : Nat) (b : BitVec 8), l[j]? = some b → cur[j]? = some (Y b)) :
    Calls Tryz.prog 100 #[.slice (some ⟨g, 0, none⟩) l.length c] w fun e w' => e = .returned (U (accB l)) ∧ w = w' := by
  have HC := Lib.hid hcur
  clear hcur
  go_enter Tryz.func100, Tryz.ntmps100
  go_wp2
  go_loop [3, 4] (fun v i => ∃ (j : Nat) (x : Int), j ≤ l.length ∧ x + 1 = j ∧ i = .int .i64 x ∧ v = U (accB (l.drop j))) (fun _ i => (intOf i + 1).toNat)
  case atStart => exact ⟨l.length, _, Nat.le_refl _, by omega, rfl, by rw [List.drop_length]; rfl⟩
  case round =>
    obtain ⟨j, x, hj, hx, rfl, rfl⟩ := hrel
    cases j with
    | zero =>
      obtain rfl : x = -1 := by omega
      go_wp2
      go_ret
      exact ⟨rfl, rfl⟩
    | succ k =>
      obtain rfl : x = (k : Int) := by omega
      have hlt : k < l.length := by omega
      have hk8 : k < 8 := by omega
      obtain ⟨b, hb⟩ : ∃ b, l[k]? = some b := ⟨l[k]'hlt, List.getElem?_eq_getElem hlt⟩
      have hc := HC.out k b hb
      have HD := Lib.hid (acc_drop hb)
      clear hb hx
      go_wp2
      go_round
      case rel => exact ⟨k, _, by omega, by omega, rfl, by rw [HD.out]⟩
      case measure => simp [intOf]
end Go.Proofs.Hc
