/- Tables as values: their cells. -/
import Derived.Test.YtcikopeddljgkaaGreatKHr
import Derived.OpenShut
import Derived.ProofKit
set_option linter.unusedSimpArgs false
set_option linter.unusedVariables false
set_option maxRecDepth 100000
namespace Go.Proofs.Hc
open Go.RowKit
structure Tab where
  count : BitVec 64
  depth : Int
  pre : BitVec 64
  can : Int
  live : Int
  c : Nat → BitVec 64
  k : Nat → BitVec 64
  v : Nat → BitVec 64
def Tab.cell (t : Tab) : Nat → Value
  | 0 => U t.count
  | 1 => I t.depth
  | 2 => U t.pre
  | 3 => I t.can
  | 4 => I t.live
  | 5 => U (t.c 0)
  | 6 => U (t.c 1)
  | i + 7 => if i < 16 then U (t.k i) else U (t.v (i - 16))
def tcells (t : Tab) : Array Value := Array.ofFn (n := 39) fun i => t.cell i.1
def hcells (t : Tab) (s : BitVec 64) : Array Value := Array.ofFn (n := 40) fun i => if i.1 = 39 then U s else t.cell i.1
def zeroT : Tab := ⟨0#64, 0, 0#64, 0, 0, fun _ => 0#64, fun _ => 0#64, fun _ => 0#64⟩
theorem zah (t : Tab) : (tcells t).size = 39 := by simp [tcells]
theorem zaq (t : Tab) (s : BitVec 64) : (hcells t s).size = 40 := by simp [hcells]
theorem zat (t : Tab) (i : Nat) : (tcells t)[i]? = if i < 39 then some (t.cell i) else none := by
  unfold tcells; rw [Array.getElem?_ofFn]; simp
theorem zbf (t : Tab) (s : BitVec 64) (i : Nat) : (hcells t s)[i]? = if i < 40 then some (if i = 39 then U s else t.cell i) else none := by
  unfold hcells; rw [Array.getElem?_ofFn]; simp
theorem cell_one (t : Tab) (i : Nat) : (t.cell i).oneCell' = true := by
  unfold Tab.cell; split <;> try rfl
  split <;> rfl
theorem zbg (t : Tab) : allOne (tcells t) = true := by
  unfold allOne
  simp only [tcells, Array.all_eq_true_iff_forall_mem, Array.mem_ofFn]; rintro v ⟨i, rfl⟩; exact cell_one ..
theorem zbp (t : Tab) (s : BitVec 64) : allOne (hcells t s) = true := by
  unfold allOne
  simp only [hcells, Array.all_eq_true_iff_forall_mem, Array.mem_ofFn]; rintro v ⟨i, rfl⟩; split; rfl; exact cell_one ..
theorem zam (t : Tab) (s : BitVec 64) : (hcells t s).extract 0 39 = tcells t := by
  apply Array.ext_getElem?; intro i
  rw [Array.getElem?_extract, zat, zbf, zaq]
  by_cases h : i < 39
  · simp [h, show i < 40 by omega, show i ≠ 39 by omega]
  · simp [h]
theorem zar (t : Tab) : (tcells t).extract 0 39 = tcells t := by
  have := Array.extract_size (xs := tcells t); rwa [zah] at this
theorem zbq (t : Tab) (s : BitVec 64) : (hcells t s).extract 0 40 = hcells t s := by
  have := Array.extract_size (xs := hcells t s); rwa [zaq] at this
theorem zbi (t : Tab) (s : BitVec 64) : (hcells t s).extract 5 7 = #[U (t.c 0), U (t.c 1)] := by
  apply Array.ext_getElem?; intro i
  rw [Array.getElem?_extract, zbf, zaq]
  match i with
  | 0 => simp [Tab.cell]
  | 1 => simp [Tab.cell]
  | i + 2 => simp; omega
theorem zbh (t : Tab) : (tcells t).extract 5 7 = #[U (t.c 0), U (t.c 1)] := by
  apply Array.ext_getElem?; intro i
  rw [Array.getElem?_extract, zat, zah]
  match i with
  | 0 => simp [Tab.cell]
  | 1 => simp [Tab.cell]
  | i + 2 => simp; omega
theorem hcells_key (t : Tab) (s : BitVec 64) (i : Nat) (h : i < 16) : (hcells t s)[7 + i]? = some (U (t.k i)) := by
  rw [zbf, if_pos (by omega), if_neg (by omega), Nat.add_comm]; simp [Tab.cell, h]
theorem hcells_val (t : Tab) (s : BitVec 64) (i : Nat) (h : i < 16) : (hcells t s)[23 + i]? = some (U (t.v i)) := by
  rw [zbf, if_pos (by omega), if_neg (by omega), show 23 + i = (16 + i) + 7 by omega]; simp [Tab.cell, show ¬ 16 + i < 16 by omega]
theorem hset {t t' : Tab} {s s' : BitVec 64} {j : Nat} {x : Value} (hj : j < 39) (hx : t'.cell j = x) (ho : ∀ i, i < 39 → i ≠ j → t'.cell i = t.cell i) (hs : s = s') :
    (hcells t s).setIfInBounds j x = hcells t' s' := by
  subst hs
  apply Array.ext_getElem?; intro i
  rw [Array.getElem?_setIfInBounds, zbf, zbf, zaq]
  by_cases h : j = i
  · subst h; simp [show j < 40 by omega, show j ≠ 39 by omega, hx]
  · rw [if_neg h]
    by_cases h2 : i < 40
    · simp only [h2, if_true]
      by_cases h3 : i = 39
      · simp [h3]
      · simp only [h3, if_false]; rw [ho i (by omega) (fun e => h e.symm)]
    · simp [h2]
theorem hset_can (t : Tab) (s : BitVec 64) (x : Int) : (hcells t s).setIfInBounds 3 (I x) = hcells { t with can := x } s :=
  hset (by omega) rfl (fun i _ h => by unfold Tab.cell; split <;> first | rfl | omega) rfl
theorem hset_live (t : Tab) (s : BitVec 64) (x : Int) : (hcells t s).setIfInBounds 4 (I x) = hcells { t with live := x } s :=
  hset (by omega) rfl (fun i _ h => by unfold Tab.cell; split <;> first | rfl | omega) rfl
theorem hset_ctrl (t : Tab) (s : BitVec 64) (g : Nat) (hg : g < 2) (x : BitVec 64) : (hcells t s).setIfInBounds (5 + g) (U x) = hcells { t with c := fun i => if i = g then x else t.c i } s := by
  refine hset (by omega) ?_ (fun i _ h => ?_) rfl
  · match g, hg with
    | 0, _ => rfl
    | 1, _ => rfl
  · unfold Tab.cell
    split <;> first | rfl | skip
    · simp [show (0 : Nat) ≠ g by omega]
    · simp [show (1 : Nat) ≠ g by omega]
theorem hset_key (t : Tab) (s : BitVec 64) (j : Nat) (hj : j < 16) (x : BitVec 64) : (hcells t s).setIfInBounds (7 + j) (U x) = hcells { t with k := fun i => if i = j then x else t.k i } s := by
  refine hset (by omega) ?_ (fun i hi h => ?_) rfl
  · rw [Nat.add_comm]; simp [Tab.cell, hj]
  · unfold Tab.cell
    split <;> first | rfl | skip
    rename_i i
    by_cases h2 : i < 16
    · simp [h2, show i ≠ j by omega]
    · simp [h2]
theorem hset_val (t : Tab) (s : BitVec 64) (j : Nat) (hj : j < 16) (x : BitVec 64) : (hcells t s).setIfInBounds (23 + j) (U x) = hcells { t with v := fun i => if i = j then x else t.v i } s := by
  refine hset (by omega) ?_ (fun i hi h => ?_) rfl
  · rw [show 23 + j = (16 + j) + 7 by omega]; simp [Tab.cell, show ¬ 16 + j < 16 by omega]
  · unfold Tab.cell
    split <;> first | rfl | skip
    rename_i i
    by_cases h2 : i < 16
    · simp [h2]
    · simp [h2, show i - 16 ≠ j by omega]
theorem load26 (g o : Nat) (w : World) : (loadRow 26 ⟨g, o, none⟩).run Tryz.prog w = rowRes Tryz.prog 26 g o w ((w.heap[g]?).bind (rowAt o 39)) :=
  run_row Tryz.underlying26 rfl (by kernel_rfl) g o w
theorem load73 (g o : Nat) (w : World) : (loadRow 141 ⟨g, o, none⟩).run Tryz.prog w = rowRes Tryz.prog 141 g o w ((w.heap[g]?).bind (rowAt o 40)) :=
  run_row Tryz.underlying141 rfl (by kernel_rfl) g o w
theorem load23 (g o : Nat) (w : World) : (loadRow 23 ⟨g, o, none⟩).run Tryz.prog w = rowRes Tryz.prog 23 g o w ((w.heap[g]?).bind (rowAt o 2)) :=
  run_row Tryz.underlying23 rfl (by kernel_rfl) g o w
theorem store26 (g o : Nat) (vs : Array Value) (w : World) : (storeRow 26 ⟨g, o, none⟩ (.agg vs)).run Tryz.prog w = layRes Tryz.prog 26 g o vs w (((w.heap[g]?).map (canLay o 39 vs)).getD false) :=
  run_lay (by kernel_rfl) g o vs w
theorem lrow26 (a : Addr) : loadVar 26 a = loadRow 26 a := rfl
theorem lrow73 (a : Addr) : loadVar 141 a = loadRow 141 a := rfl
theorem lrow23 (a : Addr) : loadVar 23 a = loadRow 23 a := rfl
theorem srow26 (a : Addr) (v : Value) : storeVar 26 a v = storeRow 26 a v := rfl
theorem zero26 (w : World) : (zeroValue 26).run Tryz.prog w = .ok (.agg (tcells zeroT)) w := by kernel_rfl
theorem brow73 (ps : Array (Nat × Value)) : Instr.build 141 ps = buildRow 141 ps := rfl
theorem build73 (t : Tab) (s : BitVec 64) (w : World) : (buildRow 141 #[(0, .agg (tcells t)), (1, U s)]).run Tryz.prog w = .ok (.agg (hcells t s)) w := by kernel_rfl
end Go.Proofs.Hc
namespace Go.Proofs.Hc
open Go.RowKit
structure At where
  t : Tab
  slot : Int
  many : Int
def acells (a : At) : Array Value := Array.ofFn (n := 41) fun i => if i.1 = 39 then I a.slot else if i.1 = 40 then I a.many else a.t.cell i.1
def zeroA : At := ⟨zeroT, 0, 0⟩
structure T2 where
  l : Tab
  r : Tab
def t2cells (a : T2) : Array Value := Array.ofFn (n := 78) fun i => if i.1 < 39 then a.l.cell i.1 else a.r.cell (i.1 - 39)
def zeroT2 : T2 := ⟨zeroT, zeroT⟩
theorem zda (t : At) : (acells t).size = 41 := by simp [acells]
theorem zco (t : T2) : (t2cells t).size = 78 := by simp [t2cells]
theorem acells_get (t : At) (i : Nat) : (acells t)[i]? = if i < 41 then some (if i = 39 then I t.slot else if i = 40 then I t.many else t.t.cell i) else none := by
  unfold acells; rw [Array.getElem?_ofFn]; simp
theorem t2cells_get (t : T2) (i : Nat) : (t2cells t)[i]? = if i < 78 then some (if i < 39 then t.l.cell i else t.r.cell (i - 39)) else none := by
  unfold t2cells; rw [Array.getElem?_ofFn]; simp
theorem acells_one (t : At) : allOne (acells t) = true := by
  unfold allOne
  simp only [acells, Array.all_eq_true_iff_forall_mem, Array.mem_ofFn]; rintro v ⟨i, rfl⟩; split; rfl; split; rfl; exact cell_one ..
theorem t2cells_one (t : T2) : allOne (t2cells t) = true := by
  unfold allOne
  simp only [t2cells, Array.all_eq_true_iff_forall_mem, Array.mem_ofFn]; rintro v ⟨i, rfl⟩; split <;> exact cell_one ..
theorem acells_table (t : At) : (acells t).extract 0 39 = tcells t.t := by
  apply Array.ext_getElem?; intro i
  rw [Array.getElem?_extract, zat, acells_get, zda]
  by_cases h : i < 39
  · simp [h, show i < 41 by omega, show i ≠ 39 by omega, show i ≠ 40 by omega]
  · simp [h]
theorem acells_all (t : At) : (acells t).extract 0 41 = acells t := by
  have := Array.extract_size (xs := acells t); rwa [zda] at this
theorem t2cells_all (t : T2) : (t2cells t).extract 0 78 = t2cells t := by
  have := Array.extract_size (xs := t2cells t); rwa [zco] at this
theorem t2cells_l (t : T2) : (t2cells t).extract 0 39 = tcells t.l := by
  apply Array.ext_getElem?; intro i
  rw [Array.getElem?_extract, zat, t2cells_get, zco]
  by_cases h : i < 39
  · simp [h, show i < 78 by omega]
  · simp [h]
theorem t2cells_r (t : T2) : (t2cells t).extract 39 78 = tcells t.r := by
  apply Array.ext_getElem?; intro i
  rw [Array.getElem?_extract, zat, t2cells_get, zco]
  by_cases h : i < 39
  · simp [h, show 39 + i < 78 by omega, show ¬ 39 + i < 39 by omega]
  · simp [h]
theorem lrowA (a : Addr) : loadVar 210 a = loadRow 210 a := rfl
theorem lrowT2 (a : Addr) : loadVar 35 a = loadRow 35 a := rfl
theorem srowA (a : Addr) (v : Value) : storeVar 210 a v = storeRow 210 a v := rfl
theorem srowT2 (a : Addr) (v : Value) : storeVar 35 a v = storeRow 35 a v := rfl
theorem browA (ps : Array (Nat × Value)) : Instr.build 210 ps = buildRow 210 ps := rfl
theorem loadA (g o : Nat) (w : World) : (loadRow 210 ⟨g, o, none⟩).run Tryz.prog w = rowRes Tryz.prog 210 g o w ((w.heap[g]?).bind (rowAt o 41)) :=
  run_row Tryz.underlying210 rfl (by kernel_rfl) g o w
theorem loadT2 (g o : Nat) (w : World) : (loadRow 35 ⟨g, o, none⟩).run Tryz.prog w = rowRes Tryz.prog 35 g o w ((w.heap[g]?).bind (rowAt o 78)) :=
  run_row Tryz.underlying35 rfl (by kernel_rfl) g o w
theorem storeA (g o : Nat) (vs : Array Value) (w : World) : (storeRow 210 ⟨g, o, none⟩ (.agg vs)).run Tryz.prog w = layRes Tryz.prog 210 g o vs w (((w.heap[g]?).map (canLay o 41 vs)).getD false) :=
  run_lay (by kernel_rfl) g o vs w
theorem storeT2 (g o : Nat) (vs : Array Value) (w : World) : (storeRow 35 ⟨g, o, none⟩ (.agg vs)).run Tryz.prog w = layRes Tryz.prog 35 g o vs w (((w.heap[g]?).map (canLay o 78 vs)).getD false) :=
  run_lay (by kernel_rfl) g o vs w
theorem zeroA_run (w : World) : (zeroValue 210).run Tryz.prog w = .ok (.agg (acells zeroA)) w := by kernel_rfl
theorem zeroT2_run (w : World) : (zeroValue 35).run Tryz.prog w = .ok (.agg (t2cells zeroT2)) w := by kernel_rfl
theorem buildA_ts (t : Tab) (n : Int) (w : World) : (buildRow 210 #[(0, .agg (tcells t)), (1, I n)]).run Tryz.prog w = .ok (.agg (acells ⟨t, n, 0⟩)) w := by kernel_rfl
theorem buildA_sm (n m : Int) (w : World) : (buildRow 210 #[(1, I n), (2, I m)]).run Tryz.prog w = .ok (.agg (acells ⟨zeroT, n, m⟩)) w := by kernel_rfl
def retOr {α : Type} (enc : α → Value) : Except Int α → Ending
  | .ok v => .returned (enc v)
  | .error c => .panicked [{ v := .iface 32 (I c), recovered := false }]
def tupOr {α : Type} (enc : α → Value) (zero : Value) : Except Int α → Value
  | .ok v => .tuple #[enc v, I 0]
  | .error c => .tuple #[zero, I c]
theorem zdl (v : Value) (w : World) : (Instr.typeAssert (.iface 32 v) 20 32 true).run Tryz.prog w = .ok (.tuple #[v, .bool true]) w := by kernel_rfl
theorem make_func (fn : Fn) (first cap : Array Value) (w : World) : (Instr.makeFunc fn first cap).run Tryz.prog w = .ok (.func fn first cap) w := rfl
end Go.Proofs.Hc
namespace Go.Proofs.Hc
open Go.ChangeShapes Go.WideShapes Go.ChangeAt Go.RowKit
theorem wfr_u64 {n : Int} (h : (Lit.int .u64 n).wf = true) : 0 ≤ n ∧ n < 18446744073709551616 := by
  have : 0 ≤ n ∧ n ≤ 18446744073709551615 := by simpa [Lit.wf, IntKind.min, IntKind.max, IntKind.signed, IntKind.bits] using h
  omega
theorem U_of {n : Int} (h : (Lit.int .u64 n).wf = true) : U (BitVec.ofInt 64 n) = .int .u64 n := by
  obtain ⟨h0, h1⟩ := wfr_u64 h
  show Value.int .u64 (N (BitVec.ofInt 64 n)) = _
  have : N (BitVec.ofInt 64 n) = n := by
    unfold N
    rw [BitVec.toNat_ofInt]
    have e : ((2 ^ 64 : Nat) : Int) = 18446744073709551616 := by decide
    rw [e, Int.emod_eq_of_lt h0 h1]
    omega
  rw [this]
section
variable {H : Type} {enc : TypeId × Value → H} {w : World} {base : Nat} {spare : Nat → Bool} {held : Bool}
theorem one_cell {cs : List Value} {o : Nat} {v : Value} (h : (cs.drop o).take 1 = [v]) : cs[o]? = some v := by
  have := congrArg (fun l => l[0]?) h
  simpa using this
theorem cells_u64 : Tryz.prog.cellsOf 22 = 1 := by kernel_rfl
theorem cells_int : Tryz.prog.cellsOf 3 = 1 := by kernel_rfl
theorem cells_t : Tryz.prog.cellsOf 26 = 39 := by kernel_rfl
theorem row_u64 {n : Nat} {t : TypeId} {fuel : Nat} {cs : List Value} {x : DataW H × List MemPlace} (ht : Tryz.prog.underlying t = some (.array n 22)) (h : DataW.trod enc Tryz.prog w base spare held fuel t cs = some x) :
    ∀ i, i < n → ∃ m, cs[i]? = some (.int .u64 m) ∧ (Lit.int .u64 m).wf = true := by
  obtain ⟨xs, m, _, _, _, hl, hx⟩ := DataW.trod_array ht h
  intro i hi
  have h1 := hx i hi
  rw [cells_u64, Nat.mul_one, List.getElem?_eq_getElem (by omega)] at h1
  obtain ⟨k, hk, _, hw⟩ := DataW.trod_int Tryz.underlying22 h1
  exact ⟨k, one_cell hk, hw⟩
theorem fieldsT : ∃ fs, Tryz.prog.underlying 26 = some (.struct fs) ∧ fs.toList.map (fun f => (f.type, f.offset)) = [(22, 0), (3, 1), (22, 2), (3, 3), (3, 4), (23, 5), (24, 7), (24, 23)] :=
  ⟨_, Tryz.underlying26, by kernel_rfl⟩
theorem field_at {fs : Array Field} {l : List (TypeId × Nat)} (h : fs.toList.map (fun f => (f.type, f.offset)) = l) {i : Nat} {t o : Nat} (hi : l[i]? = some (t, o)) : ∃ f, fs[i]? = some f ∧ f.type = t ∧ f.offset = o := by
  rw [← h, List.getElem?_map] at hi
  cases hf : fs.toList[i]? with
  | none => rw [hf] at hi; cases hi
  | some f =>
    rw [hf] at hi
    simp only [Option.map_some, Option.some.injEq, Prod.mk.injEq] at hi
    exact ⟨f, by simpa using hf, hi.1, hi.2⟩
theorem drop_take_get {cs : List Value} {o n i : Nat} {v : Value} (h : ((cs.drop o).take n)[i]? = some v) : cs[o + i]? = some v := by
  rw [List.getElem?_take] at h
  split at h
  · rwa [List.getElem?_drop] at h
  · cases h
def kindT (i : Nat) : IntKind := if i = 1 ∨ i = 3 ∨ i = 4 then .i64 else .u64
theorem table_cells {fuel : Nat} {cs : List Value} {x : DataW H × List MemPlace} (h : DataW.trod enc Tryz.prog w base spare held fuel 26 cs = some x) :
    cs.length = 39 ∧ ∀ i, i < 39 → ∃ m, cs[i]? = some (.int (kindT i) m) ∧ (Lit.int (kindT i) m).wf = true := by
  obtain ⟨fs, hfs, hl⟩ := fieldsT
  obtain ⟨xs, n, _, _, hlen, hxl, hx⟩ := DataW.trod_struct hfs h
  have hsz : fs.size = 8 := by
    have := congrArg List.length hl
    simpa using this
  have rd : ∀ (i t o : Nat), ([(22, 0), (3, 1), (22, 2), (3, 3), (3, 4), (23, 5), (24, 7), (24, 23)] : List (TypeId × Nat))[i]? = some (t, o) → i < 8 →
      ∃ y, DataW.trod enc Tryz.prog w base spare held n t ((cs.drop o).take (Tryz.prog.cellsOf t)) = some y := by
    intro i t o hi hi8
    obtain ⟨f, hf, rfl, rfl⟩ := field_at hl hi
    have := hx i f hf
    rw [List.getElem?_eq_getElem (by omega)] at this
    exact ⟨_, this⟩
  have u1 : ∀ (i o : Nat), ([(22, 0), (3, 1), (22, 2), (3, 3), (3, 4), (23, 5), (24, 7), (24, 23)] : List (TypeId × Nat))[i]? = some (22, o) → i < 8 → ∃ m, cs[o]? = some (.int .u64 m) ∧ (Lit.int .u64 m).wf = true := by
    intro i o hi hi8
    obtain ⟨y, hy⟩ := rd i _ o hi hi8
    obtain ⟨k, hk, _, hw⟩ := DataW.trod_int Tryz.underlying22 hy
    rw [cells_u64] at hk
    exact ⟨k, one_cell hk, hw⟩
  have n1 : ∀ (i o : Nat), ([(22, 0), (3, 1), (22, 2), (3, 3), (3, 4), (23, 5), (24, 7), (24, 23)] : List (TypeId × Nat))[i]? = some (3, o) → i < 8 → ∃ m, cs[o]? = some (.int .i64 m) ∧ (Lit.int .i64 m).wf = true := by
    intro i o hi hi8
    obtain ⟨y, hy⟩ := rd i _ o hi hi8
    obtain ⟨k, hk, _, hw⟩ := DataW.trod_int Tryz.underlying3 hy
    rw [cells_int] at hk
    exact ⟨k, one_cell hk, hw⟩
  refine ⟨hlen.trans cells_t, fun i hi => ?_⟩
  rcases (show i = 0 ∨ i = 1 ∨ i = 2 ∨ i = 3 ∨ i = 4 ∨ (5 ≤ i ∧ i < 7) ∨ (7 ≤ i ∧ i < 23) ∨ (23 ≤ i ∧ i < 39) by omega) with rfl | rfl | rfl | rfl | rfl | h | h | h
  · exact u1 0 0 rfl (by omega)
  · exact n1 1 1 rfl (by omega)
  · exact u1 2 2 rfl (by omega)
  · exact n1 3 3 rfl (by omega)
  · exact n1 4 4 rfl (by omega)
  · obtain ⟨y, hy⟩ := rd 5 _ 5 rfl (by omega)
    obtain ⟨m, hm, hw⟩ := row_u64 Tryz.underlying23 hy (i - 5) (by omega)
    have := drop_take_get hm
    rw [show 5 + (i - 5) = i by omega] at this
    exact ⟨m, by rw [show kindT i = .u64 by unfold kindT; rw [if_neg (by omega)]]; exact this, by rw [show kindT i = .u64 by unfold kindT; rw [if_neg (by omega)]]; exact hw⟩
  · obtain ⟨y, hy⟩ := rd 6 _ 7 rfl (by omega)
    obtain ⟨m, hm, hw⟩ := row_u64 Tryz.underlying24 hy (i - 7) (by omega)
    have := drop_take_get hm
    rw [show 7 + (i - 7) = i by omega] at this
    exact ⟨m, by rw [show kindT i = .u64 by unfold kindT; rw [if_neg (by omega)]]; exact this, by rw [show kindT i = .u64 by unfold kindT; rw [if_neg (by omega)]]; exact hw⟩
  · obtain ⟨y, hy⟩ := rd 7 _ 23 rfl (by omega)
    obtain ⟨m, hm, hw⟩ := row_u64 Tryz.underlying24 hy (i - 23) (by omega)
    have := drop_take_get hm
    rw [show 23 + (i - 23) = i by omega] at this
    exact ⟨m, by rw [show kindT i = .u64 by unfold kindT; rw [if_neg (by omega)]]; exact this, by rw [show kindT i = .u64 by unfold kindT; rw [if_neg (by omega)]]; exact hw⟩
def intAt (cs : List Value) (i : Nat) : Int := match cs[i]? with
  | some (.int _ n) => n
  | _ => 0
theorem intAt_eq {cs : List Value} {i : Nat} {k : IntKind} {m : Int} (h : cs[i]? = some (.int k m)) : intAt cs i = m := by unfold intAt; rw [h]
def tabOf (cs : List Value) : Tab := ⟨BitVec.ofInt 64 (intAt cs 0), intAt cs 1, BitVec.ofInt 64 (intAt cs 2), intAt cs 3, intAt cs 4, fun g => BitVec.ofInt 64 (intAt cs (5 + g)), fun j => BitVec.ofInt 64 (intAt cs (7 + j)), fun j => BitVec.ofInt 64 (intAt cs (23 + j))⟩
theorem tabOf_cells {cs : List Value} (hl : cs.length = 39) (h : ∀ i, i < 39 → ∃ m, cs[i]? = some (.int (kindT i) m) ∧ (Lit.int (kindT i) m).wf = true) : (tcells (tabOf cs)).toList = cs := by
  apply List.ext_getElem?
  intro i
  rw [Array.getElem?_toList, zat]
  by_cases hi : i < 39
  · rw [if_pos hi]
    obtain ⟨m, hm, hw⟩ := h i hi
    rw [hm]
    congr 1
    match i, hi, hm, hw with
    | 0, _, hm, hw => show U (BitVec.ofInt 64 (intAt cs 0)) = _; rw [intAt_eq hm]; exact U_of hw
    | 1, _, hm, hw => show I (intAt cs 1) = _; rw [intAt_eq hm]; rfl
    | 2, _, hm, hw => show U (BitVec.ofInt 64 (intAt cs 2)) = _; rw [intAt_eq hm]; exact U_of hw
    | 3, _, hm, hw => show I (intAt cs 3) = _; rw [intAt_eq hm]; rfl
    | 4, _, hm, hw => show I (intAt cs 4) = _; rw [intAt_eq hm]; rfl
    | 5, _, hm, hw => show U (BitVec.ofInt 64 (intAt cs (5 + 0))) = _; rw [intAt_eq hm]; exact U_of hw
    | 6, _, hm, hw => show U (BitVec.ofInt 64 (intAt cs (5 + 1))) = _; rw [intAt_eq hm]; exact U_of hw
    | i + 7, hi, hm, hw =>
      have hk : kindT (i + 7) = .u64 := by unfold kindT; rw [if_neg (by omega)]
      rw [hk] at hm hw ⊢
      show (if i < 16 then U (BitVec.ofInt 64 (intAt cs (7 + i))) else U (BitVec.ofInt 64 (intAt cs (23 + (i - 16))))) = _
      by_cases h16 : i < 16
      · rw [if_pos h16, Nat.add_comm, intAt_eq hm]; exact U_of hw
      · rw [if_neg h16, show 23 + (i - 16) = i + 7 by omega, intAt_eq hm]; exact U_of hw
  · rw [if_neg hi, List.getElem?_eq_none (by omega)]
theorem open_table {r : Reach} {b0 : Nat} {v : Value} {d : DataW H} {p : List MemPlace} (hv : Value.okWide Tryz.prog w r b0 26 v) (h : DataW.Trod enc Tryz.prog w base spare held 26 v d p) : ∃ t : Tab, v = .agg (tcells t) := by
  obtain ⟨fs, hfs, _⟩ := fieldsT
  obtain ⟨cs, rfl, hsz⟩ := okWide_struct hfs hv
  obtain ⟨fuel, hf⟩ := h
  have hf' : DataW.trod enc Tryz.prog w base spare held fuel 26 cs.toList = some (d, p) := hf
  obtain ⟨hl, hc⟩ := table_cells hf'
  exact ⟨tabOf cs.toList, congrArg Value.agg (Array.ext' (tabOf_cells hl hc).symm)⟩
end
end Go.Proofs.Hc
