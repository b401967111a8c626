/- Arguments of the statements, opened: a seed, a table. -/
import Derived.Test.YtcikopeddljgkaaGreatKHcb
import Derived.Test.YtcikopeddljgkaaGreatKHmet
import Derived.Test.YtcikopeddljgkaaGreatKHr
import Derived.Test.YtcikopeddljgkaaGreatKHs
import Derived.Below
import Derived.BigQuiet
import Derived.Deep.Draws
import Derived.Deep.QuietTactic
import Derived.Laws.CopyRow
import Derived.Laws.Tables
import Derived.Lib.Hide
import Derived.OpenShut
import Derived.ProofKit
import Derived.RangeFuncRecord
import Derived.Test.YtcikopeddljgkaaGreatProg
import Derived.WalkKit
import Derived.Deep.Slices
import Derived.ChangeKeysEq
import Derived.Deep.Light
import Derived.Deep.RegionHeld
import Derived.Laws.StructEq
import Derived.Lib.AppendZerosOnto
import Derived.Lib.Tables
import Derived.Lib.Walk
import Derived.LoopIn
import Derived.LoopN
import Derived.LoopNIn
import Derived.Maps.AppendAt
import Derived.Maps.Views
import Derived.OwnWalkIn
import Derived.RangeFuncBox
import Derived.RangeFuncCalls
import Derived.RangeFuncSeq
import Derived.Recover
import Derived.RegionTactic
import Derived.Shelf.Slices.Clone
import Derived.StillTail
import Derived.StillTailTactics
import Derived.TacticsInMore
import Derived.WalkLawsBesides
import Derived.WalkMore
import Derived.WalkSpells
set_option linter.unusedSimpArgs false
set_option linter.unusedVariables false
namespace Go.Proofs.Hc
open Go.ChangeShapes Go.WideShapes Go.ChangeAt Go.RowKit
theorem wfr_u64 {n : Int} (h : (Lit.int .u64 n).wf = true) : 0 ≤ n ∧ n < 18446744073709551616 := by
  have : 0 ≤ n ∧ n ≤ 18446744073709551615 := by simpa [Lit.wf, IntKind.min, IntKind.max, IntKind.signed, IntKind.bits] using h
  omega
theorem U_of {n : Int} (h : (Lit.int .u64 n).wf = true) : U (BitVec.ofInt 64 n) = .int .u64 n := by
  obtain ⟨h0, h1⟩ := wfr_u64 h
  show Value.int .u64 (N (BitVec.ofInt 64 n)) = _
  have : N (BitVec.ofInt 64 n) = n := by
    unfold N
    rw [BitVec.toNat_ofInt]
    have e : ((2 ^ 64 : Nat) : Int) = 18446744073709551616 := by decide
    rw [e, Int.emod_eq_of_lt h0 h1]
    omega
  rw [this]
section
variable {H : Type} {enc : TypeId × Value → H} {w : World} {base : Nat} {spare : Nat → Bool} {held : Bool}
theorem one_cell {cs : List Value} {o : Nat} {v : Value} (h : (cs.drop o).take 1 = [v]) : cs[o]? = some v := by
  have := congrArg (fun l => l[0]?) h
  simpa using this
theorem cells_u64 : Tryz.prog.cellsOf 22 = 1 := by kernel_rfl
theorem cells_int : Tryz.prog.cellsOf 3 = 1 := by kernel_rfl
theorem cells_t : Tryz.prog.cellsOf 26 = 39 := by kernel_rfl
theorem row_u64 {n : Nat} {t : TypeId} {fuel : Nat} {cs : List Value} {x : DataW H × List MemPlace} (ht : Tryz.prog.underlying t = some (.array n 22)) (h : DataW.trod enc Tryz.prog w base spare held fuel t cs = some x) :
    ∀ i, i < n → ∃ m, cs[i]? = some (.int .u64 m) ∧ (Lit.int .u64 m).wf = true := by
  obtain ⟨xs, m, _, _, _, hl, hx⟩ := DataW.trod_array ht h
  intro i hi
  have h1 := hx i hi
  rw [cells_u64, Nat.mul_one, List.getElem?_eq_getElem (by omega)] at h1
  obtain ⟨k, hk, _, hw⟩ := DataW.trod_int Tryz.underlying22 h1
  exact ⟨k, one_cell hk, hw⟩
theorem fieldsT : ∃ fs, Tryz.prog.underlying 26 = some (.struct fs) ∧ fs.toList.map (fun f => (f.type, f.offset)) = [(22, 0), (3, 1), (22, 2), (3, 3), (3, 4), (23, 5), (24, 7), (24, 23)] :=
  ⟨_, Tryz.underlying26, by kernel_rfl⟩
theorem field_at {fs : Array Field} {l : List (TypeId × Nat)} (h : fs.toList.map (fun f => (f.type, f.offset)) = l) {i : Nat} {t o : Nat} (hi : l[i]? = some (t, o)) : ∃ f, fs[i]? = some f ∧ f.type = t ∧ f.offset = o := by
  rw [← h, List.getElem?_map] at hi
  cases hf : fs.toList[i]? with
  | none => rw [hf] at hi; cases hi
  | some f =>
    rw [hf] at hi
    simp only [Option.map_some, Option.some.injEq, Prod.mk.injEq] at hi
    exact ⟨f, by simpa using hf, hi.1, hi.2⟩
theorem drop_take_get {cs : List Value} {o n i : Nat} {v : Value} (h : ((cs.drop o).take n)[i]? = some v) : cs[o + i]? = some v := by
  rw [List.getElem?_take] at h
  split at h
  · rwa [List.getElem?_drop] at h
  · cases h
/-- What the cells of a table are. -/
def kindT (i : Nat) : IntKind := if i = 1 ∨ i = 3 ∨ i = 4 then .i64 else .u64
theorem table_cells {fuel : Nat} {cs : List Value} {x : DataW H × List MemPlace} (h : DataW.trod enc Tryz.prog w base spare held fuel 26 cs = some x) :
    cs.length = 39 ∧ ∀ i, i < 39 → ∃ m, cs[i]? = some (.int (kindT i) m) ∧ (Lit.int (kindT i) m).wf = true := by
  obtain ⟨fs, hfs, hl⟩ := fieldsT
  obtain ⟨xs, n, _, _, hlen, hxl, hx⟩ := DataW.trod_struct hfs h
  have hsz : fs.size = 8 := by
    have := congrArg List.length hl
    simpa using this
  have rd : ∀ (i t o : Nat), ([(22, 0), (3, 1), (22, 2), (3, 3), (3, 4), (23, 5), (24, 7), (24, 23)] : List (TypeId × Nat))[i]? = some (t, o) → i < 8 →
      ∃ y, DataW.trod enc Tryz.prog w base spare held n t ((cs.drop o).take (Tryz.prog.cellsOf t)) = some y := by
    intro i t o hi hi8
    obtain ⟨f, hf, rfl, rfl⟩ := field_at hl hi
    have := hx i f hf
    rw [List.getElem?_eq_getElem (by omega)] at this
    exact ⟨_, this⟩
  have u1 : ∀ (i o : Nat), ([(22, 0), (3, 1), (22, 2), (3, 3), (3, 4), (23, 5), (24, 7), (24, 23)] : List (TypeId × Nat))[i]? = some (22, o) → i < 8 → ∃ m, cs[o]? = some (.int .u64 m) ∧ (Lit.int .u64 m).wf = true := by
    intro i o hi hi8
    obtain ⟨y, hy⟩ := rd i _ o hi hi8
    obtain ⟨k, hk, _, hw⟩ := DataW.trod_int Tryz.underlying22 hy
    rw [cells_u64] at hk
    exact ⟨k, one_cell hk, hw⟩
  have n1 : ∀ (i o : Nat), ([(22, 0), (3, 1), (22, 2), (3, 3), (3, 4), (23, 5), (24, 7), (24, 23)] : List (TypeId × Nat))[i]? = some (3, o) → i < 8 → ∃ m, cs[o]? = some (.int .i64 m) ∧ (Lit.int .i64 m).wf = true := by
    intro i o hi hi8
    obtain ⟨y, hy⟩ := rd i _ o hi hi8
    obtain ⟨k, hk, _, hw⟩ := DataW.trod_int Tryz.underlying3 hy
    rw [cells_int] at hk
    exact ⟨k, one_cell hk, hw⟩
  refine ⟨hlen.trans cells_t, fun i hi => ?_⟩
  rcases (show i = 0 ∨ i = 1 ∨ i = 2 ∨ i = 3 ∨ i = 4 ∨ (5 ≤ i ∧ i < 7) ∨ (7 ≤ i ∧ i < 23) ∨ (23 ≤ i ∧ i < 39) by omega) with rfl | rfl | rfl | rfl | rfl | h | h | h
  · exact u1 0 0 rfl (by omega)
  · exact n1 1 1 rfl (by omega)
  · exact u1 2 2 rfl (by omega)
  · exact n1 3 3 rfl (by omega)
  · exact n1 4 4 rfl (by omega)
  · obtain ⟨y, hy⟩ := rd 5 _ 5 rfl (by omega)
    obtain ⟨m, hm, hw⟩ := row_u64 Tryz.underlying23 hy (i - 5) (by omega)
    have := drop_take_get hm
    rw [show 5 + (i - 5) = i by omega] at this
    exact ⟨m, by rw [show kindT i = .u64 by unfold kindT; rw [if_neg (by omega)]]; exact this, by rw [show kindT i = .u64 by unfold kindT; rw [if_neg (by omega)]]; exact hw⟩
  · obtain ⟨y, hy⟩ := rd 6 _ 7 rfl (by omega)
    obtain ⟨m, hm, hw⟩ := row_u64 Tryz.underlying24 hy (i - 7) (by omega)
    have := drop_take_get hm
    rw [show 7 + (i - 7) = i by omega] at this
    exact ⟨m, by rw [show kindT i = .u64 by unfold kindT; rw [if_neg (by omega)]]; exact this, by rw [show kindT i = .u64 by unfold kindT; rw [if_neg (by omega)]]; exact hw⟩
  · obtain ⟨y, hy⟩ := rd 7 _ 23 rfl (by omega)
    obtain ⟨m, hm, hw⟩ := row_u64 Tryz.underlying24 hy (i - 23) (by omega)
    have := drop_take_get hm
    rw [show 23 + (i - 23) = i by omega] at this
    exact ⟨m, by rw [show kindT i = .u64 by unfold kindT; rw [if_neg (by omega)]]; exact this, by rw [show kindT i = .u64 by unfold kindT; rw [if_neg (by omega)]]; exact hw⟩
def intAt (cs : List Value) (i : Nat) : Int := match cs[i]? with
  | some (.int _ n) => n
  | _ => 0
theorem intAt_eq {cs : List Value} {i : Nat} {k : IntKind} {m : Int} (h : cs[i]? = some (.int k m)) : intAt cs i = m := by unfold intAt; rw [h]
/-- A table that cells say. -/
def tabOf (cs : List Value) : Tab := ⟨BitVec.ofInt 64 (intAt cs 0), intAt cs 1, BitVec.ofInt 64 (intAt cs 2), intAt cs 3, intAt cs 4, fun g => BitVec.ofInt 64 (intAt cs (5 + g)), fun j => BitVec.ofInt 64 (intAt cs (7 + j)), fun j => BitVec.ofInt 64 (intAt cs (23 + j))⟩
theorem tabOf_cells {cs : List Value} (hl : cs.length = 39) (h : ∀ i, i < 39 → ∃ m, cs[i]? = some (.int (kindT i) m) ∧ (Lit.int (kindT i) m).wf = true) : (tcells (tabOf cs)).toList = cs := by
  apply List.ext_getElem?
  intro i
  rw [Array.getElem?_toList, tcells_get]
  by_cases hi : i < 39
  · rw [if_pos hi]
    obtain ⟨m, hm, hw⟩ := h i hi
    rw [hm]
    congr 1
    match i, hi, hm, hw with
    | 0, _, hm, hw => show U (BitVec.ofInt 64 (intAt cs 0)) = _; rw [intAt_eq hm]; exact U_of hw
    | 1, _, hm, hw => show I (intAt cs 1) = _; rw [intAt_eq hm]; rfl
    | 2, _, hm, hw => show U (BitVec.ofInt 64 (intAt cs 2)) = _; rw [intAt_eq hm]; exact U_of hw
    | 3, _, hm, hw => show I (intAt cs 3) = _; rw [intAt_eq hm]; rfl
    | 4, _, hm, hw => show I (intAt cs 4) = _; rw [intAt_eq hm]; rfl
    | 5, _, hm, hw => show U (BitVec.ofInt 64 (intAt cs (5 + 0))) = _; rw [intAt_eq hm]; exact U_of hw
    | 6, _, hm, hw => show U (BitVec.ofInt 64 (intAt cs (5 + 1))) = _; rw [intAt_eq hm]; exact U_of hw
    | i + 7, hi, hm, hw =>
      have hk : kindT (i + 7) = .u64 := by unfold kindT; rw [if_neg (by omega)]
      rw [hk] at hm hw ⊢
      show (if i < 16 then U (BitVec.ofInt 64 (intAt cs (7 + i))) else U (BitVec.ofInt 64 (intAt cs (23 + (i - 16))))) = _
      by_cases h16 : i < 16
      · rw [if_pos h16, Nat.add_comm, intAt_eq hm]; exact U_of hw
      · rw [if_neg h16, show 23 + (i - 16) = i + 7 by omega, intAt_eq hm]; exact U_of hw
  · rw [if_neg hi, List.getElem?_eq_none (by omega)]
set_option maxRecDepth 100000 in
theorem open_table {r : Reach} {b0 : Nat} {v : Value} {d : DataW H} {p : List MemPlace} (hv : Value.okWide Tryz.prog w r b0 26 v) (h : DataW.Trod enc Tryz.prog w base spare held 26 v d p) : ∃ t : Tab, v = .agg (tcells t) := by
  obtain ⟨fs, hfs, _⟩ := fieldsT
  obtain ⟨cs, rfl, hsz⟩ := okWide_struct hfs hv
  obtain ⟨fuel, hf⟩ := h
  have hf' : DataW.trod enc Tryz.prog w base spare held fuel 26 cs.toList = some (d, p) := hf
  obtain ⟨hl, hc⟩ := table_cells hf'
  exact ⟨tabOf cs.toList, congrArg Value.agg (Array.ext' (tabOf_cells hl hc).symm)⟩
end
end Go.Proofs.Hc
/- Arguments of the statements, opened: rows of keys, rows of pairs. -/
namespace Go.Proofs.Hc
open Go.ChangeShapes Go.WideShapes Go.ChangeAt Go.RowKit
section
variable {H : Type} {enc : TypeId × Value → H} {w : World} {base : Nat} {held : Bool}
/-- A row of keys that came in. -/
def KeysIn (w : World) (a : Option Addr) (n : Nat) (ks : Nat → BitVec 64) : Prop := ∀ j, j < n → ∃ kb ko, a = some ⟨kb, ko, none⟩ ∧ kb < w.heap.size ∧ (w.heap[kb]?).bind (cellAt (ko + j)) = some (U (ks j))
theorem cell_in {w : World} {b o : Nat} {v : Value} (h : w.cell? ⟨b, o, none⟩ = some v) : b < w.heap.size ∧ (w.heap[b]?).bind (cellAt o) = some v := by
  rw [cell_heap] at h
  refine ⟨?_, h⟩
  cases hb : w.heap[b]? with
  | none => rw [hb] at h; cases h
  | some x => exact (Array.getElem?_eq_some_iff.1 hb).1
set_option maxRecDepth 100000 in
theorem open_keys {r : Reach} {b0 : Nat} {v : Value} {d : DataW H} {p : List MemPlace} (hv : Value.okWide Tryz.prog w r b0 44 v) (h : DataW.Trod enc Tryz.prog w 0 (fun _ => true) held 44 v d p) :
    ∃ a n c ks, v = .slice a n c ∧ n ≤ 9223372036854775807 ∧ KeysIn w a n ks := by
  obtain ⟨a, n, c, rfl⟩ := okWide_slice Tryz.underlying44 hv
  obtain ⟨fuel, hf⟩ := h
  rcases open_ints Tryz.underlying44 Tryz.underlying22 cells_u64 hf with ⟨hcs, _⟩ | ⟨x, l, c', zs, hcs, _, hl, hm, hz, _, hcell, hwz⟩
  · simp [Value.cells] at hcs
    obtain ⟨rfl, rfl, rfl⟩ := hcs
    exact ⟨none, 0, 0, fun _ => 0#64, rfl, by omega, fun j hj => by omega⟩
  · simp [Value.cells] at hcs
    obtain ⟨rfl, rfl, rfl⟩ := hcs
    simp only [if_true] at hz
    unfold maxLen at hm
    refine ⟨some x, n, c, fun j => BitVec.ofInt 64 (zs.getD j 0), rfl, by omega, fun j hj => ?_⟩
    obtain ⟨b, off, rfl, hc⟩ := ints_at hcell (by omega)
    have h1 := hc j (by omega)
    have hmem : zs.getD j 0 ∈ zs := by
      rw [List.getD_eq_getElem?_getD, List.getElem?_eq_getElem (by omega)]
      exact List.getElem_mem _
    rw [← U_of (hwz _ hmem)] at h1
    obtain ⟨h2, h3⟩ := cell_in h1
    exact ⟨b, off, rfl, h2, h3⟩
end
end Go.Proofs.Hc
/- Law 19: arguments opened (a row of words with its capacity, a pen), own. -/
namespace Go.Proofs.Hc
open Go.ChangeShapes Go.WideShapes Go.ChangeAt Go.RowKit
section
variable {H : Type} {enc : TypeId × Value → H} {w : World} {base : Nat} {spare : Nat → Bool} {held : Bool}
set_option maxRecDepth 100000 in
theorem open_words {r : Reach} {b0 : Nat} {v : Value} {d : DataW H} {p : List MemPlace} (hv : Value.okWide Tryz.prog w r b0 44 v) (h : DataW.Trod enc Tryz.prog w 0 (fun _ => true) held 44 v d p) :
    ∃ a n c ks, v = .slice a n c ∧ n ≤ c ∧ c ≤ 9223372036854775807 ∧ (a = none → n = 0 ∧ c = 0) ∧ KeysIn w a n ks := by
  obtain ⟨a, n, c, ks, rfl, hn, hps⟩ := open_keys hv h
  obtain ⟨fuel, hf⟩ := h
  rcases Go.Deep.open_slice Tryz.underlying44 hf with ⟨hcs, _⟩ | ⟨x, l, c', m, n', D, Pl, hcs, _, hl, hm, hmm, _, hel⟩
  · simp [Value.cells] at hcs
    obtain ⟨rfl, rfl, rfl⟩ := hcs
    exact ⟨none, 0, 0, ks, rfl, by omega, by omega, fun _ => ⟨rfl, rfl⟩, hps⟩
  · simp [Value.cells] at hcs
    obtain ⟨rfl, rfl, rfl⟩ := hcs
    unfold maxLen at hm
    exact ⟨some x, n, c, ks, rfl, hl, by omega, (fun h => by cases h), hps⟩
end
theorem KeysIn.ch {w w' : World} {a : Option Addr} {n : Nat} {ks : Nat → BitVec 64} (h : KeysIn w a n ks) (c : Ch [] w w') {k : Nat} (hk : k ≤ n) : KeysIn w' a k ks := fun j hj => by
  obtain ⟨kb, ko, h1, h2, h3⟩ := h j (by omega)
  exact ⟨kb, ko, h1, by have := c.size; omega, by rw [c.block kb h2 (by simp)]; exact h3⟩
attribute [local go_sem] wrap_u64 wrap_u8 bits_xor64 bits_and64 bits_or64 bits_not64 bits_xor8 bits_and8 bits_or8 signed64 signed8 ofInt_N BitVec.ofInt_add BitVec.ofInt_mul ofInt_sub' ofInt8_N64 ofInt64_N8 wide8 eqN neN shr_pow shr1 shr7 shr56
attribute [local go_sem high] bits_com64 shl_wrap
attribute [local go_sem] cell_heap ice_heap cellAt_cells iceAt_cells setAt_cells rowAt_cells canLay_cells laidAt_cells size_onObj size_setCell rowRes_some layRes_true
attribute [local go_sem] load26 load73 load23 store26 build73
attribute [local go_sem ↓] lrow26 lrow73 lrow23 srow26 zero26 brow73 heap_alloc heap_drew heap_drewN heap_setCell heap_onObj
attribute [local go_sem] tcells_size hcells_size tcells_get hcells_get tcells_one hcells_one hcells_table tcells_table hcells_all hcells_ctrl tcells_ctrl
attribute [local go_sem] nn2 nm2 nn3 nm3 nn4 nm4 nn5 nm5 nn6 nm6 nn7 nm7 nn8 nm8
attribute [local go_sem] nn2 nm2 nn3 nm3 nn4 nm4 nn5 nm5 nn6 nm6 nn7 nm7 nn8 nm8
attribute [local go_sem] Oper.semAt_some make_func1
/-- The front part of a row of words. -/
def frontW (ks : Nat → BitVec 64) (n : Nat) : List (BitVec 64) := (List.range n).map ks
theorem frontW_len (ks : Nat → BitVec 64) (n : Nat) : (frontW ks n).length = n := by simp [frontW]
end Go.Proofs.Hc
