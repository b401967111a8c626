/- Rows of words. -/
import Derived.Test.YtmfajobocpaimaaGreatKHmet
import Derived.Test.YtmfajobocpaimaaGreatKHcs
import Derived.Test.YtmfajobocpaimaaGreatKHm
import Derived.Test.YtmfajobocpaimaaGreatKHnl
import Derived.Test.YtmfajobocpaimaaGreatKHye
import Derived.Test.YtmfajobocpaimaaGreatKHpb
import Derived.Test.YtmfajobocpaimaaGreatKHh
import Derived.Test.YtmfajobocpaimaaGreatKHtc
import Derived.Test.YtmfajobocpaimaaGreatKHni
import Derived.Below
import Derived.BigQuiet
import Derived.Deep.Draws
import Derived.Deep.QuietTactic
import Derived.Laws.CopyRow
import Derived.Laws.Tables
import Derived.Lib.AppendZerosOnto
import Derived.Lib.Hide
import Derived.Lib.Tables
import Derived.Lib.Walk
import Derived.LoopIn
import Derived.LoopN
import Derived.LoopNIn
import Derived.Maps.AppendAt
import Derived.OwnWalkIn
import Derived.RangeFuncBox
import Derived.RangeFuncCalls
import Derived.RangeFuncRecord
import Derived.RangeFuncSeq
import Derived.Recover
import Derived.RegionTactic
import Derived.Shelf.Slices.Clone
import Derived.StillTail
import Derived.TacticsInMore
import Derived.Test.YtmfajobocpaimaaGreatProg
import Derived.WalkKit
import Derived.WalkLawsBesides
import Derived.WalkMore
import Derived.WalkSpells
import Derived.Deep.Light
import Derived.Deep.RegionHeld
import Derived.Laws.StructEq
import Derived.Maps.Views
import Derived.StillTailTactics
import Derived.OpenShut
import Derived.ProofKit
import Derived.Deep.Slices
import Derived.ChangeKeysEq
set_option linter.unusedSimpArgs false
set_option linter.unusedVariables false
namespace Go.Proofs.Hc
open Go.RowKit
/-- A row's cells. -/
def wcells (l : List (BitVec 64)) : Array Value := (l.map fun x => U x).toArray
/-- The words lie in a row. -/
def WordsAt (cur : Array Value) (l : List (BitVec 64)) : Prop := ∀ (j : Nat) (x : BitVec 64), l[j]? = some x → cur[j]? = some (U x)
theorem wcells_at (l : List (BitVec 64)) : WordsAt (wcells l) l := by
  intro j x h
  unfold wcells; simp [h]
theorem wcells_size (l : List (BitVec 64)) : (wcells l).size = l.length := by unfold wcells; simp
theorem wcells_list (l : List (BitVec 64)) : (wcells l).toList = l.map fun x => U x := by unfold wcells; simp
theorem wcells_set (l : List (BitVec 64)) (j : Nat) (x : BitVec 64) : (wcells l).setIfInBounds j (U x) = wcells (l.set j x) := by
  unfold wcells
  simp [List.setIfInBounds_toArray, List.map_set]
end Go.Proofs.Hc
/- append of a row of pairs to a row of the call's own. -/
namespace Go.Proofs.Hc
open Go.RowKit
theorem own_form {W : World} {base n size : Nat} {e : TypeId} {v : Value} {xs : List Value} (h : W.ownsRow base e size v n xs) : ∃ a c, v = .slice a n c := by
  obtain ⟨_, ⟨rfl, h0⟩ | ⟨g, cap, cur, hv, _⟩⟩ := h
  · exact ⟨none, 0, by rw [h0]⟩
  · exact ⟨_, _, hv⟩
end Go.Proofs.Hc
/- Tables laid anew, and halves: plain law. -/
namespace Go.Proofs.Hc
open Go.RowKit
theorem live_le {t : Tab} {s : BitVec 64} (m : May t s) : ((pairsT t).length : Int) ≤ 14 := by
  rw [m.len]; exact ((flatT_iff t).1 m.flat).2.2.2.2.2.2
end Go.Proofs.Hc
/- Arguments of the statements, opened: a seed, a table. -/
namespace Go.Proofs.Hc
open Go.ChangeShapes Go.WideShapes Go.ChangeAt Go.RowKit
theorem wfr_u64 {n : Int} (h : (Lit.int .u64 n).wf = true) : 0 ≤ n ∧ n < 18446744073709551616 := by
  have : 0 ≤ n ∧ n ≤ 18446744073709551615 := by simpa [Lit.wf, IntKind.min, IntKind.max, IntKind.signed, IntKind.bits] using h
  omega
theorem U_of {n : Int} (h : (Lit.int .u64 n).wf = true) : U (BitVec.ofInt 64 n) = .int .u64 n := by
  obtain ⟨h0, h1⟩ := wfr_u64 h
  show Value.int .u64 (N (BitVec.ofInt 64 n)) = _
  have : N (BitVec.ofInt 64 n) = n := by
    unfold N
    rw [BitVec.toNat_ofInt]
    have e : ((2 ^ 64 : Nat) : Int) = 18446744073709551616 := by decide
    rw [e, Int.emod_eq_of_lt h0 h1]
    omega
  rw [this]
section
variable {H : Type} {enc : TypeId × Value → H} {w : World} {base : Nat} {spare : Nat → Bool} {held : Bool}
theorem one_cell {cs : List Value} {o : Nat} {v : Value} (h : (cs.drop o).take 1 = [v]) : cs[o]? = some v := by
  have := congrArg (fun l => l[0]?) h
  simpa using this
theorem cells_u64 : Tryz.prog.cellsOf 22 = 1 := by kernel_rfl
theorem cells_int : Tryz.prog.cellsOf 3 = 1 := by kernel_rfl
theorem cells_t : Tryz.prog.cellsOf 26 = 39 := by kernel_rfl
theorem row_u64 {n : Nat} {t : TypeId} {fuel : Nat} {cs : List Value} {x : DataW H × List MemPlace} (ht : Tryz.prog.underlying t = some (.array n 22)) (h : DataW.trod enc Tryz.prog w base spare held fuel t cs = some x) :
    ∀ i, i < n → ∃ m, cs[i]? = some (.int .u64 m) ∧ (Lit.int .u64 m).wf = true := by
  obtain ⟨xs, m, _, _, _, hl, hx⟩ := DataW.trod_array ht h
  intro i hi
  have h1 := hx i hi
  rw [cells_u64, Nat.mul_one, List.getElem?_eq_getElem (by omega)] at h1
  obtain ⟨k, hk, _, hw⟩ := DataW.trod_int Tryz.underlying22 h1
  exact ⟨k, one_cell hk, hw⟩
theorem fieldsT : ∃ fs, Tryz.prog.underlying 26 = some (.struct fs) ∧ fs.toList.map (fun f => (f.type, f.offset)) = [(22, 0), (3, 1), (22, 2), (3, 3), (3, 4), (23, 5), (24, 7), (24, 23)] :=
  ⟨_, Tryz.underlying26, by kernel_rfl⟩
theorem field_at {fs : Array Field} {l : List (TypeId × Nat)} (h : fs.toList.map (fun f => (f.type, f.offset)) = l) {i : Nat} {t o : Nat} (hi : l[i]? = some (t, o)) : ∃ f, fs[i]? = some f ∧ f.type = t ∧ f.offset = o := by
  rw [← h, List.getElem?_map] at hi
  cases hf : fs.toList[i]? with
  | none => rw [hf] at hi; cases hi
  | some f =>
    rw [hf] at hi
    simp only [Option.map_some, Option.some.injEq, Prod.mk.injEq] at hi
    exact ⟨f, by simpa using hf, hi.1, hi.2⟩
theorem drop_take_get {cs : List Value} {o n i : Nat} {v : Value} (h : ((cs.drop o).take n)[i]? = some v) : cs[o + i]? = some v := by
  rw [List.getElem?_take] at h
  split at h
  · rwa [List.getElem?_drop] at h
  · cases h
/-- What the cells of a table are. -/
def kindT (i : Nat) : IntKind := if i = 1 ∨ i = 3 ∨ i = 4 then .i64 else .u64
theorem table_cells {fuel : Nat} {cs : List Value} {x : DataW H × List MemPlace} (h : DataW.trod enc Tryz.prog w base spare held fuel 26 cs = some x) :
    cs.length = 39 ∧ ∀ i, i < 39 → ∃ m, cs[i]? = some (.int (kindT i) m) ∧ (Lit.int (kindT i) m).wf = true := by
  obtain ⟨fs, hfs, hl⟩ := fieldsT
  obtain ⟨xs, n, _, _, hlen, hxl, hx⟩ := DataW.trod_struct hfs h
  have hsz : fs.size = 8 := by
    have := congrArg List.length hl
    simpa using this
  have rd : ∀ (i t o : Nat), ([(22, 0), (3, 1), (22, 2), (3, 3), (3, 4), (23, 5), (24, 7), (24, 23)] : List (TypeId × Nat))[i]? = some (t, o) → i < 8 →
      ∃ y, DataW.trod enc Tryz.prog w base spare held n t ((cs.drop o).take (Tryz.prog.cellsOf t)) = some y := by
    intro i t o hi hi8
    obtain ⟨f, hf, rfl, rfl⟩ := field_at hl hi
    have := hx i f hf
    rw [List.getElem?_eq_getElem (by omega)] at this
    exact ⟨_, this⟩
  have u1 : ∀ (i o : Nat), ([(22, 0), (3, 1), (22, 2), (3, 3), (3, 4), (23, 5), (24, 7), (24, 23)] : List (TypeId × Nat))[i]? = some (22, o) → i < 8 → ∃ m, cs[o]? = some (.int .u64 m) ∧ (Lit.int .u64 m).wf = true := by
    intro i o hi hi8
    obtain ⟨y, hy⟩ := rd i _ o hi hi8
    obtain ⟨k, hk, _, hw⟩ := DataW.trod_int Tryz.underlying22 hy
    rw [cells_u64] at hk
    exact ⟨k, one_cell hk, hw⟩
  have n1 : ∀ (i o : Nat), ([(22, 0), (3, 1), (22, 2), (3, 3), (3, 4), (23, 5), (24, 7), (24, 23)] : List (TypeId × Nat))[i]? = some (3, o) → i < 8 → ∃ m, cs[o]? = some (.int .i64 m) ∧ (Lit.int .i64 m).wf = true := by
    intro i o hi hi8
    obtain ⟨y, hy⟩ := rd i _ o hi hi8
    obtain ⟨k, hk, _, hw⟩ := DataW.trod_int Tryz.underlying3 hy
    rw [cells_int] at hk
    exact ⟨k, one_cell hk, hw⟩
  refine ⟨hlen.trans cells_t, fun i hi => ?_⟩
  rcases (show i = 0 ∨ i = 1 ∨ i = 2 ∨ i = 3 ∨ i = 4 ∨ (5 ≤ i ∧ i < 7) ∨ (7 ≤ i ∧ i < 23) ∨ (23 ≤ i ∧ i < 39) by omega) with rfl | rfl | rfl | rfl | rfl | h | h | h
  · exact u1 0 0 rfl (by omega)
  · exact n1 1 1 rfl (by omega)
  · exact u1 2 2 rfl (by omega)
  · exact n1 3 3 rfl (by omega)
  · exact n1 4 4 rfl (by omega)
  · obtain ⟨y, hy⟩ := rd 5 _ 5 rfl (by omega)
    obtain ⟨m, hm, hw⟩ := row_u64 Tryz.underlying23 hy (i - 5) (by omega)
    have := drop_take_get hm
    rw [show 5 + (i - 5) = i by omega] at this
    exact ⟨m, by rw [show kindT i = .u64 by unfold kindT; rw [if_neg (by omega)]]; exact this, by rw [show kindT i = .u64 by unfold kindT; rw [if_neg (by omega)]]; exact hw⟩
  · obtain ⟨y, hy⟩ := rd 6 _ 7 rfl (by omega)
    obtain ⟨m, hm, hw⟩ := row_u64 Tryz.underlying24 hy (i - 7) (by omega)
    have := drop_take_get hm
    rw [show 7 + (i - 7) = i by omega] at this
    exact ⟨m, by rw [show kindT i = .u64 by unfold kindT; rw [if_neg (by omega)]]; exact this, by rw [show kindT i = .u64 by unfold kindT; rw [if_neg (by omega)]]; exact hw⟩
  · obtain ⟨y, hy⟩ := rd 7 _ 23 rfl (by omega)
    obtain ⟨m, hm, hw⟩ := row_u64 Tryz.underlying24 hy (i - 23) (by omega)
    have := drop_take_get hm
    rw [show 23 + (i - 23) = i by omega] at this
    exact ⟨m, by rw [show kindT i = .u64 by unfold kindT; rw [if_neg (by omega)]]; exact this, by rw [show kindT i = .u64 by unfold kindT; rw [if_neg (by omega)]]; exact hw⟩
def intAt (cs : List Value) (i : Nat) : Int := match cs[i]? with
  | some (.int _ n) => n
  | _ => 0
theorem intAt_eq {cs : List Value} {i : Nat} {k : IntKind} {m : Int} (h : cs[i]? = some (.int k m)) : intAt cs i = m := by unfold intAt; rw [h]
/-- A table that cells say. -/
def tabOf (cs : List Value) : Tab := ⟨BitVec.ofInt 64 (intAt cs 0), intAt cs 1, BitVec.ofInt 64 (intAt cs 2), intAt cs 3, intAt cs 4, fun g => BitVec.ofInt 64 (intAt cs (5 + g)), fun j => BitVec.ofInt 64 (intAt cs (7 + j)), fun j => BitVec.ofInt 64 (intAt cs (23 + j))⟩
theorem tabOf_cells {cs : List Value} (hl : cs.length = 39) (h : ∀ i, i < 39 → ∃ m, cs[i]? = some (.int (kindT i) m) ∧ (Lit.int (kindT i) m).wf = true) : (tcells (tabOf cs)).toList = cs := by
  apply List.ext_getElem?
  intro i
  rw [Array.getElem?_toList, tcells_get]
  by_cases hi : i < 39
  · rw [if_pos hi]
    obtain ⟨m, hm, hw⟩ := h i hi
    rw [hm]
    congr 1
    match i, hi, hm, hw with
    | 0, _, hm, hw => show U (BitVec.ofInt 64 (intAt cs 0)) = _; rw [intAt_eq hm]; exact U_of hw
    | 1, _, hm, hw => show I (intAt cs 1) = _; rw [intAt_eq hm]; rfl
    | 2, _, hm, hw => show U (BitVec.ofInt 64 (intAt cs 2)) = _; rw [intAt_eq hm]; exact U_of hw
    | 3, _, hm, hw => show I (intAt cs 3) = _; rw [intAt_eq hm]; rfl
    | 4, _, hm, hw => show I (intAt cs 4) = _; rw [intAt_eq hm]; rfl
    | 5, _, hm, hw => show U (BitVec.ofInt 64 (intAt cs (5 + 0))) = _; rw [intAt_eq hm]; exact U_of hw
    | 6, _, hm, hw => show U (BitVec.ofInt 64 (intAt cs (5 + 1))) = _; rw [intAt_eq hm]; exact U_of hw
    | i + 7, hi, hm, hw =>
      have hk : kindT (i + 7) = .u64 := by unfold kindT; rw [if_neg (by omega)]
      rw [hk] at hm hw ⊢
      show (if i < 16 then U (BitVec.ofInt 64 (intAt cs (7 + i))) else U (BitVec.ofInt 64 (intAt cs (23 + (i - 16))))) = _
      by_cases h16 : i < 16
      · rw [if_pos h16, Nat.add_comm, intAt_eq hm]; exact U_of hw
      · rw [if_neg h16, show 23 + (i - 16) = i + 7 by omega, intAt_eq hm]; exact U_of hw
  · rw [if_neg hi, List.getElem?_eq_none (by omega)]
end
end Go.Proofs.Hc
/- Arguments of the statements, opened: rows of keys, rows of pairs. -/
namespace Go.Proofs.Hc
open Go.ChangeShapes Go.WideShapes Go.ChangeAt Go.RowKit
section
variable {H : Type} {enc : TypeId × Value → H} {w : World} {base : Nat} {held : Bool}
/-- A row of keys that came in. -/
def KeysIn (w : World) (a : Option Addr) (n : Nat) (ks : Nat → BitVec 64) : Prop := ∀ j, j < n → ∃ kb ko, a = some ⟨kb, ko, none⟩ ∧ kb < w.heap.size ∧ (w.heap[kb]?).bind (cellAt (ko + j)) = some (U (ks j))
end
end Go.Proofs.Hc
/- A pen compared with itself. -/
namespace Go.Proofs.Hc
open Go.RowKit
theorem call_fields : (Tryz.prog.fieldsOf 68).toList.map (fun f => (f.type, f.offset)) = [(3, 0), (22, 1), (22, 2), (22, 3)] := by kernel_rfl
theorem call_under : Tryz.prog.underlying 68 = some (.struct (Tryz.prog.fieldsOf 68)) := by kernel_rfl
theorem call_stood : Tryz.prog.stoodInHeld 68 = false := by kernel_rfl
theorem call_cells : Tryz.prog.cellsOf 68 = 4 := by kernel_rfl
theorem pen_fields : (Tryz.prog.fieldsOf 71).toList.map (fun f => (f.type, f.offset)) = [(3, 0), (3, 1), (68, 2), (22, 6), (22, 7), (22, 8), (22, 9), (3, 10), (22, 11), (69, 12), (3, 13), (22, 14), (3, 15), (22, 16), (4, 17)] := by kernel_rfl
theorem pen_under : Tryz.prog.underlying 71 = some (.struct (Tryz.prog.fieldsOf 71)) := by kernel_rfl
theorem pen_stood : Tryz.prog.stoodInHeld 71 = false := by kernel_rfl
theorem mask_under : Tryz.prog.underlying 69 = some (.int .u8) := by kernel_rfl
theorem bool_under : Tryz.prog.underlying 4 = some .bool := by kernel_rfl
theorem self_bool (d : Nat) (T : TypeId) (a : Bool) (h : Tryz.prog.underlying T = some .bool) : SelfEq (d + 1) T (.bool a) := fun w => by
  rw [run_equalIn_bool' w d T a a h, beq_self_eq_true]
theorem part_bool {T : TypeId} (h : Tryz.prog.underlying T = some .bool) {xs : Array Value} {off : Nat} {v : Value} (hx : xs[off]? = some v) (w : World) : (part T xs off).run Tryz.prog w = .ok v w :=
  run_part_plain w (by simp [Program.plainKey, h]) hx
theorem self_call (d : Nat) (a : Int) (b c e : BitVec 64) : SelfEq (d + 2) 68 (.agg #[I a, U b, U c, U e]) := fun w => by
  rw [run_equalIn_agg w (d + 1) 68 _ _ call_under call_stood]
  refine self_fields _ (fun f hf => ?_) w
  have hm : (f.type, f.offset) ∈ [(3, 0), (22, 1), (22, 2), (22, 3)] := by
    rw [← call_fields]; exact List.mem_map.2 ⟨f, hf, rfl⟩
  generalize f.type = T at *
  generalize f.offset = o at *
  simp only [List.mem_cons, Prod.mk.injEq, List.not_mem_nil, or_false] at hm
  rcases hm with ⟨rfl, rfl⟩ | ⟨rfl, rfl⟩ | ⟨rfl, rfl⟩ | ⟨rfl, rfl⟩
  · exact ⟨I a, part_int Tryz.underlying3 rfl, self_int _ _ _ _ _ Tryz.underlying3⟩
  · exact ⟨U b, part_int Tryz.underlying22 rfl, self_int _ _ _ _ _ Tryz.underlying22⟩
  · exact ⟨U c, part_int Tryz.underlying22 rfl, self_int _ _ _ _ _ Tryz.underlying22⟩
  · exact ⟨U e, part_int Tryz.underlying22 rfl, self_int _ _ _ _ _ Tryz.underlying22⟩
theorem self_pen (d : Nat) (p : PenT) : SelfEq (d + 3) 71 (.agg (penC p)) := fun w => by
  rw [run_equalIn_agg w (d + 2) 71 _ _ pen_under pen_stood]
  refine self_fields _ (fun f hf => ?_) w
  have hm : (f.type, f.offset) ∈ [(3, 0), (3, 1), (68, 2), (22, 6), (22, 7), (22, 8), (22, 9), (3, 10), (22, 11), (69, 12), (3, 13), (22, 14), (3, 15), (22, 16), (4, 17)] := by
    rw [← pen_fields]; exact List.mem_map.2 ⟨f, hf, rfl⟩
  generalize f.type = T at *
  generalize f.offset = o at *
  obtain ⟨ic, hc⟩ := info_of_underlying (P := Tryz.prog) call_under
  simp only [List.mem_cons, Prod.mk.injEq, List.not_mem_nil, or_false] at hm
  rcases hm with ⟨rfl, rfl⟩ | ⟨rfl, rfl⟩ | ⟨rfl, rfl⟩ | ⟨rfl, rfl⟩ | ⟨rfl, rfl⟩ | ⟨rfl, rfl⟩ | ⟨rfl, rfl⟩ | ⟨rfl, rfl⟩ | ⟨rfl, rfl⟩ | ⟨rfl, rfl⟩ | ⟨rfl, rfl⟩ | ⟨rfl, rfl⟩ | ⟨rfl, rfl⟩ | ⟨rfl, rfl⟩ | ⟨rfl, rfl⟩
  · exact ⟨_, part_int Tryz.underlying3 (pen_g0 p), self_int _ _ _ _ _ Tryz.underlying3⟩
  · exact ⟨_, part_int Tryz.underlying3 (pen_g1 p), self_int _ _ _ _ _ Tryz.underlying3⟩
  · exact ⟨.agg #[I p.op, U p.key, U p.a, U p.b], fun w => by simp [part, isAgg, run_underlying call_under, run_sizeOf w hc, call_cells]; rfl, self_call _ _ _ _ _⟩
  · exact ⟨_, part_int Tryz.underlying22 (pen_g6 p), self_int _ _ _ _ _ Tryz.underlying22⟩
  · exact ⟨_, part_int Tryz.underlying22 (pen_g7 p), self_int _ _ _ _ _ Tryz.underlying22⟩
  · exact ⟨_, part_int Tryz.underlying22 (pen_g8 p), self_int _ _ _ _ _ Tryz.underlying22⟩
  · exact ⟨_, part_int Tryz.underlying22 (pen_g9 p), self_int _ _ _ _ _ Tryz.underlying22⟩
  · exact ⟨_, part_int Tryz.underlying3 (pen_g10 p), self_int _ _ _ _ _ Tryz.underlying3⟩
  · exact ⟨_, part_int Tryz.underlying22 (pen_g11 p), self_int _ _ _ _ _ Tryz.underlying22⟩
  · exact ⟨_, part_int mask_under (pen_g12 p), self_int _ _ _ _ _ mask_under⟩
  · exact ⟨_, part_int Tryz.underlying3 (pen_g13 p), self_int _ _ _ _ _ Tryz.underlying3⟩
  · exact ⟨_, part_int Tryz.underlying22 (pen_g14 p), self_int _ _ _ _ _ Tryz.underlying22⟩
  · exact ⟨_, part_int Tryz.underlying3 (pen_g15 p), self_int _ _ _ _ _ Tryz.underlying3⟩
  · exact ⟨_, part_int Tryz.underlying22 (pen_g16 p), self_int _ _ _ _ _ Tryz.underlying22⟩
  · exact ⟨_, part_bool bool_under (pen_g17 p), self_bool _ _ _ bool_under⟩
theorem eql_pen (p : PenT) (w : World) : (binOp .eql 71 (.agg (penC p)) (.agg (penC p))).run Tryz.prog w = .ok (.bool true) w := by
  rw [run_eql_struct, self_pen 9997 p w]; rfl
theorem neq_pen (p : PenT) (w : World) : (binOp .neq 71 (.agg (penC p)) (.agg (penC p))).run Tryz.prog w = .ok (.bool false) w := by
  rw [run_neq_struct, self_pen 9997 p w]; rfl
theorem guardPen (op : BinOp) (x y : Operand) (xs ys : Array Value) (w : World) : (eqGuard op 71 x y (.agg xs) (.agg ys)).run Tryz.prog w = .ok () w := run_eqGuard_agg w op 71 x y xs ys (by kernel_rfl)
end Go.Proofs.Hc
/- Law 19: arguments opened (a row of words with its capacity, a pen), own. -/
namespace Go.Proofs.Hc
open Go.ChangeShapes Go.WideShapes Go.ChangeAt Go.RowKit
section
variable {H : Type} {enc : TypeId × Value → H} {w : World} {base : Nat} {spare : Nat → Bool} {held : Bool}
theorem cells_call : Tryz.prog.cellsOf 68 = 4 := by kernel_rfl
theorem fields_at {fs : Array Field} {l : List (TypeId × Nat)} (hl : fs.toList.map (fun f => (f.type, f.offset)) = l) {xs : List (DataW H × List MemPlace)} {n : Nat} {cs : List Value} (hxl : xs.length = fs.size)
    (hx : ∀ (i : Nat) (f : Field), fs[i]? = some f → DataW.trod enc Tryz.prog w base spare held n f.type ((cs.drop f.offset).take (Tryz.prog.cellsOf f.type)) = xs[i]?) : ∀ (i t o : Nat), l[i]? = some (t, o) → ∃ y, DataW.trod enc Tryz.prog w base spare held n t ((cs.drop o).take (Tryz.prog.cellsOf t)) = some y := by
  intro i t o hi
  obtain ⟨f, hf, rfl, rfl⟩ := field_at hl hi
  have := hx i f hf
  have hlt := (Array.getElem?_eq_some_iff.1 hf).1
  rw [List.getElem?_eq_getElem (by omega)] at this
  exact ⟨_, this⟩
theorem rd_int {n o : Nat} {t : TypeId} {k : IntKind} {cs : List Value} {y : DataW H × List MemPlace} (ht : Tryz.prog.underlying t = some (.int k)) (hc : Tryz.prog.cellsOf t = 1) (h : DataW.trod enc Tryz.prog w base spare held n t ((cs.drop o).take (Tryz.prog.cellsOf t)) = some y) : ∃ m, cs[o]? = some (.int k m) ∧ (Lit.int k m).wf = true := by
  obtain ⟨m, hm, _, hw⟩ := DataW.trod_int ht h
  rw [hc] at hm
  exact ⟨m, one_cell hm, hw⟩
theorem call_cellsOf {fuel : Nat} {cs : List Value} {x : DataW H × List MemPlace} (h : DataW.trod enc Tryz.prog w base spare held fuel 68 cs = some x) :
    cs.length = 4 ∧ (∃ m, cs[0]? = some (I m)) ∧ (∃ m, cs[1]? = some (U m)) ∧ (∃ m, cs[2]? = some (U m)) ∧ (∃ m, cs[3]? = some (U m)) := by
  obtain ⟨xs, n, _, _, hlen, hxl, hx⟩ := DataW.trod_struct call_under h
  have rd := fields_at (n := n) (cs := cs) call_fields hxl hx
  obtain ⟨y0, e0⟩ := rd 0 _ _ rfl
  obtain ⟨m0, h0, _⟩ := rd_int Tryz.underlying3 cells_int e0
  obtain ⟨y1, e1⟩ := rd 1 _ _ rfl
  obtain ⟨m1, h1, w1⟩ := rd_int Tryz.underlying22 cells_u64 e1
  obtain ⟨y2, e2⟩ := rd 2 _ _ rfl
  obtain ⟨m2, h2, w2⟩ := rd_int Tryz.underlying22 cells_u64 e2
  obtain ⟨y3, e3⟩ := rd 3 _ _ rfl
  obtain ⟨m3, h3, w3⟩ := rd_int Tryz.underlying22 cells_u64 e3
  exact ⟨hlen.trans cells_call, ⟨m0, h0⟩, ⟨_, by rw [U_of w1]; exact h1⟩, ⟨_, by rw [U_of w2]; exact h2⟩, ⟨_, by rw [U_of w3]; exact h3⟩⟩
end
theorem KeysIn.ch {w w' : World} {a : Option Addr} {n : Nat} {ks : Nat → BitVec 64} (h : KeysIn w a n ks) (c : Ch [] w w') {k : Nat} (hk : k ≤ n) : KeysIn w' a k ks := fun j hj => by
  obtain ⟨kb, ko, h1, h2, h3⟩ := h j (by omega)
  exact ⟨kb, ko, h1, by have := c.size; omega, by rw [c.block kb h2 (by simp)]; exact h3⟩
attribute [local go_sem] wrap_u64 wrap_u8 bits_xor64 bits_and64 bits_or64 bits_not64 bits_xor8 bits_and8 bits_or8 signed64 signed8 ofInt_N BitVec.ofInt_add BitVec.ofInt_mul ofInt_sub' ofInt8_N64 ofInt64_N8 wide8 eqN neN shr_pow shr1 shr7 shr56
attribute [local go_sem high] bits_com64 shl_wrap
attribute [local go_sem] cell_heap ice_heap cellAt_cells iceAt_cells setAt_cells rowAt_cells canLay_cells laidAt_cells size_onObj size_setCell rowRes_some layRes_true
attribute [local go_sem] load26 load73 load23 store26 build73
attribute [local go_sem ↓] lrow26 lrow73 lrow23 srow26 zero26 brow73 heap_alloc heap_drew heap_drewN heap_setCell heap_onObj
attribute [local go_sem] tcells_size hcells_size tcells_get hcells_get tcells_one hcells_one hcells_table tcells_table hcells_all hcells_ctrl tcells_ctrl
attribute [local go_sem] nn2 nm2 nn3 nm3 nn4 nm4 nn5 nm5 nn6 nm6 nn7 nm7 nn8 nm8
attribute [local go_sem] nn2 nm2 nn3 nm3 nn4 nm4 nn5 nm5 nn6 nm6 nn7 nm7 nn8 nm8
attribute [local go_sem] Oper.semAt_some make_func1
end Go.Proofs.Hc
