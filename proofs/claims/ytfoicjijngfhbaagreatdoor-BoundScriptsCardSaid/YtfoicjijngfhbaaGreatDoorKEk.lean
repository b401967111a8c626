/- slices.Grow and slices.Concat at rows of calls. -/
import Derived.Test.YtfoicjijngfhbaaGreatDoorKBc
import Derived.Test.YtfoicjijngfhbaaGreatDoorKBf
import Derived.Test.YtfoicjijngfhbaaGreatDoorKDa
import Derived.Test.YtfoicjijngfhbaaGreatDoorKFm
import Derived.Test.YtfoicjijngfhbaaGreatDoorKHm
import Derived.Below
import Derived.BigQuiet
import Derived.Deep.Cut
import Derived.Deep.Draws
import Derived.Deep.QuietTactic
import Derived.Deep.RegionHeld
import Derived.Laws.AppendOwn
import Derived.Laws.CopyRow
import Derived.Laws.EntriesVeiled
import Derived.Laws.Tables
import Derived.Lib.AppendZerosOnto
import Derived.Lib.Hide
import Derived.LoopIn
import Derived.LoopNIn
import Derived.OwnWalkIn
import Derived.RangeFuncCalls
import Derived.RangeFuncRecord
import Derived.RangeFuncSeq
import Derived.Recover
import Derived.TacticsInMore
import Derived.Test.YtfoicjijngfhbaaGreatDoorProg
import Derived.WalkKit
import Derived.WalkLawsBesides
import Derived.Deep.OwnRows
import Derived.Deep.Slices
import Derived.Laws.Bits64
import Derived.Laws.Bits64b
import Derived.Laws.CopyOwn
import Derived.Laws.IdiomCopy
import Derived.Lib.BitFns
import Derived.Lib.Slices
import Derived.Lib.Small
import Derived.Lib.Strings
import Derived.Lib.Tables
import Derived.Lib.Walk
import Derived.Maps.RangeWalk
import Derived.Maps.Views
import Derived.OpenShut
import Derived.ProofKit
import Derived.ScopeJumps
import Derived.Sort.AssemblyPlain
import Derived.Sort.Defs
import Derived.Sort.LotC
import Derived.Sort.LotD1
import Derived.Sort.LotD5
import Derived.Sort.LotD6
import Derived.Sort.Walk13a
import Derived.StillTail
set_option linter.unusedSimpArgs false
set_option linter.unusedVariables false
namespace Go.Proofs.Hc
open Go.RowKit
set_option linter.unusedSimpArgs false
set_option linter.unusedVariables false
attribute [local go_sem] wrap_u64 wrap_u8 bits_xor64 bits_and64 bits_or64 bits_not64 bits_xor8 bits_and8 bits_or8 signed64 signed8 ofInt_N BitVec.ofInt_add BitVec.ofInt_mul ofInt_sub' ofInt8_N64 ofInt64_N8 wide8 eqN neN shr_pow shr1 shr7 shr56
attribute [local go_sem high] bits_com64 shl_wrap
attribute [local go_sem] nn2 nm2 nn3 nm3 nn4 nm4 nn5 nm5 nn6 nm6 nn7 nm7 nn8 nm8
attribute [local go_sem] Oper.semAt_some make_func1 make_funcB
theorem infoC : (Tryz.prog.info? 44).map (fun i => (i.zero, i.size, i.bytes)) = some (some (.agg #[.int .i64 0, .int .u64 0, .int .u64 0, .int .u64 0]), 4, 32) := by kernel_rfl
theorem zeroCells_len (z : Array Value) (n : Nat) : (Builtin.zeroCells z n).size = n * z.size := by simp [Builtin.zeroCells]
theorem ch_drew_alloc (w : World) (o : Obj) : Ch [] w (w.drew.alloc o) := (Ch.refl [] w).drew.alloc o
set_option maxRecDepth 100000 in
theorem grow_any (n : Nat) (hb : n * 32 ≤ 140737488355328) (w : World) :
    Calls Tryz.prog 63 #[.slice none 0 0, I n] w fun e w' => ∃ v, e = .returned v ∧ w'.ownsRow w.heap.size 44 4 v 0 [] ∧ Ch [] w w' := by
  rcases Nat.eq_zero_or_pos n with h0 | h1
  · subst h0
    go_enter Tryz.func63, Tryz.ntmps63
    go_wp2
    go_ret
    exact ⟨_, rfl, World.ownsRow_nil _ _ _ _, Ch.refl _ _⟩
  · obtain ⟨i0, hi, hz0, hz1, hz2⟩ := info_parts infoC
    have hrun := Lib.run_append_nil_zeros (P := Tryz.prog) w 45 3 45 44 i0 _ .i64 .i64 Tryz.underlying45 Tryz.underlying3 hi hz0 n h1 (by rw [hz1]; decide) (by omega) (by rw [hz2]; omega)
    obtain ⟨z, hz⟩ : ∃ z : Array Value, (Value.agg #[.int .i64 0, .int .u64 0, .int .u64 0, .int .u64 0]).cells = z := ⟨_, rfl⟩
    have hzs : z.size = 4 := by rw [← hz]; rfl
    rw [hz] at hrun
    have hcap : n ≤ grownCap w n 0 44 := grownCap_ge _ _ _ _
    have hmax := grownCap_le_maxLen w n 0 44 (by unfold maxLen; omega)
    have C := ch_drew_alloc w (.cells (Builtin.zeroCells z n ++ Builtin.zeroCells z (grownCap w n 0 44 - n)) 44)
    have hown : (w.drew.alloc (.cells (Builtin.zeroCells z n ++ Builtin.zeroCells z (grownCap w n 0 44 - n)) 44)).ownsRow w.heap.size 44 4 (.slice (some ⟨w.heap.size, 0, none⟩) 0 (grownCap w n 0 44)) 0 [] :=
      ⟨rfl, .inr ⟨w.heap.size, _, _, rfl, Nat.le_refl _, heap_alloc_new w.drew _, Nat.zero_le _, hmax, by rw [Array.size_append, zeroCells_len, zeroCells_len, hzs, ← Nat.add_mul]; congr 1; omega, by simp⟩⟩
    obtain ⟨cap, hc⟩ : ∃ c, grownCap w n 0 44 = c := ⟨_, rfl⟩
    rw [hc] at hrun hown C hcap
    obtain ⟨w2, hw2⟩ : ∃ W, w.drew.alloc (.cells (Builtin.zeroCells z n ++ Builtin.zeroCells z (cap - n)) 44) = W := ⟨_, rfl⟩
    rw [hw2] at hrun hown C
    clear hw2 hz hzs hmax hi hz0 hz1 hz2 hc
    have h1i : (0 : Int) < n := by omega
    have hcap0 : (0 : Nat) ≤ cap := Nat.zero_le _
    go_enter Tryz.func63, Tryz.ntmps63
    go_wp2_with (at_builtin; refine Lib.wpList_append_run _ rfl _ _ 45 3 rfl _ _ rfl rfl _ _ hrun ?_)
    go_ret
    exact ⟨_, rfl, hown, C⟩
/-- A call of a script. -/
structure CallT where
  op : Int
  k : BitVec 64
  x : BitVec 64
  y : BitVec 64
def CallT.cells (c : CallT) : List Value := [I c.op, U c.k, U c.x, U c.y]
def crow (l : List CallT) : List Value := l.flatMap CallT.cells
theorem crow_append (l m : List CallT) : crow (l ++ m) = crow l ++ crow m := by unfold crow; rw [List.flatMap_append]
theorem crow_len (l : List CallT) : (crow l).length = l.length * 4 := by
  induction l with
  | nil => rfl
  | cons c l ih => unfold crow at *; rw [List.flatMap_cons, List.length_append, ih, List.length_cons]; show 4 + _ = _; omega
theorem crow_one (l : List CallT) : ∀ u ∈ crow l, u.oneCell' = true := by
  intro u hu
  unfold crow at hu
  obtain ⟨p, _, hp⟩ := List.mem_flatMap.1 hu
  simp [CallT.cells] at hp
  rcases hp with rfl | rfl | rfl | rfl <;> rfl
/-- A slice's address. -/
def adr : Option (Nat × Nat) → Option Addr
  | none => none
  | some p => some ⟨p.1, p.2, none⟩
/-- A row of calls lies from a place on. -/
def RowIn (w : World) (b o : Nat) (l : List CallT) : Prop := ∀ j u, (crow l)[j]? = some u → w.cell? ⟨b, o + j, none⟩ = some u
theorem RowIn.ch {w w' : World} {b o : Nat} {l : List CallT} (h : RowIn w b o l) (c : Ch [] w w') : RowIn w' b o l :=
  fun j u hj => (c.cell _ _ (World.block_lt_of_cell? w _ (h j u hj))).trans (h j u hj)
/-- A row of calls lies at a slice's address; where it is empty the address may be any. -/
def RowAt (w : World) (a : Option Addr) (l : List CallT) : Prop := l = [] ∨ ∃ b o, a = some ⟨b, o, none⟩ ∧ RowIn w b o l
theorem RowAt.ch {w w' : World} {a : Option Addr} {l : List CallT} (h : RowAt w a l) (c : Ch [] w w') : RowAt w' a l := by
  rcases h with h | ⟨b, o, h1, h2⟩
  · exact .inl h
  · exact .inr ⟨b, o, h1, h2.ch c⟩
structure ListT where
  a : Option Addr
  c : Nat
  l : List CallT
def ListT.val (s : ListT) : Value := .slice s.a s.l.length s.c
/-- The lists of a script lie from ⟨L, o⟩ on. -/
def ListsAt (w : World) (L o : Nat) (ls : List ListT) : Prop := ∀ i s, ls[i]? = some s → w.cell? ⟨L, o + i, none⟩ = some s.val ∧ RowAt w s.a s.l
theorem ListsAt.ch {w w' : World} {L o : Nat} {ls : List ListT} (h : ListsAt w L o ls) (c : Ch [] w w') : ListsAt w' L o ls := fun i s hi =>
  ⟨(c.cell _ _ (World.block_lt_of_cell? w _ (h i s hi).1)).trans (h i s hi).1, (h i s hi).2.ch c⟩
def catL (ls : List ListT) : List CallT := ls.flatMap (·.l)
theorem catL_snoc (ls : List ListT) (s : ListT) : catL (ls ++ [s]) = catL ls ++ s.l := by unfold catL; rw [List.flatMap_append]; simp
theorem append_none {P : Program} (w : World) (t ty e : TypeId) (i : TypeInfo) (ht : P.underlying t = some (.slice e)) (hi : P.info? e = some i) (a a2 : Option Addr) (n cap c : Nat) (hn : n ≤ cap) :
    (Builtin.append_ #[t, t] ty #[.slice a n cap, .slice a2 0 c]).run P w = .ok (.slice a n cap) w := by
  cases a with
  | none => cases a2 <;> simp [Builtin.append_, run_underlying ht, sizeOf, typeInfo, hi, Builtin.lenOf, Builtin.firstCells, hn, loadCells, loadCellsFrom]
  | some x => cases a2 <;> simp [Builtin.append_, run_underlying ht, sizeOf, typeInfo, hi, Builtin.lenOf, Builtin.firstCells, hn, loadCells, loadCellsFrom, storeCells]
/-- append of a row of calls. -/
theorem append_calls (W : World) (base : Nat) (v : Value) (n : Nat) (xs : List Value) (hown : W.ownsRow base 44 4 v n xs) (s : ListT) (hs : RowAt W s.a s.l) (hnm : (n + s.l.length) * 32 ≤ 140737488355328) (hbase : base ≤ W.heap.size) :
    ∃ v' w', (Builtin.append_ #[45, 45] 45 #[v, s.val]).run Tryz.prog W = .ok v' w' ∧ w'.ownsRow base 44 4 v' (n + s.l.length) (xs ++ crow s.l) ∧ W.grownBy w' v.ownBlock := by
  obtain ⟨i0, hi, hz0, hz1, hz2⟩ := info_parts infoC
  obtain ⟨a, c, l⟩ := s
  rcases hs with hl | ⟨xb, xo, ha, hs⟩
  · dsimp only at hl
    subst hl
    obtain ⟨b, cap, rfl, hle⟩ : ∃ b cap, v = .slice b n cap ∧ n ≤ cap := by
      obtain ⟨k1, ⟨rfl, k0⟩ | ⟨g, cap, cur, rfl, _, _, hle, _⟩⟩ := id hown
      · exact ⟨none, 0, by rw [k0], by omega⟩
      · exact ⟨_, cap, rfl, hle⟩
    refine ⟨_, W, append_none W _ _ _ i0 Tryz.underlying45 hi b a n cap c hle, ?_, ⟨rfl, rfl, rfl, Nat.le_refl _, fun _ _ _ => rfl⟩⟩
    show W.ownsRow base 44 4 _ n (xs ++ [])
    rw [List.append_nil]; exact hown
  · dsimp only at ha
    subst ha
    have hnm : (n + l.length) * 32 ≤ 140737488355328 := hnm
    obtain ⟨v', w', hrun, ho, hg, _⟩ := run_append_own (P := Tryz.prog) W base 45 45 44 i0 _ 4 32 Tryz.underlying45 hi hz0 hz1 hz2 rfl (by decide) v n xs hown ⟨xb, xo, none⟩ l.length c (crow l) (crow_len l)
      (fun j u hj => by rw [Addr.add_lit]; exact hs j u hj) (crow_one l) (by unfold maxLen; omega) hnm hbase
    exact ⟨v', w', hrun, ho, hg⟩
end Go.Proofs.Hc
/- Law 29: a script that came in, opened. -/
namespace Go.Proofs.Hc
open Go.ChangeShapes Go.WideShapes Go.ChangeAt Go.RowKit
set_option linter.unusedVariables false
instance : Inhabited CallT := ⟨⟨0, 0#64, 0#64, 0#64⟩⟩
instance : Inhabited ListT := ⟨⟨none, 0, []⟩⟩
theorem wfB_u64 {n : Int} (h : (Lit.int .u64 n).wf = true) : 0 ≤ n ∧ n < 18446744073709551616 := by
  have : 0 ≤ n ∧ n ≤ 18446744073709551615 := by simpa [Lit.wf, IntKind.min, IntKind.max, IntKind.signed, IntKind.bits] using h
  omega
theorem UB_of {n : Int} (h : (Lit.int .u64 n).wf = true) : U (BitVec.ofInt 64 n) = .int .u64 n := by
  obtain ⟨h0, h1⟩ := wfB_u64 h
  show Value.int .u64 (N (BitVec.ofInt 64 n)) = _
  have : N (BitVec.ofInt 64 n) = n := by
    unfold N
    rw [BitVec.toNat_ofInt]
    have e : ((2 ^ 64 : Nat) : Int) = 18446744073709551616 := by decide
    rw [e, Int.emod_eq_of_lt h0 h1]
    omega
  rw [this]
theorem crow_at : ∀ (l : List CallT) (j : Nat) (u : Value), (crow l)[j]? = some u → ∃ c, l[j / 4]? = some c ∧ (CallT.cells c)[j % 4]? = some u
  | [], j, u, h => by simp [crow] at h
  | c :: l, j, u, h => by
    have e : crow (c :: l) = CallT.cells c ++ crow l := rfl
    rw [e] at h
    have hl : (CallT.cells c).length = 4 := rfl
    by_cases hj : j < 4
    · rw [List.getElem?_append_left (by omega)] at h
      refine ⟨c, ?_, ?_⟩
      · rw [show j / 4 = 0 by omega]; rfl
      · rw [show j % 4 = j by omega]; exact h
    · rw [List.getElem?_append_right (by omega), hl] at h
      obtain ⟨c', h1, h2⟩ := crow_at l (j - 4) u h
      refine ⟨c', ?_, ?_⟩
      · rw [show j / 4 = (j - 4) / 4 + 1 by omega, List.getElem?_cons_succ]; exact h1
      · rw [show j % 4 = (j - 4) % 4 by omega]; exact h2
section
variable {H : Type} {enc : TypeId × Value → H} {w : World} {base : Nat} {spare : Nat → Bool} {held : Bool}
theorem fieldB_at {fs : Array Field} {l : List (TypeId × Nat)} (hl : fs.toList.map (fun f => (f.type, f.offset)) = l) {xs : List (DataW H × List MemPlace)} {n : Nat} {cs : List Value} (hxl : xs.length = fs.size)
    (hx : ∀ (i : Nat) (f : Field), fs[i]? = some f → DataW.trod enc Tryz.prog w base spare held n f.type ((cs.drop f.offset).take (Tryz.prog.cellsOf f.type)) = xs[i]?) : ∀ (i t o : Nat), l[i]? = some (t, o) → ∃ y, xs[i]? = some y ∧ DataW.trod enc Tryz.prog w base spare held n t ((cs.drop o).take (Tryz.prog.cellsOf t)) = some y := by
  intro i t o hi
  rw [← hl, List.getElem?_map] at hi
  obtain ⟨f, hf, he⟩ := Option.map_eq_some_iff.1 hi
  rw [Array.getElem?_toList] at hf
  obtain ⟨rfl, rfl⟩ := Prod.mk.inj he
  have := hx i f hf
  have hlt := (Array.getElem?_eq_some_iff.1 hf).1
  rw [List.getElem?_eq_getElem (by omega)] at this
  exact ⟨_, List.getElem?_eq_getElem (by omega), this⟩
theorem rdB_int {n o : Nat} {t : TypeId} {k : IntKind} {cs : List Value} {y : DataW H × List MemPlace} (ht : Tryz.prog.underlying t = some (.int k)) (hc : Tryz.prog.cellsOf t = 1) (h : DataW.trod enc Tryz.prog w base spare held n t ((cs.drop o).take (Tryz.prog.cellsOf t)) = some y) : ∃ m, cs[o]? = some (.int k m) ∧ (Lit.int k m).wf = true := by
  obtain ⟨m, hm, _, hw⟩ := DataW.trod_int ht h
  rw [hc] at hm
  exact ⟨m, one_cellB hm, hw⟩
theorem cellsB_u64 : Tryz.prog.cellsOf 22 = 1 := by kernel_rfl
theorem cellsB_call : Tryz.prog.cellsOf 44 = 4 := by kernel_rfl
theorem cellsB_list : Tryz.prog.cellsOf 45 = 1 := by kernel_rfl
theorem cellsB_lists : Tryz.prog.cellsOf 23 = 1 := by kernel_rfl
theorem cellsB_words : Tryz.prog.cellsOf 24 = 1 := by kernel_rfl
theorem cellsB_script : Tryz.prog.cellsOf 26 = 5 := by kernel_rfl
theorem callB_under : Tryz.prog.underlying 44 = some (.struct (Tryz.prog.fieldsOf 44)) := by kernel_rfl
theorem callB_fields : (Tryz.prog.fieldsOf 44).toList.map (fun f => (f.type, f.offset)) = [(3, 0), (22, 1), (22, 2), (22, 3)] := by kernel_rfl
theorem scriptB_under : Tryz.prog.underlying 26 = some (.struct (Tryz.prog.fieldsOf 26)) := by kernel_rfl
theorem scriptB_fields : (Tryz.prog.fieldsOf 26).toList.map (fun f => (f.type, f.offset)) = [(3, 0), (3, 1), (22, 2), (23, 3), (24, 4)] := by kernel_rfl
theorem scriptB_cells : Tryz.prog.cellTypes Tryz.prog.depth 26 = some [3, 3, 22, 23, 24] := by kernel_rfl
theorem callB_open {fuel : Nat} {cs : List Value} {x : DataW H × List MemPlace} (h : DataW.trod enc Tryz.prog w base spare held fuel 44 cs = some x) : ∃ c : CallT, cs = CallT.cells c := by
  obtain ⟨xs, n, _, _, hlen, hxl, hx⟩ := DataW.trod_struct callB_under h
  have rd := fieldB_at (n := n) (cs := cs) callB_fields hxl hx
  have hlen := hlen.trans cellsB_call
  obtain ⟨y0, _, e0⟩ := rd 0 _ _ rfl
  obtain ⟨m0, h0, w0⟩ := rdB_int Tryz.underlying3 cellsB_int e0
  obtain ⟨y1, _, e1⟩ := rd 1 _ _ rfl
  obtain ⟨m1, h1, w1⟩ := rdB_int Tryz.underlying22 cellsB_u64 e1
  obtain ⟨y2, _, e2⟩ := rd 2 _ _ rfl
  obtain ⟨m2, h2, w2⟩ := rdB_int Tryz.underlying22 cellsB_u64 e2
  obtain ⟨y3, _, e3⟩ := rd 3 _ _ rfl
  obtain ⟨m3, h3, w3⟩ := rdB_int Tryz.underlying22 cellsB_u64 e3
  refine ⟨⟨m0, BitVec.ofInt 64 m1, BitVec.ofInt 64 m2, BitVec.ofInt 64 m3⟩, ?_⟩
  unfold CallT.cells
  rw [UB_of w1, UB_of w2, UB_of w3]
  apply List.ext_getElem?
  intro i
  match i with
  | 0 => rw [h0]; rfl
  | 1 => rw [h1]; rfl
  | 2 => rw [h2]; rfl
  | 3 => rw [h3]; rfl
  | k + 4 => rw [List.getElem?_eq_none (by omega), List.getElem?_eq_none (by simp)]
end
end Go.Proofs.Hc
