/- slices.Grow and slices.Concat at rows of calls. -/
import Derived.Test.YtfoicjijngfhbaaDoorKBh
import Derived.Lib.AppendZerosOnto
import Derived.Laws.AppendOwn
set_option linter.unusedSimpArgs false
set_option linter.unusedVariables false
namespace Go.Proofs.Hc
open Go.RowKit
set_option linter.unusedSimpArgs false
set_option linter.unusedVariables false
attribute [local go_sem] wrap_u64 wrap_u8 bits_xor64 bits_and64 bits_or64 bits_not64 bits_xor8 bits_and8 bits_or8 signed64 signed8 ofInt_N BitVec.ofInt_add BitVec.ofInt_mul ofInt_sub' ofInt8_N64 ofInt64_N8 wide8 eqN neN shr_pow shr1 shr7 shr56
attribute [local go_sem high] bits_com64 shl_wrap
attribute [local go_sem] nn2 nm2 nn3 nm3 nn4 nm4 nn5 nm5 nn6 nm6 nn7 nm7 nn8 nm8
attribute [local go_sem] Oper.semAt_some make_func1 make_funcB
theorem infoC : (Tryd.prog.info? 46).map (fun i => (i.zero, i.size, i.bytes)) = some (some (.agg #[.int .i64 0, .int .u64 0, .int .u64 0, .int .u64 0]), 4, 32) := by kernel_rfl
theorem zeroCells_len (z : Array Value) (n : Nat) : (Builtin.zeroCells z n).size = n * z.size := by simp [Builtin.zeroCells]
theorem ch_drew_alloc (w : World) (o : Obj) : Ch [] w (w.drew.alloc o) := (Ch.refl [] w).drew.alloc o
set_option maxRecDepth 100000 in
theorem grow_any (n : Nat) (hb : n * 32 ≤ 140737488355328) (w : World) :
    Calls Tryd.prog 57 #[.slice none 0 0, I n] w fun e w' => ∃ v, e = .returned v ∧ w'.ownsRow w.heap.size 46 4 v 0 [] ∧ Ch [] w w' := by
  rcases Nat.eq_zero_or_pos n with h0 | h1
  · subst h0
    go_enter Tryd.func57, Tryd.ntmps57
    go_wp2
    go_ret
    exact ⟨_, rfl, World.ownsRow_nil _ _ _ _, Ch.refl _ _⟩
  · obtain ⟨i0, hi, hz0, hz1, hz2⟩ := info_parts infoC
    have hrun := Lib.run_append_nil_zeros (P := Tryd.prog) w 47 3 47 46 i0 _ .i64 .i64 Tryd.underlying47 Tryd.underlying3 hi hz0 n h1 (by rw [hz1]; decide) (by omega) (by rw [hz2]; omega)
    obtain ⟨z, hz⟩ : ∃ z : Array Value, (Value.agg #[.int .i64 0, .int .u64 0, .int .u64 0, .int .u64 0]).cells = z := ⟨_, rfl⟩
    have hzs : z.size = 4 := by rw [← hz]; rfl
    rw [hz] at hrun
    have hcap : n ≤ grownCap w n 0 46 := grownCap_ge _ _ _ _
    have hmax := grownCap_le_maxLen w n 0 46 (by unfold maxLen; omega)
    have C := ch_drew_alloc w (.cells (Builtin.zeroCells z n ++ Builtin.zeroCells z (grownCap w n 0 46 - n)) 46)
    have hown : (w.drew.alloc (.cells (Builtin.zeroCells z n ++ Builtin.zeroCells z (grownCap w n 0 46 - n)) 46)).ownsRow w.heap.size 46 4 (.slice (some ⟨w.heap.size, 0, none⟩) 0 (grownCap w n 0 46)) 0 [] :=
      ⟨rfl, .inr ⟨w.heap.size, _, _, rfl, Nat.le_refl _, heap_alloc_new w.drew _, Nat.zero_le _, hmax, by rw [Array.size_append, zeroCells_len, zeroCells_len, hzs, ← Nat.add_mul]; congr 1; omega, by simp⟩⟩
    obtain ⟨cap, hc⟩ : ∃ c, grownCap w n 0 46 = c := ⟨_, rfl⟩
    rw [hc] at hrun hown C hcap
    obtain ⟨w2, hw2⟩ : ∃ W, w.drew.alloc (.cells (Builtin.zeroCells z n ++ Builtin.zeroCells z (cap - n)) 46) = W := ⟨_, rfl⟩
    rw [hw2] at hrun hown C
    clear hw2 hz hzs hmax hi hz0 hz1 hz2 hc
    have h1i : (0 : Int) < n := by omega
    have hcap0 : (0 : Nat) ≤ cap := Nat.zero_le _
    go_enter Tryd.func57, Tryd.ntmps57
    go_wp2_with (at_builtin; refine Lib.wpList_append_run _ rfl _ _ 47 3 rfl _ _ rfl rfl _ _ hrun ?_)
    go_ret
    exact ⟨_, rfl, hown, C⟩
/-- A call of a script. -/
structure CallT where
  op : Int
  k : BitVec 64
  x : BitVec 64
  y : BitVec 64
def CallT.cells (c : CallT) : List Value := [I c.op, U c.k, U c.x, U c.y]
def crow (l : List CallT) : List Value := l.flatMap CallT.cells
theorem crow_append (l m : List CallT) : crow (l ++ m) = crow l ++ crow m := by unfold crow; rw [List.flatMap_append]
theorem crow_len (l : List CallT) : (crow l).length = l.length * 4 := by
  induction l with
  | nil => rfl
  | cons c l ih => unfold crow at *; rw [List.flatMap_cons, List.length_append, ih, List.length_cons]; show 4 + _ = _; omega
theorem crow_one (l : List CallT) : ∀ u ∈ crow l, u.oneCell' = true := by
  intro u hu
  unfold crow at hu
  obtain ⟨p, _, hp⟩ := List.mem_flatMap.1 hu
  simp [CallT.cells] at hp
  rcases hp with rfl | rfl | rfl | rfl <;> rfl
/-- A slice's address. -/
def adr : Option (Nat × Nat) → Option Addr
  | none => none
  | some p => some ⟨p.1, p.2, none⟩
/-- A row of calls lies from a place on. -/
def RowIn (w : World) (b o : Nat) (l : List CallT) : Prop := ∀ j u, (crow l)[j]? = some u → w.cell? ⟨b, o + j, none⟩ = some u
theorem RowIn.ch {w w' : World} {b o : Nat} {l : List CallT} (h : RowIn w b o l) (c : Ch [] w w') : RowIn w' b o l :=
  fun j u hj => (c.cell _ _ (World.block_lt_of_cell? w _ (h j u hj))).trans (h j u hj)
/-- A row of calls lies at a slice's address; where it is empty the address may be any. -/
def RowAt (w : World) (a : Option Addr) (l : List CallT) : Prop := l = [] ∨ ∃ b o, a = some ⟨b, o, none⟩ ∧ RowIn w b o l
theorem RowAt.ch {w w' : World} {a : Option Addr} {l : List CallT} (h : RowAt w a l) (c : Ch [] w w') : RowAt w' a l := by
  rcases h with h | ⟨b, o, h1, h2⟩
  · exact .inl h
  · exact .inr ⟨b, o, h1, h2.ch c⟩
structure ListT where
  a : Option Addr
  c : Nat
  l : List CallT
def ListT.val (s : ListT) : Value := .slice s.a s.l.length s.c
/-- The lists of a script lie from ⟨L, o⟩ on. -/
def ListsAt (w : World) (L o : Nat) (ls : List ListT) : Prop := ∀ i s, ls[i]? = some s → w.cell? ⟨L, o + i, none⟩ = some s.val ∧ RowAt w s.a s.l
theorem ListsAt.ch {w w' : World} {L o : Nat} {ls : List ListT} (h : ListsAt w L o ls) (c : Ch [] w w') : ListsAt w' L o ls := fun i s hi =>
  ⟨(c.cell _ _ (World.block_lt_of_cell? w _ (h i s hi).1)).trans (h i s hi).1, (h i s hi).2.ch c⟩
def catL (ls : List ListT) : List CallT := ls.flatMap (·.l)
theorem catL_snoc (ls : List ListT) (s : ListT) : catL (ls ++ [s]) = catL ls ++ s.l := by unfold catL; rw [List.flatMap_append]; simp
theorem append_none {P : Program} (w : World) (t ty e : TypeId) (i : TypeInfo) (ht : P.underlying t = some (.slice e)) (hi : P.info? e = some i) (a a2 : Option Addr) (n cap c : Nat) (hn : n ≤ cap) :
    (Builtin.append_ #[t, t] ty #[.slice a n cap, .slice a2 0 c]).run P w = .ok (.slice a n cap) w := by
  cases a with
  | none => cases a2 <;> simp [Builtin.append_, run_underlying ht, sizeOf, typeInfo, hi, Builtin.lenOf, Builtin.firstCells, hn, loadCells, loadCellsFrom]
  | some x => cases a2 <;> simp [Builtin.append_, run_underlying ht, sizeOf, typeInfo, hi, Builtin.lenOf, Builtin.firstCells, hn, loadCells, loadCellsFrom, storeCells]
/-- append of a row of calls. -/
theorem append_calls (W : World) (base : Nat) (v : Value) (n : Nat) (xs : List Value) (hown : W.ownsRow base 46 4 v n xs) (s : ListT) (hs : RowAt W s.a s.l) (hnm : (n + s.l.length) * 32 ≤ 140737488355328) (hbase : base ≤ W.heap.size) :
    ∃ v' w', (Builtin.append_ #[47, 47] 47 #[v, s.val]).run Tryd.prog W = .ok v' w' ∧ w'.ownsRow base 46 4 v' (n + s.l.length) (xs ++ crow s.l) ∧ W.grownBy w' v.ownBlock := by
  obtain ⟨i0, hi, hz0, hz1, hz2⟩ := info_parts infoC
  obtain ⟨a, c, l⟩ := s
  rcases hs with hl | ⟨xb, xo, ha, hs⟩
  · dsimp only at hl
    subst hl
    obtain ⟨b, cap, rfl, hle⟩ : ∃ b cap, v = .slice b n cap ∧ n ≤ cap := by
      obtain ⟨k1, ⟨rfl, k0⟩ | ⟨g, cap, cur, rfl, _, _, hle, _⟩⟩ := id hown
      · exact ⟨none, 0, by rw [k0], by omega⟩
      · exact ⟨_, cap, rfl, hle⟩
    refine ⟨_, W, append_none W _ _ _ i0 Tryd.underlying47 hi b a n cap c hle, ?_, ⟨rfl, rfl, rfl, Nat.le_refl _, fun _ _ _ => rfl⟩⟩
    show W.ownsRow base 46 4 _ n (xs ++ [])
    rw [List.append_nil]; exact hown
  · dsimp only at ha
    subst ha
    have hnm : (n + l.length) * 32 ≤ 140737488355328 := hnm
    obtain ⟨v', w', hrun, ho, hg, _⟩ := run_append_own (P := Tryd.prog) W base 47 47 46 i0 _ 4 32 Tryd.underlying47 hi hz0 hz1 hz2 rfl (by decide) v n xs hown ⟨xb, xo, none⟩ l.length c (crow l) (crow_len l)
      (fun j u hj => by rw [Addr.add_lit]; exact hs j u hj) (crow_one l) (by unfold maxLen; omega) hnm hbase
    exact ⟨v', w', hrun, ho, hg⟩
end Go.Proofs.Hc
