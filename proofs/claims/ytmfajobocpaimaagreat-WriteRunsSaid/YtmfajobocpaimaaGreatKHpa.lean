/- Lanes of a mask, one by one. -/
import Derived.Test.YtmfajobocpaimaaGreatKHlan
import Derived.Test.YtmfajobocpaimaaGreatKHni
import Derived.Test.YtmfajobocpaimaaGreatKHq
import Derived.Test.YtmfajobocpaimaaGreatKHr
import Derived.Test.YtmfajobocpaimaaGreatKHta
import Derived.Test.YtmfajobocpaimaaGreatKHop2
import Derived.Below
import Derived.BigQuiet
import Derived.Deep.Draws
import Derived.Deep.QuietTactic
import Derived.Laws.CopyRow
import Derived.Laws.Tables
import Derived.Lib.Hide
import Derived.Lib.Tables
import Derived.LoopIn
import Derived.LoopNIn
import Derived.OwnWalkIn
import Derived.RangeFuncCalls
import Derived.RangeFuncRecord
import Derived.RangeFuncSeq
import Derived.TacticsInMore
import Derived.Test.YtmfajobocpaimaaGreatProg
import Derived.WalkKit
import Derived.Lib.AppendZerosOnto
import Derived.Lib.Walk
import Derived.LoopN
import Derived.Maps.AppendAt
import Derived.RangeFuncBox
import Derived.Recover
import Derived.RegionTactic
import Derived.Shelf.Slices.Clone
import Derived.StillTail
import Derived.WalkLawsBesides
import Derived.WalkMore
import Derived.WalkSpells
import Derived.Maps.Views
import Derived.Deep.Light
import Derived.Deep.RegionHeld
import Derived.StillTailTactics
set_option linter.unusedSimpArgs false
set_option linter.unusedVariables false
namespace Go.Proofs.Hc
open Go.RowKit
attribute [local go_sem] wrap_u64 wrap_u8 bits_xor64 bits_and64 bits_or64 bits_not64 bits_xor8 bits_and8 bits_or8 signed64 signed8 ofInt_N BitVec.ofInt_add BitVec.ofInt_mul ofInt_sub' ofInt8_N64 ofInt64_N8 wide8 eqN neN shr_pow shr1 shr7 shr56
attribute [local go_sem high] bits_com64 shl_wrap
/-- The lanes of a mask, rising. -/
def lanesOf (m : BitVec 8) : List Nat := (List.range 8).filter fun i => m.getLsbD i
def tz (m : BitVec 8) : Nat := (((Lib.ntz8tab[m.toNat]?).getD 0).toNat)
theorem ntz_N (m : BitVec 8) : Lib.ntz8 (N m) = (tz m : Int) := by unfold Lib.ntz8 tz N; simp
theorem lanes_step : ∀ m : BitVec 8, m ≠ 0#8 → lanesOf m = tz m :: lanesOf (m &&& (m - 1#8)) := by decide +kernel
theorem lanes_zero : lanesOf 0#8 = [] := by decide +kernel
set_option maxRecDepth 100000 in
theorem tz8_any (b : BitVec 8) (w : World) :
    Calls Tryz.prog 244 #[Y b] w fun e w' => e = .returned (I (tz b)) ∧ w = w' := by
  have h0 := N_nonneg b
  have h1 : N b ≤ 255 := by have := N8_lt b; omega
  have h2 : 0 ≤ Lib.ntz8 (N b) := by unfold Lib.ntz8; omega
  have h3 : Lib.ntz8 (N b) < 256 := by unfold Lib.ntz8; have := ((Lib.ntz8tab[(N b).toNat]?).getD 0).toNat_lt; omega
  go_enter Tryz.func244, Tryz.ntmps244
  go_wp2
  go_ret
  exact ⟨by rw [← ntz_N]; rfl, rfl⟩
attribute [local go_sem] Oper.semAt_some
attribute [local go_sem] cell_heap ice_heap cellAt_cells iceAt_cells setAt_cells size_setCell
attribute [local go_sem ↓] heap_alloc heap_drew heap_drewN heap_setCell
/-- How many lanes are left, read off the iterator's cell. -/
def lanesLeft (bm : Nat) (w : World) : Nat :=
  match w.heap[bm]? with
  | some (.cells cs _ _) => match cs[0]? with
    | some (Value.int _ n) => (lanesOf (BitVec.ofInt 8 n)).length
    | _ => 0
  | _ => 0
theorem lanesLeft_eq {bm : Nat} {w : World} {m : BitVec 8} {t : TypeId} {fr : Nat × Nat} (h : w.heap[bm]? = some (.cells #[Y m] t fr)) : lanesLeft bm w = (lanesOf m).length := by
  simp [lanesLeft, h, ofInt_N]
theorem each_yields (m : BitVec 8) (bm : Nat) (w : World) (hb : w.heap[bm]? = some (.cells #[Y m] 69 (0, 0))) :
    Yields Tryz.prog 243 #[.pointer (some ⟨bm, 0, none⟩)] (fun i : Nat => #[I i]) (lanesOf m) [bm] [bm] w := by
  intro n l J Jx W hW hk hJ hJx hY h0
  have hb' := (hk bm (by simp)).trans hb
  refine callsIn_of_wp Tryz.func243 rfl trivial ?_
  simp only [Tryz.ntmps243, List.size_toArray, List.length_cons, List.length_nil, Nat.reduceAdd, Nat.reduceSub, Array.replicate_succ, Array.replicate_zero, List.push_toArray, List.append_toArray, List.nil_append, List.cons_append]
  gi_wp2
  gi_loopw [3] (fun _ wr => ∃ pre m', wr.heap[bm]? = some (.cells #[Y m'] 69 (0, 0)) ∧ lanesOf m = pre ++ lanesOf m' ∧ J pre wr) (fun _ wr => lanesLeft bm wr)
  case atStart => exact ⟨[], m, hb', rfl, h0⟩
  case round =>
    obtain ⟨pre, m', hm, hx, hj⟩ := hrel
    by_cases hz : m' = 0#8
    · subst hz
      have hz : (N (0#8) != 0) = false := by decide
      have HX := Lib.hid hx
      clear hx
      gi_wp2
      refine bodyPost_end (results_none rfl _ _ _) rfl ?_
      exact ⟨⟨_, rfl⟩, .inl (by rw [HX.out, lanes_zero, List.append_nil]; exact hj)⟩
    · have hne : (N m' != 0) = true := by
        rw [bne_iff_ne]; intro h; exact hz ((N_inj m' 0#8).1 (by rw [h]; rfl))
      have hst := lanes_step m' hz
      obtain ⟨fn, tmps, assign, body, hy, hR⟩ := hY pre (tz m') (lanesOf (m' &&& (m' - 1#8))) wr (by rw [hx, hst]) hj
      have HX := Lib.hid hx
      have HS := Lib.hid hst
      clear hx hst hz
      gi_wp2_with (refine ⟨trivial, ?_⟩; gi_at_call 244; refine (callsIn_wide.2 (tz8_any _ _)).mono ?_; rintro e w' ⟨rfl, rfl⟩)
      refine hR.mono ?_
      rintro e W3 (⟨rfl, hJ3, hz3, hk3⟩ | ⟨rfl, hJx3⟩)
      · have hm3 := (hk3 bm (by simp)).trans hm
        clear hk3 hy
        gi_wp2
        go_roundw
        case rel =>
          refine ⟨pre ++ [tz m'], m' &&& (m' - 1#8), ?_, by rw [HX.out, HS.out]; simp, hJ _ _ _ hJ3 ((Ch.refl _ _).setCell (.inl (by simp)) _)⟩
          rw [heap_setCell, if_pos rfl, hm3]; rfl
        case measure =>
          rw [lanesLeft_eq hm, HS.out, lanesLeft_eq (m := m' &&& (m' - 1#8)) (by rw [heap_setCell, if_pos rfl, hm3]; rfl)]
          simp
      · gi_wp2
        refine bodyPost_ret (results_none rfl _ _ _) rfl ?_
        exact ⟨⟨_, rfl⟩, .inr hJx3⟩
end Go.Proofs.Hc
/- The least lane, and all lanes, of a mask. -/
namespace Go.Proofs.Hc
open Go.RowKit
attribute [local go_sem] wrap_u64 wrap_u8 bits_xor64 bits_and64 bits_or64 bits_not64 bits_xor8 bits_and8 bits_or8 signed64 signed8 ofInt_N BitVec.ofInt_add BitVec.ofInt_mul ofInt_sub' ofInt8_N64 ofInt64_N8 wide8 eqN neN shr_pow shr1 shr7 shr56
attribute [local go_sem high] bits_com64 shl_wrap
attribute [local go_sem] Oper.semAt_some make_func1
attribute [local go_sem] cell_heap ice_heap cellAt_cells iceAt_cells setAt_cells size_setCell
attribute [local go_sem ↓] heap_alloc heap_drew heap_drewN heap_setCell
theorem each_any (m : BitVec 8) (w : World) :
    Calls Tryz.prog 201 #[Y m] w fun e w' => e = .returned (.func (.func 243) #[] #[.pointer (some ⟨w.heap.size, 0, none⟩)]) ∧ w' = w.alloc (.cells #[Y m] 69) := by
  go_enter Tryz.func201, Tryz.ntmps201
  go_wp2
  go_ret
  exact ⟨rfl, rfl⟩
def firstV (m : BitVec 8) : Value := match lanesOf m with
  | [] => .tuple #[I 0, .bool false]
  | x :: _ => .tuple #[I x, .bool true]
theorem enters_each (args : Array Value) (w : World) : (callFunc 243 args).run Tryz.prog w = .ok (.enter 243 args) w := by kernel_rfl
theorem first_any (m : BitVec 8) (w : World) :
    Calls Tryz.prog 136 #[Y m] w fun e w' => e = .returned (firstV m) ∧ Ch [] w w' := by
  refine (callsIn_wide (n := 3)).1 ?_
  refine callsIn_of_wp_marks Tryz.func136 rfl trivial ?_
  simp only [Tryz.ntmps136, List.size_toArray, List.length_cons, List.length_nil, Nat.reduceAdd, Nat.reduceSub, Array.replicate_succ, Array.replicate_zero, List.push_toArray, List.append_toArray, List.nil_append, List.cons_append]
  gi_wp2_with (refine ⟨trivial, ?_⟩; gi_at_call 201; refine (callsIn_wide.2 (each_any _ _)).mono ?_; rintro e w' ⟨rfl, rfl⟩)
  obtain ⟨W0, hW0⟩ : ∃ W0, ((w.alloc (.cells #[.int .i64 0] 3)).alloc (.cells #[.bool false] 4)).alloc (.cells #[Y m] 69) = W0 := ⟨_, rfl⟩
  have hs0 : W0.heap.size = w.heap.size + 3 := by rw [← hW0]; simp
  have hC0 : Ch [] w W0 := by rw [← hW0]; exact (((Ch.refl [] w).alloc _).alloc _).alloc _
  have b0 : W0.heap[w.heap.size]? = some (.cells #[I 0] 3 (0, 0)) := by rw [← hW0]; simp [go_sem] <;> omega
  have b1 : W0.heap[w.heap.size + 1]? = some (.cells #[.bool false] 4 (0, 0)) := by rw [← hW0]; simp [go_sem] <;> omega
  have b2 : W0.heap[w.heap.size + 1 + 1]? = some (.cells #[Y m] 69 (0, 0)) := by rw [← hW0]; simp [go_sem] <;> omega
  rw [hW0]
  clear hW0
  refine range_law (n := 1) (xs := lanesOf m) rfl enters_each (each_yields m _ W0 b2) (fun _ => rfl) (by simp <;> omega) (by simp <;> omega)
    (fun pre W => pre = [] ∧ Ch [] w W ∧ W.heap[w.heap.size]? = some (.cells #[I 0] 3 (0, 0)) ∧ W.heap[w.heap.size + 1]? = some (.cells #[.bool false] 4 (0, 0)))
    (fun c W => c = .ret ∧ ∃ x post, lanesOf m = x :: post ∧ Ch [] w W ∧ W.heap[w.heap.size]? = some (.cells #[I (x : Nat)] 3 (0, 0)) ∧ W.heap[w.heap.size + 1]? = some (.cells #[.bool true] 4 (0, 0)))
    ?hI ?hIx ⟨rfl, hC0, b0, b1⟩ ?a₁ ?assign ?body ?done ?stop
  case hI =>
    rintro pre A B ⟨rfl, hc, h1, h2⟩ hAB
    exact ⟨rfl, hc.trans2 hAB (by simp <;> omega), (hAB.block _ (Array.getElem?_eq_some_iff.1 h1).1 (by simp <;> omega)).trans h1, (hAB.block _ (Array.getElem?_eq_some_iff.1 h2).1 (by simp <;> omega)).trans h2⟩
  case hIx =>
    rintro c A B ⟨rfl, x, post, hx, hc, h1, h2⟩ hAB
    exact ⟨rfl, x, post, hx, hc.trans2 hAB (by simp <;> omega), (hAB.block _ (Array.getElem?_eq_some_iff.1 h1).1 (by simp <;> omega)).trans h1, (hAB.block _ (Array.getElem?_eq_some_iff.1 h2).1 (by simp <;> omega)).trans h2⟩
  case a₁ => exact fun x => { tmps := #[Y m, undef, .pointer (some ⟨w.heap.size, 0, none⟩), .pointer (some ⟨w.heap.size + 1, 0, none⟩), I x, Y m, .func (.func 243) #[] #[.pointer (some ⟨w.heap.size + 1 + 1, 0, none⟩)], I x, undef], defers := [] }
  case assign =>
    intro x W K hK
    gi_wp2
    exact hK
  case body =>
    rintro pre x post W hx ⟨rfl, hc, h1, h2⟩ hsz
    gi_wp2
    have hlt := hc.size
    have hl1 := (Array.getElem?_eq_some_iff.1 h1).1
    refine ⟨⟨rfl, x, post, hx, (hc.setCell (p := ⟨w.heap.size, 0, none⟩) (.inr (Nat.le_refl _)) _).setCell (p := ⟨w.heap.size + 1, 0, none⟩) (.inr (by simp)) _, ?_, ?_⟩, ?_⟩
    · simp only [heap_setCell, h1]; simp [setAt_cells]
    · simp only [heap_setCell, h2]; simp [setAt_cells]
    · intro b hb
      simp only [heap_setCell]
      have hb' : b ≠ w.heap.size ∧ b ≠ w.heap.size + 1 := by rcases hb with rfl | rfl | hb <;> simp at * <;> omega
      rw [if_neg hb'.2, if_neg hb'.1]
  case done =>
    rintro W ⟨hx, hc, h1, h2⟩ hd
    gi_wp2
    refine marks_ret (v := .tuple #[I 0, .bool false]) ?_ (results_cell2 Tryz.results136 _ _ _ _ rfl rfl (load_one Tryz.underlying3 rfl _ _ (fr := (0, 0)) (t := 3) ?_) (load_one Tryz.underlying4 rfl _ _ (fr := (0, 0)) (t := 4) ?_)) ⟨by rw [firstV, hx], ?_⟩
    · simp only [heap_setCell]; rw [if_neg (by omega), if_neg (by omega)]; exact hd
    · simp only [heap_putObj, heap_setCell, h1]; rw [if_neg (by omega)]; simp [setAt_cells]
    · simp only [heap_putObj, heap_setCell, h2]; rw [if_neg (by omega)]; simp [setAt_cells]
    · exact ((hc.setCell (p := ⟨w.heap.size, 0, none⟩) (.inr (Nat.le_refl _)) _).setCell (p := ⟨w.heap.size + 1, 0, none⟩) (.inr (by simp)) _).trans2 (ch_putObj _ _ _) (by simp <;> omega)
  case stop =>
    rintro c W ⟨rfl, x, post, hx, hc, h1, h2⟩ hd
    gi_wp2
    refine marks_ret (v := .tuple #[I x, .bool true]) hd (results_cell2 Tryz.results136 _ _ _ _ rfl rfl (load_one Tryz.underlying3 rfl _ _ (fr := (0, 0)) (t := 3) ?_) (load_one Tryz.underlying4 rfl _ _ (fr := (0, 0)) (t := 4) ?_)) ⟨by rw [firstV, hx], ?_⟩
    · rw [heap_putObj, if_neg (by omega)]; exact h1
    · rw [heap_putObj, if_neg (by omega)]; exact h2
    · exact hc.trans2 (ch_putObj _ _ _) (by simp <;> omega)
end Go.Proofs.Hc
/- Package table: the full slots and their groups, told one by one. -/
namespace Go.Proofs.Hc
open Go.RowKit
attribute [local go_sem] wrap_u64 wrap_u8 bits_xor64 bits_and64 bits_or64 bits_not64 bits_xor8 bits_and8 bits_or8 signed64 signed8 ofInt_N BitVec.ofInt_add BitVec.ofInt_mul ofInt_sub' ofInt8_N64 ofInt64_N8 wide8 eqN neN shr_pow shr1 shr7 shr56
attribute [local go_sem high] bits_com64 shl_wrap
attribute [local go_sem] cell_heap ice_heap cellAt_cells iceAt_cells setAt_cells rowAt_cells canLay_cells laidAt_cells size_onObj size_setCell rowRes_some layRes_true
attribute [local go_sem] load26 load73 load23 store26 build73
attribute [local go_sem ↓] lrow26 lrow73 lrow23 srow26 zero26 brow73 heap_alloc heap_drew heap_drewN heap_setCell heap_onObj
attribute [local go_sem] tcells_size hcells_size tcells_get hcells_get tcells_one hcells_one hcells_table tcells_table hcells_all hcells_ctrl tcells_ctrl
attribute [local go_sem] nn2 nm2 nn3 nm3 nn4 nm4 nn5 nm5 nn6 nm6 nn7 nm7 nn8 nm8
attribute [local go_sem] nn2 nm2 nn3 nm3 nn4 nm4 nn5 nm5 nn6 nm6 nn7 nm7 nn8 nm8
attribute [local go_sem] Oper.semAt_some make_func1
attribute [local go_sem] box26 tcells_idx cell0 cell1 cell2 cell3 cell4 hcells_idx hcells_pop
attribute [local go_sem] cell5 cell6
theorem index2_0 (x y : BitVec 64) (w : World) : (Instr.index 23 (.agg #[U x, U y]) (.int .i64 0)).run Tryz.prog w = .ok (U x) w := by kernel_rfl
theorem index2_1 (x y : BitVec 64) (w : World) : (Instr.index 23 (.agg #[U x, U y]) (.int .i64 1)).run Tryz.prog w = .ok (U y) w := by kernel_rfl
attribute [local go_sem] index2_0 index2_1
/-- The full slots of a group. -/
def slotsOf (t : Tab) (g : Nat) : List (Nat × Nat) := (lanesOf (fullM (t.c g))).map fun l => (8 * g + l, g)
/-- The full slots, and their groups. -/
def slotsT (t : Tab) : List (Nat × Nat) := slotsOf t 0 ++ slotsOf t 1
end Go.Proofs.Hc
/- Package table: may a table be? Ways that end before the full slots are looked at. -/
namespace Go.Proofs.Hc
open Go.RowKit
attribute [local go_sem] wrap_u64 wrap_u8 bits_xor64 bits_and64 bits_or64 bits_not64 bits_xor8 bits_and8 bits_or8 signed64 signed8 ofInt_N BitVec.ofInt_add BitVec.ofInt_mul ofInt_sub' ofInt8_N64 ofInt64_N8 wide8 eqN neN shr_pow shr1 shr7 shr56
attribute [local go_sem high] bits_com64 shl_wrap
attribute [local go_sem] cell_heap ice_heap cellAt_cells iceAt_cells setAt_cells rowAt_cells canLay_cells laidAt_cells size_onObj size_setCell rowRes_some layRes_true
attribute [local go_sem] load26 load73 load23 store26 build73
attribute [local go_sem ↓] lrow26 lrow73 lrow23 srow26 zero26 brow73 heap_alloc heap_drew heap_drewN heap_setCell heap_onObj
attribute [local go_sem] tcells_size hcells_size tcells_get hcells_get tcells_one hcells_one hcells_table tcells_table hcells_all hcells_ctrl tcells_ctrl
attribute [local go_sem] nn2 nm2 nn3 nm3 nn4 nm4 nn5 nm5 nn6 nm6 nn7 nm7 nn8 nm8
attribute [local go_sem] nn2 nm2 nn3 nm3 nn4 nm4 nn5 nm5 nn6 nm6 nn7 nm7 nn8 nm8
attribute [local go_sem] Oper.semAt_some make_func1
attribute [local go_sem] box26 tcells_idx cell0 cell1 cell2 cell3 cell4 hcells_idx hcells_pop
attribute [local go_sem] cell5 cell6
attribute [local go_sem] index2_0 index2_1
theorem hkeep {W W' : World} (hc : Ch [] W W') {k : Nat} {o : Obj} (h : W.heap[k]? = some o) : W'.heap[k]? = some o := (hc.block k (Array.getElem?_eq_some_iff.1 h).1 (by simp)).trans h
theorem hkeepS {S : List Nat} {W W' : World} (hc : Ch S W W') {k : Nat} {o : Obj} (hk : k ∉ S) (h : W.heap[k]? = some o) : W'.heap[k]? = some o := (hc.block k (Array.getElem?_eq_some_iff.1 h).1 hk).trans h
/-- A full slot has its key's byte, its key goes to the table, and who looks for it comes to its group. -/
def slotOk (t : Tab) (s : BitVec 64) (x : Nat × Nat) : Bool :=
  byteAt (t.c x.2) (x.1 % 8) == hash2 (hashOf s (t.k x.1)) && (hasT t (hashOf s (t.k x.1)) && decide (x.2 ∈ rowT t s (t.k x.1)))
def goodAll (t : Tab) (s : BitVec 64) : List (BitVec 64) → List (Nat × Nat) → Bool
  | _, [] => true
  | seen, x :: l => !(seen.contains (t.k x.1)) && slotOk t s x && goodAll t s (t.k x.1 :: seen) l
end Go.Proofs.Hc
/- Package table: the pairs of full slots. -/
namespace Go.Proofs.Hc
open Go.RowKit
attribute [local go_sem] wrap_u64 wrap_u8 bits_xor64 bits_and64 bits_or64 bits_not64 bits_xor8 bits_and8 bits_or8 signed64 signed8 ofInt_N BitVec.ofInt_add BitVec.ofInt_mul ofInt_sub' ofInt8_N64 ofInt64_N8 wide8 eqN neN shr_pow shr1 shr7 shr56
attribute [local go_sem high] bits_com64 shl_wrap
attribute [local go_sem] cell_heap ice_heap cellAt_cells iceAt_cells setAt_cells rowAt_cells canLay_cells laidAt_cells size_onObj size_setCell rowRes_some layRes_true
attribute [local go_sem] load26 load73 load23 store26 build73
attribute [local go_sem ↓] lrow26 lrow73 lrow23 srow26 zero26 brow73 heap_alloc heap_drew heap_drewN heap_setCell heap_onObj
attribute [local go_sem] tcells_size hcells_size tcells_get hcells_get tcells_one hcells_one hcells_table tcells_table hcells_all hcells_ctrl tcells_ctrl
attribute [local go_sem] nn2 nm2 nn3 nm3 nn4 nm4 nn5 nm5 nn6 nm6 nn7 nm7 nn8 nm8
attribute [local go_sem] nn2 nm2 nn3 nm3 nn4 nm4 nn5 nm5 nn6 nm6 nn7 nm7 nn8 nm8
attribute [local go_sem] Oper.semAt_some make_func1
attribute [local go_sem] box26 tcells_idx cell0 cell1 cell2 cell3 cell4 hcells_idx hcells_pop
attribute [local go_sem] cell5 cell6
/-- What full slots have. -/
def pairsT (t : Tab) : List (BitVec 64 × BitVec 64) := (slotsT t).map fun x => (t.k x.1, t.v x.1)
/-- The cells of a row of pairs. -/
def pcells (l : List (BitVec 64 × BitVec 64)) : List Value := l.flatMap fun p => [U p.1, U p.2]
theorem pcells_len (l : List (BitVec 64 × BitVec 64)) : (pcells l).length = l.length * 2 := by
  induction l with
  | nil => rfl
  | cons p l ih => simp only [pcells, List.flatMap_cons] at *; simp [ih]; omega
theorem build_pair (x y : BitVec 64) (w : World) : (Instr.build 31 #[(0, U x), (1, U y)]).run Tryz.prog w = .ok (.agg #[U x, U y]) w := by kernel_rfl
theorem build_slice1 (x y : BitVec 64) (w : World) : (Instr.buildSlice 27 1 #[(0, .agg #[U x, U y])]).run Tryz.prog w = .ok (.slice (some ⟨w.heap.size, 0, none⟩) 1 1) (w.alloc (.cells #[U x, U y] 31)) := by kernel_rfl
attribute [local go_sem] build_pair build_slice1
end Go.Proofs.Hc
/- Tables that may be, slot by slot: plain law, no program in sight. -/
namespace Go.Proofs.Hc
open Go.RowKit
/-- The byte of a slot. -/
def bt (t : Tab) (j : Nat) : BitVec 8 := byteAt (t.c (j / 8)) (j % 8)
/-- Is a slot full? -/
def fullJ (t : Tab) (j : Nat) : Bool := decide ((bt t j).toNat < 128)
/-- Is a slot filled, full or deleted? -/
def fillJ (t : Tab) (j : Nat) : Bool := bt t j != 128#8
@[irreducible] def nFull (t : Tab) : Nat := (List.range 16).countP (fullJ t)
@[irreducible] def nFill (t : Tab) : Nat := (List.range 16).countP (fillJ t)
theorem bt_at (t : Tab) (g x : Nat) (hx : x < 8) : bt t (8 * g + x) = byteAt (t.c g) x := by
  unfold bt
  rw [show (8 * g + x) / 8 = g by omega, show (8 * g + x) % 8 = x by omega]
theorem range16 : List.range 16 = (List.range 8).map (fun x => 8 * 0 + x) ++ (List.range 8).map (fun x => 8 * 1 + x) := by decide
theorem slotsOf_eq (t : Tab) (g : Nat) : slotsOf t g = (((List.range 8).map fun x => 8 * g + x).filter (fullJ t)).map fun j => (j, j / 8) := by
  unfold slotsOf lanesOf
  rw [List.filter_map, List.map_map]
  have h : (List.range 8).filter (fun i => (fullM (t.c g)).getLsbD i) = (List.range 8).filter (fullJ t ∘ fun x => 8 * g + x) := by
    apply List.filter_congr
    intro x hx
    have hx8 : x < 8 := by simpa using hx
    rw [fullM_bit _ _ hx8, Function.comp_apply, fullJ, bt_at t g x hx8]
  rw [h]
  apply List.map_congr_left
  intro x hx
  have hx8 : x < 8 := by simpa using (List.mem_filter.1 hx).1
  show (8 * g + x, g) = (8 * g + x, (8 * g + x) / 8)
  rw [show (8 * g + x) / 8 = g by omega]
theorem slotsT_eq (t : Tab) : slotsT t = ((List.range 16).filter (fullJ t)).map fun j => (j, j / 8) := by
  unfold slotsT
  rw [slotsOf_eq, slotsOf_eq, range16, List.filter_append, List.map_append]
theorem slotsT_len (t : Tab) : (slotsT t).length = nFull t := by
  rw [slotsT_eq, List.length_map, nFull, List.countP_eq_length_filter]
/-- A table that may be. -/
structure May (t : Tab) (s : BitVec 64) : Prop where
  flat : flatT t = true
  ok : ∀ j, j < 16 → (bt t j).toNat < 128 ∨ bt t j = 128#8 ∨ bt t j = 254#8
  slot : ∀ j, j < 16 → fullJ t j = true → bt t j = hash2 (hashOf s (t.k j)) ∧ hasT t (hashOf s (t.k j)) = true ∧ j / 8 ∈ rowT t s (t.k j)
  inj : ∀ i j, i < 16 → j < 16 → fullJ t i = true → fullJ t j = true → t.k i = t.k j → i = j
  live : t.live = (nFull t : Int)
  can : t.can = 14 - (nFill t : Int)
/-- Is there an empty slot in a group? -/
def hasE (t : Tab) (g : Nat) : Bool := emptyM (t.c g) != 0#8
theorem mask_ne (m : BitVec 8) : (m != 0#8) = true ↔ ∃ x, x < 8 ∧ m.getLsbD x = true := by
  rw [bne_iff_ne]
  constructor
  · intro h
    apply Classical.byContradiction
    intro hn
    apply h
    apply BitVec.eq_of_getLsbD_eq
    intro i hi
    rw [BitVec.getLsbD_zero]
    cases hb : m.getLsbD i with
    | false => rfl
    | true => exact absurd ⟨i, hi, hb⟩ hn
  · rintro ⟨x, _, hx⟩ rfl
    rw [BitVec.getLsbD_zero] at hx; cases hx
theorem hasE_iff (t : Tab) (g : Nat) : hasE t g = true ↔ ∃ x, x < 8 ∧ bt t (8 * g + x) = 128#8 := by
  rw [hasE, mask_ne]
  constructor
  · rintro ⟨x, hx, h⟩; rw [emptyM_bit _ _ hx, beq_iff_eq] at h; exact ⟨x, hx, by rw [bt_at t g x hx]; exact h⟩
  · rintro ⟨x, hx, h⟩; rw [bt_at t g x hx] at h; exact ⟨x, hx, by rw [emptyM_bit _ _ hx, beq_iff_eq]; exact h⟩
theorem gOf_lt (s k : BitVec 64) : gOf s k < 2 := g0_lt _
theorem mem_row (t : Tab) (s k : BitVec 64) (g : Nat) : g ∈ rowT t s k ↔ g = gOf s k ∨ (hasE t (gOf s k) = false ∧ g = 1 - gOf s k) := by
  rw [rowT, ← hasE]
  cases hasE t (gOf s k) <;> simp
/-- A row does not end earlier where there are fewer empty slots. -/
theorem row_mono {t t' : Tab} {s k : BitVec 64} {g : Nat} (h : ∀ i, i < 2 → hasE t' i = true → hasE t i = true) (hg : g ∈ rowT t s k) : g ∈ rowT t' s k := by
  rw [mem_row] at hg ⊢
  rcases hg with h1 | ⟨h1, h2⟩
  · exact .inl h1
  · refine .inr ⟨?_, h2⟩
    cases h3 : hasE t' (gOf s k) with
    | false => rfl
    | true => rw [h _ (gOf_lt s k) h3] at h1; cases h1
theorem pairs_len (t : Tab) : (pairsT t).length = nFull t := by rw [pairsT, List.length_map, slotsT_len]
theorem May.len {t : Tab} {s : BitVec 64} (h : May t s) : ((pairsT t).length : Int) = t.live := by rw [pairs_len, h.live]
theorem full_lt {t : Tab} {j : Nat} (h : fullJ t j = true) : (bt t j).toNat < 128 := by simpa [fullJ] using h
theorem full_fill {t : Tab} {j : Nat} (h : fullJ t j = true) : fillJ t j = true := by
  have := full_lt h
  rw [fillJ, bne_iff_ne]
  intro e
  rw [e] at this
  exact absurd this (by decide)
theorem nFull_le (t : Tab) : nFull t ≤ nFill t := by
  unfold nFull nFill
  exact List.countP_mono_left fun _ _ h => full_fill h
theorem countP_upd (p q : Nat → Bool) (sl : Nat) : ∀ n, (∀ j, j ≠ sl → q j = p j) → (List.range n).countP q + (if sl < n ∧ p sl = true then 1 else 0) = (List.range n).countP p + (if sl < n ∧ q sl = true then 1 else 0)
  | 0, _ => by simp
  | n + 1, h => by
    have ih := countP_upd p q sl n h
    rw [List.range_succ, List.countP_append, List.countP_append, List.countP_singleton, List.countP_singleton]
    by_cases hn : sl = n
    · subst hn
      simp only [Nat.lt_irrefl, false_and, if_false] at ih
      simp only [Nat.lt_succ_self, true_and]
      omega
    · rw [h n (fun e => hn e.symm)]
      have e : sl < n + 1 ↔ sl < n := by omega
      simp only [e]
      omega
end Go.Proofs.Hc
