/- Package ctrl: a lane that is put, filled, erased; the sets of a word. -/
import Derived.Test.YtmfajobocpaimaaGreatKHf
import Derived.Test.YtmfajobocpaimaaGreatKHlan
import Derived.Test.YtmfajobocpaimaaGreatKHm
import Derived.Test.YtmfajobocpaimaaGreatKHxg
import Derived.Test.YtmfajobocpaimaaGreatKHq
import Derived.Test.YtmfajobocpaimaaGreatKHop2
import Derived.Below
import Derived.BigQuiet
import Derived.Deep.Draws
import Derived.Deep.QuietTactic
import Derived.Laws.CopyRow
import Derived.Laws.Tables
import Derived.Lib.Hide
import Derived.RangeFuncRecord
import Derived.Recover
import Derived.Test.YtmfajobocpaimaaGreatProg
import Derived.WalkKit
import Derived.WalkLawsBesides
import Derived.WalkMore
import Derived.WalkSpells
import Derived.Deep.Light
import Derived.Deep.RegionHeld
import Derived.Lib.AppendZerosOnto
import Derived.Lib.Tables
import Derived.Lib.Walk
import Derived.LoopIn
import Derived.LoopN
import Derived.LoopNIn
import Derived.Maps.AppendAt
import Derived.Maps.Views
import Derived.OwnWalkIn
import Derived.RangeFuncBox
import Derived.RangeFuncCalls
import Derived.RangeFuncSeq
import Derived.RegionTactic
import Derived.Shelf.Slices.Clone
import Derived.StillTail
import Derived.StillTailTactics
import Derived.TacticsInMore
import Derived.Laws.StructEq
import Derived.ChangeKeysEq
set_option linter.unusedSimpArgs false
set_option linter.unusedVariables false
namespace Go.Proofs.Hc
open Go.RowKit
attribute [local go_sem] wrap_u64 wrap_u8 bits_xor64 bits_and64 bits_or64 bits_not64 bits_xor8 bits_and8 bits_or8 signed64 signed8 ofInt_N BitVec.ofInt_add BitVec.ofInt_mul ofInt_sub' ofInt8_N64 ofInt64_N8 wide8 eqN neN shr_pow shr1 shr7 shr56
attribute [local go_sem high] bits_com64 shl_wrap
attribute [local go_sem] nn2 nm2 nn3 nm3 nn4 nm4 nn5 nm5 nn6 nm6 nn7 nm7 nn8 nm8
attribute [local go_sem] make_func1
attribute [local go_sem] cell_heap ice_heap cellAt_cells iceAt_cells setAt_cells size_setCell
attribute [local go_sem ↓] heap_alloc heap_drew heap_drewN heap_setCell
theorem is_yes (n : Nat) (h : n < 8) (w : World) : Calls Tryz.prog 212 #[I n] w fun e w' => e = .returned (.bool true) ∧ w = w' := by
  go_enter Tryz.func212, Tryz.ntmps212
  go_wp2
  go_ret
  exact ⟨by simp; omega, rfl⟩
theorem lay_yes (b : Nat) (c : BitVec 64) (n : Nat) (x : BitVec 8) (h : n < 8) (w : World) (hb : w.heap[b]? = some (.cells #[U c] 274 (0, 0))) :
    Calls Tryz.prog 258 #[.pointer (some ⟨b, 0, none⟩), I n, Y x] w fun e w' => e = .returned (.bool true) ∧ Ch [b] w w' ∧ w'.heap[b]? = some (.cells #[U (withB c n x)] 274 (0, 0)) := by
  go_enter Tryz.func258, Tryz.ntmps258
  go_wp2_with (first
    | (go_at_call 212; refine (is_yes _ h _).mono ?_; rintro e w' ⟨rfl, rfl⟩)
    | (go_at_call 261; refine (with_any _ _ _ _ h).mono ?_; rintro e w1 ⟨rfl, hc1⟩; have hb1 := (hc1.block b (Array.getElem?_eq_some_iff.1 hb).1 (by simp)).trans hb))
  go_ret
  refine ⟨rfl, (hc1.of_nil).setCell (p := ⟨b, 0, none⟩) (.inl (by simp)) _, ?_⟩
  rw [heap_setCell, if_pos rfl, hb1]; rfl
theorem put1_yes (c : BitVec 64) (x : BitVec 8) (n : Nat) (h : n < 8) (g : Nat) (w : World) (hg : w.heap[g]? = some (.cells #[I n] 3 (0, 0))) :
    Calls Tryz.prog 247 #[U c, Y x, .slice (some ⟨g, 0, none⟩) 1 1] w fun e w' => e = .returned (.tuple #[U (withB c n x), I 0]) ∧ Ch [] w w' := by
  have hgn : (g = w.heap.size) = False := by have := (Array.getElem?_eq_some_iff.1 hg).1; simp; omega
  go_enter Tryz.func247, Tryz.ntmps247
  go_wp2
  go_step3
  go_wp2
  go_step3
  go_wp2_with fail
  refine wp_loop_rounds 2 ?_
  rw [rounds_succ]
  go_wp2_with fail
  refine (lay_yes w.heap.size c n x h _ (by simp [go_sem])).mono ?_
  rintro e w1 ⟨rfl, hc1, hb1⟩
  go_wp2_with fail
  rw [rounds_succ]
  go_wp2_with fail
  rw [Exit.noGoto_ret]
  go_ret2
  exact ⟨rfl, ((Ch.refl [] w).alloc _).trans2 hc1 (by simp)⟩
/-- A lane as a mask. -/
def laneM (n : Nat) : BitVec 8 := 1#8 <<< n
theorem ofInt_pow8 (n : Nat) : BitVec.ofInt 8 (2 ^ n) = laneM n := by
  have h2 : ((2 : Int) ^ n) = ((2 ^ n : Nat) : Int) := by simp
  unfold laneM
  rw [h2, BitVec.ofInt_natCast]
  apply BitVec.eq_of_toNat_eq; simp [Nat.shiftLeft_eq]
attribute [local go_sem] ofInt_pow8
/-- What a slot that is erased holds then. -/
def gone (c : BitVec 64) : BitVec 8 := if emptyM c = 0#8 then 254#8 else 128#8
end Go.Proofs.Hc
/- Package table: bare tables, and the pairs of full slots. -/
namespace Go.Proofs.Hc
open Go.RowKit
attribute [local go_sem] wrap_u64 wrap_u8 bits_xor64 bits_and64 bits_or64 bits_not64 bits_xor8 bits_and8 bits_or8 signed64 signed8 ofInt_N BitVec.ofInt_add BitVec.ofInt_mul ofInt_sub' ofInt8_N64 ofInt64_N8 wide8 eqN neN shr_pow shr1 shr7 shr56
attribute [local go_sem high] bits_com64 shl_wrap
attribute [local go_sem] cell_heap ice_heap cellAt_cells iceAt_cells setAt_cells rowAt_cells canLay_cells laidAt_cells size_onObj size_setCell rowRes_some layRes_true
attribute [local go_sem] load26 load73 load23 store26 build73
attribute [local go_sem ↓] lrow26 lrow73 lrow23 srow26 zero26 brow73 heap_alloc heap_drew heap_drewN heap_setCell heap_onObj
attribute [local go_sem] tcells_size hcells_size tcells_get hcells_get tcells_one hcells_one hcells_table tcells_table hcells_all hcells_ctrl tcells_ctrl
attribute [local go_sem] nn2 nm2 nn3 nm3 nn4 nm4 nn5 nm5 nn6 nm6 nn7 nm7 nn8 nm8
attribute [local go_sem] nn2 nm2 nn3 nm3 nn4 nm4 nn5 nm5 nn6 nm6 nn7 nm7 nn8 nm8
attribute [local go_sem] Oper.semAt_some make_func1
attribute [local go_sem] box26 tcells_idx cell0 cell1 cell2 cell3 cell4 hcells_idx hcells_pop
attribute [local go_sem] cell5 cell6
theorem tset_ctrl (t : Tab) (g : Nat) (hg : g < 2) (x : BitVec 64) : (tcells t).setIfInBounds (5 + g) (U x) = tcells { t with c := fun i => if i = g then x else t.c i } := by
  have h := hset_ctrl t 0#64 g hg x
  have h2 := congrArg (fun a => a.extract 0 39) h
  simp only [hcells_table] at h2
  rw [← h2, ← hcells_table t 0#64]
  apply Array.ext_getElem?; intro i
  by_cases hi : i = 5 + g
  · subst hi
    simp [hcells_size, show 5 + g < 39 by omega]
  · rw [Array.getElem?_setIfInBounds_ne (fun e => hi e.symm), Array.getElem?_extract, Array.getElem?_extract]
    simp only [Array.size_setIfInBounds]
    split
    · rw [Array.getElem?_setIfInBounds_ne (by omega)]
    · rfl
theorem tset5 (t : Tab) (x : BitVec 64) : (tcells t).setIfInBounds 5 (U x) = tcells { t with c := fun i => if i = 0 then x else t.c i } := tset_ctrl t 0 (by omega) x
theorem tset6 (t : Tab) (x : BitVec 64) : (tcells t).setIfInBounds 6 (U x) = tcells { t with c := fun i => if i = 1 then x else t.c i } := tset_ctrl t 1 (by omega) x
theorem laidAt_t (a b : Tab) (T : TypeId) (fr : Nat × Nat) : laidAt 0 (tcells b) (.cells (tcells a) T fr) = .cells (tcells b) T fr := by
  rw [laidAt_cells, laid_whole _ _ (by rw [tcells_size, tcells_size])]
theorem brow26 (ps : Array (Nat × Value)) : Instr.build 26 ps = buildRow 26 ps := rfl
theorem build_bare (c : BitVec 64) (d : Int) (p : BitVec 64) (w : World) : (buildRow 26 #[(0, U c), (1, I d), (2, U p), (3, .int .i64 14)]).run Tryz.prog w = .ok (.agg (tcells ⟨c, d, p, 14, 0, fun _ => 0#64, fun _ => 0#64, fun _ => 0#64⟩)) w := by kernel_rfl
attribute [local go_sem] tset5 tset6 build_bare
attribute [local go_sem high] laidAt_t
attribute [local go_sem ↓] brow26
end Go.Proofs.Hc
/- Package table: where a key is put. -/
namespace Go.Proofs.Hc
open Go.RowKit
attribute [local go_sem] wrap_u64 wrap_u8 bits_xor64 bits_and64 bits_or64 bits_not64 bits_xor8 bits_and8 bits_or8 signed64 signed8 ofInt_N BitVec.ofInt_add BitVec.ofInt_mul ofInt_sub' ofInt8_N64 ofInt64_N8 wide8 eqN neN shr_pow shr1 shr7 shr56
attribute [local go_sem high] bits_com64 shl_wrap
attribute [local go_sem] cell_heap ice_heap cellAt_cells iceAt_cells setAt_cells rowAt_cells canLay_cells laidAt_cells size_onObj size_setCell rowRes_some layRes_true
attribute [local go_sem] load26 load73 load23 store26 build73
attribute [local go_sem ↓] lrow26 lrow73 lrow23 srow26 zero26 brow73 heap_alloc heap_drew heap_drewN heap_setCell heap_onObj
attribute [local go_sem] tcells_size hcells_size tcells_get hcells_get tcells_one hcells_one hcells_table tcells_table hcells_all hcells_ctrl tcells_ctrl
attribute [local go_sem] nn2 nm2 nn3 nm3 nn4 nm4 nn5 nm5 nn6 nm6 nn7 nm7 nn8 nm8
attribute [local go_sem] nn2 nm2 nn3 nm3 nn4 nm4 nn5 nm5 nn6 nm6 nn7 nm7 nn8 nm8
attribute [local go_sem] Oper.semAt_some make_func1 ofInt_pow8
attribute [local go_sem] box26 tcells_idx cell0 cell1 cell2 cell3 cell4 hcells_idx hcells_pop
attribute [local go_sem] cell5 cell6
/-- The lanes of a group that may be filled. -/
def freeM (c : BitVec 64) : BitVec 8 := emptyM c ||| delM c
theorem first_cases (m : BitVec 8) : ((lanesOf m).head? = none ∧ firstV m = .tuple #[I 0, .bool false]) ∨ ∃ x : Nat, x < 8 ∧ (lanesOf m).head? = some x ∧ firstV m = .tuple #[I x, .bool true] := by
  unfold firstV
  have hl : ∀ x ∈ lanesOf m, x < 8 := fun x hx => by
    unfold lanesOf at hx
    simpa using (List.mem_filter.1 hx).1
  generalize lanesOf m = l at *
  cases l with
  | nil => exact .inl ⟨rfl, rfl⟩
  | cons x l => exact .inr ⟨x, hl x (by simp), rfl, rfl⟩
end Go.Proofs.Hc
/- Package table: a key that is put. -/
namespace Go.Proofs.Hc
open Go.RowKit
attribute [local go_sem] wrap_u64 wrap_u8 bits_xor64 bits_and64 bits_or64 bits_not64 bits_xor8 bits_and8 bits_or8 signed64 signed8 ofInt_N BitVec.ofInt_add BitVec.ofInt_mul ofInt_sub' ofInt8_N64 ofInt64_N8 wide8 eqN neN shr_pow shr1 shr7 shr56
attribute [local go_sem high] bits_com64 shl_wrap
attribute [local go_sem] cell_heap ice_heap cellAt_cells iceAt_cells setAt_cells rowAt_cells canLay_cells laidAt_cells size_onObj size_setCell rowRes_some layRes_true
attribute [local go_sem] load26 load73 load23 store26 build73
attribute [local go_sem ↓] lrow26 lrow73 lrow23 srow26 zero26 brow73 heap_alloc heap_drew heap_drewN heap_setCell heap_onObj
attribute [local go_sem] tcells_size hcells_size tcells_get hcells_get tcells_one hcells_one hcells_table tcells_table hcells_all hcells_ctrl tcells_ctrl
attribute [local go_sem] nn2 nm2 nn3 nm3 nn4 nm4 nn5 nm5 nn6 nm6 nn7 nm7 nn8 nm8
attribute [local go_sem] nn2 nm2 nn3 nm3 nn4 nm4 nn5 nm5 nn6 nm6 nn7 nm7 nn8 nm8
attribute [local go_sem] Oper.semAt_some make_func1 ofInt_pow8
attribute [local go_sem] box26 tcells_idx cell0 cell1 cell2 cell3 cell4 hcells_idx hcells_pop
attribute [local go_sem] cell5 cell6
theorem mem_lanes (m : BitVec 8) (x : Nat) : x ∈ lanesOf m ↔ x < 8 ∧ m.getLsbD x = true := by
  unfold lanesOf; simp
theorem head_mem {m : BitVec 8} {x : Nat} (h : (lanesOf m).head? = some x) : x < 8 ∧ m.getLsbD x = true := by
  rw [← mem_lanes]
  generalize lanesOf m = l at *
  cases l with
  | nil => cases h
  | cons y l => simp at h; subst h; simp
theorem free_byte (c : BitVec 64) (x : Nat) (hx : x < 8) : (freeM c).getLsbD x = (byteAt c x == 128#8 || byteAt c x == 254#8) := by
  rw [freeM, BitVec.getLsbD_or, emptyM_bit c x hx, delM_bit c x hx]
end Go.Proofs.Hc
/- Package table: a table, and pairs that are put in it. -/
namespace Go.Proofs.Hc
open Go.RowKit
attribute [local go_sem] wrap_u64 wrap_u8 bits_xor64 bits_and64 bits_or64 bits_not64 bits_xor8 bits_and8 bits_or8 signed64 signed8 ofInt_N BitVec.ofInt_add BitVec.ofInt_mul ofInt_sub' ofInt8_N64 ofInt64_N8 wide8 eqN neN shr_pow shr1 shr7 shr56
attribute [local go_sem high] bits_com64 shl_wrap
attribute [local go_sem] cell_heap ice_heap cellAt_cells iceAt_cells setAt_cells rowAt_cells canLay_cells laidAt_cells size_onObj size_setCell rowRes_some layRes_true
attribute [local go_sem] load26 load73 load23 store26 build73
attribute [local go_sem ↓] lrow26 lrow73 lrow23 srow26 zero26 brow73 heap_alloc heap_drew heap_drewN heap_setCell heap_onObj
attribute [local go_sem] tcells_size hcells_size tcells_get hcells_get tcells_one hcells_one hcells_table tcells_table hcells_all hcells_ctrl tcells_ctrl
attribute [local go_sem] nn2 nm2 nn3 nm3 nn4 nm4 nn5 nm5 nn6 nm6 nn7 nm7 nn8 nm8
attribute [local go_sem] nn2 nm2 nn3 nm3 nn4 nm4 nn5 nm5 nn6 nm6 nn7 nm7 nn8 nm8
attribute [local go_sem] Oper.semAt_some make_func1 ofInt_pow8
attribute [local go_sem] box26 tcells_idx cell0 cell1 cell2 cell3 cell4 hcells_idx hcells_pop
attribute [local go_sem] cell5 cell6
theorem loadP (g o : Nat) (w : World) : (loadRow 31 ⟨g, o, none⟩).run Tryz.prog w = rowRes Tryz.prog 31 g o w ((w.heap[g]?).bind (rowAt o 2)) :=
  run_row Tryz.underlying31 rfl (by kernel_rfl) g o w
theorem storeP (g o : Nat) (vs : Array Value) (w : World) : (storeRow 31 ⟨g, o, none⟩ (.agg vs)).run Tryz.prog w = layRes Tryz.prog 31 g o vs w (((w.heap[g]?).map (canLay o 2 vs)).getD false) :=
  run_lay (by kernel_rfl) g o vs w
theorem lrowP (a : Addr) : loadVar 31 a = loadRow 31 a := rfl
theorem srowP (a : Addr) (v : Value) : storeVar 31 a v = storeRow 31 a v := rfl
theorem zeroP (w : World) : (zeroValue 31).run Tryz.prog w = .ok (.agg #[U 0#64, U 0#64]) w := by kernel_rfl
theorem allOne_pair (x y : BitVec 64) : allOne #[U x, U y] = true := by simp [allOne, Value.oneCell']
theorem laidAt_p (a b c d : Value) (T : TypeId) (fr : Nat × Nat) : laidAt 0 #[a, b] (.cells #[c, d] T fr) = .cells #[a, b] T fr := by
  have h := laid_whole (#[a, b] : Array Value) #[c, d] rfl
  show Obj.cells (((#[c, d] : Array Value).extract 0 0 ++ #[a, b]) ++ (#[c, d] : Array Value).extract (0 + (#[a, b] : Array Value).size) (#[c, d] : Array Value).size) T fr = _
  rw [h]
attribute [local go_sem] loadP storeP allOne_pair
attribute [local go_sem high] laidAt_p
attribute [local go_sem high] laidAt_t
attribute [local go_sem ↓] lrowP srowP zeroP
end Go.Proofs.Hc
/- The reference of layer 9. -/
namespace Go.Proofs.Hc
open Go.RowKit
attribute [local go_sem] wrap_u64 wrap_u8 bits_xor64 bits_and64 bits_or64 bits_not64 bits_xor8 bits_and8 bits_or8 signed64 signed8 ofInt_N BitVec.ofInt_add BitVec.ofInt_mul ofInt_sub' ofInt8_N64 ofInt64_N8 wide8 eqN neN shr_pow shr1 shr7 shr56
attribute [local go_sem high] bits_com64 shl_wrap
attribute [local go_sem] cell_heap ice_heap cellAt_cells iceAt_cells setAt_cells rowAt_cells canLay_cells laidAt_cells size_onObj size_setCell rowRes_some layRes_true
attribute [local go_sem] load26 load73 load23 store26 build73
attribute [local go_sem ↓] lrow26 lrow73 lrow23 srow26 zero26 brow73 heap_alloc heap_drew heap_drewN heap_setCell heap_onObj
attribute [local go_sem] tcells_size hcells_size tcells_get hcells_get tcells_one hcells_one hcells_table tcells_table hcells_all hcells_ctrl tcells_ctrl
attribute [local go_sem] nn2 nm2 nn3 nm3 nn4 nm4 nn5 nm5 nn6 nm6 nn7 nm7 nn8 nm8
attribute [local go_sem] nn2 nm2 nn3 nm3 nn4 nm4 nn5 nm5 nn6 nm6 nn7 nm7 nn8 nm8
attribute [local go_sem] ofInt_N
theorem Y128 (b : BitVec 8) : (N b == 128) = (b == 128#8) := by rw [← eqN]; rfl
/-- The lanes below j that a test takes. -/
def setM (p : Nat → Bool) : Nat → BitVec 8
  | 0 => 0#8
  | j + 1 => if p j then setM p j + laneM j else setM p j
end Go.Proofs.Hc
/- Package table: Set. -/
namespace Go.Proofs.Hc
open Go.RowKit
attribute [local go_sem] wrap_u64 wrap_u8 bits_xor64 bits_and64 bits_or64 bits_not64 bits_xor8 bits_and8 bits_or8 signed64 signed8 ofInt_N BitVec.ofInt_add BitVec.ofInt_mul ofInt_sub' ofInt8_N64 ofInt64_N8 wide8 eqN neN shr_pow shr1 shr7 shr56
attribute [local go_sem high] bits_com64 shl_wrap
attribute [local go_sem] cell_heap ice_heap cellAt_cells iceAt_cells setAt_cells rowAt_cells canLay_cells laidAt_cells size_onObj size_setCell rowRes_some layRes_true
attribute [local go_sem] load26 load73 load23 store26 build73
attribute [local go_sem ↓] lrow26 lrow73 lrow23 srow26 zero26 brow73 heap_alloc heap_drew heap_drewN heap_setCell heap_onObj
attribute [local go_sem] tcells_size hcells_size tcells_get hcells_get tcells_one hcells_one hcells_table tcells_table hcells_all hcells_ctrl tcells_ctrl
attribute [local go_sem] nn2 nm2 nn3 nm3 nn4 nm4 nn5 nm5 nn6 nm6 nn7 nm7 nn8 nm8
attribute [local go_sem] loadA loadT2 storeA storeT2 buildA_ts buildA_sm assert_errno make_func acells_size t2cells_size acells_get t2cells_get acells_one t2cells_one acells_table acells_all t2cells_all t2cells_l t2cells_r
attribute [local go_sem ↓] lrowA lrowT2 srowA srowT2 browA zeroA_run zeroT2_run
attribute [local go_sem] nn2 nm2 nn3 nm3 nn4 nm4 nn5 nm5 nn6 nm6 nn7 nm7 nn8 nm8
attribute [local go_sem] Oper.semAt_some make_func1 ofInt_pow8
attribute [local go_sem] box26 tcells_idx cell0 cell1 cell2 cell3 cell4 hcells_idx hcells_pop
attribute [local go_sem] cell5 cell6
attribute [local go_sem high] laidAt_t
/-- A table whose key has another value. -/
def setT (t : Tab) (j : Nat) (v : BitVec 64) : Tab := { t with v := fun i => if i = j then v else t.v i }
end Go.Proofs.Hc
/- Tables compared with themselves. -/
namespace Go.Proofs.Hc
open Go.RowKit
/-- A value that is equal to itself. -/
def SelfEq (d : Nat) (T : TypeId) (v : Value) : Prop := ∀ w, (Op.equalIn d T v v).run Tryz.prog w = .ok true w
theorem self_int (d : Nat) (T : TypeId) (k k' : IntKind) (a : Int) (h : Tryz.prog.underlying T = some (.int k')) : SelfEq (d + 1) T (.int k a) := fun w => by
  rw [run_equalIn_int w d T k k' a a h, beq_self_eq_true]
theorem self_fields {d : Nat} {xs : Array Value} : ∀ (fs : List Field), (∀ f ∈ fs, ∃ a, (∀ w, (part f.type xs f.offset).run Tryz.prog w = .ok a w) ∧ SelfEq d f.type a) → ∀ w, (Op.eqFields d xs xs fs).run Tryz.prog w = .ok true w
  | [], _, w => by simp [Op.eqFields]
  | f :: fs, h, w => by
    obtain ⟨a, h1, h2⟩ := h f (by simp)
    have ih := self_fields fs (fun j hj => h j (by simp [hj])) w
    simp only [Op.eqFields]
    split
    · simp only [Sem.run_bind, h1, h2 w, Result.andThen_ok, Bool.not_true, Bool.false_eq_true, if_false, ih]
    · exact ih
theorem part_int {T : TypeId} {k : IntKind} (h : Tryz.prog.underlying T = some (.int k)) {xs : Array Value} {off : Nat} {v : Value} (hx : xs[off]? = some v) (w : World) : (part T xs off).run Tryz.prog w = .ok v w :=
  run_part_plain w (by simp [Program.plainKey, h]) hx
end Go.Proofs.Hc
