/- The reference of layer 19: Wants, through. -/
import Derived.Test.YtmfajobocpaimaaGreatKHm
import Derived.Test.YtmfajobocpaimaaGreatKHnac
import Derived.Test.YtmfajobocpaimaaGreatKHni
import Derived.Test.YtmfajobocpaimaaGreatKHq
import Derived.Test.YtmfajobocpaimaaGreatKHop2
import Derived.Test.YtmfajobocpaimaaGreatKHye
import Derived.Below
import Derived.BigQuiet
import Derived.Deep.Draws
import Derived.Deep.Light
import Derived.Deep.QuietTactic
import Derived.Deep.RegionHeld
import Derived.Laws.CopyRow
import Derived.Laws.StructEq
import Derived.Laws.Tables
import Derived.Lib.AppendZerosOnto
import Derived.Lib.Hide
import Derived.Lib.Tables
import Derived.Lib.Walk
import Derived.LoopIn
import Derived.LoopN
import Derived.LoopNIn
import Derived.Maps.AppendAt
import Derived.Maps.Views
import Derived.OwnWalkIn
import Derived.RangeFuncBox
import Derived.RangeFuncCalls
import Derived.RangeFuncRecord
import Derived.RangeFuncSeq
import Derived.Recover
import Derived.RegionTactic
import Derived.Shelf.Slices.Clone
import Derived.StillTail
import Derived.StillTailTactics
import Derived.TacticsInMore
import Derived.Test.YtmfajobocpaimaaGreatProg
import Derived.WalkKit
import Derived.WalkLawsBesides
import Derived.WalkMore
import Derived.WalkSpells
import Derived.ChangeKeysEq
set_option linter.unusedSimpArgs false
set_option linter.unusedVariables false
namespace Go.Proofs.Hc
open Go.RowKit
attribute [local go_sem] wrap_u64 wrap_u8 bits_xor64 bits_and64 bits_or64 bits_not64 bits_xor8 bits_and8 bits_or8 signed64 signed8 ofInt_N BitVec.ofInt_add BitVec.ofInt_mul ofInt_sub' ofInt8_N64 ofInt64_N8 wide8 eqN neN shr_pow shr1 shr7 shr56
attribute [local go_sem high] bits_com64 shl_wrap
attribute [local go_sem] cell_heap ice_heap cellAt_cells iceAt_cells setAt_cells rowAt_cells canLay_cells laidAt_cells size_onObj size_setCell rowRes_some layRes_true
attribute [local go_sem] load26 load73 load23 store26 build73
attribute [local go_sem ↓] lrow26 lrow73 lrow23 srow26 zero26 brow73 heap_alloc heap_drew heap_drewN heap_setCell heap_onObj
attribute [local go_sem] tcells_size hcells_size tcells_get hcells_get tcells_one hcells_one hcells_table tcells_table hcells_all hcells_ctrl tcells_ctrl
attribute [local go_sem] nn2 nm2 nn3 nm3 nn4 nm4 nn5 nm5 nn6 nm6 nn7 nm7 nn8 nm8
attribute [local go_sem] nn2 nm2 nn3 nm3 nn4 nm4 nn5 nm5 nn6 nm6 nn7 nm7 nn8 nm8
attribute [local go_sem] ofInt_N
theorem pen_g0 (p : PenT) : (penC p)[0]? = some (I p.ph) := rfl
theorem pen_g1 (p : PenT) : (penC p)[1]? = some (I p.sl) := rfl
theorem pen_g2 (p : PenT) : (penC p)[2]? = some (I p.op) := rfl
theorem pen_g3 (p : PenT) : (penC p)[3]? = some (U p.key) := rfl
theorem pen_g4 (p : PenT) : (penC p)[4]? = some (U p.a) := rfl
theorem pen_g5 (p : PenT) : (penC p)[5]? = some (U p.b) := rfl
theorem pen_g6 (p : PenT) : (penC p)[6]? = some (U p.hash) := rfl
theorem pen_g7 (p : PenT) : (penC p)[7]? = some (U p.count) := rfl
theorem pen_g8 (p : PenT) : (penC p)[8]? = some (U p.can) := rfl
theorem pen_g9 (p : PenT) : (penC p)[9]? = some (U p.live) := rfl
theorem pen_g10 (p : PenT) : (penC p)[10]? = some (I p.grp) := rfl
theorem pen_g11 (p : PenT) : (penC p)[11]? = some (U p.ctrl) := rfl
theorem pen_g12 (p : PenT) : (penC p)[12]? = some (Y p.left) := rfl
theorem pen_g13 (p : PenT) : (penC p)[13]? = some (I p.free) := rfl
theorem pen_g14 (p : PenT) : (penC p)[14]? = some (U p.fctrl) := rfl
theorem pen_g15 (p : PenT) : (penC p)[15]? = some (I p.slot) := rfl
theorem pen_g16 (p : PenT) : (penC p)[16]? = some (U p.val) := rfl
theorem pen_g17 (p : PenT) : (penC p)[17]? = some (.bool p.found) := rfl
theorem pen_s0 (p : PenT) (x : Int) : (penC p).setIfInBounds 0 (I x) = penC { p with ph := x } := rfl
theorem pen_s1 (p : PenT) (x : Int) : (penC p).setIfInBounds 1 (I x) = penC { p with sl := x } := rfl
theorem pen_s2 (p : PenT) (x : Int) : (penC p).setIfInBounds 2 (I x) = penC { p with op := x } := rfl
theorem pen_s3 (p : PenT) (x : BitVec 64) : (penC p).setIfInBounds 3 (U x) = penC { p with key := x } := rfl
theorem pen_s4 (p : PenT) (x : BitVec 64) : (penC p).setIfInBounds 4 (U x) = penC { p with a := x } := rfl
theorem pen_s5 (p : PenT) (x : BitVec 64) : (penC p).setIfInBounds 5 (U x) = penC { p with b := x } := rfl
theorem pen_s6 (p : PenT) (x : BitVec 64) : (penC p).setIfInBounds 6 (U x) = penC { p with hash := x } := rfl
theorem pen_s7 (p : PenT) (x : BitVec 64) : (penC p).setIfInBounds 7 (U x) = penC { p with count := x } := rfl
theorem pen_s8 (p : PenT) (x : BitVec 64) : (penC p).setIfInBounds 8 (U x) = penC { p with can := x } := rfl
theorem pen_s9 (p : PenT) (x : BitVec 64) : (penC p).setIfInBounds 9 (U x) = penC { p with live := x } := rfl
theorem pen_s10 (p : PenT) (x : Int) : (penC p).setIfInBounds 10 (I x) = penC { p with grp := x } := rfl
theorem pen_s11 (p : PenT) (x : BitVec 64) : (penC p).setIfInBounds 11 (U x) = penC { p with ctrl := x } := rfl
theorem pen_s12 (p : PenT) (x : BitVec 8) : (penC p).setIfInBounds 12 (Y x) = penC { p with left := x } := rfl
theorem pen_s13 (p : PenT) (x : Int) : (penC p).setIfInBounds 13 (I x) = penC { p with free := x } := rfl
theorem pen_s14 (p : PenT) (x : BitVec 64) : (penC p).setIfInBounds 14 (U x) = penC { p with fctrl := x } := rfl
theorem pen_s15 (p : PenT) (x : Int) : (penC p).setIfInBounds 15 (I x) = penC { p with slot := x } := rfl
theorem pen_s16 (p : PenT) (x : BitVec 64) : (penC p).setIfInBounds 16 (U x) = penC { p with val := x } := rfl
theorem pen_s17 (p : PenT) (x : Bool) : (penC p).setIfInBounds 17 (.bool x) = penC { p with found := x } := rfl
theorem boxPen (p : PenT) (w : World) : (Instr.box 71 (.agg (penC p))).run Tryz.prog w = .ok (.pointer (some ⟨w.heap.size, 0, none⟩)) (w.alloc (.cells (penC p) 71)) := rfl
theorem loadPen (g o : Nat) (w : World) : (loadRow 71 ⟨g, o, none⟩).run Tryz.prog w = rowRes Tryz.prog 71 g o w ((w.heap[g]?).bind (rowAt o 18)) :=
  run_row Tryz.underlying71 rfl (by kernel_rfl) g o w
theorem storePen (g o : Nat) (vs : Array Value) (w : World) : (storeRow 71 ⟨g, o, none⟩ (.agg vs)).run Tryz.prog w = layRes Tryz.prog 71 g o vs w (((w.heap[g]?).map (canLay o 18 vs)).getD false) :=
  run_lay (by kernel_rfl) g o vs w
theorem lrowPen (a : Addr) : loadVar 71 a = loadRow 71 a := rfl
theorem srowPen (a : Addr) (v : Value) : storeVar 71 a v = storeRow 71 a v := rfl
attribute [local go_sem] pen_g0 pen_g1 pen_g2 pen_g3 pen_g4 pen_g5 pen_g6 pen_g7 pen_g8 pen_g9 pen_g10 pen_g11 pen_g12 pen_g13 pen_g14 pen_g15 pen_g16 pen_g17 penC_size penC_one penC_all boxPen loadPen storePen
attribute [local go_sem ↓] lrowPen srowPen
attribute [local irreducible] penC
theorem eq_cases (x k : Int) : x = k ∨ (x == k) = false := by
  by_cases h : x = k
  · exact .inl h
  · exact .inr (by simpa using h)
set_option maxRecDepth 100000 in
theorem rWants_any (p : PenT) (w : World) : Calls Tryz.prog 108 #[.agg (penC p)] w fun e w' => e = .returned (I (wantsP p : Nat)) ∧ Ch [] w w' := by
  have HW : Hid (wantsP p = if p.found then (if p.op == 2 || p.op == 4 && p.val == p.a then 2 else if p.op == 3 then 3 else 0) else if p.op == 2 || p.op == 5 then 1 else 0) := Lib.hid (by rw [wantsP])
  generalize wantsP p = n at *
  have hop : p.op = 2 ∨ p.op = 3 ∨ p.op = 4 ∨ p.op = 5 ∨ ((p.op == 2) = false ∧ (p.op == 3) = false ∧ (p.op == 4) = false ∧ (p.op == 5) = false) := by
    simp only [beq_eq_false_iff_ne, ne_eq]; omega
  have hv : (p.val == p.a) = true ∨ (p.val == p.a) = false := by cases (p.val == p.a) <;> simp
  have hf : p.found = true ∨ p.found = false := by cases p.found <;> simp
  rcases hf with hf | hf
  all_goals rcases hv with hv | hv
  all_goals rcases hop with ho | ho | ho | ho | ⟨o2, o3, o4, o5⟩
  all_goals
    go_enter Tryz.func108, Tryz.ntmps108
    go_wp2
    go_ret
    refine ⟨?_, (Ch.refl [] w).alloc _⟩
    rw [HW.out]
    simp [*]
theorem rThrough_any (n : Nat) (hn : n ≤ 3) (x : Int) (h4 : 4 ≤ x) (h13 : x ≤ 13) (w : World) : Calls Tryz.prog 109 #[I n, I x] w fun e w' => e = .returned (.bool (throughP n x)) ∧ w = w' := by
  have hx : x = 4 ∨ x = 5 ∨ x = 6 ∨ x = 7 ∨ x = 8 ∨ x = 9 ∨ x = 10 ∨ x = 11 ∨ x = 12 ∨ x = 13 := by omega
  have hn' : n = 0 ∨ n = 1 ∨ n = 2 ∨ n = 3 := by omega
  clear h4 h13 hn
  rcases hx with rfl | rfl | rfl | rfl | rfl | rfl | rfl | rfl | rfl | rfl <;> rcases hn' with rfl | rfl | rfl | rfl
  all_goals
    go_enter Tryz.func109, Tryz.ntmps109
    go_wp2
    go_ret
    exact ⟨rfl, rfl⟩
theorem rSlab_any (n : Int) (w : World) : Calls Tryz.prog 107 #[I n] w fun e w' => e = .returned (.bool (decide (0 ≤ n) && decide (n < 128))) ∧ w = w' := by
  rcases Int.lt_or_le n 0 with h | h
  · go_enter Tryz.func107, Tryz.ntmps107
    go_wp2
    go_ret
    exact ⟨by first | (simp; done) | (simp; omega), rfl⟩
  · rcases Int.lt_or_le n 128 with h2 | h2
    · go_enter Tryz.func107, Tryz.ntmps107
      go_wp2
      go_ret
      exact ⟨by simp [h, h2], rfl⟩
    · go_enter Tryz.func107, Tryz.ntmps107
      go_wp2
      go_ret
      exact ⟨by first | (simp [h]; done) | (simp [h]; omega), rfl⟩
theorem rCell_any (n k : Int) (h0 : 0 ≤ n) (h1 : n < 128) (h2 : 0 ≤ k) (h3 : k ≤ 40) (w : World) : Calls Tryz.prog 49 #[I n, I k] w fun e w' => e = .returned (I (16 + 40 * n + k)) ∧ w = w' := by
  go_enter Tryz.func49, Tryz.ntmps49
  go_wp2
  go_ret
  exact ⟨rfl, rfl⟩
end Go.Proofs.Hc
/- A pen compared with itself. -/
namespace Go.Proofs.Hc
open Go.RowKit
theorem call_fields : (Tryz.prog.fieldsOf 68).toList.map (fun f => (f.type, f.offset)) = [(3, 0), (22, 1), (22, 2), (22, 3)] := by kernel_rfl
theorem call_under : Tryz.prog.underlying 68 = some (.struct (Tryz.prog.fieldsOf 68)) := by kernel_rfl
theorem call_stood : Tryz.prog.stoodInHeld 68 = false := by kernel_rfl
theorem call_cells : Tryz.prog.cellsOf 68 = 4 := by kernel_rfl
theorem pen_fields : (Tryz.prog.fieldsOf 71).toList.map (fun f => (f.type, f.offset)) = [(3, 0), (3, 1), (68, 2), (22, 6), (22, 7), (22, 8), (22, 9), (3, 10), (22, 11), (69, 12), (3, 13), (22, 14), (3, 15), (22, 16), (4, 17)] := by kernel_rfl
theorem pen_under : Tryz.prog.underlying 71 = some (.struct (Tryz.prog.fieldsOf 71)) := by kernel_rfl
theorem pen_stood : Tryz.prog.stoodInHeld 71 = false := by kernel_rfl
theorem mask_under : Tryz.prog.underlying 69 = some (.int .u8) := by kernel_rfl
theorem bool_under : Tryz.prog.underlying 4 = some .bool := by kernel_rfl
theorem self_bool (d : Nat) (T : TypeId) (a : Bool) (h : Tryz.prog.underlying T = some .bool) : SelfEq (d + 1) T (.bool a) := fun w => by
  rw [run_equalIn_bool' w d T a a h, beq_self_eq_true]
theorem part_bool {T : TypeId} (h : Tryz.prog.underlying T = some .bool) {xs : Array Value} {off : Nat} {v : Value} (hx : xs[off]? = some v) (w : World) : (part T xs off).run Tryz.prog w = .ok v w :=
  run_part_plain w (by simp [Program.plainKey, h]) hx
theorem self_call (d : Nat) (a : Int) (b c e : BitVec 64) : SelfEq (d + 2) 68 (.agg #[I a, U b, U c, U e]) := fun w => by
  rw [run_equalIn_agg w (d + 1) 68 _ _ call_under call_stood]
  refine self_fields _ (fun f hf => ?_) w
  have hm : (f.type, f.offset) ∈ [(3, 0), (22, 1), (22, 2), (22, 3)] := by
    rw [← call_fields]; exact List.mem_map.2 ⟨f, hf, rfl⟩
  generalize f.type = T at *
  generalize f.offset = o at *
  simp only [List.mem_cons, Prod.mk.injEq, List.not_mem_nil, or_false] at hm
  rcases hm with ⟨rfl, rfl⟩ | ⟨rfl, rfl⟩ | ⟨rfl, rfl⟩ | ⟨rfl, rfl⟩
  · exact ⟨I a, part_int Tryz.underlying3 rfl, self_int _ _ _ _ _ Tryz.underlying3⟩
  · exact ⟨U b, part_int Tryz.underlying22 rfl, self_int _ _ _ _ _ Tryz.underlying22⟩
  · exact ⟨U c, part_int Tryz.underlying22 rfl, self_int _ _ _ _ _ Tryz.underlying22⟩
  · exact ⟨U e, part_int Tryz.underlying22 rfl, self_int _ _ _ _ _ Tryz.underlying22⟩
theorem self_pen (d : Nat) (p : PenT) : SelfEq (d + 3) 71 (.agg (penC p)) := fun w => by
  rw [run_equalIn_agg w (d + 2) 71 _ _ pen_under pen_stood]
  refine self_fields _ (fun f hf => ?_) w
  have hm : (f.type, f.offset) ∈ [(3, 0), (3, 1), (68, 2), (22, 6), (22, 7), (22, 8), (22, 9), (3, 10), (22, 11), (69, 12), (3, 13), (22, 14), (3, 15), (22, 16), (4, 17)] := by
    rw [← pen_fields]; exact List.mem_map.2 ⟨f, hf, rfl⟩
  generalize f.type = T at *
  generalize f.offset = o at *
  obtain ⟨ic, hc⟩ := info_of_underlying (P := Tryz.prog) call_under
  simp only [List.mem_cons, Prod.mk.injEq, List.not_mem_nil, or_false] at hm
  rcases hm with ⟨rfl, rfl⟩ | ⟨rfl, rfl⟩ | ⟨rfl, rfl⟩ | ⟨rfl, rfl⟩ | ⟨rfl, rfl⟩ | ⟨rfl, rfl⟩ | ⟨rfl, rfl⟩ | ⟨rfl, rfl⟩ | ⟨rfl, rfl⟩ | ⟨rfl, rfl⟩ | ⟨rfl, rfl⟩ | ⟨rfl, rfl⟩ | ⟨rfl, rfl⟩ | ⟨rfl, rfl⟩ | ⟨rfl, rfl⟩
  · exact ⟨_, part_int Tryz.underlying3 (pen_g0 p), self_int _ _ _ _ _ Tryz.underlying3⟩
  · exact ⟨_, part_int Tryz.underlying3 (pen_g1 p), self_int _ _ _ _ _ Tryz.underlying3⟩
  · exact ⟨.agg #[I p.op, U p.key, U p.a, U p.b], fun w => by simp [part, isAgg, run_underlying call_under, run_sizeOf w hc, call_cells]; rfl, self_call _ _ _ _ _⟩
  · exact ⟨_, part_int Tryz.underlying22 (pen_g6 p), self_int _ _ _ _ _ Tryz.underlying22⟩
  · exact ⟨_, part_int Tryz.underlying22 (pen_g7 p), self_int _ _ _ _ _ Tryz.underlying22⟩
  · exact ⟨_, part_int Tryz.underlying22 (pen_g8 p), self_int _ _ _ _ _ Tryz.underlying22⟩
  · exact ⟨_, part_int Tryz.underlying22 (pen_g9 p), self_int _ _ _ _ _ Tryz.underlying22⟩
  · exact ⟨_, part_int Tryz.underlying3 (pen_g10 p), self_int _ _ _ _ _ Tryz.underlying3⟩
  · exact ⟨_, part_int Tryz.underlying22 (pen_g11 p), self_int _ _ _ _ _ Tryz.underlying22⟩
  · exact ⟨_, part_int mask_under (pen_g12 p), self_int _ _ _ _ _ mask_under⟩
  · exact ⟨_, part_int Tryz.underlying3 (pen_g13 p), self_int _ _ _ _ _ Tryz.underlying3⟩
  · exact ⟨_, part_int Tryz.underlying22 (pen_g14 p), self_int _ _ _ _ _ Tryz.underlying22⟩
  · exact ⟨_, part_int Tryz.underlying3 (pen_g15 p), self_int _ _ _ _ _ Tryz.underlying3⟩
  · exact ⟨_, part_int Tryz.underlying22 (pen_g16 p), self_int _ _ _ _ _ Tryz.underlying22⟩
  · exact ⟨_, part_bool bool_under (pen_g17 p), self_bool _ _ _ bool_under⟩
theorem eql_pen (p : PenT) (w : World) : (binOp .eql 71 (.agg (penC p)) (.agg (penC p))).run Tryz.prog w = .ok (.bool true) w := by
  rw [run_eql_struct, self_pen 9997 p w]; rfl
theorem neq_pen (p : PenT) (w : World) : (binOp .neq 71 (.agg (penC p)) (.agg (penC p))).run Tryz.prog w = .ok (.bool false) w := by
  rw [run_neq_struct, self_pen 9997 p w]; rfl
theorem guardPen (op : BinOp) (x y : Operand) (xs ys : Array Value) (w : World) : (eqGuard op 71 x y (.agg xs) (.agg ys)).run Tryz.prog w = .ok () w := run_eqGuard_agg w op 71 x y xs ys (by kernel_rfl)
end Go.Proofs.Hc
