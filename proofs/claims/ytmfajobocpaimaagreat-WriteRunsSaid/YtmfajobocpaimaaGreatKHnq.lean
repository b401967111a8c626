/- The reference of layer 19: Wants, through. -/
import Derived.Test.YtmfajobocpaimaaGreatKHxe
import Derived.Test.YtmfajobocpaimaaGreatKHng
import Derived.Test.YtmfajobocpaimaaGreatKHni
import Derived.Test.YtmfajobocpaimaaGreatKHnl
import Derived.Test.YtmfajobocpaimaaGreatKHpa
import Derived.Test.YtmfajobocpaimaaGreatKHq
import Derived.Test.YtmfajobocpaimaaGreatKHr
import Derived.Test.YtmfajobocpaimaaGreatKHop2
import Derived.Below
import Derived.BigQuiet
import Derived.Deep.Draws
import Derived.Deep.Light
import Derived.Deep.QuietTactic
import Derived.Deep.RegionHeld
import Derived.Laws.CopyRow
import Derived.Laws.StructEq
import Derived.Laws.Tables
import Derived.Lib.AppendZerosOnto
import Derived.Lib.Hide
import Derived.Lib.Tables
import Derived.Lib.Walk
import Derived.LoopIn
import Derived.LoopN
import Derived.LoopNIn
import Derived.Maps.AppendAt
import Derived.Maps.Views
import Derived.OwnWalkIn
import Derived.RangeFuncBox
import Derived.RangeFuncCalls
import Derived.RangeFuncRecord
import Derived.RangeFuncSeq
import Derived.Recover
import Derived.RegionTactic
import Derived.Shelf.Slices.Clone
import Derived.StillTail
import Derived.StillTailTactics
import Derived.TacticsInMore
import Derived.Test.YtmfajobocpaimaaGreatProg
import Derived.WalkKit
import Derived.WalkLawsBesides
import Derived.WalkMore
import Derived.WalkSpells
import Derived.ScopeJumps
set_option linter.unusedSimpArgs false
set_option linter.unusedVariables false
namespace Go.Proofs.Hc
open Go.RowKit
attribute [local go_sem] wrap_u64 wrap_u8 bits_xor64 bits_and64 bits_or64 bits_not64 bits_xor8 bits_and8 bits_or8 signed64 signed8 ofInt_N BitVec.ofInt_add BitVec.ofInt_mul ofInt_sub' ofInt8_N64 ofInt64_N8 wide8 eqN neN shr_pow shr1 shr7 shr56
attribute [local go_sem high] bits_com64 shl_wrap
attribute [local go_sem] cell_heap ice_heap cellAt_cells iceAt_cells setAt_cells rowAt_cells canLay_cells laidAt_cells size_onObj size_setCell rowRes_some layRes_true
attribute [local go_sem] load26 load73 load23 store26 build73
attribute [local go_sem ↓] lrow26 lrow73 lrow23 srow26 zero26 brow73 heap_alloc heap_drew heap_drewN heap_setCell heap_onObj
attribute [local go_sem] tcells_size hcells_size tcells_get hcells_get tcells_one hcells_one hcells_table tcells_table hcells_all hcells_ctrl tcells_ctrl
attribute [local go_sem] nn2 nm2 nn3 nm3 nn4 nm4 nn5 nm5 nn6 nm6 nn7 nm7 nn8 nm8
attribute [local go_sem] nn2 nm2 nn3 nm3 nn4 nm4 nn5 nm5 nn6 nm6 nn7 nm7 nn8 nm8
attribute [local go_sem] ofInt_N
theorem pen_g0 (p : PenT) : (penC p)[0]? = some (I p.ph) := rfl
theorem pen_g1 (p : PenT) : (penC p)[1]? = some (I p.sl) := rfl
theorem pen_g2 (p : PenT) : (penC p)[2]? = some (I p.op) := rfl
theorem pen_g3 (p : PenT) : (penC p)[3]? = some (U p.key) := rfl
theorem pen_g4 (p : PenT) : (penC p)[4]? = some (U p.a) := rfl
theorem pen_g5 (p : PenT) : (penC p)[5]? = some (U p.b) := rfl
theorem pen_g6 (p : PenT) : (penC p)[6]? = some (U p.hash) := rfl
theorem pen_g7 (p : PenT) : (penC p)[7]? = some (U p.count) := rfl
theorem pen_g8 (p : PenT) : (penC p)[8]? = some (U p.can) := rfl
theorem pen_g9 (p : PenT) : (penC p)[9]? = some (U p.live) := rfl
theorem pen_g10 (p : PenT) : (penC p)[10]? = some (I p.grp) := rfl
theorem pen_g11 (p : PenT) : (penC p)[11]? = some (U p.ctrl) := rfl
theorem pen_g12 (p : PenT) : (penC p)[12]? = some (Y p.left) := rfl
theorem pen_g13 (p : PenT) : (penC p)[13]? = some (I p.free) := rfl
theorem pen_g14 (p : PenT) : (penC p)[14]? = some (U p.fctrl) := rfl
theorem pen_g15 (p : PenT) : (penC p)[15]? = some (I p.slot) := rfl
theorem pen_g16 (p : PenT) : (penC p)[16]? = some (U p.val) := rfl
theorem pen_g17 (p : PenT) : (penC p)[17]? = some (.bool p.found) := rfl
theorem pen_s0 (p : PenT) (x : Int) : (penC p).setIfInBounds 0 (I x) = penC { p with ph := x } := rfl
theorem pen_s1 (p : PenT) (x : Int) : (penC p).setIfInBounds 1 (I x) = penC { p with sl := x } := rfl
theorem pen_s2 (p : PenT) (x : Int) : (penC p).setIfInBounds 2 (I x) = penC { p with op := x } := rfl
theorem pen_s3 (p : PenT) (x : BitVec 64) : (penC p).setIfInBounds 3 (U x) = penC { p with key := x } := rfl
theorem pen_s4 (p : PenT) (x : BitVec 64) : (penC p).setIfInBounds 4 (U x) = penC { p with a := x } := rfl
theorem pen_s5 (p : PenT) (x : BitVec 64) : (penC p).setIfInBounds 5 (U x) = penC { p with b := x } := rfl
theorem pen_s6 (p : PenT) (x : BitVec 64) : (penC p).setIfInBounds 6 (U x) = penC { p with hash := x } := rfl
theorem pen_s7 (p : PenT) (x : BitVec 64) : (penC p).setIfInBounds 7 (U x) = penC { p with count := x } := rfl
theorem pen_s8 (p : PenT) (x : BitVec 64) : (penC p).setIfInBounds 8 (U x) = penC { p with can := x } := rfl
theorem pen_s9 (p : PenT) (x : BitVec 64) : (penC p).setIfInBounds 9 (U x) = penC { p with live := x } := rfl
theorem pen_s10 (p : PenT) (x : Int) : (penC p).setIfInBounds 10 (I x) = penC { p with grp := x } := rfl
theorem pen_s11 (p : PenT) (x : BitVec 64) : (penC p).setIfInBounds 11 (U x) = penC { p with ctrl := x } := rfl
theorem pen_s12 (p : PenT) (x : BitVec 8) : (penC p).setIfInBounds 12 (Y x) = penC { p with left := x } := rfl
theorem pen_s13 (p : PenT) (x : Int) : (penC p).setIfInBounds 13 (I x) = penC { p with free := x } := rfl
theorem pen_s14 (p : PenT) (x : BitVec 64) : (penC p).setIfInBounds 14 (U x) = penC { p with fctrl := x } := rfl
theorem pen_s15 (p : PenT) (x : Int) : (penC p).setIfInBounds 15 (I x) = penC { p with slot := x } := rfl
theorem pen_s16 (p : PenT) (x : BitVec 64) : (penC p).setIfInBounds 16 (U x) = penC { p with val := x } := rfl
theorem pen_s17 (p : PenT) (x : Bool) : (penC p).setIfInBounds 17 (.bool x) = penC { p with found := x } := rfl
theorem boxPen (p : PenT) (w : World) : (Instr.box 71 (.agg (penC p))).run Tryz.prog w = .ok (.pointer (some ⟨w.heap.size, 0, none⟩)) (w.alloc (.cells (penC p) 71)) := rfl
theorem loadPen (g o : Nat) (w : World) : (loadRow 71 ⟨g, o, none⟩).run Tryz.prog w = rowRes Tryz.prog 71 g o w ((w.heap[g]?).bind (rowAt o 18)) :=
  run_row Tryz.underlying71 rfl (by kernel_rfl) g o w
theorem storePen (g o : Nat) (vs : Array Value) (w : World) : (storeRow 71 ⟨g, o, none⟩ (.agg vs)).run Tryz.prog w = layRes Tryz.prog 71 g o vs w (((w.heap[g]?).map (canLay o 18 vs)).getD false) :=
  run_lay (by kernel_rfl) g o vs w
theorem lrowPen (a : Addr) : loadVar 71 a = loadRow 71 a := rfl
theorem srowPen (a : Addr) (v : Value) : storeVar 71 a v = storeRow 71 a v := rfl
attribute [local go_sem] pen_g0 pen_g1 pen_g2 pen_g3 pen_g4 pen_g5 pen_g6 pen_g7 pen_g8 pen_g9 pen_g10 pen_g11 pen_g12 pen_g13 pen_g14 pen_g15 pen_g16 pen_g17 penC_size penC_one penC_all boxPen loadPen storePen
attribute [local go_sem ↓] lrowPen srowPen
attribute [local irreducible] penC
theorem eq_cases (x k : Int) : x = k ∨ (x == k) = false := by
  by_cases h : x = k
  · exact .inl h
  · exact .inr (by simpa using h)
set_option maxRecDepth 100000 in
theorem rWants_any (p : PenT) (w : World) : Calls Tryz.prog 108 #[.agg (penC p)] w fun e w' => e = .returned (I (wantsP p : Nat)) ∧ Ch [] w w' := by
  have HW : Hid (wantsP p = if p.found then (if p.op == 2 || p.op == 4 && p.val == p.a then 2 else if p.op == 3 then 3 else 0) else if p.op == 2 || p.op == 5 then 1 else 0) := Lib.hid (by rw [wantsP])
  generalize wantsP p = n at *
  have hop : p.op = 2 ∨ p.op = 3 ∨ p.op = 4 ∨ p.op = 5 ∨ ((p.op == 2) = false ∧ (p.op == 3) = false ∧ (p.op == 4) = false ∧ (p.op == 5) = false) := by
    simp only [beq_eq_false_iff_ne, ne_eq]; omega
  have hv : (p.val == p.a) = true ∨ (p.val == p.a) = false := by cases (p.val == p.a) <;> simp
  have hf : p.found = true ∨ p.found = false := by cases p.found <;> simp
  rcases hf with hf | hf
  all_goals rcases hv with hv | hv
  all_goals rcases hop with ho | ho | ho | ho | ⟨o2, o3, o4, o5⟩
  all_goals
    go_enter Tryz.func108, Tryz.ntmps108
    go_wp2
    go_ret
    refine ⟨?_, (Ch.refl [] w).alloc _⟩
    rw [HW.out]
    simp [*]
theorem rThrough_any (n : Nat) (hn : n ≤ 3) (x : Int) (h4 : 4 ≤ x) (h13 : x ≤ 13) (w : World) : Calls Tryz.prog 109 #[I n, I x] w fun e w' => e = .returned (.bool (throughP n x)) ∧ w = w' := by
  have hx : x = 4 ∨ x = 5 ∨ x = 6 ∨ x = 7 ∨ x = 8 ∨ x = 9 ∨ x = 10 ∨ x = 11 ∨ x = 12 ∨ x = 13 := by omega
  have hn' : n = 0 ∨ n = 1 ∨ n = 2 ∨ n = 3 := by omega
  clear h4 h13 hn
  rcases hx with rfl | rfl | rfl | rfl | rfl | rfl | rfl | rfl | rfl | rfl <;> rcases hn' with rfl | rfl | rfl | rfl
  all_goals
    go_enter Tryz.func109, Tryz.ntmps109
    go_wp2
    go_ret
    exact ⟨rfl, rfl⟩
theorem rSlab_any (n : Int) (w : World) : Calls Tryz.prog 107 #[I n] w fun e w' => e = .returned (.bool (decide (0 ≤ n) && decide (n < 128))) ∧ w = w' := by
  rcases Int.lt_or_le n 0 with h | h
  · go_enter Tryz.func107, Tryz.ntmps107
    go_wp2
    go_ret
    exact ⟨by first | (simp; done) | (simp; omega), rfl⟩
  · rcases Int.lt_or_le n 128 with h2 | h2
    · go_enter Tryz.func107, Tryz.ntmps107
      go_wp2
      go_ret
      exact ⟨by simp [h, h2], rfl⟩
    · go_enter Tryz.func107, Tryz.ntmps107
      go_wp2
      go_ret
      exact ⟨by first | (simp [h]; done) | (simp [h]; omega), rfl⟩
theorem rCell_any (n k : Int) (h0 : 0 ≤ n) (h1 : n < 128) (h2 : 0 ≤ k) (h3 : k ≤ 40) (w : World) : Calls Tryz.prog 49 #[I n, I k] w fun e w' => e = .returned (I (16 + 40 * n + k)) ∧ w = w' := by
  go_enter Tryz.func49, Tryz.ntmps49
  go_wp2
  go_ret
  exact ⟨rfl, rfl⟩
end Go.Proofs.Hc
/- Package write: stores (an iterator), goes. -/
namespace Go.Proofs.Hc
open Go.RowKit
attribute [local go_sem] wrap_u64 wrap_u8 bits_xor64 bits_and64 bits_or64 bits_not64 bits_xor8 bits_and8 bits_or8 signed64 signed8 ofInt_N BitVec.ofInt_add BitVec.ofInt_mul ofInt_sub' ofInt8_N64 ofInt64_N8 wide8 eqN neN shr_pow shr1 shr7 shr56
attribute [local go_sem high] bits_com64 shl_wrap
attribute [local go_sem] cell_heap ice_heap cellAt_cells iceAt_cells setAt_cells rowAt_cells canLay_cells laidAt_cells size_onObj size_setCell rowRes_some layRes_true
attribute [local go_sem] load26 load73 load23 store26 build73
attribute [local go_sem ↓] lrow26 lrow73 lrow23 srow26 zero26 brow73 heap_alloc heap_drew heap_drewN heap_setCell heap_onObj
attribute [local go_sem] tcells_size hcells_size tcells_get hcells_get tcells_one hcells_one hcells_table tcells_table hcells_all hcells_ctrl tcells_ctrl
attribute [local go_sem] nn2 nm2 nn3 nm3 nn4 nm4 nn5 nm5 nn6 nm6 nn7 nm7 nn8 nm8
attribute [local go_sem] nn2 nm2 nn3 nm3 nn4 nm4 nn5 nm5 nn6 nm6 nn7 nm7 nn8 nm8
attribute [local go_sem] ofInt_N ofInt_pow8
attribute [local go_sem] Oper.semAt_some make_func1
attribute [local go_sem] pen_g0 pen_g1 pen_g2 pen_g3 pen_g4 pen_g5 pen_g6 pen_g7 pen_g8 pen_g9 pen_g10 pen_g11 pen_g12 pen_g13 pen_g14 pen_g15 pen_g16 pen_g17 penC_size penC_one penC_all
attribute [local irreducible] penC
/-- The phases of the stores, in order. -/
def storesL (n : Nat) : List Int := if n = 1 then [6, 7, 8, 9, 10, 11, 12, 13] else if n = 2 then [6, 8, 13] else [6, 9, 10, 11, 12, 13]
theorem storesL_len (n : Nat) : (storesL n).length ≤ 8 := by
  unfold storesL
  split
  · decide
  · split <;> decide
abbrev rows4 (a b c : Nat) : Array Value := #[.slice none 0 0, .slice (some ⟨a, 0, none⟩) 8 8, .slice (some ⟨b, 0, none⟩) 3 3, .slice (some ⟨c, 0, none⟩) 6 6]
theorem rows4_one (a b c : Nat) : allOne (rows4 a b c) = true := by unfold allOne rows4; simp [Value.oneCell']
theorem brow4 (ps : Array (Nat × Value)) : Instr.build 268 ps = buildRow 268 ps := rfl
theorem build4 (a b c : Nat) (w : World) : (buildRow 268 #[(1, .slice (some ⟨a, 0, none⟩) 8 8), (2, .slice (some ⟨b, 0, none⟩) 3 3), (3, .slice (some ⟨c, 0, none⟩) 6 6)]).run Tryz.prog w = .ok (.agg (rows4 a b c)) w := by kernel_rfl
abbrev rows40 : Array Value := #[.slice none 0 0, .slice none 0 0, .slice none 0 0, .slice none 0 0]
theorem zero4_run (w : World) : (zeroValue 268).run Tryz.prog w = .ok (.agg rows40) w := by kernel_rfl
theorem store4 (g o : Nat) (vs : Array Value) (w : World) : (storeRow 268 ⟨g, o, none⟩ (.agg vs)).run Tryz.prog w = layRes Tryz.prog 268 g o vs w (((w.heap[g]?).map (canLay o 4 vs)).getD false) :=
  run_lay (by kernel_rfl) g o vs w
theorem srow4 (a : Addr) (v : Value) : storeVar 268 a v = storeRow 268 a v := rfl
theorem laidAt_4 (a b c : Nat) (T : TypeId) (fr : Nat × Nat) : laidAt 0 (rows4 a b c) (.cells rows40 T fr) = .cells (rows4 a b c) T fr := by
  rw [laidAt_cells, laid_whole _ _ (by rfl)]
attribute [local go_sem] build4 store4 rows4_one
attribute [local go_sem ↓] brow4 zero4_run srow4
attribute [local go_sem high] laidAt_4
/-- The iterator's cells. -/
structure StAt (w : World) (r b g : Nat) : Prop where
  box : w.heap[b]? = some (.cells #[.pointer (some ⟨g, 0, none⟩)] 168 (0, 0))
  rows : ∃ x y z, w.heap[r]? = some (.cells (rows4 x y z) 268 (0, 0)) ∧ w.heap[x]? = some (.cells (intsC (storesL 1)) 3 (0, 0)) ∧ w.heap[y]? = some (.cells (intsC (storesL 2)) 3 (0, 0)) ∧ w.heap[z]? = some (.cells (intsC (storesL 3)) 3 (0, 0))
/-- The answer of stores. -/
def StPost (w : World) (g : Nat) (e : Ending) (w' : World) : Prop := ∃ r b, e = .returned (.func (.func 253) #[] #[.pointer (some ⟨r, 0, none⟩), .pointer (some ⟨b, 0, none⟩)]) ∧ StAt w' r b g ∧ Ch [] w w'
set_option maxHeartbeats 1000000 in
set_option maxRecDepth 100000 in
theorem stores_any (g : Nat) (w : World) : Calls Tryz.prog 219 #[.pointer (some ⟨g, 0, none⟩)] w (StPost w g) := by
  go_enter Tryz.func219, Tryz.ntmps219
  go_wp2
  go_ret
  have e1 : intsC (storesL 1) = #[.int .i64 6, .int .i64 7, .int .i64 8, .int .i64 9, .int .i64 10, .int .i64 11, .int .i64 12, .int .i64 13] := rfl
  have e2 : intsC (storesL 2) = #[.int .i64 6, .int .i64 8, .int .i64 13] := rfl
  have e3 : intsC (storesL 3) = #[.int .i64 6, .int .i64 9, .int .i64 10, .int .i64 11, .int .i64 12, .int .i64 13] := rfl
  refine ⟨w.heap.size + 1 + 1 + 1 + 1, w.heap.size, rfl, ⟨?_, w.heap.size + 1, w.heap.size + 1 + 1, w.heap.size + 1 + 1 + 1, ?_, ?_, ?_, ?_⟩, ?_⟩
  · simp [go_sem]
  · simp [go_sem]
  · rw [e1]; simp [go_sem]
  · rw [e2]; simp [go_sem]
  · rw [e3]; simp [go_sem]
  · exact ((((((Ch.refl [] w).alloc _).alloc _).alloc _).alloc _).alloc _).onObj (p := w.heap.size + 1 + 1 + 1 + 1) (.inr (by omega)) _
theorem split_at {α : Type} {l : List α} {j : Nat} {x : α} (h : l[j]? = some x) : l = l.take j ++ x :: l.drop (j + 1) := by
  obtain ⟨hlt, hx⟩ := List.getElem?_eq_some_iff.1 h
  rw [← hx, ← List.drop_eq_getElem_cons hlt, List.take_append_drop]
theorem enters_stores (args : Array Value) (w : World) : (callFunc 253 args).run Tryz.prog w = .ok (.enter 253 args) w := by kernel_rfl
set_option maxHeartbeats 1000000 in
set_option maxRecDepth 100000 in
theorem stores_yields (p : PenT) (xs : List Int) (r b g q n : Nat) (rc : Array Value) (w : World) (hxl : xs.length ≤ 8) (hwn : wantsP p = n) (hn4 : n < 4)
    (hb : w.heap[b]? = some (.cells #[.pointer (some ⟨g, 0, none⟩)] 168 (0, 0))) (hg : w.heap[g]? = some (.cells (penC p) 170 (0, 0)))
    (hr : w.heap[r]? = some (.cells rc 268 (0, 0))) (hrow : rc[n]? = some (.slice (some ⟨q, 0, none⟩) xs.length xs.length)) (hq : w.heap[q]? = some (.cells (intsC xs) 3 (0, 0))) :
    Yields Tryz.prog 253 #[.pointer (some ⟨r, 0, none⟩), .pointer (some ⟨b, 0, none⟩)] (fun x : Int => #[I x]) xs [] [r, b, g, q] w := by
  intro nn l J Jx W hW hk hJ hJx hY h0
  have hb' := (hk b (by simp)).trans hb
  have hg' := (hk g (by simp)).trans hg
  have hr' := (hk r (by simp)).trans hr
  have hq' := (hk q (by simp)).trans hq
  have W1 := fun w hg => wants_any p g w hg
  rw [hwn] at W1
  have HG := Lib.hid (intsC_get xs)
  have hn4' : (n : Int) < 4 := by omega
  clear hb hg hr hq hk hwn hn4
  generalize intsC xs = cur at *
  refine callsIn_of_wp Tryz.func253 rfl trivial ?_
  simp only [Tryz.ntmps253, List.size_toArray, List.length_cons, List.length_nil, Nat.reduceAdd, Nat.reduceSub, Array.replicate_succ, Array.replicate_zero, List.push_toArray, List.append_toArray, List.nil_append, List.cons_append]
  gi_wp2_with fail
  refine ⟨trivial, ?_⟩
  gi_at_call 115
  refine (callsIn_wide.2 (W1 _ hg')).mono ?_
  rintro e W2 ⟨rfl, hc2⟩
  have b2 := hkeep hc2 hb'
  have g2 := hkeep hc2 hg'
  have r2 := hkeep hc2 hr'
  have q2 := hkeep hc2 hq'
  have j2 := hJ _ _ _ h0 hc2
  clear hb' hg' hr' hq' W1 hc2 h0
  gi_wp2
  gi_loopw [11] (fun i wr => ∃ j : Nat, i = .int .i64 j ∧ j ≤ xs.length ∧ J (xs.take j) wr ∧ wr.heap[q]? = some (.cells cur 3 (0, 0))) (fun i _ => xs.length - (intOf i).toNat)
  case atStart => exact ⟨0, rfl, Nat.zero_le _, j2, q2⟩
  case round =>
    obtain ⟨j, rfl, hjl, hj, hqr⟩ := hrel
    rcases Nat.lt_or_ge j xs.length with hlt | hge
    · obtain ⟨x, hx⟩ : ∃ x, xs[j]? = some x := ⟨xs[j]'hlt, List.getElem?_eq_getElem hlt⟩
      have hcx := HG.out j x hx
      have hdec : decide (j < xs.length) = true := by simpa using hlt
      obtain ⟨fn, tmps, assign, body, hy, hR⟩ := hY (xs.take j) x (xs.drop (j + 1)) wr (split_at hx) hj
      have hy : Sem.run Tryz.prog (Instr.yield l #[I x]) wr = .ok (.round l fn tmps assign body) wr := hy
      have HT : Hid (xs.take (j + 1) = xs.take j ++ [x]) := Lib.hid (by rw [List.take_add_one, hx]; rfl)
      clear hx
      gi_wp2
      refine hR.mono ?_
      rintro e W3 (⟨rfl, hJ3, hz3, hk3⟩ | ⟨rfl, hJx3⟩)
      · have hq3 := (hk3 q (by simp)).trans hqr
        clear hk3 hy hqr hz3
        gi_wp2
        go_roundw
        case rel => exact ⟨j + 1, by go_num, hlt, by rw [HT.out]; exact hJ3, hq3⟩
        case measure => simp [intOf]; omega
      · gi_wp2
        refine bodyPost_ret (results_none rfl _ _ _) rfl ?_
        exact ⟨⟨_, rfl⟩, .inr hJx3⟩
    · have hme : j = xs.length := Nat.le_antisymm hjl hge
      have hdec : decide (j < xs.length) = false := by simpa using hge
      have HJ : Hid (J xs wr) := Lib.hid (by rw [hme, List.take_length] at hj; exact hj)
      clear hme hge hj
      gi_wp2
      refine bodyPost_end (results_none rfl _ _ _) rfl ?_
      exact ⟨⟨_, rfl⟩, .inl HJ.out⟩
end Go.Proofs.Hc
