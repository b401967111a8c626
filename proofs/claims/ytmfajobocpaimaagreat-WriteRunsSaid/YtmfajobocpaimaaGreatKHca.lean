/- Accesses as values: their cells. -/
import Derived.Test.YtmfajobocpaimaaGreatKHxe
import Derived.Test.YtmfajobocpaimaaGreatKHq
import Derived.Test.YtmfajobocpaimaaGreatKHr
import Derived.Test.YtmfajobocpaimaaGreatKHdh
import Derived.Test.YtmfajobocpaimaaGreatKHop2
import Derived.Below
import Derived.BigQuiet
import Derived.Deep.Draws
import Derived.Deep.Light
import Derived.Deep.QuietTactic
import Derived.Deep.RegionHeld
import Derived.Laws.CopyRow
import Derived.Laws.Tables
import Derived.Lib.AppendZerosOnto
import Derived.Lib.Hide
import Derived.Lib.Tables
import Derived.Lib.Walk
import Derived.LoopIn
import Derived.LoopN
import Derived.LoopNIn
import Derived.Maps.AppendAt
import Derived.Maps.Views
import Derived.OwnWalkIn
import Derived.RangeFuncBox
import Derived.RangeFuncCalls
import Derived.RangeFuncRecord
import Derived.RangeFuncSeq
import Derived.Recover
import Derived.RegionTactic
import Derived.Shelf.Slices.Clone
import Derived.StillTail
import Derived.StillTailTactics
import Derived.TacticsInMore
import Derived.Test.YtmfajobocpaimaaGreatProg
import Derived.WalkKit
import Derived.WalkLawsBesides
import Derived.WalkMore
import Derived.WalkSpells
import Derived.Deep.OwnRows
import Derived.Laws.CopyOwn
set_option linter.unusedSimpArgs false
set_option linter.unusedVariables false
namespace Go.Proofs.Hc
open Go.RowKit
/-- An access: who, which kind, where, what. -/
def accC (a b c d : Int) : Array Value := #[I a, I b, I c, .int .u64 0, .int .u64 d]
theorem accC_size (a b c d : Int) : (accC a b c d).size = 5 := rfl
theorem accC_one (a b c d : Int) : allOne (accC a b c d) = true := by unfold allOne accC; simp [Value.oneCell']
theorem accC_all (a b c d : Int) : (accC a b c d).extract 0 5 = accC a b c d := by have := Array.extract_size (xs := accC a b c d); rwa [accC_size] at this
theorem acc_g0 (a b c d : Int) : (accC a b c d)[0]? = some (I a) := rfl
theorem acc_g1 (a b c d : Int) : (accC a b c d)[1]? = some (I b) := rfl
theorem acc_g2 (a b c d : Int) : (accC a b c d)[2]? = some (I c) := rfl
theorem acc_g4 (a b c d : Int) : (accC a b c d)[4]? = some (.int .u64 d) := rfl
theorem acc_s0 (a b c d x : Int) : (accC a b c d).setIfInBounds 0 (I x) = accC x b c d := rfl
theorem acc_s1 (a b c d x : Int) : (accC a b c d).setIfInBounds 1 (I x) = accC a x c d := rfl
theorem acc_s2 (a b c d x : Int) : (accC a b c d).setIfInBounds 2 (I x) = accC a b x d := rfl
theorem acc_s4 (a b c d x : Int) : (accC a b c d).setIfInBounds 4 (.int .u64 x) = accC a b c x := rfl
theorem loadAcc (g o : Nat) (w : World) : (loadRow 96 ⟨g, o, none⟩).run Tryz.prog w = rowRes Tryz.prog 96 g o w ((w.heap[g]?).bind (rowAt o 5)) :=
  run_row Tryz.underlying96 rfl (by kernel_rfl) g o w
theorem storeAcc (g o : Nat) (vs : Array Value) (w : World) : (storeRow 96 ⟨g, o, none⟩ (.agg vs)).run Tryz.prog w = layRes Tryz.prog 96 g o vs w (((w.heap[g]?).map (canLay o 5 vs)).getD false) :=
  run_lay (by kernel_rfl) g o vs w
theorem lrowAcc (a : Addr) : loadVar 96 a = loadRow 96 a := rfl
theorem srowAcc (a : Addr) (v : Value) : storeVar 96 a v = storeRow 96 a v := rfl
theorem browAcc (ps : Array (Nat × Value)) : Instr.build 96 ps = buildRow 96 ps := rfl
theorem zeroAcc_run (w : World) : (zeroValue 96).run Tryz.prog w = .ok (.agg (accC 0 0 0 0)) w := by kernel_rfl
theorem bacc0 (w : World) : (buildRow 96 #[]).run Tryz.prog w = .ok (.agg (accC 0 0 0 0)) w := by kernel_rfl
theorem bacc2 (b c : Int) (w : World) : (buildRow 96 #[(1, I b), (2, I c)]).run Tryz.prog w = .ok (.agg (accC 0 b c 0)) w := by kernel_rfl
theorem bacc3 (a b c : Int) (w : World) : (buildRow 96 #[(0, I a), (1, I b), (2, I c)]).run Tryz.prog w = .ok (.agg (accC a b c 0)) w := by kernel_rfl
theorem bacc3u (b c d : Int) (w : World) : (buildRow 96 #[(1, I b), (2, I c), (4, .int .u64 d)]).run Tryz.prog w = .ok (.agg (accC 0 b c d)) w := by kernel_rfl
theorem bacc4 (a b c d : Int) (w : World) : (buildRow 96 #[(0, I a), (1, I b), (2, I c), (4, .int .u64 d)]).run Tryz.prog w = .ok (.agg (accC a b c d)) w := by kernel_rfl
theorem laidAt_acc (a b c d a' b' c' d' : Int) (T : TypeId) (fr : Nat × Nat) : laidAt 0 (accC a b c d) (.cells (accC a' b' c' d') T fr) = .cells (accC a b c d) T fr := by
  rw [laidAt_cells, laid_whole _ _ (by rw [accC_size, accC_size])]
/-- The answer of Need. -/
def needV (who : Int) : Option AccT → Value
  | none => .tuple #[.agg (accC 0 0 0 0), .bool false]
  | some x => .tuple #[.agg (accC who x.kind x.at_ (N x.new)), .bool true]
theorem need_results {fn : Func} {p q : Tmp} (h : fn.results = #[.cell p 96, .tmp q]) (tmps : Array Value) (b : Nat) (w : World) (x y z u : Int) (v : Value) (hp : tmps.getD p undef = .pointer (some ⟨b, 0, none⟩)) (hq : tmps.getD q undef = v)
    (hb : w.heap[b]? = some (.cells (accC x y z u) 96 (0, 0))) : (results fn tmps).run Tryz.prog w = .ok (.tuple #[.agg (accC x y z u), v]) w := by
  have hl := run_loadVar_row (P := Tryz.prog) w b 96 96 (accC x y z u) (0, 0) _ hb Tryz.underlying96 rfl (by rw [accC_size]; kernel_rfl)
  have hp' : tmps[p]?.getD undef = .pointer (some ⟨b, 0, none⟩) := by simpa using hp
  have hq' : tmps[q]?.getD undef = v := by simpa using hq
  simp [results, h, hp', hq', asAddr, hl]
theorem acc_result {fn : Func} {p : Tmp} (h : fn.results = #[.cell p 96]) (tmps : Array Value) (b : Nat) (w : World) (x y z u : Int) (hp : tmps.getD p undef = .pointer (some ⟨b, 0, none⟩))
    (hb : w.heap[b]? = some (.cells (accC x y z u) 96 (0, 0))) : (results fn tmps).run Tryz.prog w = .ok (.agg (accC x y z u)) w := by
  have hl := run_loadVar_row (P := Tryz.prog) w b 96 96 (accC x y z u) (0, 0) _ hb Tryz.underlying96 rfl (by rw [accC_size]; kernel_rfl)
  have hp' : tmps[p]?.getD undef = .pointer (some ⟨b, 0, none⟩) := by simpa using hp
  simp [results, h, hp', asAddr, hl]
end Go.Proofs.Hc
/- Package cells: own. -/
namespace Go.Proofs.Hc
open Go.RowKit
attribute [local go_sem] wrap_u64 wrap_u8 bits_xor64 bits_and64 bits_or64 bits_not64 bits_xor8 bits_and8 bits_or8 signed64 signed8 ofInt_N BitVec.ofInt_add BitVec.ofInt_mul ofInt_sub' ofInt8_N64 ofInt64_N8 wide8 eqN neN shr_pow shr1 shr7 shr56
attribute [local go_sem high] bits_com64 shl_wrap
attribute [local go_sem] cell_heap ice_heap cellAt_cells iceAt_cells setAt_cells rowAt_cells canLay_cells laidAt_cells size_onObj size_setCell rowRes_some layRes_true
attribute [local go_sem] load26 load73 load23 store26 build73
attribute [local go_sem ↓] lrow26 lrow73 lrow23 srow26 zero26 brow73 heap_alloc heap_drew heap_drewN heap_setCell heap_onObj
attribute [local go_sem] tcells_size hcells_size tcells_get hcells_get tcells_one hcells_one hcells_table tcells_table hcells_all hcells_ctrl tcells_ctrl
attribute [local go_sem] nn2 nm2 nn3 nm3 nn4 nm4 nn5 nm5 nn6 nm6 nn7 nm7 nn8 nm8
attribute [local go_sem] nn2 nm2 nn3 nm3 nn4 nm4 nn5 nm5 nn6 nm6 nn7 nm7 nn8 nm8
attribute [local go_sem] acc_g0 acc_g1 acc_g2 acc_g4 acc_s0 acc_s1 acc_s2 acc_s4 accC_size accC_one accC_all loadAcc storeAcc bacc0 bacc2 bacc3 bacc3u bacc4
attribute [local go_sem ↓] lrowAcc srowAcc browAcc zeroAcc_run
attribute [local go_sem high] laidAt_acc
attribute [local irreducible] accC
theorem words_one (l : List (BitVec 64)) : ∀ v ∈ l.map (fun x => U x), v.oneCell' = true := by
  intro v hv
  obtain ⟨x, _, rfl⟩ := List.mem_map.1 hv
  rfl
set_option maxHeartbeats 1000000 in
set_option maxRecDepth 100000 in
theorem cOwn_any (l : List (BitVec 64)) (g c : Nat) (cur : Array Value) (w : World) (hl : l.length ≤ 9000) (hb : w.heap[g]? = some (.cells cur 22 (0, 0))) (hw : WordsAt cur l) :
    Calls Tryz.prog 154 #[.slice (some ⟨g, 0, none⟩) l.length c] w fun e w' => e = .returned (.slice (some ⟨w.heap.size, 0, none⟩) l.length l.length) ∧ w'.heap[w.heap.size]? = some (.cells (wcells l) 22 (0, 0)) ∧ Ch [] w w' := by
  have hm := fun w => run_make_row' (P := Tryz.prog) 53 22 (.int .u64 0) 8 Tryz.underlying53 infoU rfl .i64 .i64 l.length (by omega) (by omega) w
  have hgn : ¬ g = w.heap.size := by have := (Array.getElem?_eq_some_iff.1 hb).1; omega
  have hn : (w.alloc (.cells (madeCells #[.int .u64 0] l.length) 22)).heap[w.heap.size]? = some (.cells (madeCells #[.int .u64 0] l.length) 22 (0, 0)) := by rw [heap_alloc, if_pos rfl]
  have hlen : (l.map fun x => U x).length = l.length := List.length_map ..
  have hcp := run_copy_row (P := Tryz.prog) (w.alloc (.cells (madeCells #[.int .u64 0] l.length) 22)) 53 53 3 22 w.heap.size 0 l.length l.length ⟨g, 0, none⟩ l.length c (madeCells #[.int .u64 0] l.length) 22 (l.map fun x => U x) Tryz.underlying53 (by kernel_rfl) hn (by rw [hlen]; exact (Nat.min_self _).symm) (by
    intro j v hj
    rw [List.getElem?_map] at hj
    obtain ⟨x, hx, rfl⟩ := Option.map_eq_some_iff.1 hj
    rw [Addr.add_lit, cell_heap, heap_alloc, if_neg hgn, hb, Option.bind_some, cellAt_cells, Nat.zero_add]
    exact hw j x hx) (by rw [hlen, size_madeCells]; omega) (words_one l)
  have hrow : ((madeCells #[.int .u64 0] l.length).toList.take 0 ++ (l.map fun x => U x) ++ (madeCells #[.int .u64 0] l.length).toList.drop (0 + (l.map fun x => U x).length)).toArray = wcells l := by
    rw [List.take_zero, List.nil_append, List.drop_eq_nil_of_le (by rw [hlen, Array.length_toList, size_madeCells]; omega), List.append_nil]; rfl
  rw [hrow, hlen] at hcp
  have hh := setRow_heap (w.alloc (.cells (madeCells #[.int .u64 0] l.length) 22)) w.heap.size _ (wcells l) 22 (0, 0) hn
  have hC : Ch [] w ((w.alloc (.cells (madeCells #[.int .u64 0] l.length) 22)).setRow w.heap.size (wcells l)) := by
    refine ((Ch.refl [] w).alloc (.cells (madeCells #[.int .u64 0] l.length) 22)).trans2 (T := [w.heap.size]) ⟨rfl, rfl, rfl, by simp [World.setRow], fun k _ hk => setRow_other _ _ _ _ (by simpa using hk)⟩ (by simp)
  generalize (w.alloc (.cells (madeCells #[.int .u64 0] l.length) 22)).setRow w.heap.size (wcells l) = W2 at *
  clear hrow hn hb hw hgn
  go_enter Tryz.func154, Tryz.ntmps154
  go_wp2
  go_ret
  exact ⟨rfl, hh, hC⟩
set_option maxHeartbeats 1000000 in
set_option maxRecDepth 100000 in
theorem cRun_none (a : Option Addr) (c : Nat) (w : World) : Calls Tryz.prog 103 #[.slice a 0 c, .slice none 0 0] w fun e w' => e = .returned (.tuple #[.slice none 0 0, .slice none 0 0, .slice none 0 0, I 120]) ∧ w = w' := by
  go_enter Tryz.func103, Tryz.ntmps103
  go_wp2
  refine bodyPost_ret (v := .tuple #[.slice none 0 0, .slice none 0 0, .slice none 0 0, I 120]) (by simp [results, Tryz.results103, go_sem]) rfl ⟨rfl, rfl⟩
set_option maxHeartbeats 1000000 in
set_option maxRecDepth 100000 in
theorem cRun_some (l : List (BitVec 64)) (g c : Nat) (cur : Array Value) (w : World) (h1 : 1 ≤ l.length) (hl : l.length ≤ 8192) (hb : w.heap[g]? = some (.cells cur 22 (0, 0))) (hw : WordsAt cur l) :
    Calls Tryz.prog 103 #[.slice (some ⟨g, 0, none⟩) l.length c, .slice none 0 0] w fun e w' => e = .returned (.tuple #[.slice (some ⟨w.heap.size, 0, none⟩) l.length l.length, .slice none 0 0, .slice none 0 0, I 0]) ∧ w'.heap[w.heap.size]? = some (.cells (wcells l) 22 (0, 0)) ∧ Ch [] w w' := by
  have O1 := cOwn_any l g c cur w (by omega) hb hw
  generalize wcells l = cu at *
  obtain ⟨n, hn⟩ : ∃ n, l.length = n := ⟨_, rfl⟩
  rw [hn] at O1 h1 hl ⊢
  have h1' : (1 : Int) ≤ (n : Int) := by omega
  have hl' : (n : Int) ≤ 8192 := by omega
  clear hb hw hn
  go_enter Tryz.func103, Tryz.ntmps103
  go_wp2_with fail
  refine O1.mono ?_
  rintro e w1 ⟨rfl, hh, hC⟩
  go_wp2
  refine wp_loop_rounds 1 ?_
  rw [rounds_succ]
  go_wp2
  refine bodyPost_ret (v := .tuple #[.slice (some ⟨w.heap.size, 0, none⟩) n n, .slice none 0 0, .slice none 0 0, I 0]) (by simp [results, Tryz.results103, go_sem]) rfl ⟨rfl, hh, hC⟩
end Go.Proofs.Hc
