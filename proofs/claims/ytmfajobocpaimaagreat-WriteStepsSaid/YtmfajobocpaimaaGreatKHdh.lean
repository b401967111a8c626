/- All lanes of a mask, as a list. -/
import Derived.Test.YtmfajobocpaimaaGreatKHm
import Derived.Test.YtmfajobocpaimaaGreatKHxg
import Derived.Test.YtmfajobocpaimaaGreatKHnac
import Derived.Test.YtmfajobocpaimaaGreatKHq
import Derived.Test.YtmfajobocpaimaaGreatKHop2
import Derived.Test.YtmfajobocpaimaaGreatKHye
import Derived.Below
import Derived.BigQuiet
import Derived.Deep.Draws
import Derived.Deep.QuietTactic
import Derived.Laws.CopyRow
import Derived.Laws.Tables
import Derived.Lib.Hide
import Derived.Lib.Tables
import Derived.LoopIn
import Derived.LoopNIn
import Derived.Maps.AppendAt
import Derived.OwnWalkIn
import Derived.RangeFuncBox
import Derived.RangeFuncCalls
import Derived.RangeFuncRecord
import Derived.RangeFuncSeq
import Derived.TacticsInMore
import Derived.Test.YtmfajobocpaimaaGreatProg
import Derived.WalkKit
import Derived.WalkSpells
import Derived.Lib.AppendZerosOnto
import Derived.Lib.Walk
import Derived.LoopN
import Derived.Recover
import Derived.RegionTactic
import Derived.Shelf.Slices.Clone
import Derived.StillTail
import Derived.WalkLawsBesides
import Derived.WalkMore
import Derived.Deep.Light
import Derived.Deep.RegionHeld
import Derived.Maps.Views
import Derived.StillTailTactics
import Derived.Deep.OwnRows
import Derived.Laws.CopyOwn
import Derived.Laws.StructEq
set_option linter.unusedSimpArgs false
set_option linter.unusedVariables false
namespace Go.Proofs.Hc
open Go.RowKit
attribute [local go_sem] wrap_u64 wrap_u8 bits_xor64 bits_and64 bits_or64 bits_not64 bits_xor8 bits_and8 bits_or8 signed64 signed8 ofInt_N BitVec.ofInt_add BitVec.ofInt_mul ofInt_sub' ofInt8_N64 ofInt64_N8 wide8 eqN neN shr_pow shr1 shr7 shr56
attribute [local go_sem high] bits_com64 shl_wrap
attribute [local go_sem] Oper.semAt_some make_func1
attribute [local go_sem] cell_heap ice_heap cellAt_cells iceAt_cells setAt_cells size_setCell
attribute [local go_sem ↓] heap_alloc heap_drew heap_drewN heap_setCell
theorem infoInt : (Tryz.prog.info? 3).map (fun i => (i.zero, i.size, i.bytes)) = some (some (I 0), 1, 8) := by kernel_rfl
end Go.Proofs.Hc
/- Rows of words that are joined and filled up: slices.Grow, slices.Concat, layout.padded. -/
namespace Go.Proofs.Hc
open Go.RowKit
attribute [local go_sem] wrap_u64 wrap_u8 bits_xor64 bits_and64 bits_or64 bits_not64 bits_xor8 bits_and8 bits_or8 signed64 signed8 ofInt_N BitVec.ofInt_add BitVec.ofInt_mul ofInt_sub' ofInt8_N64 ofInt64_N8 wide8 eqN neN shr_pow shr1 shr7 shr56
attribute [local go_sem high] bits_com64 shl_wrap
attribute [local go_sem] nn2 nm2 nn3 nm3 nn4 nm4 nn5 nm5 nn6 nm6 nn7 nm7 nn8 nm8
attribute [local go_sem] Oper.semAt_some make_func1
attribute [local go_sem] cell_heap ice_heap cellAt_cells iceAt_cells setAt_cells size_setCell
attribute [local go_sem ↓] heap_alloc heap_drew heap_drewN heap_setCell
theorem infoU : (Tryz.prog.info? 22).map (fun i => (i.zero, i.size, i.bytes)) = some (some (U 0#64), 1, 8) := by kernel_rfl
/-- A row that lies in memory. -/
structure RowAt (w : World) (b o : Nat) (xs : List Value) : Prop where
  old : b < w.heap.size
  one : ∀ u ∈ xs, u.oneCell' = true
  cells : ∀ j u, xs[j]? = some u → w.cell? ⟨b, o + j, none⟩ = some u
theorem RowAt.ch {w w1 : World} {b o : Nat} {xs : List Value} (h : RowAt w b o xs) (c : Ch [] w w1) : RowAt w1 b o xs :=
  ⟨Nat.lt_of_lt_of_le h.old c.size, h.one, fun j u hj => (c.cell b (o + j) h.old).trans (h.cells j u hj)⟩
end Go.Proofs.Hc
/- The reference of layer 1: a lane's byte, a word's bytes, the word of bytes. -/
namespace Go.Proofs.Hc
open Go.RowKit
attribute [local go_sem] wrap_u64 wrap_u8 bits_xor64 bits_and64 bits_or64 bits_not64 bits_xor8 bits_and8 bits_or8 signed64 signed8 ofInt_N BitVec.ofInt_add BitVec.ofInt_mul ofInt_sub' ofInt8_N64 ofInt64_N8 wide8 eqN neN shr_pow shr1 shr7 shr56
attribute [local go_sem high] bits_com64 shl_wrap
attribute [local go_sem] shr8 ofInt_N
theorem ofInt8_mod (x : BitVec 64) : BitVec.ofInt 8 (N x % 256) = x.setWidth 8 := by
  unfold N
  apply BitVec.eq_of_toNat_eq
  rw [BitVec.toNat_ofInt, BitVec.toNat_setWidth]
  omega
theorem tdiv256 (x : BitVec 64) : (N x).tdiv 256 = N (x >>> 8) := by rw [Int.tdiv_eq_ediv_of_nonneg (N_nonneg x), shr8]
theorem tmod256 (x : BitVec 64) : (N x).tmod 256 = N x % 256 := by rw [Int.tmod_eq_emod_of_nonneg (N_nonneg x)]
attribute [local go_sem high] ofInt8_mod tdiv256 tmod256
set_option maxHeartbeats 400000 in
theorem rAt_any (x : BitVec 64) (n : Nat) (hn : n ≤ 64) (w : World) : Calls Tryz.prog 76 #[U x, I n] w fun e w' => e = .returned (Y (byteAt x n)) ∧ w = w' := by
  go_enter Tryz.func76, Tryz.ntmps76
  go_wp2
  go_loop [0, 6] (fun v i => ∃ j : Nat, j ≤ n ∧ i = .int .i64 j ∧ v = U (x >>> (8 * j))) (fun _ i => n - (intOf i).toNat)
  case atStart => exact ⟨0, Nat.zero_le _, rfl, by rw [Nat.mul_zero, BitVec.ushiftRight_zero]⟩
  case round =>
    obtain ⟨j, hj, rfl, rfl⟩ := hrel
    have h0 := N_nonneg (x >>> (8 * j))
    by_cases hlt : j < n
    · have hs : x >>> (8 * j) >>> 8 = x >>> (8 * (j + 1)) := by rw [← BitVec.shiftRight_add, Nat.mul_succ]
      have HS := Lib.hid hs
      clear hs
      go_wp2
      go_round
      case rel => exact ⟨j + 1, by omega, by go_num, by rw [HS.out]⟩
      case measure => simp [intOf]; omega
    · have hjn : j = n := by omega
      have HJ := Lib.hid hjn
      clear hjn
      go_wp2
      go_ret
      refine ⟨?_, rfl⟩
      rw [← HJ.out]; rfl
end Go.Proofs.Hc
/- Package table: the pairs of full slots. -/
namespace Go.Proofs.Hc
open Go.RowKit
attribute [local go_sem] wrap_u64 wrap_u8 bits_xor64 bits_and64 bits_or64 bits_not64 bits_xor8 bits_and8 bits_or8 signed64 signed8 ofInt_N BitVec.ofInt_add BitVec.ofInt_mul ofInt_sub' ofInt8_N64 ofInt64_N8 wide8 eqN neN shr_pow shr1 shr7 shr56
attribute [local go_sem high] bits_com64 shl_wrap
attribute [local go_sem] cell_heap ice_heap cellAt_cells iceAt_cells setAt_cells rowAt_cells canLay_cells laidAt_cells size_onObj size_setCell rowRes_some layRes_true
attribute [local go_sem] load26 load73 load23 store26 build73
attribute [local go_sem ↓] lrow26 lrow73 lrow23 srow26 zero26 brow73 heap_alloc heap_drew heap_drewN heap_setCell heap_onObj
attribute [local go_sem] tcells_size hcells_size tcells_get hcells_get tcells_one hcells_one hcells_table tcells_table hcells_all hcells_ctrl tcells_ctrl
attribute [local go_sem] nn2 nm2 nn3 nm3 nn4 nm4 nn5 nm5 nn6 nm6 nn7 nm7 nn8 nm8
attribute [local go_sem] nn2 nm2 nn3 nm3 nn4 nm4 nn5 nm5 nn6 nm6 nn7 nm7 nn8 nm8
attribute [local go_sem] Oper.semAt_some make_func1
attribute [local go_sem] box26 tcells_idx cell0 cell1 cell2 cell3 cell4 hcells_idx hcells_pop
attribute [local go_sem] cell5 cell6
/-- What full slots have. -/
def pairsT (t : Tab) : List (BitVec 64 × BitVec 64) := (slotsT t).map fun x => (t.k x.1, t.v x.1)
/-- The cells of a row of pairs. -/
def pcells (l : List (BitVec 64 × BitVec 64)) : List Value := l.flatMap fun p => [U p.1, U p.2]
theorem pcells_len (l : List (BitVec 64 × BitVec 64)) : (pcells l).length = l.length * 2 := by
  induction l with
  | nil => rfl
  | cons p l ih => simp only [pcells, List.flatMap_cons] at *; simp [ih]; omega
theorem build_pair (x y : BitVec 64) (w : World) : (Instr.build 31 #[(0, U x), (1, U y)]).run Tryz.prog w = .ok (.agg #[U x, U y]) w := by kernel_rfl
theorem build_slice1 (x y : BitVec 64) (w : World) : (Instr.buildSlice 27 1 #[(0, .agg #[U x, U y])]).run Tryz.prog w = .ok (.slice (some ⟨w.heap.size, 0, none⟩) 1 1) (w.alloc (.cells #[U x, U y] 31)) := by kernel_rfl
attribute [local go_sem] build_pair build_slice1
end Go.Proofs.Hc
/- Rows of words. -/
namespace Go.Proofs.Hc
open Go.RowKit
/-- A row's cells. -/
def wcells (l : List (BitVec 64)) : Array Value := (l.map fun x => U x).toArray
/-- The words lie in a row. -/
def WordsAt (cur : Array Value) (l : List (BitVec 64)) : Prop := ∀ (j : Nat) (x : BitVec 64), l[j]? = some x → cur[j]? = some (U x)
theorem wcells_at (l : List (BitVec 64)) : WordsAt (wcells l) l := by
  intro j x h
  unfold wcells; simp [h]
theorem wcells_size (l : List (BitVec 64)) : (wcells l).size = l.length := by unfold wcells; simp
theorem wcells_list (l : List (BitVec 64)) : (wcells l).toList = l.map fun x => U x := by unfold wcells; simp
theorem wcells_set (l : List (BitVec 64)) (j : Nat) (x : BitVec 64) : (wcells l).setIfInBounds j (U x) = wcells (l.set j x) := by
  unfold wcells
  simp [List.setIfInBounds_toArray, List.map_set]
end Go.Proofs.Hc
/- Package cells: own. -/
namespace Go.Proofs.Hc
open Go.RowKit
attribute [local go_sem] wrap_u64 wrap_u8 bits_xor64 bits_and64 bits_or64 bits_not64 bits_xor8 bits_and8 bits_or8 signed64 signed8 ofInt_N BitVec.ofInt_add BitVec.ofInt_mul ofInt_sub' ofInt8_N64 ofInt64_N8 wide8 eqN neN shr_pow shr1 shr7 shr56
attribute [local go_sem high] bits_com64 shl_wrap
attribute [local go_sem] cell_heap ice_heap cellAt_cells iceAt_cells setAt_cells rowAt_cells canLay_cells laidAt_cells size_onObj size_setCell rowRes_some layRes_true
attribute [local go_sem] load26 load73 load23 store26 build73
attribute [local go_sem ↓] lrow26 lrow73 lrow23 srow26 zero26 brow73 heap_alloc heap_drew heap_drewN heap_setCell heap_onObj
attribute [local go_sem] tcells_size hcells_size tcells_get hcells_get tcells_one hcells_one hcells_table tcells_table hcells_all hcells_ctrl tcells_ctrl
attribute [local go_sem] nn2 nm2 nn3 nm3 nn4 nm4 nn5 nm5 nn6 nm6 nn7 nm7 nn8 nm8
attribute [local go_sem] nn2 nm2 nn3 nm3 nn4 nm4 nn5 nm5 nn6 nm6 nn7 nm7 nn8 nm8
attribute [local go_sem] acc_g0 acc_g1 acc_g2 acc_g4 acc_s0 acc_s1 acc_s2 acc_s4 accC_size accC_one accC_all loadAcc storeAcc bacc0 bacc2 bacc3 bacc3u bacc4
attribute [local go_sem ↓] lrowAcc srowAcc browAcc zeroAcc_run
attribute [local go_sem high] laidAt_acc
attribute [local irreducible] accC
theorem words_one (l : List (BitVec 64)) : ∀ v ∈ l.map (fun x => U x), v.oneCell' = true := by
  intro v hv
  obtain ⟨x, _, rfl⟩ := List.mem_map.1 hv
  rfl
set_option maxHeartbeats 1000000 in
set_option maxRecDepth 100000 in
theorem cOwn_any (l : List (BitVec 64)) (g c : Nat) (cur : Array Value) (w : World) (hl : l.length ≤ 9000) (hb : w.heap[g]? = some (.cells cur 22 (0, 0))) (hw : WordsAt cur l) :
    Calls Tryz.prog 154 #[.slice (some ⟨g, 0, none⟩) l.length c] w fun e w' => e = .returned (.slice (some ⟨w.heap.size, 0, none⟩) l.length l.length) ∧ w'.heap[w.heap.size]? = some (.cells (wcells l) 22 (0, 0)) ∧ Ch [] w w' := by
  have hm := fun w => run_make_row' (P := Tryz.prog) 53 22 (.int .u64 0) 8 Tryz.underlying53 infoU rfl .i64 .i64 l.length (by omega) (by omega) w
  have hgn : ¬ g = w.heap.size := by have := (Array.getElem?_eq_some_iff.1 hb).1; omega
  have hn : (w.alloc (.cells (madeCells #[.int .u64 0] l.length) 22)).heap[w.heap.size]? = some (.cells (madeCells #[.int .u64 0] l.length) 22 (0, 0)) := by rw [heap_alloc, if_pos rfl]
  have hlen : (l.map fun x => U x).length = l.length := List.length_map ..
  have hcp := run_copy_row (P := Tryz.prog) (w.alloc (.cells (madeCells #[.int .u64 0] l.length) 22)) 53 53 3 22 w.heap.size 0 l.length l.length ⟨g, 0, none⟩ l.length c (madeCells #[.int .u64 0] l.length) 22 (l.map fun x => U x) Tryz.underlying53 (by kernel_rfl) hn (by rw [hlen]; exact (Nat.min_self _).symm) (by
    intro j v hj
    rw [List.getElem?_map] at hj
    obtain ⟨x, hx, rfl⟩ := Option.map_eq_some_iff.1 hj
    rw [Addr.add_lit, cell_heap, heap_alloc, if_neg hgn, hb, Option.bind_some, cellAt_cells, Nat.zero_add]
    exact hw j x hx) (by rw [hlen, size_madeCells]; omega) (words_one l)
  have hrow : ((madeCells #[.int .u64 0] l.length).toList.take 0 ++ (l.map fun x => U x) ++ (madeCells #[.int .u64 0] l.length).toList.drop (0 + (l.map fun x => U x).length)).toArray = wcells l := by
    rw [List.take_zero, List.nil_append, List.drop_eq_nil_of_le (by rw [hlen, Array.length_toList, size_madeCells]; omega), List.append_nil]; rfl
  rw [hrow, hlen] at hcp
  have hh := setRow_heap (w.alloc (.cells (madeCells #[.int .u64 0] l.length) 22)) w.heap.size _ (wcells l) 22 (0, 0) hn
  have hC : Ch [] w ((w.alloc (.cells (madeCells #[.int .u64 0] l.length) 22)).setRow w.heap.size (wcells l)) := by
    refine ((Ch.refl [] w).alloc (.cells (madeCells #[.int .u64 0] l.length) 22)).trans2 (T := [w.heap.size]) ⟨rfl, rfl, rfl, by simp [World.setRow], fun k _ hk => setRow_other _ _ _ _ (by simpa using hk)⟩ (by simp)
  generalize (w.alloc (.cells (madeCells #[.int .u64 0] l.length) 22)).setRow w.heap.size (wcells l) = W2 at *
  clear hrow hn hb hw hgn
  go_enter Tryz.func154, Tryz.ntmps154
  go_wp2
  go_ret
  exact ⟨rfl, hh, hC⟩
set_option maxHeartbeats 1000000 in
set_option maxRecDepth 100000 in
theorem cRun_none (a : Option Addr) (c : Nat) (w : World) : Calls Tryz.prog 103 #[.slice a 0 c, .slice none 0 0] w fun e w' => e = .returned (.tuple #[.slice none 0 0, .slice none 0 0, .slice none 0 0, I 120]) ∧ w = w' := by
  go_enter Tryz.func103, Tryz.ntmps103
  go_wp2
  refine bodyPost_ret (v := .tuple #[.slice none 0 0, .slice none 0 0, .slice none 0 0, I 120]) (by simp [results, Tryz.results103, go_sem]) rfl ⟨rfl, rfl⟩
set_option maxHeartbeats 1000000 in
set_option maxRecDepth 100000 in
theorem cRun_some (l : List (BitVec 64)) (g c : Nat) (cur : Array Value) (w : World) (h1 : 1 ≤ l.length) (hl : l.length ≤ 8192) (hb : w.heap[g]? = some (.cells cur 22 (0, 0))) (hw : WordsAt cur l) :
    Calls Tryz.prog 103 #[.slice (some ⟨g, 0, none⟩) l.length c, .slice none 0 0] w fun e w' => e = .returned (.tuple #[.slice (some ⟨w.heap.size, 0, none⟩) l.length l.length, .slice none 0 0, .slice none 0 0, I 0]) ∧ w'.heap[w.heap.size]? = some (.cells (wcells l) 22 (0, 0)) ∧ Ch [] w w' := by
  have O1 := cOwn_any l g c cur w (by omega) hb hw
  generalize wcells l = cu at *
  obtain ⟨n, hn⟩ : ∃ n, l.length = n := ⟨_, rfl⟩
  rw [hn] at O1 h1 hl ⊢
  have h1' : (1 : Int) ≤ (n : Int) := by omega
  have hl' : (n : Int) ≤ 8192 := by omega
  clear hb hw hn
  go_enter Tryz.func103, Tryz.ntmps103
  go_wp2_with fail
  refine O1.mono ?_
  rintro e w1 ⟨rfl, hh, hC⟩
  go_wp2
  refine wp_loop_rounds 1 ?_
  rw [rounds_succ]
  go_wp2
  refine bodyPost_ret (v := .tuple #[.slice (some ⟨w.heap.size, 0, none⟩) n n, .slice none 0 0, .slice none 0 0, I 0]) (by simp [results, Tryz.results103, go_sem]) rfl ⟨rfl, hh, hC⟩
end Go.Proofs.Hc
/- The reference of layer 17: row. -/
namespace Go.Proofs.Hc
open Go.RowKit
attribute [local go_sem] wrap_u64 wrap_u8 bits_xor64 bits_and64 bits_or64 bits_not64 bits_xor8 bits_and8 bits_or8 signed64 signed8 ofInt_N BitVec.ofInt_add BitVec.ofInt_mul ofInt_sub' ofInt8_N64 ofInt64_N8 wide8 eqN neN shr_pow shr1 shr7 shr56
attribute [local go_sem high] bits_com64 shl_wrap
attribute [local go_sem] cell_heap ice_heap cellAt_cells iceAt_cells setAt_cells rowAt_cells canLay_cells laidAt_cells size_onObj size_setCell rowRes_some layRes_true
attribute [local go_sem] load26 load73 load23 store26 build73
attribute [local go_sem ↓] lrow26 lrow73 lrow23 srow26 zero26 brow73 heap_alloc heap_drew heap_drewN heap_setCell heap_onObj
attribute [local go_sem] tcells_size hcells_size tcells_get hcells_get tcells_one hcells_one hcells_table tcells_table hcells_all hcells_ctrl tcells_ctrl
attribute [local go_sem] nn2 nm2 nn3 nm3 nn4 nm4 nn5 nm5 nn6 nm6 nn7 nm7 nn8 nm8
attribute [local go_sem] nn2 nm2 nn3 nm3 nn4 nm4 nn5 nm5 nn6 nm6 nn7 nm7 nn8 nm8
attribute [local go_sem] ofInt_N
attribute [local go_sem] box26 tcells_idx cell0 cell1 cell2 cell3 cell4
attribute [local irreducible] tcells
/-- A row of numbers that the call made. -/
def IntsAt (w0 w : World) (v : Value) (l : List Nat) : Prop :=
  ∃ r c cur, v = .slice (some ⟨r, 0, none⟩) l.length c ∧ w0.heap.size ≤ r ∧ w.heap[r]? = some (.cells cur 3 (0, 0)) ∧ ∀ i x : Nat, l[i]? = some x → cur[i]? = some (I (x : Int))
theorem IntsAt.ch {w0 w w' : World} {v : Value} {l : List Nat} {S : List Nat} (h : IntsAt w0 w v l) (c : Ch S w w') (hS : ∀ r n c, v = .slice (some ⟨r, 0, none⟩) n c → r ∉ S) : IntsAt w0 w' v l := by
  obtain ⟨r, c', cur, hv, hr, hb, hi⟩ := h
  exact ⟨r, c', cur, hv, hr, (c.block r (Array.getElem?_eq_some_iff.1 hb).1 (hS _ _ _ hv)).trans hb, hi⟩
end Go.Proofs.Hc
/- slices.DeleteFunc at rows of pairs: what the walk needs. -/
namespace Go.Proofs.Hc
open Go.RowKit
theorem pcells_set : ∀ (L : List (BitVec 64 × BitVec 64)) (i : Nat) (p : BitVec 64 × BitVec 64), i < L.length → (pcells L).take (2 * i) ++ [U p.1, U p.2] ++ (pcells L).drop (2 * i + 2) = pcells (L.set i p)
  | [], i, p, h => by simp at h
  | q :: L, 0, p, _ => rfl
  | q :: L, i + 1, p, h => by
    have ih := pcells_set L i p (by simpa using h)
    have e : pcells (q :: L) = U q.1 :: U q.2 :: pcells L := rfl
    have e2 : pcells ((q :: L).set (i + 1) p) = U q.1 :: U q.2 :: pcells (L.set i p) := rfl
    rw [e, e2, ← ih, show 2 * (i + 1) = 2 * i + 1 + 1 by omega, show 2 * i + 1 + 1 + 2 = (2 * i + 2) + 1 + 1 by omega]
    simp
/-- An own row, block and all. -/
structure RowOf (W : World) (base g n cap : Nat) (L : List (BitVec 64 × BitVec 64)) (cur : Array Value) : Prop where
  heap : W.heap[g]? = some (.cells cur 31 (0, 0))
  size : cur.size = cap * 2
  len : L.length = n
  le : n ≤ cap
  max : cap ≤ maxLen
  base : base ≤ g
  cells : cur.toList.take (2 * n) = pcells L
theorem RowOf.own {W : World} {base g n cap : Nat} {L : List (BitVec 64 × BitVec 64)} {cur : Array Value} (h : RowOf W base g n cap L cur) : W.ownsRow base 31 2 (.slice (some ⟨g, 0, none⟩) n cap) n (pcells L) :=
  ⟨by rw [pcells_len, h.len], .inr ⟨g, cap, cur, rfl, h.base, h.heap, h.le, h.max, h.size, by rw [Nat.mul_comm]; exact h.cells⟩⟩
/-- A pair that is stored. -/
theorem RowOf.put {W : World} {base g n cap : Nat} {L : List (BitVec 64 × BitVec 64)} {cur : Array Value} (h : RowOf W base g n cap L cur) {i : Nat} (hi : i < n) (p : BitVec 64 × BitVec 64) :
    ∃ cur', RowOf (World.onObj W g (laidAt (i * 2) #[U p.1, U p.2])) base g n cap (L.set i p) cur' := by
  have hsz := h.size
  have hle := h.le
  have hlen := h.len
  refine ⟨cur.extract 0 (i * 2) ++ #[U p.1, U p.2] ++ cur.extract (i * 2 + 2) cur.size, ?_, ?_, by rw [List.length_set]; exact hlen, hle, h.max, h.base, ?_⟩
  · rw [heap_onObj, if_pos rfl, h.heap]; rfl
  · simp only [Array.size_append, Array.size_extract, List.size_toArray, List.length_cons, List.length_nil]
    omega
  · rw [← pcells_set L i p (by omega), ← h.cells]
    have hcl : cur.toList.length = cap * 2 := by simpa using hsz
    have h1 : (cur.extract 0 (i * 2) ++ #[U p.1, U p.2] ++ cur.extract (i * 2 + 2) cur.size).toList = cur.toList.take (2 * i) ++ [U p.1, U p.2] ++ cur.toList.drop (2 * i + 2) := by
      simp only [Array.toList_append, Array.toList_extract, List.extract_eq_take_drop, Nat.sub_zero, List.drop_zero, Nat.mul_comm i 2]
      rw [List.take_of_length_le (l := List.drop (2 * i + 2) cur.toList) (by rw [List.length_drop, Array.length_toList]; omega)]
    rw [h1]
    generalize cur.toList = cl at *
    rw [show (cl.take (2 * n)).take (2 * i) = cl.take (2 * i) by rw [List.take_take, Nat.min_eq_left (by omega)]]
    have e : (cl.take (2 * i) ++ [U p.1, U p.2]).length = 2 * i + 2 := by simp; omega
    rw [List.take_append, e, List.take_of_length_le (by rw [e]; omega), List.drop_take]
end Go.Proofs.Hc
/- slices.DeleteFunc at rows of pairs, by the statement's own test. -/
namespace Go.Proofs.Hc
open Go.RowKit
attribute [local go_sem] wrap_u64 wrap_u8 bits_xor64 bits_and64 bits_or64 bits_not64 bits_xor8 bits_and8 bits_or8 signed64 signed8 ofInt_N BitVec.ofInt_add BitVec.ofInt_mul ofInt_sub' ofInt8_N64 ofInt64_N8 wide8 eqN neN shr_pow shr1 shr7 shr56
attribute [local go_sem high] bits_com64 shl_wrap
attribute [local go_sem] cell_heap ice_heap cellAt_cells iceAt_cells setAt_cells rowAt_cells canLay_cells laidAt_cells size_onObj size_setCell rowRes_some layRes_true
attribute [local go_sem] load26 load73 load23 store26 build73
attribute [local go_sem ↓] lrow26 lrow73 lrow23 srow26 zero26 brow73 heap_alloc heap_drew heap_drewN heap_setCell heap_onObj
attribute [local go_sem] tcells_size hcells_size tcells_get hcells_get tcells_one hcells_one hcells_table tcells_table hcells_all hcells_ctrl tcells_ctrl
attribute [local go_sem] nn2 nm2 nn3 nm3 nn4 nm4 nn5 nm5 nn6 nm6 nn7 nm7 nn8 nm8
attribute [local go_sem] nn2 nm2 nn3 nm3 nn4 nm4 nn5 nm5 nn6 nm6 nn7 nm7 nn8 nm8
attribute [local go_sem] Oper.semAt_some make_func1
attribute [local go_sem] loadP storeP allOne_pair
attribute [local go_sem high] laidAt_p
attribute [local go_sem ↓] lrowP srowP zeroP
theorem RowOf.ch {W W' : World} {S : List Nat} {base g n cap : Nat} {L : List (BitVec 64 × BitVec 64)} {cur : Array Value} (h : RowOf W base g n cap L cur) (c : Ch S W W') (hg : g ∉ S) : RowOf W' base g n cap L cur := ⟨hkeepS c hg h.heap, h.size, h.len, h.le, h.max, h.base, h.cells⟩
end Go.Proofs.Hc
