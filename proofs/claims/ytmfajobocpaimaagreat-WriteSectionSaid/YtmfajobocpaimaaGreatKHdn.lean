/- The reference of layer 16: Cell, TableWords. -/
import Derived.Test.YtmfajobocpaimaaGreatKHmet
import Derived.Test.YtmfajobocpaimaaGreatKHcc
import Derived.Test.YtmfajobocpaimaaGreatKHcs
import Derived.Test.YtmfajobocpaimaaGreatKHdk
import Derived.Test.YtmfajobocpaimaaGreatKHds
import Derived.Test.YtmfajobocpaimaaGreatKHdv
import Derived.Test.YtmfajobocpaimaaGreatKHm
import Derived.Test.YtmfajobocpaimaaGreatKHma
import Derived.Test.YtmfajobocpaimaaGreatKHnl
import Derived.Test.YtmfajobocpaimaaGreatKHnw
import Derived.Test.YtmfajobocpaimaaGreatKHpb
import Derived.Test.YtmfajobocpaimaaGreatKHrw
import Derived.Test.YtmfajobocpaimaaGreatKHh
import Derived.Test.YtmfajobocpaimaaGreatKHni
import Derived.Below
import Derived.BigQuiet
import Derived.Deep.Draws
import Derived.Deep.Light
import Derived.Deep.OwnRows
import Derived.Deep.QuietTactic
import Derived.Deep.RegionHeld
import Derived.IntWalk
import Derived.Laws.CopyOwn
import Derived.Laws.CopyRow
import Derived.Laws.StructEq
import Derived.Laws.Tables
import Derived.Lib.AppendZerosOnto
import Derived.Lib.Hide
import Derived.Lib.Tables
import Derived.Lib.Walk
import Derived.LoopIn
import Derived.LoopN
import Derived.LoopNIn
import Derived.Maps.AppendAt
import Derived.Maps.Views
import Derived.OwnWalkIn
import Derived.RangeFuncBox
import Derived.RangeFuncCalls
import Derived.RangeFuncRecord
import Derived.RangeFuncSeq
import Derived.Recover
import Derived.RegionTactic
import Derived.ScopeJumps
import Derived.Shelf.Slices.Clone
import Derived.StillTail
import Derived.StillTailTactics
import Derived.TacticsInMore
import Derived.Test.YtmfajobocpaimaaGreatProg
import Derived.WalkKit
import Derived.WalkLawsBesides
import Derived.WalkMore
import Derived.WalkSpells
set_option linter.unusedSimpArgs false
set_option linter.unusedVariables false
namespace Go.Proofs.Hc
open Go.RowKit
attribute [local go_sem] wrap_u64 wrap_u8 bits_xor64 bits_and64 bits_or64 bits_not64 bits_xor8 bits_and8 bits_or8 signed64 signed8 ofInt_N BitVec.ofInt_add BitVec.ofInt_mul ofInt_sub' ofInt8_N64 ofInt64_N8 wide8 eqN neN shr_pow shr1 shr7 shr56
attribute [local go_sem high] bits_com64 shl_wrap
attribute [local go_sem] cell_heap ice_heap cellAt_cells iceAt_cells setAt_cells rowAt_cells canLay_cells laidAt_cells size_onObj size_setCell rowRes_some layRes_true
attribute [local go_sem] load26 load73 load23 store26 build73
attribute [local go_sem ↓] lrow26 lrow73 lrow23 srow26 zero26 brow73 heap_alloc heap_drew heap_drewN heap_setCell heap_onObj
attribute [local go_sem] tcells_size hcells_size tcells_get hcells_get tcells_one hcells_one hcells_table tcells_table hcells_all hcells_ctrl tcells_ctrl
attribute [local go_sem] nn2 nm2 nn3 nm3 nn4 nm4 nn5 nm5 nn6 nm6 nn7 nm7 nn8 nm8
attribute [local go_sem] nn2 nm2 nn3 nm3 nn4 nm4 nn5 nm5 nn6 nm6 nn7 nm7 nn8 nm8
attribute [local go_sem] ofInt_N
attribute [local go_sem] box26 tcells_idx cell0 cell1 cell2 cell3 cell4 cell5 cell6
/-- A table's words, as the reference says them. -/
def rwords (t : Tab) (a b : Nat) : List (BitVec 64) :=
  [t.count, BitVec.ofInt 64 t.depth + 256#64 * t.pre, BitVec.ofInt 64 t.can, BitVec.ofInt 64 t.live, t.c 0, t.c 1] ++ (List.range a).map t.k ++ (List.range b).map t.v
theorem rwords_k (t : Tab) (a : Nat) : rwords t a 0 ++ [t.k a] = rwords t (a + 1) 0 := by
  unfold rwords
  rw [List.range_succ, List.map_append]
  simp
theorem rwords_v (t : Tab) (a b : Nat) : rwords t a b ++ [t.v b] = rwords t a (b + 1) := by
  unfold rwords
  rw [List.range_succ, List.map_append]
  simp
theorem rwords_len (t : Tab) (a b : Nat) : (rwords t a b).length = 6 + a + b := by unfold rwords; simp; omega
theorem index16 (av : Array Value) (n : Nat) (x : BitVec 64) (hn : n < 16) (h : av[n]? = some (U x)) (w : World) : (Instr.index 24 (.agg av) (.int .i64 (n : Int))).run Tryz.prog w = .ok (U x) w := by
  simp [Instr.index, run_underlying Tryz.underlying24, asIntOf, go_sem, h, hn]
set_option maxHeartbeats 1000000 in
set_option maxRecDepth 100000 in
theorem r16Words_any (t : Tab) (w : World) : Calls Tryz.prog 153 #[.agg (tcells t)] w fun e w' => ∃ v, e = .returned v ∧ w'.ownsRow w.heap.size 22 1 v 40 ((rwords t 16 16 ++ [0#64, 0#64]).map fun x => U x) ∧ Ch [] w w' := by
  obtain ⟨i0, hi, hz0, hz1, hz2⟩ := info_parts infoU
  have hka : ∀ j, j < 16 → (#[t.cell 7, t.cell 8, t.cell 9, t.cell 10, t.cell 11, t.cell 12, t.cell 13, t.cell 14, t.cell 15, t.cell 16, t.cell 17, t.cell 18, t.cell 19, t.cell 20, t.cell 21, t.cell 22] : Array Value)[j]? = some (U (t.k j)) := by
    intro j hj
    match j, hj with
    | 0, _ => rfl | 1, _ => rfl | 2, _ => rfl | 3, _ => rfl | 4, _ => rfl | 5, _ => rfl | 6, _ => rfl | 7, _ => rfl
    | 8, _ => rfl | 9, _ => rfl | 10, _ => rfl | 11, _ => rfl | 12, _ => rfl | 13, _ => rfl | 14, _ => rfl | 15, _ => rfl
    | n + 16, h => exact absurd h (by omega)
  have hva : ∀ j, j < 16 → (#[t.cell 23, t.cell 24, t.cell 25, t.cell 26, t.cell 27, t.cell 28, t.cell 29, t.cell 30, t.cell 31, t.cell 32, t.cell 33, t.cell 34, t.cell 35, t.cell 36, t.cell 37, t.cell 38] : Array Value)[j]? = some (U (t.v j)) := by
    intro j hj
    match j, hj with
    | 0, _ => rfl | 1, _ => rfl | 2, _ => rfl | 3, _ => rfl | 4, _ => rfl | 5, _ => rfl | 6, _ => rfl | 7, _ => rfl
    | 8, _ => rfl | 9, _ => rfl | 10, _ => rfl | 11, _ => rfl | 12, _ => rfl | 13, _ => rfl | 14, _ => rfl | 15, _ => rfl
    | n + 16, h => exact absurd h (by omega)
  obtain ⟨WA, hWA⟩ : ∃ W, w.alloc (.cells (tcells t) 26) = W := ⟨_, rfl⟩
  have hsA : w.heap.size + 1 = WA.heap.size := by rw [← hWA]; simp
  have hCA : Ch [] w WA := by rw [← hWA]; exact (Ch.refl [] w).alloc _
  have hbA : WA.heap[w.heap.size]? = some (.cells (tcells t) 26 (0, 0)) := by rw [← hWA]; simp [go_sem]
  have hcel : ∀ (w : World) (xs : List Value), ∀ j u, xs[j]? = some u → (w.alloc (.cells xs.toArray 22)).cell? ((⟨w.heap.size, 0, none⟩ : Addr).add j) = some u := fun w xs j u hj => by
    rw [Addr.add_lit, cell_heap, heap_alloc, if_pos rfl, Option.bind_some, cellAt_cells, Nat.zero_add]
    simpa using hj
  go_enter Tryz.func153, Tryz.ntmps153
  go_wp2
  obtain ⟨ka, hk⟩ : ∃ ka : Array Value, #[t.cell 7, t.cell 8, t.cell 9, t.cell 10, t.cell 11, t.cell 12, t.cell 13, t.cell 14, t.cell 15, t.cell 16, t.cell 17, t.cell 18, t.cell 19, t.cell 20, t.cell 21, t.cell 22] = ka := ⟨_, rfl⟩
  rw [hk] at hka
  rw [hk]
  have hks : ka.size = 16 := by rw [← hk]; rfl
  clear hk
  obtain ⟨R0, hR0⟩ : ∃ R : Array Value, #[U t.count, .int .u64 (N (BitVec.ofInt 64 t.depth + 256#64 * t.pre)), .int .u64 (N (BitVec.ofInt 64 t.can)), .int .u64 (N (BitVec.ofInt 64 t.live)), U (t.c 0), U (t.c 1)] = R := ⟨_, rfl⟩
  have hR : R0.size = 6 ∧ R0.toList = (rwords t 0 0).map fun x => U x := by rw [← hR0]; exact ⟨rfl, rfl⟩
  rw [hR0]
  clear hR0
  have h0 : (WA.alloc (.cells R0 22)).ownsRow WA.heap.size 22 1 (.slice (some ⟨WA.heap.size, 0, none⟩) 6 6) 6 ((rwords t 0 0).map fun x => U x) :=
    ⟨by rw [List.length_map, rwords_len], .inr ⟨WA.heap.size, 6, R0, rfl, Nat.le_refl _, by rw [heap_alloc, if_pos rfl], by omega, by unfold maxLen; omega, by rw [hR.1], by rw [← hR.2, List.take_of_length_le (by rw [Array.length_toList, hR.1]; omega)]⟩⟩
  have hC0 : Ch [] WA (WA.alloc (.cells R0 22)) := (Ch.refl [] WA).alloc _
  clear hR
  generalize WA.alloc (.cells R0 22) = W1 at *
  go_loopw [3, 32] (fun v i wr => ∃ j : Nat, i = .int .i64 j ∧ j ≤ 16 ∧ wr.ownsRow WA.heap.size 22 1 v (6 + j) ((rwords t j 0).map fun x => U x) ∧ Ch [] WA wr) (fun _ i _ => 16 - (intOf i).toNat)
  case atStart => exact ⟨0, rfl, by omega, h0, hC0⟩
  case round =>
    obtain ⟨j, hj, hj8, hown, hcr⟩ := hrel
    subst hj
    have hz := hcr.size
    clear h0 hC0
    by_cases hlt : j < 16
    · have hob := own_block hown
      have hkj := hka j hlt
      have HS := Lib.hid (rwords_k t j)
      have HL := Lib.hid (rwords_len t j 0)
      have hltI : (j : Int) < 16 := by omega
      have X1 := fun w => index16 ka j _ hlt hkj w
      clear hka hva
      obtain ⟨ys, hys⟩ : ∃ ys, rwords t j 0 = ys := ⟨_, rfl⟩
      rw [hys] at hown HS HL
      obtain ⟨kj, hkk⟩ : ∃ x, t.k j = x := ⟨_, rfl⟩
      rw [hkk] at hkj HS X1
      go_wp2_with (at_builtin; refine wpList_append_own _ rfl _ _ 53 rfl WA.heap.size 22 i0 (U 0#64) 1 8 Tryz.underlying53 hi hz0 hz1 hz2 rfl (by decide) _ _ _ rfl (hown.alloc _) ⟨wr.heap.size, 0, none⟩ 1 1 [U kj] rfl rfl (hcel _ [U kj]) (by simp [Value.oneCell']) (by unfold maxLen; omega) (by omega) (by simp; omega) ?_; intro v' w1 hown' hgrow _; have HO := Lib.hid hown'; have HG := Lib.hid hgrow; clear hown' hgrow)
      have hgr : (wr.alloc (.cells #[U kj] 22)).grownBy w1 u3.ownBlock := HG.out
      have hW1 : Ch (u3.ownBlock.toList) wr w1 := (((Ch.refl [] wr).alloc (.cells #[U kj] 22)).of_nil).trans2 (Ch.of_grown (S := u3.ownBlock.toList) hgr (fun k hk => by simp [hk])) (fun t ht => .inl ht)
      have hSS : ∀ s ∈ u3.ownBlock.toList, WA.heap.size ≤ s := fun s hs => hob s (by simpa using hs)
      have HO2 : w1.ownsRow WA.heap.size 22 1 v' (6 + j + 1) (ys.map (fun x => U x) ++ [U kj]) := HO.out
      go_roundw
      case rel => exact ⟨j + 1, by go_num, hlt, by rw [← HS.out, List.map_append]; exact HO2, hcr.trans2 hW1 (fun t ht => .inr (hSS t ht))⟩
      case measure => simp [intOf]; omega
    · have hj16 : j = 16 := by omega
      rw [hj16] at hown
      have hnI : ¬ (j : Int) < 16 := by omega
      clear hj16 hlt hj8
      have hbW : wr.heap[w.heap.size]? = some (.cells (tcells t) 26 (0, 0)) := hkeep hcr hbA
      clear hka
      go_wp2
      obtain ⟨va, hv⟩ : ∃ va : Array Value, #[t.cell 23, t.cell 24, t.cell 25, t.cell 26, t.cell 27, t.cell 28, t.cell 29, t.cell 30, t.cell 31, t.cell 32, t.cell 33, t.cell 34, t.cell 35, t.cell 36, t.cell 37, t.cell 38] = va := ⟨_, rfl⟩
      rw [hv] at hva
      rw [hv]
      have hvs : va.size = 16 := by rw [← hv]; rfl
      clear hv hbW
      have HO1 := Lib.hid hown
      have HC1 := Lib.hid hcr
      clear hown hcr hz
      go_loopw [3, 42] (fun v i wr => ∃ j : Nat, i = .int .i64 j ∧ j ≤ 16 ∧ wr.ownsRow WA.heap.size 22 1 v (22 + j) ((rwords t 16 j).map fun x => U x) ∧ Ch [] WA wr) (fun _ i _ => 16 - (intOf i).toNat)
      case atStart => exact ⟨0, rfl, by omega, HO1.out, HC1.out⟩
      case round =>
        obtain ⟨j, hj, hj8, hown, hcr⟩ := hrel
        subst hj
        have hz := hcr.size
        clear HO1 HC1
        by_cases hlt : j < 16
        · have hob := own_block hown
          have hkj := hva j hlt
          have HS := Lib.hid (rwords_v t 16 j)
          have HL := Lib.hid (rwords_len t 16 j)
          have hltI : (j : Int) < 16 := by omega
          have X1 := fun w => index16 va j _ hlt hkj w
          clear hva
          obtain ⟨ys, hys⟩ : ∃ ys, rwords t 16 j = ys := ⟨_, rfl⟩
          rw [hys] at hown HS HL
          obtain ⟨kj, hkk⟩ : ∃ x, t.v j = x := ⟨_, rfl⟩
          rw [hkk] at hkj HS X1
          go_wp2_with (at_builtin; refine wpList_append_own _ rfl _ _ 53 rfl WA.heap.size 22 i0 (U 0#64) 1 8 Tryz.underlying53 hi hz0 hz1 hz2 rfl (by decide) _ _ _ rfl (hown.alloc _) ⟨wr.heap.size, 0, none⟩ 1 1 [U kj] rfl rfl (hcel _ [U kj]) (by simp [Value.oneCell']) (by unfold maxLen; omega) (by omega) (by simp; omega) ?_; intro v' w1 hown' hgrow _; have HO := Lib.hid hown'; have HG := Lib.hid hgrow; clear hown' hgrow)
          have hgr : (wr.alloc (.cells #[U kj] 22)).grownBy w1 u3.ownBlock := HG.out
          have hW1 : Ch (u3.ownBlock.toList) wr w1 := (((Ch.refl [] wr).alloc (.cells #[U kj] 22)).of_nil).trans2 (Ch.of_grown (S := u3.ownBlock.toList) hgr (fun k hk => by simp [hk])) (fun t ht => .inl ht)
          have hSS : ∀ s ∈ u3.ownBlock.toList, WA.heap.size ≤ s := fun s hs => hob s (by simpa using hs)
          have HO2 : w1.ownsRow WA.heap.size 22 1 v' (22 + j + 1) (ys.map (fun x => U x) ++ [U kj]) := HO.out
          go_roundw
          case rel => exact ⟨j + 1, by go_num, hlt, by rw [← HS.out, List.map_append]; exact HO2, hcr.trans2 hW1 (fun t ht => .inr (hSS t ht))⟩
          case measure => simp [intOf]; omega
        · have hj16 : j = 16 := by omega
          subst hj16
          have hob := own_block hown
          go_wp2_with (at_builtin; refine wpList_append_own _ rfl _ _ 53 rfl WA.heap.size 22 i0 (U 0#64) 1 8 Tryz.underlying53 hi hz0 hz1 hz2 rfl (by decide) _ _ _ rfl (hown.alloc _) ⟨wr.heap.size, 0, none⟩ 2 2 [U 0#64, U 0#64] rfl rfl (hcel _ [U 0#64, U 0#64]) (by simp [Value.oneCell']) (by unfold maxLen; omega) (by omega) (by simp; omega) ?_; intro v' w1 hown' hgrow _; have HO := Lib.hid hown'; have HG := Lib.hid hgrow; clear hown' hgrow)
          have hgr : (wr.alloc (.cells #[U 0#64, U 0#64] 22)).grownBy w1 u3.ownBlock := HG.out
          have hW1 : Ch (u3.ownBlock.toList) wr w1 := (((Ch.refl [] wr).alloc (.cells #[U 0#64, U 0#64] 22)).of_nil).trans2 (Ch.of_grown (S := u3.ownBlock.toList) hgr (fun k hk => by simp [hk])) (fun t ht => .inl ht)
          have hSS : ∀ s ∈ u3.ownBlock.toList, WA.heap.size ≤ s := fun s hs => hob s (by simpa using hs)
          have HO2 : w1.ownsRow WA.heap.size 22 1 v' 40 ((rwords t 16 16).map (fun x => U x) ++ [U 0#64, U 0#64]) := HO.out
          go_ret
          refine ⟨v', rfl, ?_, hCA.trans (hcr.trans2 hW1 (fun t ht => .inr (hSS t ht)))⟩
          rw [List.map_append]
          exact ⟨HO2.1, HO2.2.elim .inl (fun ⟨g, cap, cur, a, b, c⟩ => .inr ⟨g, cap, cur, a, by omega, c⟩)⟩
end Go.Proofs.Hc
/- Law 19: laid, in the first slab. -/
namespace Go.Proofs.Hc
open Go.RowKit
attribute [local go_sem] wrap_u64 wrap_u8 bits_xor64 bits_and64 bits_or64 bits_not64 bits_xor8 bits_and8 bits_or8 signed64 signed8 ofInt_N BitVec.ofInt_add BitVec.ofInt_mul ofInt_sub' ofInt8_N64 ofInt64_N8 wide8 eqN neN shr_pow shr1 shr7 shr56
attribute [local go_sem high] bits_com64 shl_wrap
attribute [local go_sem] cell_heap ice_heap cellAt_cells iceAt_cells setAt_cells rowAt_cells canLay_cells laidAt_cells size_onObj size_setCell rowRes_some layRes_true
attribute [local go_sem] load26 load73 load23 store26 build73
attribute [local go_sem ↓] lrow26 lrow73 lrow23 srow26 zero26 brow73 heap_alloc heap_drew heap_drewN heap_setCell heap_onObj
attribute [local go_sem] tcells_size hcells_size tcells_get hcells_get tcells_one hcells_one hcells_table tcells_table hcells_all hcells_ctrl tcells_ctrl
attribute [local go_sem] nn2 nm2 nn3 nm3 nn4 nm4 nn5 nm5 nn6 nm6 nn7 nm7 nn8 nm8
attribute [local go_sem] nn2 nm2 nn3 nm3 nn4 nm4 nn5 nm5 nn6 nm6 nn7 nm7 nn8 nm8
attribute [local go_sem] ofInt_N
attribute [local go_sem] box26
attribute [local irreducible] tcells
theorem zeros_cells (n : Nat) : madeCells #[.int .u64 0] n = wcells (List.replicate n 0#64) := by
  apply Array.ext_getElem?
  intro i
  unfold wcells
  simp only [List.map_replicate, List.getElem?_toArray, List.getElem?_replicate]
  by_cases h : i < n
  · simp [madeCells, h, Nat.mod_one, U, N]
  · rw [Array.getElem?_eq_none (by rw [size_madeCells]; omega)]; simp [h]
/-- Cells of one slab, with a table's words as the reference says them. -/
def slab0 (t : Tab) : List (BitVec 64) := List.replicate 16 0#64 ++ (rwords t 16 16 ++ [0#64, 0#64])
set_option maxHeartbeats 1000000 in
set_option maxRecDepth 100000 in
theorem laid0_any (t : Tab) (w : World) : Calls Tryz.prog 102 #[.int .i64 0, .agg (tcells t)] w fun e w' => ∃ R, e = .returned (.slice (some ⟨R, 0, none⟩) 56 56) ∧ w.heap.size ≤ R ∧ w'.heap[R]? = some (.cells (wcells (slab0 t)) 22 (0, 0)) ∧ Ch [] w w' := by
  have hm := fun w => run_make_row' (P := Tryz.prog) 53 22 (.int .u64 0) 8 Tryz.underlying53 infoU rfl .i64 .i64 56 (by omega) (by omega) w
  simp only [show ((56 : Nat) : Int) = 56 from rfl] at hm
  obtain ⟨Z, hZ⟩ : ∃ Z, madeCells #[.int .u64 0] 56 = Z := ⟨_, rfl⟩
  rw [hZ] at hm
  have hZs : Z.size = 56 := by rw [← hZ, size_madeCells]
  have hZl : Z.toList.take 16 = (List.replicate 16 0#64).map (fun x => U x) := by
    rw [← hZ, zeros_cells, wcells_list, List.map_replicate, List.take_replicate, List.map_replicate]
    rfl
  clear hZ
  have K1 : ∀ w, Calls Tryz.prog 49 #[.int .i64 0, .int .i64 40] w fun e w' => e = .returned (.int .i64 56) ∧ w = w' := fun w => rCell_any 0 40 (by omega) (by omega) (by omega) (by omega) w
  have K2 : ∀ w, Calls Tryz.prog 49 #[.int .i64 0, .int .i64 0] w fun e w' => e = .returned (.int .i64 16) ∧ w = w' := fun w => rCell_any 0 0 (by omega) (by omega) (by omega) (by omega) w
  have T1 := fun w => r16Words_any t w
  have b0 : (w.alloc (.cells (tcells t) 26)).heap[w.heap.size]? = some (.cells (tcells t) 26 (0, 0)) := by simp [go_sem]
  have C0 : Ch [] w (w.alloc (.cells (tcells t) 26)) := (Ch.refl [] w).alloc _
  have hs0 : w.heap.size ≤ (w.alloc (.cells (tcells t) 26)).heap.size := by simp
  have hsl : slab0 t = List.replicate 16 0#64 ++ (rwords t 16 16 ++ [0#64, 0#64]) := rfl
  have hrl : (rwords t 16 16 ++ [0#64, 0#64]).length = 40 := by rw [List.length_append, rwords_len]; rfl
  obtain ⟨sl, hsl'⟩ : ∃ s, slab0 t = s := ⟨_, rfl⟩
  rw [hsl'] at hsl ⊢
  clear hsl'
  obtain ⟨xs, hxs⟩ : ∃ x, rwords t 16 16 ++ [0#64, 0#64] = x := ⟨_, rfl⟩
  rw [hxs] at hsl hrl T1
  clear hxs
  go_enter Tryz.func102, Tryz.ntmps102
  go_wp2_with fail
  generalize w.alloc (.cells (tcells t) 26) = W0 at *
  refine (K1 _).mono ?_
  rintro e w' ⟨rfl, rfl⟩
  go_wp2_with fail
  have g1 : (W0.alloc (.cells Z 22)).heap[W0.heap.size]? = some (.cells Z 22 (0, 0)) := by rw [heap_alloc, if_pos rfl]
  have hcA : Ch [] W0 (W0.alloc (.cells Z 22)) := (Ch.refl [] W0).alloc _
  have b1 := hkeep hcA b0
  have C1 := C0.trans hcA
  generalize W0.alloc (.cells Z 22) = W1 at *
  generalize W0.heap.size = O at *
  clear hcA b0 C0
  obtain ⟨B, hB⟩ : ∃ B, w.heap.size = B := ⟨_, rfl⟩
  rw [hB] at b1 hs0 ⊢
  have HB := Lib.hid hB
  clear hB
  have s7 : (fun W' : World => W'.heap[B]? = some (.cells (tcells t) 26 (0, 0))) W1.drew := b1
  have g7 : W1.drew.heap[O]? = some (.cells Z 22 (0, 0)) := g1
  have C7 : Ch [] w W1.drew := C1.drew
  have hOB : O ≠ B := block_ne g1 b1 (by decide)
  clear b1 g1 C1
  refine wp_region_held_drew (S := fun W' => W'.heap[B]? = some (.cells (tcells t) 26 (0, 0))) (by kernel_rfl) s7 ?_
  intro _
  simp only [List.size_toArray, List.length_cons, List.length_nil, Nat.reduceAdd]
  generalize W1.drew = w7 at *
  refine wpAnyH_take (i := 0) (oi := ⟨some 9, _, _, _, _, none⟩) (v := ?_) rfl (by kernel_rfl) (by kernel_rfl) (by kernel_rfl) (fun _ _ _ h => h) (Or.inl ⟨by rfl, ?_⟩) s7 ?_
  rotate_left
  · intro wq hSq
    first | (go_simp; done) | (go_simp; with_reducible rfl)
  try simp only [Act.put, List.setIfInBounds_toArray, List.set_cons_zero, List.set_cons_succ]
  refine wpAnyH_take (i := 1) (oi := ⟨some 10, _, _, _, _, none⟩) (v := ?_) rfl (by kernel_rfl) (by kernel_rfl) (by kernel_rfl) (fun _ _ _ h => h) (Or.inl ⟨by rfl, ?_⟩) s7 ?_
  rotate_left
  · intro wq hSq
    first | (go_simp; done) | (go_simp; with_reducible rfl)
  try simp only [Act.put, List.setIfInBounds_toArray, List.set_cons_zero, List.set_cons_succ]
  refine wpAnyH_take (i := 4) (oi := ⟨some 13, _, _, _, _, none⟩) (v := ?_) rfl (by kernel_rfl) (by kernel_rfl) (by kernel_rfl) (fun _ _ _ h => h) (Or.inl ⟨by rfl, ?_⟩) s7 ?_
  rotate_left
  · intro wq hSq
    first | (go_simp; done) | (go_simp; with_reducible rfl)
  try simp only [Act.put, List.setIfInBounds_toArray, List.set_cons_zero, List.set_cons_succ]
  refine wpAnyH_ready (rs := [2]) (by kernel_rfl) (by simp) ?_
  refine AllReadyH.cons rfl (fun K hK => ?_) AllReadyH.nil
  go_simp
  refine (K2 _).mono ?_
  rintro e w' ⟨rfl, rfl⟩
  refine hK.out _ _ s7 (fun _ => ?_)
  clear hK K
  refine wpAnyH_take (i := 3) (oi := ⟨some 12, _, _, _, _, none⟩) (v := ?_) rfl (by kernel_rfl) (by kernel_rfl) (by kernel_rfl) (fun _ _ _ h => h) (Or.inl ⟨by rfl, ?_⟩) s7 ?_
  rotate_left
  · intro wq hSq
    first | (go_simp; done) | (go_simp; with_reducible rfl)
  try simp only [Act.put, List.setIfInBounds_toArray, List.set_cons_zero, List.set_cons_succ]
  refine wpAnyH_ready (rs := [5]) (by kernel_rfl) (by simp) ?_
  refine AllReadyH.cons rfl (fun K hK => ?_) AllReadyH.nil
  go_simp
  refine (T1 _).mono ?_
  rintro e w8 ⟨v, rfl, hown, hc8⟩
  have s8 := hkeep hc8 s7
  have g8 := hkeep hc8 g7
  have C8 := C7.trans hc8
  refine hK.out _ _ s8 (fun _ => ?_)
  clear hK K s7 g7 C7
  obtain ⟨hlen, ⟨_, h0⟩ | ⟨g, cap, cur, rfl, hgo, hgw, hle, _, hsz, hcur⟩⟩ := hown
  · omega
  have hcp := run_copy_row (P := Tryz.prog) w8 53 53 3 22 O 16 40 40 ⟨g, 0, none⟩ 40 cap Z 22 (xs.map fun x => U x) Tryz.underlying53 (by kernel_rfl) g8 (by rw [List.length_map, hrl]; rfl) (by
    intro j v hj
    have hj40 : j < 40 := by have := (List.getElem?_eq_some_iff.1 hj).1; rw [List.length_map, hrl] at this; exact this
    rw [Addr.add_lit, cell_heap, hgw, Option.bind_some, cellAt_cells, Nat.zero_add]
    rw [← hcur, List.getElem?_take, if_pos (by omega)] at hj
    simpa using hj) (by rw [List.length_map, hrl, hZs]; omega) (words_one xs)
  have hrow : (Z.toList.take 16 ++ (xs.map fun x => U x) ++ Z.toList.drop (16 + (xs.map fun x => U x).length)).toArray = wcells sl := by
    rw [hZl, List.drop_eq_nil_of_le (by rw [List.length_map, hrl, Array.length_toList, hZs]; omega), List.append_nil, hsl]
    unfold wcells
    rw [List.map_append]
  rw [hrow] at hcp
  have hh := setRow_heap w8 O _ (wcells sl) 22 (0, 0) g8
  have C9 : Ch [] w (w8.setRow O (wcells sl)) := C8.trans2 (T := [O]) ⟨rfl, rfl, rfl, by simp [World.setRow], fun k _ hk => setRow_other _ _ _ _ (by simpa using hk)⟩ (by intro t ht; right; simp at ht; rw [ht, HB.out]; exact hs0)
  have s9 : (w8.setRow O (wcells sl)).heap[B]? = some (.cells (tcells t) 26 (0, 0)) := by rw [setRow_other _ _ _ _ (fun e => hOB e.symm)]; exact s8
  clear hrow hcur hgw hsl hZl s8 g8 C8 hc8
  generalize w8.setRow O (wcells sl) = w9 at *
  refine wpAnyH_ready (rs := [6]) (by kernel_rfl) (by simp) ?_
  refine AllReadyH.cons rfl (fun K hK => ?_) AllReadyH.nil
  go_simp
  refine hK.out _ _ s9 (fun _ => ?_)
  clear hK K
  refine wpAnyH_done (by kernel_rfl) ?_ _
  go_wp2
  go_ret
  exact ⟨O, rfl, by rw [HB.out]; exact hs0, hh, C9⟩
end Go.Proofs.Hc
