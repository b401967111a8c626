/- Law 19: cells that hold a table. -/
import Derived.Test.YtmfajobocpaimaaGreatKHm
import Derived.Test.YtmfajobocpaimaaGreatKHcs
import Derived.Test.YtmfajobocpaimaaGreatKHpk
import Derived.Test.YtmfajobocpaimaaGreatKHdn
import Derived.Test.YtmfajobocpaimaaGreatKHdo
import Derived.Test.YtmfajobocpaimaaGreatKHdp
import Derived.Test.YtmfajobocpaimaaGreatKHds
import Derived.Test.YtmfajobocpaimaaGreatKHdt
import Derived.Test.YtmfajobocpaimaaGreatKHea
import Derived.Test.YtmfajobocpaimaaGreatKHma
import Derived.Test.YtmfajobocpaimaaGreatKHnl
import Derived.Test.YtmfajobocpaimaaGreatKHns
import Derived.Test.YtmfajobocpaimaaGreatKHye
import Derived.Test.YtmfajobocpaimaaGreatKHpa
import Derived.Test.YtmfajobocpaimaaGreatKHh
import Derived.Test.YtmfajobocpaimaaGreatKHtd
import Derived.Test.YtmfajobocpaimaaGreatKHtg
import Derived.Test.YtmfajobocpaimaaGreatKHxo
import Derived.Test.YtmfajobocpaimaaGreatKHtq
import Derived.Test.YtmfajobocpaimaaGreatKHtr
import Derived.Test.YtmfajobocpaimaaGreatKHxc
import Derived.Below
import Derived.BigQuiet
import Derived.Deep.Draws
import Derived.Deep.Light
import Derived.Deep.OwnRows
import Derived.Deep.QuietTactic
import Derived.Deep.RegionHeld
import Derived.IntWalk
import Derived.Laws.CopyOwn
import Derived.Laws.CopyRow
import Derived.Laws.StructEq
import Derived.Laws.Tables
import Derived.Lib.AppendZerosOnto
import Derived.Lib.Hide
import Derived.Lib.Tables
import Derived.Lib.Walk
import Derived.LoopIn
import Derived.LoopN
import Derived.LoopNIn
import Derived.Maps.AppendAt
import Derived.Maps.Views
import Derived.OwnWalkIn
import Derived.RangeFuncBox
import Derived.RangeFuncCalls
import Derived.RangeFuncRecord
import Derived.RangeFuncSeq
import Derived.Recover
import Derived.RegionTactic
import Derived.ScopeJumps
import Derived.Shelf.Slices.Clone
import Derived.StillTail
import Derived.StillTailTactics
import Derived.TacticsInMore
import Derived.Test.YtmfajobocpaimaaGreatProg
import Derived.WalkKit
import Derived.WalkLawsBesides
import Derived.WalkMore
import Derived.WalkSpells
import Derived.ChangeKeysEq
import Derived.Deep.Slices
import Derived.OpenShut
import Derived.ProofKit
set_option linter.unusedSimpArgs false
set_option linter.unusedVariables false
namespace Go.Proofs.Hc
open Go.RowKit
attribute [local go_sem] wrap_u64 wrap_u8 bits_xor64 bits_and64 bits_or64 bits_not64 bits_xor8 bits_and8 bits_or8 signed64 signed8 ofInt_N BitVec.ofInt_add BitVec.ofInt_mul ofInt_sub' ofInt8_N64 ofInt64_N8 wide8 eqN neN shr_pow shr1 shr7 shr56
attribute [local go_sem high] bits_com64 shl_wrap
attribute [local go_sem] cell_heap ice_heap cellAt_cells iceAt_cells setAt_cells rowAt_cells canLay_cells laidAt_cells size_onObj size_setCell rowRes_some layRes_true
attribute [local go_sem] load26 load73 load23 store26 build73
attribute [local go_sem ↓] lrow26 lrow73 lrow23 srow26 zero26 brow73 heap_alloc heap_drew heap_drewN heap_setCell heap_onObj
attribute [local go_sem] tcells_size hcells_size tcells_get hcells_get tcells_one hcells_one hcells_table tcells_table hcells_all hcells_ctrl tcells_ctrl
attribute [local go_sem] nn2 nm2 nn3 nm3 nn4 nm4 nn5 nm5 nn6 nm6 nn7 nm7 nn8 nm8
attribute [local go_sem] nn2 nm2 nn3 nm3 nn4 nm4 nn5 nm5 nn6 nm6 nn7 nm7 nn8 nm8
/-- A table by a seed, in a slab. -/
def workC (s : BitVec 64) (sl : Int) (t : Tab) : Array Value := #[U s, I sl] ++ tcells t
theorem workC_size (s : BitVec 64) (sl : Int) (t : Tab) : (workC s sl t).size = 41 := by unfold workC; rw [Array.size_append, tcells_size]; rfl
theorem workC_one (s : BitVec 64) (sl : Int) (t : Tab) : allOne (workC s sl t) = true := by
  have := tcells_one t
  unfold allOne at this ⊢
  unfold workC
  rw [Array.all_append, this]
  simp [Value.oneCell']
theorem workC_all (s : BitVec 64) (sl : Int) (t : Tab) : (workC s sl t).extract 0 41 = workC s sl t := by have := Array.extract_size (xs := workC s sl t); rwa [workC_size] at this
theorem workC_get (s : BitVec 64) (sl : Int) (t : Tab) (i : Nat) : (workC s sl t)[2 + i]? = (tcells t)[i]? := by
  unfold workC
  rw [Array.getElem?_append, if_neg (by simp)]
  congr 1
  simp
theorem workC_tab (s : BitVec 64) (sl : Int) (t : Tab) : (workC s sl t).extract 2 41 = tcells t := by
  apply Array.ext_getElem?
  intro i
  rw [Array.getElem?_extract, workC_size]
  by_cases h : i < 39
  · rw [if_pos (by omega), workC_get]
  · rw [if_neg (by omega), Array.getElem?_eq_none (by rw [tcells_size]; omega)]
theorem workC_g0 (s : BitVec 64) (sl : Int) (t : Tab) : (workC s sl t)[0]? = some (U s) := by unfold workC; rw [Array.getElem?_append, if_pos (by simp)]; rfl
theorem workC_g1 (s : BitVec 64) (sl : Int) (t : Tab) : (workC s sl t)[1]? = some (I sl) := by unfold workC; rw [Array.getElem?_append, if_pos (by simp)]; rfl
theorem workC_g2 (s : BitVec 64) (sl : Int) (t : Tab) : (workC s sl t)[2]? = some (U t.count) := (workC_get s sl t 0).trans (by rw [tcells_get, if_pos (by omega)]; rfl)
theorem workC_v (s : BitVec 64) (sl : Int) (t : Tab) (j : Nat) (h : j < 16) : (workC s sl t)[25 + j]? = some (U (t.v j)) := by
  rw [show 25 + j = 2 + (23 + j) by omega, workC_get, tcells_val t j h]
theorem workC_i0 (s : BitVec 64) (sl : Int) (t : Tab) (h : 0 < (workC s sl t).size) : (workC s sl t)[0] = U s := by have := workC_g0 s sl t; rw [Array.getElem?_eq_getElem h] at this; exact Option.some.inj this
theorem workC_i1 (s : BitVec 64) (sl : Int) (t : Tab) (h : 1 < (workC s sl t).size) : (workC s sl t)[1] = I sl := by have := workC_g1 s sl t; rw [Array.getElem?_eq_getElem h] at this; exact Option.some.inj this
theorem workC_i2 (s : BitVec 64) (sl : Int) (t : Tab) (h : 2 < (workC s sl t).size) : (workC s sl t)[2] = U t.count := by have := workC_g2 s sl t; rw [Array.getElem?_eq_getElem h] at this; exact Option.some.inj this
theorem boxWork (s : BitVec 64) (sl : Int) (t : Tab) (w : World) : (Instr.box 88 (.agg (workC s sl t))).run Tryz.prog w = .ok (.pointer (some ⟨w.heap.size, 0, none⟩)) (w.alloc (.cells (workC s sl t) 88)) := rfl
theorem loadWork (g o : Nat) (w : World) : (loadRow 88 ⟨g, o, none⟩).run Tryz.prog w = rowRes Tryz.prog 88 g o w ((w.heap[g]?).bind (rowAt o 41)) :=
  run_row Tryz.underlying88 rfl (by kernel_rfl) g o w
theorem lrowWork (a : Addr) : loadVar 88 a = loadRow 88 a := rfl
attribute [local go_sem] workC_size workC_one workC_all workC_tab workC_g0 workC_g1 workC_g2 workC_i0 workC_i1 workC_i2 boxWork loadWork
attribute [local go_sem ↓] lrowWork
attribute [local irreducible] workC tcells
/-- 0, 1, 2 .. -/
def idxL (n : Nat) : List (BitVec 64) := (List.range n).map fun (i : Nat) => BitVec.ofNat 64 i
/-- The first k of them, noughts behind. -/
def fillI (k : Nat) : Array Value := ((List.range 136).map fun (i : Nat) => if i < k then U (BitVec.ofNat 64 i) else U 0#64).toArray
theorem fillI_zero : fillI 0 = wcells (List.replicate 136 0#64) := by
  unfold fillI wcells
  congr 1
theorem fillI_set (k : Nat) (hk : k < 136) : (fillI k).setIfInBounds k (U (BitVec.ofNat 64 k)) = fillI (k + 1) := by
  unfold fillI
  rw [List.setIfInBounds_toArray]
  congr 1
  apply List.ext_getElem?
  intro i
  rw [List.getElem?_set, List.getElem?_map, List.getElem?_map, List.length_map, List.length_range]
  by_cases h : k = i
  · subst h; rw [if_pos rfl, if_pos hk, List.getElem?_range hk, Option.map_some, if_pos (by omega)]
  · rw [if_neg h]
    by_cases hi : i < 136
    · rw [List.getElem?_range hi, Option.map_some, Option.map_some]
      congr 1
      by_cases h2 : i < k
      · rw [if_pos h2, if_pos (by omega)]
      · rw [if_neg h2, if_neg (by omega)]
    · rw [List.getElem?_eq_none (by simp; omega)]; rfl
theorem fillI_at (k : Nat) (hk : k < 136) : (fillI k)[k]? = some (U 0#64) := by
  unfold fillI
  rw [List.getElem?_toArray, List.getElem?_map, List.getElem?_range hk, Option.map_some, if_neg (by omega)]
theorem fillI_all : fillI 136 = wcells (idxL 136) := by
  unfold fillI wcells idxL
  congr 1
theorem idxL_len (n : Nat) : (idxL n).length = n := by simp [idxL]
/-- May the cells be? -/
def workOk (s : BitVec 64) (sl : Int) (t : Tab) : Bool := mayT t s && !oddB t.count && (decide (0 ≤ sl) && decide (sl ≤ 2))
def workL (sl : Int) (t : Tab) : List (BitVec 64) := laidW (idxL 136) (16 + 40 * sl).toNat t
theorem copy_row (O o n : Nat) (l c : List (BitVec 64)) (g cap : Nat) (cur : Array Value) (w : World) (hO : w.heap[O]? = some (.cells (wcells c) 22 (0, 0))) (hg : w.heap[g]? = some (.cells cur 22 (0, 0))) (hcur : WordsAt cur l) (hl : l.length = 40) (ho : o + 40 ≤ c.length) (hn : 40 ≤ n) (cap2 : Nat) :
    (Builtin.copy_ #[53, 53] 3 #[.slice (some ⟨O, o, none⟩) n cap2, .slice (some ⟨g, 0, none⟩) 40 cap]).run Tryz.prog w = .ok (goInt 40) (w.setRow O (wcells (c.take o ++ (l ++ c.drop (o + 40))))) := by
  have hlm : (l.map fun x => U x).length = 40 := by rw [List.length_map, hl]
  have hcp := run_copy_row (P := Tryz.prog) w 53 53 3 22 O o n cap2 ⟨g, 0, none⟩ 40 cap (wcells c) 22 (l.map fun x => U x) Tryz.underlying53 (by kernel_rfl) hO (by rw [hlm]; show 40 = min 40 n; omega) (by
    intro j v hj
    rw [List.getElem?_map] at hj
    obtain ⟨x, hx, rfl⟩ := Option.map_eq_some_iff.1 hj
    rw [Addr.add_lit, cell_heap, hg, Option.bind_some, cellAt_cells, Nat.zero_add]
    exact hcur j x hx) (by rw [hlm, wcells_size]; exact ho) (words_one l)
  have hrow : ((wcells c).toList.take o ++ (l.map fun x => U x) ++ (wcells c).toList.drop (o + (l.map fun x => U x).length)).toArray = wcells (c.take o ++ (l ++ c.drop (o + 40))) := by
    rw [hlm, wcells_list]
    unfold wcells
    rw [List.map_append, List.map_append, List.map_take, List.map_drop, List.append_assoc]
  rw [hrow, hlm] at hcp
  exact hcp
theorem setRow_ch (w : World) (O : Nat) (c : Array Value) : Ch [O] w (w.setRow O c) := ⟨rfl, rfl, rfl, by simp [World.setRow], fun k _ hk => setRow_other _ _ _ _ (by simpa using hk)⟩
set_option maxHeartbeats 2000000 in
set_option maxRecDepth 100000 in
theorem cells_no (s : BitVec 64) (sl : Int) (t : Tab) (w : World) (h : workOk s sl t = false) : Calls Tryz.prog 53 #[.agg (workC s sl t)] w fun e w' => e = .returned (.tuple #[.slice none 0 0, .bool false]) ∧ Ch [] w w' := by
  have C0 : Ch [] w (w.alloc (.cells (workC s sl t) 88)) := (Ch.refl [] w).alloc _
  have b0 : (w.alloc (.cells (workC s sl t) 88)).heap[w.heap.size]? = some (.cells (workC s sl t) 88 (0, 0)) := by rw [heap_alloc, if_pos rfl]
  have M1 := fun w => check_any t s w
  cases hf : flatT t with
  | false =>
    have T1 := fun w => words_bad t hf w
    have L1 : ∀ w, Calls Tryz.prog 56 #[I sl, .int .i64 0] w fun e w' => ∃ x y, e = .returned (.tuple #[I x, I y]) ∧ w = w' := fun w => by
      by_cases h : 0 ≤ sl ∧ sl < 128
      · exact (cell_ok sl 0 h.1 h.2 (by omega) (by omega) w).mono fun e w' h => ⟨_, _, h⟩
      · exact (cell_bad sl 0 (by omega) w).mono fun e w' h => ⟨_, _, h⟩
    clear M1 h hf
    go_enter Tryz.func53, Tryz.ntmps53
    go_wp2_with fail
    obtain ⟨w0, hw0⟩ : ∃ W, w.alloc (.cells (workC s sl t) 88) = W := ⟨_, rfl⟩
    rw [hw0] at b0 C0 ⊢
    clear hw0
    refine (T1 _).mono ?_
    rintro e w1 ⟨rfl, hc1⟩
    have b1 := hkeep hc1 b0
    have C1 := C0.trans hc1
    clear b0 C0 hc1 T1
    go_wp2_with fail
    refine (L1 _).mono ?_
    rintro e w' ⟨x, y, rfl, rfl⟩
    go_wp2
    refine bodyPost_ret (v := .tuple #[.slice none 0 0, .bool false]) (by simp [results, Tryz.results53, go_sem]) rfl ⟨rfl, C1⟩
  | true =>
    have T1 := fun w => words_row t hf w
    by_cases hsl : 0 ≤ sl ∧ sl < 128
    · have L1 := fun w => cell_ok sl 0 hsl.1 hsl.2 (by omega) (by omega) w
      obtain ⟨z, hz⟩ : ∃ z, 16 + 40 * sl + 0 = z := ⟨_, rfl⟩
      rw [hz] at L1
      by_cases h2 : sl ≤ 2
      · cases hm : mayT t s with
        | false =>
          rw [hm, if_neg (by decide)] at M1
          have h2' : ¬ 2 < sl := by omega
          clear h hf hsl hz
          go_enter Tryz.func53, Tryz.ntmps53
          go_wp2_with fail
          obtain ⟨w0, hw0⟩ : ∃ W, w.alloc (.cells (workC s sl t) 88) = W := ⟨_, rfl⟩
          rw [hw0] at b0 C0 ⊢
          clear hw0
          refine (T1 _).mono ?_
          rintro e w1 ⟨R, c, cur, rfl, -, -, -, hc1⟩
          have b1 := hkeep hc1 b0
          have C1 := C0.trans hc1
          clear b0 C0 hc1 T1
          go_wp2_with fail
          refine (L1 _).mono ?_
          rintro e w' ⟨rfl, rfl⟩
          go_wp2_with fail
          refine (M1 _).mono ?_
          rintro e w2 ⟨rfl, hc2⟩
          have b2 := hkeep hc2 b1
          have C2 := C1.trans hc2
          clear b1 C1 hc2 M1
          go_wp2
          refine bodyPost_ret (v := .tuple #[.slice none 0 0, .bool false]) (by simp [results, Tryz.results53, go_sem]) rfl ⟨rfl, C2⟩
        | true =>
          rw [hm, if_pos rfl] at M1
          have hodd : oddB t.count = true := by
            unfold workOk at h
            rw [hm] at h
            simp at h
            cases ho : oddB t.count with
            | true => rfl
            | false => have := h ho hsl.1; omega
          have h2' : ¬ 2 < sl := by omega
          have hrem := tmod2_64w t.count
          have hbit := bit64w t.count
          rw [hodd] at hbit
          clear h hf hsl hz
          go_enter Tryz.func53, Tryz.ntmps53
          go_wp2_with fail
          obtain ⟨w0, hw0⟩ : ∃ W, w.alloc (.cells (workC s sl t) 88) = W := ⟨_, rfl⟩
          rw [hw0] at b0 C0 ⊢
          clear hw0
          refine (T1 _).mono ?_
          rintro e w1 ⟨R, c, cur, rfl, -, -, -, hc1⟩
          have b1 := hkeep hc1 b0
          have C1 := C0.trans hc1
          clear b0 C0 hc1 T1
          go_wp2_with fail
          refine (L1 _).mono ?_
          rintro e w' ⟨rfl, rfl⟩
          go_wp2_with fail
          refine (M1 _).mono ?_
          rintro e w2 ⟨rfl, hc2⟩
          have b2 := hkeep hc2 b1
          have C2 := C1.trans hc2
          clear b1 C1 hc2 M1
          go_wp2
          refine bodyPost_ret (v := .tuple #[.slice none 0 0, .bool false]) (by simp [results, Tryz.results53, go_sem]) rfl ⟨rfl, C2⟩
      · have h2' : 2 < sl := by omega
        clear h hf hsl hz M1 h2
        go_enter Tryz.func53, Tryz.ntmps53
        go_wp2_with fail
        obtain ⟨w0, hw0⟩ : ∃ W, w.alloc (.cells (workC s sl t) 88) = W := ⟨_, rfl⟩
        rw [hw0] at b0 C0 ⊢
        clear hw0
        refine (T1 _).mono ?_
        rintro e w1 ⟨R, c, cur, rfl, -, -, -, hc1⟩
        have b1 := hkeep hc1 b0
        have C1 := C0.trans hc1
        clear b0 C0 hc1 T1
        go_wp2_with fail
        refine (L1 _).mono ?_
        rintro e w' ⟨rfl, rfl⟩
        go_wp2
        refine bodyPost_ret (v := .tuple #[.slice none 0 0, .bool false]) (by simp [results, Tryz.results53, go_sem]) rfl ⟨rfl, C1⟩
    · have L1 := fun w => cell_bad sl 0 (by omega) w
      clear h hf hsl M1
      go_enter Tryz.func53, Tryz.ntmps53
      go_wp2_with fail
      obtain ⟨w0, hw0⟩ : ∃ W, w.alloc (.cells (workC s sl t) 88) = W := ⟨_, rfl⟩
      rw [hw0] at b0 C0 ⊢
      clear hw0
      refine (T1 _).mono ?_
      rintro e w1 ⟨R, c, cur, rfl, -, -, -, hc1⟩
      have b1 := hkeep hc1 b0
      have C1 := C0.trans hc1
      clear b0 C0 hc1 T1
      go_wp2_with fail
      refine (L1 _).mono ?_
      rintro e w' ⟨rfl, rfl⟩
      go_wp2
      refine bodyPost_ret (v := .tuple #[.slice none 0 0, .bool false]) (by simp [results, Tryz.results53, go_sem]) rfl ⟨rfl, C1⟩
end Go.Proofs.Hc
/- Law 19: cells that hold a table, made. -/
namespace Go.Proofs.Hc
open Go.RowKit
attribute [local go_sem] wrap_u64 wrap_u8 bits_xor64 bits_and64 bits_or64 bits_not64 bits_xor8 bits_and8 bits_or8 signed64 signed8 ofInt_N BitVec.ofInt_add BitVec.ofInt_mul ofInt_sub' ofInt8_N64 ofInt64_N8 wide8 eqN neN shr_pow shr1 shr7 shr56
attribute [local go_sem high] bits_com64 shl_wrap
attribute [local go_sem] cell_heap ice_heap cellAt_cells iceAt_cells setAt_cells rowAt_cells canLay_cells laidAt_cells size_onObj size_setCell rowRes_some layRes_true
attribute [local go_sem] load26 load73 load23 store26 build73
attribute [local go_sem ↓] lrow26 lrow73 lrow23 srow26 zero26 brow73 heap_alloc heap_drew heap_drewN heap_setCell heap_onObj
attribute [local go_sem] tcells_size hcells_size tcells_get hcells_get tcells_one hcells_one hcells_table tcells_table hcells_all hcells_ctrl tcells_ctrl
attribute [local go_sem] nn2 nm2 nn3 nm3 nn4 nm4 nn5 nm5 nn6 nm6 nn7 nm7 nn8 nm8
attribute [local go_sem] nn2 nm2 nn3 nm3 nn4 nm4 nn5 nm5 nn6 nm6 nn7 nm7 nn8 nm8
attribute [local go_sem] workC_size workC_one workC_all workC_tab workC_g0 workC_g1 workC_g2 workC_i0 workC_i1 workC_i2 boxWork loadWork
attribute [local go_sem ↓] lrowWork
attribute [local irreducible] workC tcells
theorem work_ok {s : BitVec 64} {sl : Int} {t : Tab} (h : workOk s sl t = true) : mayT t s = true ∧ oddB t.count = false ∧ 0 ≤ sl ∧ sl ≤ 2 := by
  unfold workOk at h
  simp at h
  exact ⟨h.1.1, h.1.2, h.2.1, h.2.2⟩
set_option maxHeartbeats 2000000 in
set_option maxRecDepth 100000 in
theorem cells_yes (s : BitVec 64) (sl : Int) (t : Tab) (w : World) (h : workOk s sl t = true) : Calls Tryz.prog 53 #[.agg (workC s sl t)] w fun e w' => ∃ R, e = .returned (.tuple #[.slice (some ⟨R, 0, none⟩) 136 136, .bool true]) ∧ w.heap.size ≤ R ∧ w'.heap[R]? = some (.cells (wcells (workL sl t)) 22 (0, 0)) ∧ Ch [] w w' := by
  obtain ⟨hm, hodd, h0, h2⟩ := work_ok h
  have hf : flatT t = true := ((may_iff t s).1 hm).flat
  have hmk := fun w => run_make_row' (P := Tryz.prog) 53 22 (.int .u64 0) 8 Tryz.underlying53 infoU rfl .i64 .i64 136 (by omega) (by omega) w
  simp only [show ((136 : Nat) : Int) = 136 from rfl, zeros_cells, ← fillI_zero] at hmk
  obtain ⟨Z, hZ⟩ : ∃ Z, fillI 0 = Z := ⟨_, rfl⟩
  rw [hZ] at hmk
  have C0 : Ch [] w (w.alloc (.cells (workC s sl t) 88)) := (Ch.refl [] w).alloc _
  have b0 : (w.alloc (.cells (workC s sl t) 88)).heap[w.heap.size]? = some (.cells (workC s sl t) 88 (0, 0)) := by rw [heap_alloc, if_pos rfl]
  have M1 := fun w => check_any t s w
  rw [hm, if_pos rfl] at M1
  have T1 := fun w => words_row t hf w
  have L1 := fun w => cell_ok sl 0 h0 (by omega) (by omega) (by omega) w
  obtain ⟨B, hB⟩ : ∃ B : Nat, (16 + 40 * sl).toNat = B := ⟨_, rfl⟩
  have hBI : 16 + 40 * sl + 0 = (B : Int) := by omega
  have hBn : B + 40 ≤ 136 := by omega
  have hBI2 : (B : Int) ≤ 136 := by omega
  have hB0 : (0 : Int) ≤ B := by omega
  rw [hBI] at L1
  have hd : decide ((2 : Int) < sl) = false := by simp; omega
  have hrem := tmod2_64w t.count
  have hbit := bit64w t.count
  rw [hodd] at hbit
  have HL : Hid (workL sl t = (idxL 136).take B ++ (twords t ++ (idxL 136).drop (B + 40))) := Lib.hid (by unfold workL laidW; rw [hB])
  have HT := Lib.hid (twords_len t)
  clear h hf hm hodd hB hBI h2
  go_enter Tryz.func53, Tryz.ntmps53
  go_wp2_with fail
  obtain ⟨w0, hw0⟩ : ∃ W, w.alloc (.cells (workC s sl t) 88) = W := ⟨_, rfl⟩
  rw [hw0] at b0 C0 ⊢
  clear hw0
  refine (T1 _).mono ?_
  rintro e w1 ⟨R, c, cur, rfl, -, hel, m1, hc1⟩
  have HE := Lib.hid hel
  have b1 := hkeep hc1 b0
  have C1 := C0.trans hc1
  clear b0 C0 hc1 T1 hel
  go_wp2_with fail
  refine (L1 _).mono ?_
  rintro e w' ⟨rfl, rfl⟩
  go_wp2_with fail
  refine (M1 _).mono ?_
  rintro e w2 ⟨rfl, hc2⟩
  have b2 := hkeep hc2 b1
  have m2 := hkeep hc2 m1
  have C2 := C1.trans hc2
  clear b1 C1 m1 hc2 M1 L1
  go_wp2
  have hcA : Ch [] w2 (w2.alloc (.cells Z 22)) := (Ch.refl [] w2).alloc _
  have o3 : (w2.alloc (.cells Z 22)).heap[w2.heap.size]? = some (.cells Z 22 (0, 0)) := by rw [heap_alloc, if_pos rfl]
  have m3 := hkeep hcA m2
  have C3 := C2.trans hcA
  have hRO := blk_lt19 m2
  have hOw := C2.size
  clear b2 m2 C2 hcA
  obtain ⟨w3, hw3⟩ : ∃ W, w2.alloc (.cells Z 22) = W := ⟨_, rfl⟩
  rw [hw3] at o3 m3 C3 ⊢
  clear hw3
  obtain ⟨O, hO⟩ : ∃ O, w2.heap.size = O := ⟨_, rfl⟩
  rw [hO] at o3 hRO hOw ⊢
  clear hO
  subst hZ
  have HM3 := Lib.hid m3
  have HC3 := Lib.hid C3
  clear m3 C3
  go_loopw [56] (fun i wr => ∃ k : Nat, i = .int .i64 k ∧ k ≤ 136 ∧ wr.heap[O]? = some (.cells (fillI k) 22 (0, 0)) ∧ Ch [O] w3 wr) (fun i _ => 136 - (intOf i).toNat)
  case atStart => exact ⟨0, rfl, by omega, o3, Ch.refl _ _⟩
  case round =>
    obtain ⟨k, hk, hk6, ok, cr⟩ := hrel
    subst hk
    clear o3
    by_cases hlt : k < 136
    · have hI : (k : Int) < 136 := by omega
      have HS := Lib.hid (fillI_set k hlt)
      have hFk := fillI_at k hlt
      obtain ⟨F, hF⟩ : ∃ F, fillI k = F := ⟨_, rfl⟩
      rw [hF] at ok HS hFk
      clear hF
      go_wp2
      go_roundw
      case rel => exact ⟨k + 1, by go_num, hlt, by rw [← HS.out]; simp [go_sem, ok], cr.setCell (p := ⟨O, k, none⟩) (.inl (by simp)) _⟩
      case measure => simp [intOf]; omega
    · have hk136 : k = 136 := by omega
      have hI : ¬ (k : Int) < 136 := by omega
      have ok2 : wr.heap[O]? = some (.cells (wcells (idxL 136)) 22 (0, 0)) := by rw [ok, hk136, fillI_all]
      have mr : wr.heap[R]? = some (.cells cur 22 (0, 0)) := (cr.block R (blk_lt19 HM3.out) (by simp; omega)).trans HM3.out
      have Cr := HC3.out.trans2 cr (by intro t ht; right; simp at ht; omega)
      have hcp := copy_row O B (136 - B) (twords t) (idxL 136) R c cur wr ok2 mr HE.out HT.out (by rw [idxL_len]; exact hBn) (by omega) (136 - B)
      rw [← HL.out] at hcp
      have hh := setRow_heap wr O _ (wcells (workL sl t)) 22 (0, 0) ok2
      have C9 : Ch [] w (wr.setRow O (wcells (workL sl t))) := Cr.trans2 (setRow_ch wr O _) (by intro t ht; right; simp at ht; omega)
      have HH := Lib.hid hh
      have HC := Lib.hid C9
      clear ok ok2 mr Cr hh C9 hk136
      obtain ⟨WL, hWL⟩ : ∃ W, wcells (workL sl t) = W := ⟨_, rfl⟩
      rw [hWL] at hcp HH HC
      obtain ⟨w9, hw9⟩ : ∃ W, wr.setRow O WL = W := ⟨_, rfl⟩
      rw [hw9] at hcp HH HC
      clear hw9
      go_wp2
      refine bodyPost_ret (v := .tuple #[.slice (some ⟨O, 0, none⟩) 136 136, .bool true]) (by simp [results, Tryz.results53, go_sem]) rfl ⟨O, rfl, hOw, HH.out, HC.out⟩
end Go.Proofs.Hc
/- Law 19, WriteTable: what its walk needs. -/
namespace Go.Proofs.Hc
open Go.RowKit
attribute [local go_sem] wrap_u64 wrap_u8 bits_xor64 bits_and64 bits_or64 bits_not64 bits_xor8 bits_and8 bits_or8 signed64 signed8 ofInt_N BitVec.ofInt_add BitVec.ofInt_mul ofInt_sub' ofInt8_N64 ofInt64_N8 wide8 eqN neN shr_pow shr1 shr7 shr56
attribute [local go_sem high] bits_com64 shl_wrap
attribute [local go_sem] cell_heap ice_heap cellAt_cells iceAt_cells setAt_cells rowAt_cells canLay_cells laidAt_cells size_onObj size_setCell rowRes_some layRes_true
attribute [local go_sem] load26 load73 load23 store26 build73
attribute [local go_sem ↓] lrow26 lrow73 lrow23 srow26 zero26 brow73 heap_alloc heap_drew heap_drewN heap_setCell heap_onObj
attribute [local go_sem] tcells_size hcells_size tcells_get hcells_get tcells_one hcells_one hcells_table tcells_table hcells_all hcells_ctrl tcells_ctrl
attribute [local go_sem] nn2 nm2 nn3 nm3 nn4 nm4 nn5 nm5 nn6 nm6 nn7 nm7 nn8 nm8
attribute [local go_sem] nn2 nm2 nn3 nm3 nn4 nm4 nn5 nm5 nn6 nm6 nn7 nm7 nn8 nm8
theorem clone_rows2 {l : List (BitVec 64)} {n : Nat} (h1 : 1 ≤ n) (hn : n ≤ 900000) (hl : l.length = n) (R c : Nat) (cur : Array Value) (hw : WordsAt cur l) (w : World) (hb : w.heap[R]? = some (.cells cur 22 (0, 0))) :
    Calls Tryz.prog 47 #[.slice (some ⟨R, 0, none⟩) n c] w fun e w' => ∃ r c' cur', e = .returned (.slice (some ⟨r, 0, none⟩) n c') ∧ n ≤ c' ∧ w.heap.size ≤ r ∧ WordsAt cur' l ∧ w'.heap[r]? = some (.cells cur' 22 (0, 0)) ∧ Ch [] w w' := by
  subst hl
  refine (cloneWords_any l ⟨R, 0, none⟩ c w hn (fun w' hc j u hj => ?_)).mono ?_
  · rw [List.getElem?_map] at hj
    obtain ⟨x, hx, rfl⟩ := Option.map_eq_some_iff.1 hj
    rw [Addr.add_lit, cell_heap, hkeep hc hb, Option.bind_some, cellAt_cells, Nat.zero_add]
    exact hw j x hx
  · rintro e w' ⟨a', c', rfl, ho, hC⟩
    have hle : l.length ≤ c' := by
      obtain ⟨_, ⟨hv, h0⟩ | ⟨g, cap, cur, hv, _, _, hle, _⟩⟩ := id ho
      · omega
      · simp only [Value.slice.injEq] at hv
        omega
    obtain ⟨r, c2, cur2, hv, hb2, _, hA, hW⟩ := own_row ho h1
    simp only [Value.slice.injEq] at hv
    obtain ⟨rfl, _, rfl⟩ := hv
    exact ⟨r, c', cur2, rfl, hle, hb2, hA, hW, hC⟩
theorem first_right {sl op : Int} (k a b h : BitVec 64) (s0 : 0 ≤ sl) (s1 : sl < 128) (o0 : 2 ≤ op) (o1 : op ≤ 5) : rightP (firstP sl op k a b h) = true :=
  (rightP_iff _).2 ⟨by show (0 : Int) ≤ 0; omega, by show (0 : Int) ≤ 16; omega, s0, s1, o0, o1, by show oddB 0#64 = false; decide, .inl rfl, by show (0 : Int) ≤ 0; omega, by show (0 : Int) ≤ 15; omega, by show (0 : Int) ≤ 0; omega, by show (0 : Int) ≤ 16; omega, fun e => by have e' : (0 : Int) = 2 := e; omega, .inl (by show (0 : Int) < 4; omega)⟩
theorem laidW_over {c : List (BitVec 64)} {B : Nat} (t t' : Tab) (hB : B + 40 ≤ c.length) : (laidW c B t).take B ++ (twords t' ++ (laidW c B t).drop (B + 40)) = laidW c B t' := by
  apply List.ext_getElem?
  intro i
  rw [laidW_get t' hB]
  have hl := laidW_len (c := c) t hB
  have hlt : ((laidW c B t).take B).length = B := by rw [List.length_take]; omega
  by_cases h1 : i < B
  · rw [if_neg (by omega), List.getElem?_append_left (by omega), List.getElem?_take, if_pos h1, laidW_get t hB, if_neg (by omega)]
  · rw [List.getElem?_append_right (by omega), hlt]
    by_cases h2 : i < B + 40
    · rw [if_pos (by omega), List.getElem?_append_left (by rw [twords_len]; omega), twords_get _ _ (by omega)]
    · rw [if_neg (by omega), List.getElem?_append_right (by rw [twords_len]; omega), twords_len, List.getElem?_drop, laidW_get t hB, if_neg (by omega)]
      congr 1; omega
/-- A row of words copied into another one. -/
theorem copy_row2 (O o n : Nat) (l c : List (BitVec 64)) (g cap : Nat) (cur cu2 : Array Value) (w : World) (hO : w.heap[O]? = some (.cells cu2 22 (0, 0))) (hc : WordsAt cu2 c) (hg : w.heap[g]? = some (.cells cur 22 (0, 0))) (hcur : WordsAt cur l) (hl : l.length = 40) (ho : o + 40 ≤ c.length) (hn : 40 ≤ n) (cap2 : Nat) :
    ∃ cu3 w', (Builtin.copy_ #[53, 53] 3 #[.slice (some ⟨O, o, none⟩) n cap2, .slice (some ⟨g, 0, none⟩) 40 cap]).run Tryz.prog w = .ok (goInt 40) w' ∧ w'.heap[O]? = some (.cells cu3 22 (0, 0)) ∧ WordsAt cu3 (c.take o ++ (l ++ c.drop (o + 40))) ∧ Ch [O] w w' := by
  have hlm : (l.map fun x => U x).length = 40 := by rw [List.length_map, hl]
  have hsz : c.length ≤ cu2.size := by
    rcases Nat.lt_or_ge cu2.size c.length with h | h
    · have hx := hc (c.length - 1) (c[c.length - 1]'(by omega)) (List.getElem?_eq_getElem (by omega))
      have := (Array.getElem?_eq_some_iff.1 hx).1
      omega
    · exact h
  have hcp := run_copy_row (P := Tryz.prog) w 53 53 3 22 O o n cap2 ⟨g, 0, none⟩ 40 cap cu2 22 (l.map fun x => U x) Tryz.underlying53 (by kernel_rfl) hO (by rw [hlm]; show 40 = min 40 n; omega) (by
    intro j v hj
    rw [List.getElem?_map] at hj
    obtain ⟨x, hx, rfl⟩ := Option.map_eq_some_iff.1 hj
    rw [Addr.add_lit, cell_heap, hg, Option.bind_some, cellAt_cells, Nat.zero_add]
    exact hcur j x hx) (by rw [hlm]; omega) (words_one l)
  rw [hlm] at hcp
  refine ⟨_, _, hcp, setRow_heap w O _ _ 22 (0, 0) hO, ?_, setRow_ch w O _⟩
  intro j x hj
  have htl : (cu2.toList.take o).length = o := by rw [List.length_take, Array.length_toList]; omega
  have hcl : (c.take o).length = o := by rw [List.length_take]; omega
  rw [List.getElem?_toArray, List.append_assoc]
  by_cases h1 : j < o
  · rw [List.getElem?_append_left (by omega), List.getElem?_take, if_pos h1] at hj ⊢
    rw [Array.getElem?_toList]
    exact hc j x hj
  · rw [List.getElem?_append_right (by omega), hcl] at hj
    rw [List.getElem?_append_right (by omega), htl]
    by_cases h2 : j - o < 40
    · rw [List.getElem?_append_left (by omega)] at hj
      rw [List.getElem?_append_left (by omega), List.getElem?_map, hj]; rfl
    · rw [List.getElem?_append_right (by omega), hl, List.getElem?_drop] at hj
      rw [List.getElem?_append_right (by omega), hlm, List.getElem?_drop, Array.getElem?_toList]
      exact hc _ x hj
theorem words_set {cur : Array Value} {l : List (BitVec 64)} (h : WordsAt cur l) (i : Nat) (x : BitVec 64) : WordsAt (cur.setIfInBounds i (U x)) (l.set i x) := by
  intro j y hj
  rw [List.getElem?_set] at hj
  rw [Array.getElem?_setIfInBounds]
  by_cases he : i = j
  · subst he
    rw [if_pos rfl] at hj ⊢
    split at hj
    · rename_i hlt
      have hx := h i (l[i]'hlt) (List.getElem?_eq_getElem hlt)
      rw [if_pos (Array.getElem?_eq_some_iff.1 hx).1]
      cases hj; rfl
    · cases hj
  · rw [if_neg he] at hj ⊢
    exact h j y hj
theorem tset_count (t : Tab) (x : BitVec 64) : (tcells t).setIfInBounds 0 (U x) = tcells { t with count := x } := by
  apply Array.ext_getElem?
  intro i
  rw [Array.getElem?_setIfInBounds, tcells_get, tcells_get, tcells_size]
  by_cases h : 0 = i
  · subst h; rfl
  · rw [if_neg h]
    match i, h with
    | 0, h => exact absurd rfl h
    | 1, _ => rfl
    | 2, _ => rfl
    | 3, _ => rfl
    | 4, _ => rfl
    | 5, _ => rfl
    | 6, _ => rfl
    | i + 7, _ => rfl
theorem tab_put (q : Tab) (w : World) : (World.onObj (w.alloc (.cells (tcells zeroT) 26)) w.heap.size (laidAt 0 (tcells q))).heap[w.heap.size]? = some (.cells (tcells q) 26 (0, 0)) := by
  rw [heap_onObj, if_pos rfl, heap_alloc, if_pos rfl, Option.map_some, laidAt_t]
theorem tab_put_ch (q : Tab) (w : World) : Ch [] w (World.onObj (w.alloc (.cells (tcells zeroT) 26)) w.heap.size (laidAt 0 (tcells q))) := ((Ch.refl [] w).alloc _).onObj (.inr (Nat.le_refl _)) _
theorem put_hit {n : Tab} {s k v : BitVec 64} {sl : Nat} (m : May n s) (h : placeT n s k = .ok sl) (w : World) : Calls Tryz.prog 24 #[U s, .agg (tcells n), U k, U v] w fun e w' => e = .returned (.tuple #[.agg (tcells (fillT n s k v sl)), I sl, I 0]) ∧ Ch [] w w' := by
  have := Put_any n s k v w
  rw [ifMay, if_pos ((may_iff n s).2 m), putA, h] at this
  exact this
theorem put_full {n : Tab} {s k v : BitVec 64} {e : Int} (m : May n s) (h : placeT n s k = .error e) (w : World) : Calls Tryz.prog 24 #[U s, .agg (tcells n), U k, U v] w fun e' w' => e' = .returned (.tuple #[.agg (tcells zeroT), I 0, I e]) ∧ Ch [] w w' := by
  have := Put_any n s k v w
  rw [ifMay, if_pos ((may_iff n s).2 m), putA, h] at this
  exact this
end Go.Proofs.Hc
