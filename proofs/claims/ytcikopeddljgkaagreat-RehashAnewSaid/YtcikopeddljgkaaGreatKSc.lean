/- slices.Equal at parts of rows of words that are the same. -/
import Derived.Test.YtcikopeddljgkaaGreatKHcb
import Derived.Test.YtcikopeddljgkaaGreatKHdb
import Derived.Test.YtcikopeddljgkaaGreatKSb
import Derived.Test.YtcikopeddljgkaaGreatKHdn
import Derived.Test.YtcikopeddljgkaaGreatKHma
import Derived.Test.YtcikopeddljgkaaGreatKHmet
import Derived.Test.YtcikopeddljgkaaGreatKHpa
import Derived.Test.YtcikopeddljgkaaGreatKHpb
import Derived.Test.YtcikopeddljgkaaGreatKHr
import Derived.Test.YtcikopeddljgkaaGreatKHs
import Derived.Test.YtcikopeddljgkaaGreatKHta
import Derived.Test.YtcikopeddljgkaaGreatKHtc
import Derived.Test.YtcikopeddljgkaaGreatKHtd
import Derived.Test.YtcikopeddljgkaaGreatKRn
import Derived.Test.YtcikopeddljgkaaGreatKHtj
import Derived.Test.YtcikopeddljgkaaGreatKHtr2
import Derived.Test.YtcikopeddljgkaaGreatKHtv
import Derived.Test.YtcikopeddljgkaaGreatKHtw
import Derived.Test.YtcikopeddljgkaaGreatKHye
import Derived.Test.YtcikopeddljgkaaGreatKRb
import Derived.Test.YtcikopeddljgkaaGreatKRg
import Derived.Test.YtcikopeddljgkaaGreatKRu
import Derived.Test.YtcikopeddljgkaaGreatKRv
import Derived.Below
import Derived.BigQuiet
import Derived.Deep.Draws
import Derived.Deep.Light
import Derived.Deep.QuietTactic
import Derived.Deep.RegionHeld
import Derived.Deep.Slices
import Derived.Laws.CopyRow
import Derived.Laws.StructEq
import Derived.Laws.Tables
import Derived.Lib.AppendZerosOnto
import Derived.Lib.Hide
import Derived.Lib.Tables
import Derived.Lib.Walk
import Derived.LoopIn
import Derived.LoopN
import Derived.LoopNIn
import Derived.Maps.AppendAt
import Derived.Maps.Views
import Derived.OpenShut
import Derived.OwnWalkIn
import Derived.ProofKit
import Derived.RangeFuncBox
import Derived.RangeFuncCalls
import Derived.RangeFuncRecord
import Derived.RangeFuncSeq
import Derived.Recover
import Derived.RegionTactic
import Derived.Shelf.Slices.Clone
import Derived.StillTail
import Derived.StillTailTactics
import Derived.TacticsInMore
import Derived.Test.YtcikopeddljgkaaGreatProg
import Derived.WalkKit
import Derived.WalkLawsBesides
import Derived.WalkMore
import Derived.WalkSpells
import Derived.Deep.OwnRows
import Derived.IntWalk
import Derived.Laws.AppendOwn
import Derived.Laws.CopyOwn
import Derived.Laws.EntriesVeiled
import Derived.ScopeJumps
import Derived.ChangeKeysEq
set_option linter.unusedSimpArgs false
set_option linter.unusedVariables false
namespace Go.Proofs.Hc
open Go.RowKit
attribute [local go_sem] wrap_u64 wrap_u8 bits_xor64 bits_and64 bits_or64 bits_not64 bits_xor8 bits_and8 bits_or8 signed64 signed8 ofInt_N BitVec.ofInt_add BitVec.ofInt_mul ofInt_sub' ofInt8_N64 ofInt64_N8 wide8 eqN neN shr_pow shr1 shr7 shr56
attribute [local go_sem high] bits_com64 shl_wrap
attribute [local go_sem] cell_heap ice_heap cellAt_cells iceAt_cells setAt_cells rowAt_cells canLay_cells laidAt_cells size_onObj size_setCell rowRes_some layRes_true
attribute [local go_sem] load26 load73 load23 store26 build73
attribute [local go_sem ↓] lrow26 lrow73 lrow23 srow26 zero26 brow73 heap_alloc heap_drew heap_drewN heap_setCell heap_onObj
attribute [local go_sem] tcells_size hcells_size tcells_get hcells_get tcells_one hcells_one hcells_table tcells_table hcells_all hcells_ctrl tcells_ctrl
attribute [local go_sem] nn2 nm2 nn3 nm3 nn4 nm4 nn5 nm5 nn6 nm6 nn7 nm7 nn8 nm8
attribute [local go_sem] nn2 nm2 nn3 nm3 nn4 nm4 nn5 nm5 nn6 nm6 nn7 nm7 nn8 nm8
attribute [local go_sem] Oper.semAt_some make_func1
def WordsO (cur : Array Value) (o : Nat) (l : List (BitVec 64)) : Prop := ∀ (j : Nat) (x : BitVec 64), l[j]? = some x → cur[o + j]? = some (U x)
set_option maxHeartbeats 1000000 in
set_option maxRecDepth 100000 in
theorem eqWords0_any (a b : Option Addr) (c d : Nat) (w : World) : Calls Tryz.prog 31 #[.slice a 0 c, .slice b 0 d] w fun e w' => e = .returned (.bool true) ∧ Ch [] w w' := by
  go_enter Tryz.func31, Tryz.ntmps31
  go_wp2
  go_loopw [13] (fun i wr => ∃ j : Nat, i = .int .i64 j ∧ j ≤ 0 ∧ Ch [] w wr) (fun i _ => 0 - (intOf i).toNat)
  case atStart => exact ⟨0, rfl, Nat.zero_le _, Ch.refl _ _⟩
  case round =>
    obtain ⟨j, hj, hjl, hcr⟩ := hrel
    subst hj
    obtain rfl : j = 0 := by omega
    go_wp2
    go_ret
    exact ⟨rfl, hcr⟩
set_option maxHeartbeats 1000000 in
set_option maxRecDepth 100000 in
theorem eqWordsO_any (l : List (BitVec 64)) (oa ob : Nat) (a b : Option Addr) (c d : Nat) (cur cur2 : Array Value) (w : World) (hl : l.length ≤ 900000)
    (hpa : WordsO cur oa l) (ha : 0 < l.length → ∃ r, a = some ⟨r, oa, none⟩) (hr : ∀ r, a = some ⟨r, oa, none⟩ → w.heap[r]? = some (.cells cur 22 (0, 0)))
    (hpb : WordsO cur2 ob l) (hb : 0 < l.length → ∃ r, b = some ⟨r, ob, none⟩) (hs : ∀ r, b = some ⟨r, ob, none⟩ → w.heap[r]? = some (.cells cur2 22 (0, 0))) :
    Calls Tryz.prog 31 #[.slice a l.length c, .slice b l.length d] w fun e w' => e = .returned (.bool true) ∧ Ch [] w w' := by
  have HP := Lib.hid hpa
  have HA := Lib.hid ha
  have HR := Lib.hid hr
  have HPB := Lib.hid hpb
  have HAB := Lib.hid hb
  have HRB := Lib.hid hs
  clear hpa ha hr hpb hb hs
  go_enter Tryz.func31, Tryz.ntmps31
  go_wp2
  go_loopw [13] (fun i wr => ∃ j : Nat, i = .int .i64 j ∧ j ≤ l.length ∧ Ch [] w wr) (fun i _ => l.length - (intOf i).toNat)
  case atStart => exact ⟨0, rfl, Nat.zero_le _, Ch.refl _ _⟩
  case round =>
    obtain ⟨j, hj, hjl, hcr⟩ := hrel
    subst hj
    rcases Nat.lt_or_ge j l.length with hlt | hge
    · obtain ⟨r, hra⟩ := HA.out (by omega)
      obtain ⟨q, hqb⟩ := HAB.out (by omega)
      obtain ⟨y, hy⟩ : ∃ y, l[j]? = some y := ⟨l[j]'hlt, List.getElem?_eq_getElem hlt⟩
      have hrow : cur[oa + j]? = some (U y) := HP.out j y hy
      have hrow2 : cur2[ob + j]? = some (U y) := HPB.out j y hy
      subst hra hqb
      have hrr : wr.heap[r]? = some (.cells cur 22 (0, 0)) := hkeep hcr (HR.out r rfl)
      have hqq : wr.heap[q]? = some (.cells cur2 22 (0, 0)) := hkeep hcr (HRB.out q rfl)
      have hdec : decide (j < l.length) = true := by simpa using hlt
      have hg0 : ∀ g : Gar wr, (g.1).heap[q]? = some (.cells cur2 22 (0, 0)) := fun g => hkeep g.2 hqq
      have hg1 : ∀ g : Gar wr, (g.1).heap[r]? = some (.cells cur 22 (0, 0)) := fun g => hkeep g.2 hrr
      clear hy
      go_wp2
      refine wp_region_gar (by kernel_rfl) (by kernel_rfl) ?_
      repeat (go_big_quiet_step (fail))
      refine wpQuiet_nil ?_
      rintro w1 ⟨g1, hw1⟩
      have hc1 : Ch [] w w1 := hcr.trans (by rw [hw1]; exact g1.2)
      clear hw1 g1 hg0 hg1
      go_wp2
      go_roundw
      case rel => exact ⟨j + 1, by go_num, hlt, hc1⟩
      case measure => simp [intOf]; omega
    · have hj : j = l.length := by omega
      subst hj
      go_wp2
      go_ret
      exact ⟨rfl, hcr⟩
end Go.Proofs.Hc
/- Law 20: cells. -/
namespace Go.Proofs.Hc
open Go.RowKit
set_option linter.unusedVariables false
attribute [local go_sem] wrap_u64 wrap_u8 bits_xor64 bits_and64 bits_or64 bits_not64 bits_xor8 bits_and8 bits_or8 signed64 signed8 ofInt_N BitVec.ofInt_add BitVec.ofInt_mul ofInt_sub' ofInt8_N64 ofInt64_N8 wide8 eqN neN shr_pow shr1 shr7 shr56
attribute [local go_sem high] bits_com64 shl_wrap
attribute [local go_sem] cell_heap ice_heap cellAt_cells iceAt_cells setAt_cells rowAt_cells canLay_cells laidAt_cells size_onObj size_setCell rowRes_some layRes_true
attribute [local go_sem] load26 load73 load23 store26 build73
attribute [local go_sem ↓] lrow26 lrow73 lrow23 srow26 zero26 brow73 heap_alloc heap_drew heap_drewN heap_setCell heap_onObj
attribute [local go_sem] tcells_size hcells_size tcells_get hcells_get tcells_one hcells_one hcells_table tcells_table hcells_all hcells_ctrl tcells_ctrl
attribute [local go_sem] nn2 nm2 nn3 nm3 nn4 nm4 nn5 nm5 nn6 nm6 nn7 nm7 nn8 nm8
attribute [local go_sem] nn2 nm2 nn3 nm3 nn4 nm4 nn5 nm5 nn6 nm6 nn7 nm7 nn8 nm8
attribute [local go_sem] box26 tcells_idx cell0 cell1 cell2 cell3 cell4 hcells_idx hcells_pop
/-- Cells that have a table's words in slab 0. -/
def cells20 (t : Tab) : List (BitVec 64) := List.replicate 16 0#64 ++ twords t
theorem cells20_len (t : Tab) : (cells20 t).length = 56 := by unfold cells20; rw [List.length_append, List.length_replicate, twords_len]
theorem cells20_get (t : Tab) (i : Nat) (h : i < 40) : (cells20 t)[16 + i]? = some (tword t i) := by
  unfold cells20
  rw [List.getElem?_append_right (by rw [List.length_replicate]; omega), List.length_replicate, show 16 + i - 16 = i by omega, twords_get t i h]
theorem made16 : (madeCells #[.int .u64 0] 16).toList.take (16 * 1) = List.replicate 16 (U 0#64) := by
  rw [zeros_cells, wcells_list, List.take_of_length_le (by simp), List.map_replicate]
attribute [local irreducible] tcells
theorem cells20_bad (t : Tab) (hf : flatT t = false) (w : World) : Calls Tryz.prog 33 #[.agg (tcells t)] w fun e w' => e = .returned (.slice none 0 0) ∧ Ch [] w w' := by
  have W1 := fun w => words_bad t hf w
  have C0 : Ch [] w (w.alloc (.cells (tcells t) 26)) := (Ch.refl [] w).alloc _
  clear hf
  go_enter Tryz.func33, Tryz.ntmps33
  go_wp2_with fail
  refine (W1 _).mono ?_
  rintro e w1 ⟨rfl, hc1⟩
  go_wp2
  go_ret
  exact ⟨rfl, C0.trans hc1⟩
set_option maxHeartbeats 1000000 in
set_option maxRecDepth 100000 in
theorem cells20_ok (t : Tab) (hf : flatT t = true) (w : World) : Calls Tryz.prog 33 #[.agg (tcells t)] w fun e w' => ∃ v, e = .returned v ∧ w'.ownsRow w.heap.size 22 1 v 56 ((cells20 t).map fun x => U x) ∧ Ch [] w w' := by
  obtain ⟨i0, hi, hz0, hz1, hz2⟩ := info_parts infoU
  have W1 := fun w => words_row2 t hf w
  have hm : ∀ w, (Instr.makeSlice 44 (.int .i64 16) (.int .i64 16)).run Tryz.prog w = .ok (.slice (some ⟨w.heap.size, 0, none⟩) 16 16) (w.alloc (.cells (madeCells #[.int .u64 0] 16) 22)) := fun w => run_make_row' (P := Tryz.prog) 44 22 (.int .u64 0) 8 Tryz.underlying44 infoU rfl .i64 .i64 16 (by omega) (by omega) w
  have HL := Lib.hid (show (cells20 t).map (fun x => U x) = (List.replicate 16 (U 0#64)) ++ (twords t).map (fun x => U x) by unfold cells20; rw [List.map_append, List.map_replicate])
  have htl : ((twords t).map (fun x => U x)).length = 40 := by rw [List.length_map, twords_len]
  have C0 : Ch [] w (w.alloc (.cells (tcells t) 26)) := (Ch.refl [] w).alloc _
  obtain ⟨xs, hxs⟩ : ∃ xs, twords t = xs := ⟨_, rfl⟩
  rw [hxs] at W1 HL htl
  obtain ⟨ys, hys⟩ : ∃ ys, (cells20 t).map (fun x => U x) = ys := ⟨_, rfl⟩
  rw [hys] at HL ⊢
  clear hf hxs hys
  go_enter Tryz.func33, Tryz.ntmps33
  go_wp2_with fail
  refine (W1 _).mono ?_
  rintro e w1 ⟨R, c, cur, rfl, hRw, hcur, hc40, hR, hc1⟩
  have C1 := C0.trans hc1
  have HC := Lib.hid hcur
  have hRn : ¬ R = w1.heap.size := by have := blk_lt19 hR; omega
  clear hc1 C0 W1 hcur
  have h0 : (w1.alloc (.cells (madeCells #[.int .u64 0] 16) 22)).ownsRow w.heap.size 22 1 (.slice (some ⟨w1.heap.size, 0, none⟩) 16 16) 16 (List.replicate 16 (U 0#64)) :=
    ⟨by simp, .inr ⟨w1.heap.size, 16, _, rfl, C1.size, by rw [heap_alloc, if_pos rfl], by omega, by unfold maxLen; omega, by rw [size_madeCells], made16⟩⟩
  have hR1 : (w1.alloc (.cells (madeCells #[.int .u64 0] 16) 22)).heap[R]? = some (.cells cur 22 (0, 0)) := by rw [heap_alloc, if_neg hRn]; exact hR
  have C2 : Ch [] w (w1.alloc (.cells (madeCells #[.int .u64 0] 16) 22)) := C1.alloc _
  have hce : ∀ j u, (xs.map fun x => U x)[j]? = some u → (w1.alloc (.cells (madeCells #[.int .u64 0] 16) 22)).cell? ((⟨R, 0, none⟩ : Addr).add j) = some u := fun j u hj => by
    rw [List.getElem?_map] at hj
    obtain ⟨y, hy, rfl⟩ := Option.map_eq_some_iff.1 hj
    rw [Addr.add_lit, cell_heap, hR1, Option.bind_some, cellAt_cells, Nat.zero_add]
    exact HC.out j y hy
  have C3 : Ch [] w1 (w1.alloc (.cells (madeCells #[.int .u64 0] 16) 22)) := (Ch.refl [] w1).alloc _
  have hsz1 : w.heap.size ≤ w1.heap.size := C1.size
  obtain ⟨W2, hW2⟩ : ∃ W, w1.alloc (.cells (madeCells #[.int .u64 0] 16) 22) = W := ⟨_, rfl⟩
  rw [hW2] at h0 hR1 C2 hce
  have hsW := C2.size
  have hm1 := hm w1
  rw [hW2] at hm1
  clear hm C3
  obtain ⟨v', w2, hrun, hown, hgr, _⟩ := run_append_own (P := Tryz.prog) W2 w.heap.size 44 44 22 i0 (U 0#64) 1 8 Tryz.underlying44 hi hz0 hz1 hz2 rfl (by decide) _ 16 _ h0 ⟨R, 0, none⟩ 40 c (xs.map fun x => U x) (by rw [htl]) hce (words_one xs) (by unfold maxLen; omega) (by omega) (by omega)
  have hc2 : Ch [] w w2 := C2.trans2 (Ch.of_grown (S := [w1.heap.size]) hgr (fun k hk => by simp [Value.ownBlock] at hk; simp [hk])) (by simp; omega)
  have HO := Lib.hid hown
  have HC2 := Lib.hid hc2
  clear hown hgr hc2 h0 hce hR1 C2 C1 HC hR hRn
  go_wp2_with (at_builtin; refine Lib.wpList_append_run _ rfl _ _ 44 44 rfl _ _ rfl rfl _ _ hrun ?_)
  go_ret
  exact ⟨v', rfl, by rw [HL.out]; exact HO.out, HC2.out⟩
end Go.Proofs.Hc
/- Law 20: the tables that the first look makes. Plain. -/
namespace Go.Proofs.Hc
open Go.RowKit
def ra0 : Tab := bareT 0#64 0 0#64
def ra1 : Tab := fillT ra0 0#64 1#64 10#64 0
def ra2 : Tab := fillT ra1 0#64 2#64 20#64 8
def ra3 : Tab := dropT ra2 0
def ra6 : Tab := normT { ra3 with count := 6#64 }
def ra7 : Tab := normT { ra3 with count := 7#64 }
theorem ra_new : newE 0 0#64 = .ok ra0 := by rw [newE, if_neg (by decide)]; rfl
theorem ra_may0 : mayT ra0 0#64 = true := by decide +kernel
theorem ra_place1 : placeT ra0 0#64 1#64 = .ok 0 := by kernel_rfl
theorem ra_place2 : placeT ra1 0#64 2#64 = .ok 8 := by kernel_rfl
theorem ra_puts : laidT 0#64 ra0 [(1#64, 10#64), (2#64, 20#64)] = .ok ra2 := by
  have e1 : fillT ra0 0#64 1#64 10#64 0 = ra1 := by rw [ra1]
  have e2 : fillT ra1 0#64 2#64 20#64 8 = ra2 := by rw [ra2]
  rw [laidT_ok (p := (1#64, 10#64)) ra_place1, e1, laidT_ok (p := (2#64, 20#64)) ra_place2, e2, laidT_nil]
theorem ra_may2 : mayT ra2 0#64 = true := by decide +kernel
theorem ra_found : (foundE ra2 0#64 1#64).map (fun y => y.1) = .ok 0 := by kernel_rfl
theorem ra_drop : dropE ra2 0#64 1#64 = .ok ⟨ra3, 0, 0⟩ := by
  have h := ra_found
  unfold dropE
  cases hf : foundE ra2 0#64 1#64 with
  | error e => rw [hf] at h; cases h
  | ok y =>
    rw [hf] at h
    obtain ⟨a, b⟩ := y
    have h : a = 0 := by injection h
    subst h
    have e : dropT ra2 0 = ra3 := by rw [ra3]
    show Except.ok (At.mk (dropT ra2 0) ((0 : Nat) : Int) 0) = _
    rw [e]
    rfl
theorem ra_flat6 : flatT ra6 = true := by decide +kernel
theorem ra_flat7 : flatT ra7 = true := by decide +kernel
theorem ra_may6 : mayT ra6 0#64 = true := by decide +kernel
theorem ra_zero : mayT zeroT 0#64 = false := by decide +kernel
def ra8 : Tab := okOr (anewT ra6 0#64)
theorem ra_anew : anewT ra6 0#64 = .ok ra8 := by
  obtain ⟨x, hx⟩ := anew_ok ((may_iff _ _).1 ra_may6)
  have hx' : anewT ra6 0#64 = .ok x := by unfold anewT; exact hx.eq
  unfold ra8
  rw [hx', okOr_ok]
def ra9 : Tab := normT { ra8 with count := 8#64 }
theorem ra_may9 : mayT ra9 0#64 = true := by decide +kernel
theorem ra_pairs9 : pairsT ra9 = [(2#64, 20#64)] := by decide +kernel
theorem ra_flat8 : flatT { ra8 with count := 8#64 } = true := by decide +kernel
theorem ra_run6 : RunsL (cells20 ra6) (firstL 0 0 0#64) 81 (laidW (cells20 ra6) 16 { ra8 with count := 8#64 }) ⟨5, 0, 0, 0#64, 6#64, 40, tword ra8, false⟩ :=
  rehash_good (t := ra6) (by decide) (by decide) (by rw [cells20_len]; omega) ra_flat6 (normT_norm _) (fun i h => cells20_get ra6 i h) (by decide +kernel) ra_may6 ra_anew
theorem ra_run7 : RunsL (cells20 ra7) (firstL 0 0 0#64) 1 (cells20 ra7) ⟨6, 0, 0, 0#64, 0#64, 0, fun _ => 0#64, false⟩ :=
  rehash_odd (t := ra7) (by decide) (by decide) (cells20_get ra7 0 (by omega)) (by decide +kernel)
theorem ra_cellsz : cells20 zeroT = List.replicate 56 0#64 := by decide +kernel
theorem ra_normz : NormT zeroT := ⟨fun _ _ => rfl, fun _ _ => rfl, fun _ _ => rfl⟩
theorem ra_runz : RunsL (List.replicate 56 0#64) (firstL 0 0 0#64) 42 ((List.replicate 56 0#64).set 16 2#64) ⟨5, 0, 0, 0#64, 0#64, 40, tword zeroT, true⟩ := by
  rw [← ra_cellsz]
  exact rehash_bad (t := zeroT) (by decide) (by decide) (by rw [cells20_len]; omega) (by decide +kernel) ra_normz (fun i h => cells20_get zeroT i h) (by decide +kernel) ra_zero
end Go.Proofs.Hc
/- Law 20, RehashAnew: what a run leaves in cells with more behind them; parts of rows that are the same. -/
namespace Go.Proofs.Hc
open Go.RowKit
def long20 (t : Tab) (M : List (BitVec 64)) : List (BitVec 64) := cells20 t ++ M
theorem long20_len (t : Tab) (M : List (BitVec 64)) : (long20 t M).length = 56 + M.length := by unfold long20; rw [List.length_append, cells20_len]
theorem long20_get (t : Tab) (M : List (BitVec 64)) (i : Nat) (h : i < 40) : (long20 t M)[16 + i]? = some (tword t i) := by
  unfold long20
  rw [List.getElem?_append_left (by rw [cells20_len]; omega)]
  exact cells20_get t i h
theorem long20_16 (t : Tab) (M : List (BitVec 64)) : (long20 t M)[16]? = some t.count := long20_get t M 0 (by omega)
theorem long_odd (t : Tab) (M : List (BitVec 64)) (s : BitVec 64) (hc : oddB t.count = true) : ∃ p', RunsL (long20 t M) (firstL 0 0 s) 1 (long20 t M) p' :=
  ⟨_, rehash_odd (t := t) (by omega) (by omega) (long20_16 t M) hc⟩
theorem long_bad (t : Tab) (M : List (BitVec 64)) (s : BitVec 64) (hn : NormT t) (hf : flatT t = true) (hc : oddB t.count = false) (hm : mayT t s = false) : ∃ p', RunsL (long20 t M) (firstL 0 0 s) 42 ((long20 t M).set 16 (t.count + 2#64)) p' :=
  ⟨_, rehash_bad (by omega) (by omega) (by rw [long20_len]; omega) hf hn (long20_get t M) hc hm⟩
theorem long_good (t x : Tab) (M : List (BitVec 64)) (s : BitVec 64) (hn : NormT t) (hf : flatT t = true) (hc : oddB t.count = false) (hm : mayT t s = true) (hx : anewT t s = .ok x) : ∃ p', RunsL (long20 t M) (firstL 0 0 s) 81 (laidW (long20 t M) 16 { x with count := t.count + 2#64 }) p' :=
  ⟨_, rehash_good (by omega) (by omega) (by rw [long20_len]; omega) hf hn (long20_get t M) hc hm hx⟩
theorem partw_len {L : List (BitVec 64)} {o k : Nat} (h : o + k ≤ L.length) : ((L.drop o).take k).length = k := by
  rw [List.length_take, List.length_drop]; omega
theorem partw_of {cur : Array Value} {n L : List (BitVec 64)} (o k : Nat) (hw : WordsAt cur n) (h : ∀ j, o ≤ j → j < o + k → n[j]? = L[j]?) : WordsO cur o ((L.drop o).take k) := by
  intro j x hj
  rw [List.getElem?_take] at hj
  split at hj
  · rename_i hk
    rw [List.getElem?_drop] at hj
    exact hw (o + j) x (by rw [h (o + j) (by omega) (by omega)]; exact hj)
  · cases hj
theorem eq_parts (n L : List (BitVec 64)) (o k Q R c d : Nat) (curn curL : Array Value) (w : World) (hk : o + k ≤ L.length) (hl : L.length ≤ 900000) (hn : WordsAt curn n) (hL : WordsAt curL L) (h : ∀ j, o ≤ j → j < o + k → n[j]? = L[j]?)
    (hq : w.heap[Q]? = some (.cells curn 22 (0, 0))) (hr : w.heap[R]? = some (.cells curL 22 (0, 0))) :
    Calls Tryz.prog 31 #[.slice (some ⟨Q, o, none⟩) k c, .slice (some ⟨R, o, none⟩) k d] w fun e w' => e = .returned (.bool true) ∧ Ch [] w w' := by
  have := eqWordsO_any ((L.drop o).take k) o o (some ⟨Q, o, none⟩) (some ⟨R, o, none⟩) c d curn curL w (by rw [partw_len hk]; omega) (partw_of o k hn h) (fun _ => ⟨Q, rfl⟩) (fun r e => by cases e; exact hq) (partw_of o k hL (fun _ _ _ => rfl)) (fun _ => ⟨R, rfl⟩) (fun r e => by cases e; exact hr)
  rw [partw_len hk] at this
  exact this
theorem eq_noparts (a b : Option Addr) (c d : Nat) (w : World) : Calls Tryz.prog 31 #[.slice a 0 c, .slice b 0 d] w fun e w' => e = .returned (.bool true) ∧ Ch [] w w' := by
  have h0 : ∀ (x y : Option Addr), Calls Tryz.prog 31 #[.slice x 0 c, .slice y 0 d] w fun e w' => e = .returned (.bool true) ∧ Ch [] w w' := fun x y =>
    eqWords0_any x y c d w
  exact h0 a b
end Go.Proofs.Hc
