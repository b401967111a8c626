/- Parts of the proof. -/
import Derived.Test.YtcikopeddljgkaaGreatKHdn
import Derived.Test.YtcikopeddljgkaaGreatKHut
import Derived.Test.YtcikopeddljgkaaGreatKHh
import Derived.Test.YtcikopeddljgkaaGreatKHma
import Derived.Test.YtcikopeddljgkaaGreatKHmet
import Derived.Test.YtcikopeddljgkaaGreatKHpb
import Derived.Test.YtcikopeddljgkaaGreatKHr
import Derived.Test.YtcikopeddljgkaaGreatKHcz
import Derived.Test.YtcikopeddljgkaaGreatKHtm
import Derived.Test.YtcikopeddljgkaaGreatKRc
import Derived.Test.YtcikopeddljgkaaGreatKHtr2
import Derived.Test.YtcikopeddljgkaaGreatKHtv
import Derived.Test.YtcikopeddljgkaaGreatKHnac
import Derived.Test.YtcikopeddljgkaaGreatKHyf
import Derived.Test.YtcikopeddljgkaaGreatKRg
import Derived.Test.YtcikopeddljgkaaGreatKRh
import Derived.Test.YtcikopeddljgkaaGreatKRk
import Derived.Test.YtcikopeddljgkaaGreatKRo
import Derived.Test.YtcikopeddljgkaaGreatKRp
import Derived.Test.YtcikopeddljgkaaGreatKRx
import Derived.Test.YtcikopeddljgkaaGreatKRz0
import Derived.Below
import Derived.BigQuiet
import Derived.Deep.Draws
import Derived.Deep.Light
import Derived.Deep.OwnRows
import Derived.Deep.QuietTactic
import Derived.Deep.RegionHeld
import Derived.IntWalk
import Derived.Laws.AppendOwn
import Derived.Laws.CopyOwn
import Derived.Laws.CopyRow
import Derived.Laws.EntriesVeiled
import Derived.Laws.StructEq
import Derived.Laws.Tables
import Derived.Lib.AppendZerosOnto
import Derived.Lib.Hide
import Derived.Lib.Tables
import Derived.Lib.Walk
import Derived.LoopIn
import Derived.LoopN
import Derived.LoopNIn
import Derived.Maps.AppendAt
import Derived.Maps.Views
import Derived.OpenShut
import Derived.OwnWalkIn
import Derived.ProofKit
import Derived.RangeFuncBox
import Derived.RangeFuncCalls
import Derived.RangeFuncRecord
import Derived.RangeFuncSeq
import Derived.Recover
import Derived.RegionTactic
import Derived.ScopeJumps
import Derived.Shelf.Slices.Clone
import Derived.StillTail
import Derived.StillTailTactics
import Derived.TacticsInMore
import Derived.Test.YtcikopeddljgkaaGreatProg
import Derived.WalkKit
import Derived.WalkLawsBesides
import Derived.WalkMore
import Derived.WalkSpells
import Derived.Test.YtcikopeddljgkaaGreatKHj
import Derived.Test.YtcikopeddljgkaaGreatKHnw
import Derived.Test.YtcikopeddljgkaaGreatKHpa
import Derived.Test.YtcikopeddljgkaaGreatKHde
import Derived.Test.YtcikopeddljgkaaGreatKRs
import Derived.ChangeKeysEq
import Derived.Deep.Slices
set_option linter.unusedSimpArgs false
set_option linter.unusedVariables false
namespace Go.Proofs.Hc
open Go.RowKit
set_option linter.unusedVariables false
attribute [local go_sem] wrap_u64 wrap_u8 bits_xor64 bits_and64 bits_or64 bits_not64 bits_xor8 bits_and8 bits_or8 signed64 signed8 ofInt_N BitVec.ofInt_add BitVec.ofInt_mul ofInt_sub' ofInt8_N64 ofInt64_N8 wide8 eqN neN shr_pow shr1 shr7 shr56
attribute [local go_sem high] bits_com64 shl_wrap
attribute [local go_sem] cell_heap ice_heap cellAt_cells iceAt_cells setAt_cells rowAt_cells canLay_cells laidAt_cells size_onObj size_setCell rowRes_some layRes_true
attribute [local go_sem] load26 load73 load23 store26 build73
attribute [local go_sem ↓] lrow26 lrow73 lrow23 srow26 zero26 brow73 heap_alloc heap_drew heap_drewN heap_setCell heap_onObj
attribute [local go_sem] tcells_size hcells_size tcells_get hcells_get tcells_one hcells_one hcells_table tcells_table hcells_all hcells_ctrl tcells_ctrl
attribute [local go_sem] nn2 nm2 nn3 nm3 nn4 nm4 nn5 nm5 nn6 nm6 nn7 nm7 nn8 nm8
attribute [local go_sem] nn2 nm2 nn3 nm3 nn4 nm4 nn5 nm5 nn6 nm6 nn7 nm7 nn8 nm8
attribute [local go_sem] box26 tcells_idx cell0 cell1 cell2 cell3 cell4 hcells_idx hcells_pop
attribute [local go_sem high] laidAt_t
theorem tsetc (t : Tab) (x : BitVec 64) : (tcells t).setIfInBounds 0 (U x) = tcells { t with count := x } := by
  apply Array.ext_getElem?; intro i
  rw [Array.getElem?_setIfInBounds, tcells_get, tcells_get, tcells_size]
  by_cases h : 0 = i
  · subst h; rfl
  · rw [if_neg h]
    match i, h with
    | 0, h => exact absurd rfl h
    | 1, _ => rfl
    | 2, _ => rfl
    | 3, _ => rfl
    | 4, _ => rfl
    | 5, _ => rfl
    | 6, _ => rfl
    | i + 7, _ => rfl
/-- A run on cells that hold a table, as a caller wants it. -/
theorem run56 (l l' : List (BitVec 64)) (p' : LayT) (k : Nat) (hlen : l.length = 56) (hrun : RunsL l (firstL 0 0 0#64) k l' p') (hk : k ≤ 100) (g c : Nat) (cur : Array Value) (w : World) (hb : w.heap[g]? = some (.cells cur 22 (0, 0))) (hw : WordsAt cur l) :
    Calls Tryz.prog 34 #[.slice (some ⟨g, 0, none⟩) 56 c, .int .i64 0, .int .u64 0] w fun e w' => ∃ Q, e = .returned (.tuple #[.slice (some ⟨Q, 0, none⟩) 56 56, I (k : Nat), I 0]) ∧ w.heap.size ≤ Q ∧ w'.heap[Q]? = some (.cells (wcells l') 22 (0, 0)) ∧ Ch [] w w' := by
  have := lRun_go l l' g c cur 0 0#64 p' k w (by omega) (by omega) hb hw (by omega) (by omega) (by omega) hrun (by omega)
  rw [hlen] at this
  exact this
theorem cells_row (t : Tab) (hf : flatT t = true) (w : World) : Calls Tryz.prog 33 #[.agg (tcells t)] w fun e w' => ∃ R c cur, e = .returned (.slice (some ⟨R, 0, none⟩) 56 c) ∧ w.heap.size ≤ R ∧ WordsAt cur (cells20 t) ∧ w'.heap[R]? = some (.cells cur 22 (0, 0)) ∧ Ch [] w w' := by
  refine (cells20_ok t hf w).mono ?_
  rintro e w' ⟨v, rfl, ho, hc⟩
  obtain ⟨hlen, ⟨_, h0⟩ | ⟨r, c, cur, rfl, hb, hW, h56, hcm, hsz, hel⟩⟩ := ho
  · exact absurd h0 (by decide)
  · refine ⟨r, c, cur, rfl, hb, fun j x hj => ?_, hW, hc⟩
    have hj56 : j < 56 := by have := (List.getElem?_eq_some_iff.1 hj).1; rw [cells20_len] at this; exact this
    have h1 : ((cells20 t).map fun x => U x)[j]? = some (U x) := by rw [List.getElem?_map, hj]; rfl
    rw [← hel, List.getElem?_take, if_pos (by omega), Array.getElem?_toList] at h1
    exact h1
theorem ra_tc6 : tcells { ra3 with count := 6#64 } = tcells ra6 := (normT_cells _).symm
theorem ra_tc7 : tcells { ra6 with count := 7#64 } = tcells ra7 := by
  refine cells_same fun i hi => ?_
  match i, hi with
  | 0, _ => rfl
  | 1, _ => rfl
  | 2, _ => rfl
  | 3, _ => rfl
  | 4, _ => rfl
  | 5, _ => rfl
  | 6, _ => rfl
  | i + 7, _ => rfl
theorem ra_read : readE (tword { ra8 with count := 8#64 }) = .ok ra9 := by
  unfold readE
  rw [if_pos (read_ok ra_flat8), read_eq ra_flat8]
  rfl
theorem ra_at (l : List (BitVec 64)) (hl : 56 ≤ l.length) (t : Tab) : AtW (wcells (laidW l 16 t)) 16 (tword t) := by
  intro j hj
  refine wcells_at _ _ _ ?_
  rw [laidW_get t (by omega), if_pos (by omega), show 16 + j - 16 = j by omega]
theorem ra_pairsAt : PairsAt #[.int .u64 1, .int .u64 10, .int .u64 2, .int .u64 20] [(1#64, 10#64), (2#64, 20#64)] := by
  intro i p hp
  match i, hp with
  | 0, hp => cases hp; rfl
  | 1, hp => cases hp; rfl
  | i + 2, hp => cases hp
theorem ra_pairsAt1 : PairsAt #[.int .u64 2, .int .u64 20] [(2#64, 20#64)] := by
  intro i p hp
  match i, hp with
  | 0, hp => cases hp; rfl
  | i + 1, hp => cases hp
attribute [local irreducible] tcells ra0 ra1 ra2 ra3 ra6 ra7 ra8 ra9 cells20 laidW
set_option maxHeartbeats 4000000 in
set_option maxRecDepth 100000 in
theorem wakes20_any (w : World) : Calls Tryz.prog 32 #[] w fun e w' => e = .returned (.bool true) ∧ Ch [] w w' := by
  have N1 : ∀ w, Calls Tryz.prog 75 #[.int .i64 0, .int .u64 0] w fun e w' => e = .returned (.tuple #[.agg (tcells ra0), I 0]) ∧ Ch [] w w' := fun w => by
    have := New_any 0 0#64 w
    rw [ra_new] at this
    exact this
  have P1 : ∀ (r : Nat) w, w.heap[r]? = some (.cells #[.int .u64 1, .int .u64 10, .int .u64 2, .int .u64 20] 31 (0, 0)) → Calls Tryz.prog 17 #[.int .u64 0, .agg (tcells ra0), .slice (some ⟨r, 0, none⟩) 2 2] w fun e w' => e = .returned (.tuple #[.agg (tcells ra2), I 0]) ∧ Ch [] w w' := fun r w h => by
    have := Puts_any ra0 0#64 [(1#64, 10#64), (2#64, 20#64)] (some ⟨r, 0, none⟩) 2 _ w (by decide) ra_pairsAt (fun _ => ⟨r, rfl⟩) (fun r' e => by cases e; exact h)
    rw [ra_puts, ifMay, if_pos ra_may0] at this
    exact this
  have D1 : ∀ w, Calls Tryz.prog 73 #[.int .u64 0, .agg (tcells ra2), .int .u64 1] w fun e w' => e = .returned (.tuple #[.agg (tcells ra3), I 0, I 0]) ∧ Ch [] w w' := fun w => by
    have := Drop_any ra2 0#64 1#64 w
    rw [ra_drop, ifMay, if_pos ra_may2] at this
    exact this
  have L6 := fun w => cells_row ra6 ra_flat6 w
  have L7 := fun w => cells_row ra7 ra_flat7 w
  have R6 := fun g c cur w hb hw => run56 (cells20 ra6) _ _ 81 (cells20_len _) ra_run6 (by omega) g c cur w hb hw
  have R7 := fun g c cur w hb hw => run56 (cells20 ra7) _ _ 1 (cells20_len _) ra_run7 (by omega) g c cur w hb hw
  have RZ := fun g c cur w hb hw => run56 (List.replicate 56 0#64) _ _ 42 (List.length_replicate ..) ra_runz (by omega) g c cur w hb hw
  go_enter Tryz.func32, Tryz.ntmps32
  go_wp2_with fail
  refine (N1 _).mono ?_
  rintro e w1 ⟨rfl, hc1⟩
  go_upto_region 2 with (fail)
  have t2 := tab_put ra0 w1
  have C2 := hc1.trans (tab_put_ch [] ra0 w1)
  obtain ⟨w2, hw2⟩ : ∃ W, World.onObj (w1.alloc (.cells (tcells zeroT) 26)) w1.heap.size (laidAt 0 (tcells ra0)) = W := ⟨_, rfl⟩
  rw [hw2] at t2 C2 ⊢
  clear hw2
  obtain ⟨T, hT⟩ : ∃ T, w1.heap.size = T := ⟨_, rfl⟩
  have hTw : w.heap.size ≤ T := by have := hc1.size; omega
  rw [hT] at t2 ⊢
  clear hT hc1 N1
  go_wp2_with fail
  have r3 : (w2.alloc (.cells #[.int .u64 1, .int .u64 10, .int .u64 2, .int .u64 20] 31)).heap[w2.heap.size]? = some (.cells #[.int .u64 1, .int .u64 10, .int .u64 2, .int .u64 20] 31 (0, 0)) := by rw [heap_alloc, if_pos rfl]
  have hc3 : Ch [] w2 (w2.alloc (.cells #[.int .u64 1, .int .u64 10, .int .u64 2, .int .u64 20] 31)) := (Ch.refl [] w2).alloc _
  have t3 := hkeep hc3 t2
  have C3 := C2.trans hc3
  refine (P1 _ _ r3).mono ?_
  rintro e w4 ⟨rfl, hc4⟩
  have t4 := hkeep hc4 t3
  have C4 := C3.trans hc4
  clear t2 C2 r3 hc3 t3 C3 hc4 P1
  go_upto_region 3 with (fail)
  have t5 : (World.onObj w4 T (laidAt 0 (tcells ra2))).heap[T]? = some (.cells (tcells ra2) 26 (0, 0)) := by rw [heap_onObj, if_pos rfl, t4, Option.map_some, laidAt_t]
  have C5 : Ch [] w (World.onObj w4 T (laidAt 0 (tcells ra2))) := C4.onObj (.inr hTw) _
  obtain ⟨w5, hw5⟩ : ∃ W, (World.onObj w4 T (laidAt 0 (tcells ra2))) = W := ⟨_, rfl⟩
  rw [hw5] at t5 C5 ⊢
  clear hw5 t4 C4
  go_wp2_with fail
  refine (D1 _).mono ?_
  rintro e w6 ⟨rfl, hc6⟩
  have t6 := hkeep hc6 t5
  have C6 := C5.trans hc6
  clear t5 C5 hc6 D1
  go_upto_region 4 with (fail)
  have t7 : (World.onObj w6 T (laidAt 0 (tcells ra3))).heap[T]? = some (.cells (tcells ra3) 26 (0, 0)) := by rw [heap_onObj, if_pos rfl, t6, Option.map_some, laidAt_t]
  have C7 : Ch [] w (World.onObj w6 T (laidAt 0 (tcells ra3))) := C6.onObj (.inr hTw) _
  obtain ⟨w7, hw7⟩ : ∃ W, (World.onObj w6 T (laidAt 0 (tcells ra3))) = W := ⟨_, rfl⟩
  rw [hw7] at t7 C7 ⊢
  clear hw7 t6 C6
  go_upto_region 5 with (fail)
  have t8 : (w7.setCell ⟨T, 0, none⟩ (.int .u64 6)).heap[T]? = some (.cells (tcells ra6) 26 (0, 0)) := by rw [heap_setCell, if_pos rfl, t7, Option.map_some, setAt_cells, ← ra_tc6]; exact congrArg (fun z => some (Obj.cells z 26 (0, 0))) (tsetc ra3 6#64)
  have C8 : Ch [] w (w7.setCell ⟨T, 0, none⟩ (.int .u64 6)) := C7.setCell (p := ⟨T, 0, none⟩) (.inr hTw) _
  obtain ⟨w8, hw8⟩ : ∃ W, (w7.setCell ⟨T, 0, none⟩ (.int .u64 6)) = W := ⟨_, rfl⟩
  rw [hw8] at t8 C8 ⊢
  clear hw8
  clear t7 C7
  go_wp2_with fail
  refine (L6 _).mono ?_
  rintro e w9 ⟨r9, c9, cur9, rfl, hr9, hcur9, hR9, hc9⟩
  have t9 := hkeep hc9 t8
  have C9 := C8.trans hc9
  clear t8 C8 hc9 L6
  go_wp2_with fail
  refine (R6 _ _ _ _ hR9 hcur9).mono ?_
  rintro e w10 ⟨Q6, rfl, hQ6, q10, hc10⟩
  have t10 := hkeep hc10 t9
  have C10 := C9.trans hc10
  have hQT : ¬ T = Q6 := block_ne t10 q10 (by decide)
  clear t9 C9 hc10 R6 hR9 hcur9 hr9 hQ6
  go_upto_region 7 with (fail)
  have t11 : (w10.setCell ⟨T, 0, none⟩ (.int .u64 7)).heap[T]? = some (.cells (tcells ra7) 26 (0, 0)) := by rw [heap_setCell, if_pos rfl, t10, Option.map_some, setAt_cells, ← ra_tc7]; exact congrArg (fun z => some (Obj.cells z 26 (0, 0))) (tsetc ra6 7#64)
  have C11 : Ch [] w (w10.setCell ⟨T, 0, none⟩ (.int .u64 7)) := C10.setCell (p := ⟨T, 0, none⟩) (.inr hTw) _
  have q11 : (w10.setCell ⟨T, 0, none⟩ (.int .u64 7)).heap[Q6]? = _ := (setCell_other (w := w10) (b := Q6) T 0 (.int .u64 7) (fun e => hQT e.symm)).trans q10
  obtain ⟨w11, hw11⟩ : ∃ W, (w10.setCell ⟨T, 0, none⟩ (.int .u64 7)) = W := ⟨_, rfl⟩
  rw [hw11] at t11 C11 q11 ⊢
  clear hw11
  clear t10 C10 q10
  go_wp2_with fail
  refine (L7 _).mono ?_
  rintro e w12 ⟨r12, c12, cur12, rfl, hr12, hcur12, hR12, hc12⟩
  have t12 := hkeep hc12 t11
  have q12 := hkeep hc12 q11
  have C12 := C11.trans hc12
  clear t11 q11 C11 hc12 L7
  go_wp2_with fail
  refine (R7 _ _ _ _ hR12 hcur12).mono ?_
  rintro e w13 ⟨Q7, rfl, hQ7, q7, hc13⟩
  have q13 := hkeep hc13 q12
  have C13 := C12.trans hc13
  clear t12 q12 C12 hc13 R7 hR12 hcur12 hr12 hQ7 q7
  have hmz : ∀ w, (Instr.makeSlice 44 (.int .i64 56) (.int .i64 56)).run Tryz.prog w = .ok (.slice (some ⟨w.heap.size, 0, none⟩) 56 56) (w.alloc (.cells (madeCells #[.int .u64 0] 56) 22)) := fun w => run_make_row' (P := Tryz.prog) 44 22 (.int .u64 0) 8 Tryz.underlying44 infoU rfl .i64 .i64 56 (by omega) (by omega) w
  obtain ⟨Zc, hZc⟩ : ∃ z, madeCells #[.int .u64 0] 56 = z := ⟨_, rfl⟩
  have hZw : WordsAt Zc (List.replicate 56 0#64) := by rw [← hZc, zeros_cells]; exact wcells_at _
  simp only [hZc] at hmz
  clear hZc
  go_wp2_with fail
  have hc14 : Ch [] w13 (w13.alloc (.cells Zc 22)) := (Ch.refl [] w13).alloc _
  have z14 : (w13.alloc (.cells Zc 22)).heap[w13.heap.size]? = some (.cells Zc 22 (0, 0)) := by rw [heap_alloc, if_pos rfl]
  have q14 := hkeep hc14 q13
  have C14 := C13.trans hc14
  refine (RZ _ _ _ _ z14 hZw).mono ?_
  rintro e w15 ⟨Qz, rfl, hQz, z15, hc15⟩
  have q15 := hkeep hc15 q14
  have C15 := C14.trans hc15
  clear hc14 z14 q14 C14 hc15 q13 C13 RZ hmz hZw hQz
  have T1 := fun w h => Table_any Q6 16 40 (wcells (laidW (cells20 ra6) 16 { ra8 with count := 8#64 })) 22 (tword { ra8 with count := 8#64 }) (by omega) (by omega) w h (ra_at _ (by rw [cells20_len]; omega) _)
  rw [ra_read] at T1
  have hz16 : (wcells ((List.replicate 56 0#64).set 16 2#64))[16]? = some (.int .u64 2) := by rfl
  obtain ⟨zz, hzz⟩ : ∃ z, wcells ((List.replicate 56 0#64).set 16 2#64) = z := ⟨_, rfl⟩
  rw [hzz] at z15 hz16
  obtain ⟨qq, hqq⟩ : ∃ z, wcells (laidW (cells20 ra6) 16 { ra8 with count := 8#64 }) = z := ⟨_, rfl⟩
  rw [hqq] at q15 T1
  clear hzz hqq
  go_wp2_with fail
  refine (T1 _ q15).mono ?_
  rintro e w16 ⟨rfl, hc16⟩
  have z16 := hkeep hc16 z15
  have C16 := C15.trans hc16
  simp only [tupOr]
  clear q15 z15 C15 hc16 T1
  go_upto_region 12 with (fail)
  have t17 := tab_put ra9 w16
  have hc17 := tab_put_ch [] ra9 w16
  have z17 := hkeep hc17 z16
  have C17 := C16.trans hc17
  obtain ⟨w17, hw17⟩ : ∃ W, World.onObj (w16.alloc (.cells (tcells zeroT) 26)) w16.heap.size (laidAt 0 (tcells ra9)) = W := ⟨_, rfl⟩
  rw [hw17] at t17 z17 C17 ⊢
  obtain ⟨D, hD⟩ : ∃ D, w16.heap.size = D := ⟨_, rfl⟩
  rw [hD] at t17 ⊢
  clear hw17 hc17 hD z16 C16
  have PP := fun w => Pairs_yes ra9 0#64 w ra_may9
  rw [ra_pairs9] at PP
  go_wp2_with fail
  refine (PP _).mono ?_
  rintro e w18 ⟨a, c, rfl, ho, hc18⟩
  have t18 := hkeep hc18 t17
  have z18 := hkeep hc18 z17
  have C18 := C17.trans hc18
  obtain ⟨cur, hp1, hp2, hp3⟩ := pairs_at rfl ho
  clear t17 z17 C17 hc18 PP ho
  have hN : (N ra9.count == 8) = true := by rw [ra9]; rfl
  have EQ := fun (r2 : Nat) (W : World) (hW : Ch [] w18 W) (h2 : W.heap[r2]? = some (.cells #[.int .u64 2, .int .u64 20] 31 (0, 0))) => eqPairs_any [(2#64, 20#64)] a (some ⟨r2, 0, none⟩) c 1 cur _ W (by decide) hp1 hp2 (fun r hr => hkeep hW (hp3 r hr).2) ra_pairsAt1 (fun _ => ⟨r2, rfl⟩) (fun r e => by cases e; exact h2)
  clear hp1 hp2 hp3
  go_wp2_with fail
  refine (EQ _ _ ((Ch.refl [] w18).alloc _) (by rw [heap_alloc, if_pos rfl])).mono ?_
  rintro e w19 ⟨rfl, hc19⟩
  go_wp2
  go_ret
  exact ⟨rfl, (C18.alloc _).trans hc19⟩
end Go.Proofs.Hc
set_option linter.unusedSimpArgs false
set_option linter.unusedVariables false
namespace Go.Proofs.Hc
open Go.RowKit
set_option linter.unusedVariables false
attribute [local go_sem] wrap_u64 wrap_u8 bits_xor64 bits_and64 bits_or64 bits_not64 bits_xor8 bits_and8 bits_or8 signed64 signed8 ofInt_N BitVec.ofInt_add BitVec.ofInt_mul ofInt_sub' ofInt8_N64 ofInt64_N8 wide8 eqN neN shr_pow shr1 shr7 shr56
attribute [local go_sem high] bits_com64 shl_wrap
attribute [local go_sem] cell_heap ice_heap cellAt_cells iceAt_cells setAt_cells rowAt_cells canLay_cells laidAt_cells size_onObj size_setCell rowRes_some layRes_true
attribute [local go_sem] load26 load73 load23 store26 build73
attribute [local go_sem ↓] lrow26 lrow73 lrow23 srow26 zero26 brow73 heap_alloc heap_drew heap_drewN heap_setCell heap_onObj
attribute [local go_sem] tcells_size hcells_size tcells_get hcells_get tcells_one hcells_one hcells_table tcells_table hcells_all hcells_ctrl tcells_ctrl
attribute [local go_sem] nn2 nm2 nn3 nm3 nn4 nm4 nn5 nm5 nn6 nm6 nn7 nm7 nn8 nm8
attribute [local go_sem] nn2 nm2 nn3 nm3 nn4 nm4 nn5 nm5 nn6 nm6 nn7 nm7 nn8 nm8
attribute [local go_sem] acc_g0 acc_g1 acc_g2 acc_g4 acc_s0 acc_s1 acc_s2 acc_s4 accC_size accC_one accC_all loadAcc storeAcc bacc0 bacc2 bacc3 bacc3u bacc4
attribute [local go_sem ↓] lrowAcc srowAcc browAcc zeroAcc_run
attribute [local go_sem high] laidAt_acc
attribute [local go_sem] ofInt_N ofInt_pow8
attribute [local go_sem] Oper.semAt_some make_func1
attribute [local go_sem] layC_idx lcell0 lcell1 lcell2 lcell3 lcell4 lcell5 lcell46
attribute [local go_sem] lay_g0 lay_g1 lay_g2 lay_g3 lay_g4 lay_g5 lay_g46 lay_s0 lay_s4 lay_s5 lay_s46 layC_size layC_one layC_all layC_ws boxLay loadLay storeLay build_lay box_lay buildLay0 buildLay2 buildLay3
attribute [local go_sem ↓] lrowLay srowLay browLay brow_lay zeroLay_run
attribute [local go_sem high] laidAt_lay
attribute [local irreducible] layC
attribute [local go_sem] box26 tcells_idx cell0 cell1 cell2 cell3 cell4 hcells_idx hcells_pop
attribute [local irreducible] accC tcells
attribute [local go_sem high] laidAt_t tmod2_64w bit64w bit64zw
theorem eqin_lay (p : LayT) (w : World) : (Op.equalIn 10000 72 (.agg (layC p)) (.agg (layC p))).run Tryz.prog w = .ok true w := self_lay 9997 p w
attribute [local go_sem] guardLay
attribute [local go_sem ↓] eqin_lay eql_lay neq_lay
theorem eq_rows20 {l : List (BitVec 64)} {n : Nat} (hn : n ≤ 900000) (hl : l.length = n) (R R2 c d : Nat) (cur cur2 : Array Value) (h1 : WordsAt cur l) (h2 : WordsAt cur2 l) (w : World) (hb : w.heap[R]? = some (.cells cur 22 (0, 0))) (hb2 : w.heap[R2]? = some (.cells cur2 22 (0, 0))) :
    Calls Tryz.prog 31 #[.slice (some ⟨R, 0, none⟩) n c, .slice (some ⟨R2, 0, none⟩) n d] w fun e w' => e = .returned (.bool true) ∧ Ch [] w w' := by
  subst hl
  exact eqWords_any l _ _ c d cur cur2 w hn h1 (fun _ => ⟨R, rfl⟩) (fun r h => by cases h; exact hb) h2 (fun _ => ⟨R2, rfl⟩) (fun r h => by cases h; exact hb2)
set_option maxHeartbeats 4000000 in
set_option maxRecDepth 100000 in
theorem hides_none (t : Tab) (seed : BitVec 64) (who : Int) (hf : flatT t = false) (w : World) : Calls Tryz.prog 11 #[U seed, .agg (tcells t), I who] w fun e w' => e = .returned (.bool true) ∧ Ch [] w w' := by
  have W1 := fun w => wakes20_any w
  have L1 := fun w => cells20_bad t hf w
  have B1 := fun w => lBegin_any who 0 seed w
  obtain ⟨q, qe, hq⟩ : ∃ q e, tupOr (fun v => Value.agg (layC v)) (.agg (layC zeroLay)) (beginE who 0 seed) = .tuple #[.agg (layC q), I e] := by
    cases beginE who 0 seed with
    | ok v => exact ⟨v, 0, rfl⟩
    | error c => exact ⟨zeroLay, c, rfl⟩
  rw [hq] at B1
  have q22 : ∀ (w : World) (a : Option Addr) (n c n' c' : Nat), (binOp .eql 44 (.slice a n c) (.slice none n' c')).run Tryz.prog w = .ok (.bool a.isNone) w := fun w a n c n' c' => Lib.run_eql_slice_nil w _ _ a n c n' c' Tryz.underlying44
  have C0 : Ch [] w (w.alloc (.cells (tcells t) 26)) := (Ch.refl [] w).alloc _
  have t0 : (w.alloc (.cells (tcells t) 26)).heap[w.heap.size]? = some (.cells (tcells t) 26 (0, 0)) := by rw [heap_alloc, if_pos rfl]
  clear hf hq
  go_enter Tryz.func11, Tryz.ntmps11
  go_wp2_with fail
  obtain ⟨w0, hw0⟩ : ∃ W, w.alloc (.cells (tcells t) 26) = W := ⟨_, rfl⟩
  rw [hw0] at C0 t0 ⊢
  clear hw0
  obtain ⟨T, hT⟩ : ∃ T, w.heap.size = T := ⟨_, rfl⟩
  rw [hT] at t0 ⊢
  clear hT
  refine (W1 _).mono ?_
  rintro e w1 ⟨rfl, hc1⟩
  have t1 := hkeep hc1 t0
  have C1 := C0.trans hc1
  clear t0 C0 hc1 W1
  go_wp2_with fail
  refine (L1 _).mono ?_
  rintro e w2 ⟨rfl, hc2⟩
  have t2 := hkeep hc2 t1
  have C2 := C1.trans hc2
  clear t1 C1 hc2 L1
  go_wp2_with fail
  refine (B1 _).mono ?_
  rintro e w3 ⟨rfl, hc3⟩
  have C3 := C2.trans hc3
  go_wp2
  go_ret
  exact ⟨rfl, C3.trans (lay_put_ch _ _)⟩
set_option maxHeartbeats 4000000 in
set_option maxRecDepth 100000 in
theorem hides_not (t : Tab) (seed : BitVec 64) (who : Int) (hf : flatT t = true) (hr : rightL (firstL who 0 seed) = false) (w : World) : Calls Tryz.prog 11 #[U seed, .agg (tcells t), I who] w fun e w' => e = .returned (.bool true) ∧ Ch [] w w' := by
  have W1 := fun w => wakes20_any w
  have L1 := fun w => cells_row t hf w
  have B1 := fun w => lBegin_any who 0 seed w
  have hbe : beginE who 0 seed = .error 2 := by unfold beginE; rw [if_neg (by rw [hr]; decide)]
  rw [hbe] at B1
  simp only [tupOr] at B1
  have q22 : ∀ (w : World) (a : Option Addr) (n c n' c' : Nat), (binOp .eql 44 (.slice a n c) (.slice none n' c')).run Tryz.prog w = .ok (.bool a.isNone) w := fun w a n c n' c' => Lib.run_eql_slice_nil w _ _ a n c n' c' Tryz.underlying44
  have C0 : Ch [] w (w.alloc (.cells (tcells t) 26)) := (Ch.refl [] w).alloc _
  have t0 : (w.alloc (.cells (tcells t) 26)).heap[w.heap.size]? = some (.cells (tcells t) 26 (0, 0)) := by rw [heap_alloc, if_pos rfl]
  clear hf hbe hr
  go_enter Tryz.func11, Tryz.ntmps11
  go_wp2_with fail
  obtain ⟨w0, hw0⟩ : ∃ W, w.alloc (.cells (tcells t) 26) = W := ⟨_, rfl⟩
  rw [hw0] at C0 t0 ⊢
  clear hw0
  obtain ⟨T, hT⟩ : ∃ T, w.heap.size = T := ⟨_, rfl⟩
  rw [hT] at t0 ⊢
  clear hT
  refine (W1 _).mono ?_
  rintro e w1 ⟨rfl, hc1⟩
  have t1 := hkeep hc1 t0
  have C1 := C0.trans hc1
  clear t0 C0 hc1 W1
  go_wp2_with fail
  refine (L1 _).mono ?_
  rintro e w2 ⟨R, c, cur, rfl, hRw, hcur, hR, hc2⟩
  have t2 := hkeep hc2 t1
  have C2 := C1.trans hc2
  clear t1 C1 hc2 L1
  go_wp2_with fail
  refine (B1 _).mono ?_
  rintro e w3 ⟨rfl, hc3⟩
  have C3 := C2.trans hc3
  clear C2 hc3 t2 hR hcur hRw
  go_upto_region 5 with (fail)
  have z4 := lay_put zeroLay w3
  have C4 := C3.trans (lay_put_ch zeroLay w3)
  obtain ⟨w4, hw4⟩ : ∃ W, World.onObj (w3.alloc (.cells (layC zeroLay) 72)) w3.heap.size (laidAt 0 (layC zeroLay)) = W := ⟨_, rfl⟩
  rw [hw4] at z4 C4 ⊢
  clear hw4
  go_wp2
  go_ret
  exact ⟨rfl, C4⟩
set_option maxHeartbeats 8000000 in
set_option maxRecDepth 100000 in
theorem hides_go (t : Tab) (seed : BitVec 64) (who : Int) (hf : flatT t = true) (hr : rightL (firstL who 0 seed) = true) (w : World) : Calls Tryz.prog 11 #[U seed, .agg (tcells t), I who] w fun e w' => e = .returned (.bool true) ∧ Ch [] w w' := by
  have W1 := fun w => wakes20_any w
  have L1 := fun w => cells_row t hf w
  have B1 := fun w => lBegin_any who 0 seed w
  have hbe : beginE who 0 seed = .ok (firstL who 0 seed) := by unfold beginE; rw [if_pos hr]
  rw [hbe] at B1
  simp only [tupOr] at B1
  have HI := Lib.hid (HidI.first (c := t.count) (cells20_len t) (cells20_get t 0 (by omega)) hr)
  have q22 : ∀ (w : World) (a : Option Addr) (n c n' c' : Nat), (binOp .eql 44 (.slice a n c) (.slice none n' c')).run Tryz.prog w = .ok (.bool a.isNone) w := fun w a n c n' c' => Lib.run_eql_slice_nil w _ _ a n c n' c' Tryz.underlying44
  have C0 : Ch [] w (w.alloc (.cells (tcells t) 26)) := (Ch.refl [] w).alloc _
  have t0 : (w.alloc (.cells (tcells t) 26)).heap[w.heap.size]? = some (.cells (tcells t) 26 (0, 0)) := by rw [heap_alloc, if_pos rfl]
  obtain ⟨f0, hf0⟩ : ∃ f, firstL who 0 seed = f := ⟨_, rfl⟩
  rw [hf0] at B1 HI
  clear hf hbe hr hf0
  go_enter Tryz.func11, Tryz.ntmps11
  go_wp2_with fail
  obtain ⟨w0, hw0⟩ : ∃ W, w.alloc (.cells (tcells t) 26) = W := ⟨_, rfl⟩
  rw [hw0] at C0 t0 ⊢
  clear hw0
  obtain ⟨T, hT⟩ : ∃ T, w.heap.size = T := ⟨_, rfl⟩
  rw [hT] at t0 ⊢
  have hTw : w.heap.size ≤ T := by omega
  clear hT
  refine (W1 _).mono ?_
  rintro e w1 ⟨rfl, hc1⟩
  have t1 := hkeep hc1 t0
  have C1 := C0.trans hc1
  clear t0 C0 hc1 W1
  go_wp2_with fail
  refine (L1 _).mono ?_
  rintro e w2 ⟨R, c, cur, rfl, hRw, hcur, hR, hc2⟩
  have t2 := hkeep hc2 t1
  have C2 := C1.trans hc2
  clear t1 C1 hc2 L1
  go_wp2_with fail
  refine (B1 _).mono ?_
  rintro e w3 ⟨rfl, hc3⟩
  have t3 := hkeep hc3 t2
  have R3 := hkeep hc3 hR
  have C3 := C2.trans hc3
  clear C2 hc3 t2 hR hRw B1
  go_upto_region 5 with (fail)
  have z4 := lay_put f0 w3
  have hc4 := lay_put_ch f0 w3
  have t4 := hkeep hc4 t3
  have R4 := hkeep hc4 R3
  have C4 := C3.trans hc4
  have hDT : T < w3.heap.size := blk_lt19 t3
  obtain ⟨w4, hw4⟩ : ∃ W, World.onObj (w3.alloc (.cells (layC zeroLay) 72)) w3.heap.size (laidAt 0 (layC f0)) = W := ⟨_, rfl⟩
  rw [hw4] at z4 t4 R4 C4 ⊢
  obtain ⟨D, hD⟩ : ∃ D, w3.heap.size = D := ⟨_, rfl⟩
  rw [hD] at z4 hDT ⊢
  have hDw : w.heap.size ≤ D := by omega
  clear hw4 hc4 t3 R3 C3 hD
  have HC := Lib.hid hcur
  clear hcur
  go_wp2
  go_loopw [7, 10, 41] (fun v m i wr => ∃ (r c : Nat) (cur : Array Value) (l : List (BitVec 64)) (p : LayT) (n : Nat), v = .slice (some ⟨r, 0, none⟩) 56 c ∧ m = .int .i64 (n : Nat) ∧ i = .int .i64 (n : Nat) ∧ Hid (WordsAt cur l) ∧ Hid (HidI l p n t.count who) ∧ wr.heap[r]? = some (.cells cur 22 (0, 0)) ∧ wr.heap[D]? = some (.cells (layC p) 72 (0, 0)) ∧ wr.heap[T]? = some (.cells (tcells t) 26 (0, 0)) ∧ Ch [] w wr) (fun _ _ i _ => 100 - (intOf i).toNat)
  case atStart => exact ⟨R, c, cur, cells20 t, f0, 0, rfl, rfl, rfl, HC, HI, R4, z4, t4, C4⟩
  case round =>
    obtain ⟨r, c, cur, l, p, n, rfl, hm, hi, HW, HH, Rr, Dr, Tr, Cr⟩ := hrel
    subst hm hi
    clear HC HI R4 z4 t4 C4
    have N1 := fun w => lNeed_any p w
    have I1 := fun w => lInside_any p w
    have hright := HH.out.right
    have hw0 := HH.out.who_
    cases hn : needL p with
    | none =>
      have h5 : 4 < p.ph := by
        rcases Int.lt_or_le 4 p.ph with h | h
        · exact h
        · obtain ⟨a, ha⟩ := needL_yes hright h
          rw [hn] at ha; cases ha
      have ho := HH.out.over h5
      have hnI : (n : Int) < 100 := by omega
      rw [hn] at N1
      simp only [needLV] at N1
      clear hn I1 hright
      have eT : (tcells t)[0]? = some (U t.count) := by rw [tcells_get]; rfl
      rcases ho with ⟨hp6, hn1, hodd⟩ | ⟨hp5, hodd, h16, hb⟩
      · have hph : p.ph = 6 := hp6
        have hn1' : (n : Int) = 1 := by omega
        clear HH HW hw0 h5 hp6
        go_wp2_with fail
        refine (N1 _).mono ?_
        rintro e w5 ⟨rfl, hc5⟩
        have hcz := accv_put_ch 0 0 0 0 w5
        have Dz := hkeep (hc5.trans hcz) Dr
        have Tz := hkeep (hc5.trans hcz) Tr
        have Cz := Cr.trans (hc5.trans hcz)
        have nD : ¬ D = w5.heap.size := by have := blk_lt19 (hkeep hc5 Dr); omega
        have nT : ¬ T = w5.heap.size := by have := blk_lt19 (hkeep hc5 Tr); omega
        have Dr5 := hkeep hc5 Dr
        have Tr5 := hkeep hc5 Tr
        clear hcz hc5 Dr Tr Rr
        go_wp2
        go_ret
        refine ⟨?_, Cz⟩
        simp [hn1]
      · have hph : p.ph = 5 := hp5
        have h16' := HW.out 16 _ h16
        have hrD : ¬ r = D := block_ne Rr Dr (by decide)
        rcases hb with ⟨hbad, hn1⟩ | ⟨hbad, hn1⟩
        all_goals
          subst hn1
          clear HH HW hw0 h5 hp5 h16
          go_wp2_with fail
          refine (N1 _).mono ?_
          rintro e w5 ⟨rfl, hc5⟩
          have hcz := accv_put_ch 0 0 0 0 w5
          have Dz := hkeep (hc5.trans hcz) Dr
          have Tz := hkeep (hc5.trans hcz) Tr
          have Rz := hkeep (hc5.trans hcz) Rr
          have Cz := Cr.trans (hc5.trans hcz)
          obtain ⟨w6, hw6⟩ : ∃ W, World.onObj (w5.alloc (.cells (accC 0 0 0 0) 87)) w5.heap.size (laidAt 0 (accC 0 0 0 0)) = W := ⟨_, rfl⟩
          rw [hw6] at Dz Tz Rz Cz
          have nD : ¬ D = w5.heap.size := by have := blk_lt19 (hkeep hc5 Dr); omega
          have nT : ¬ T = w5.heap.size := by have := blk_lt19 (hkeep hc5 Tr); omega
          have nR : ¬ r = w5.heap.size := by have := blk_lt19 (hkeep hc5 Rr); omega
          clear hcz hc5 Dr Tr Rr N1
          go_upto_region 21 with (fail)
          try rw [hw6]
          clear hw6 nD nT nR
          go_upto_region 23 with (fail)
          have Cd : Ch [] w w6.drew := Cz.drew
          have sd : (fun W' : World => W'.heap[D]? = some (.cells (layC p) 72 (0, 0)) ∧ W'.heap[T]? = some (.cells (tcells t) 26 (0, 0)) ∧ W'.heap[r]? = some (.cells cur 22 (0, 0))) w6.drew := ⟨Dz, Tz, Rz⟩
          refine wp_region_held_drew (S := fun W' => W'.heap[D]? = some (.cells (layC p) 72 (0, 0)) ∧ W'.heap[T]? = some (.cells (tcells t) 26 (0, 0)) ∧ W'.heap[r]? = some (.cells cur 22 (0, 0))) (by kernel_rfl) sd ?_
          intro _
          simp only [List.size_toArray, List.length_cons, List.length_nil, Nat.reduceAdd]
          clear Dz Tz Rz Cz
          generalize w6.drew = w7 at *
          refine wpAnyH_take (i := 0) (oi := ⟨some 118, _, _, _, _, none⟩) (v := ?_) rfl (by kernel_rfl) (by kernel_rfl) (by kernel_rfl) (fun _ _ _ h => h) (Or.inl ⟨by rfl, ?_⟩) sd ?_
          rotate_left
          · intro wq hSq
            obtain ⟨hSa, hSb, hSc⟩ := hSq
            first | (go_simp; done) | (go_simp; with_reducible rfl)
          try simp only [Act.put, List.setIfInBounds_toArray, List.set_cons_zero, List.set_cons_succ]
          refine wpAnyH_take (i := 1) (oi := ⟨some 119, _, _, _, _, none⟩) (v := ?_) rfl (by kernel_rfl) (by kernel_rfl) (by kernel_rfl) (fun _ _ _ h => h) (Or.inl ⟨by rfl, ?_⟩) sd ?_
          rotate_left
          · intro wq hSq
            obtain ⟨hSa, hSb, hSc⟩ := hSq
            first | (go_simp; done) | (go_simp; with_reducible rfl)
          try simp only [Act.put, List.setIfInBounds_toArray, List.set_cons_zero, List.set_cons_succ]
          refine wpAnyH_take (i := 2) (oi := ⟨some 120, _, _, _, _, none⟩) (v := ?_) rfl (by kernel_rfl) (by kernel_rfl) (by kernel_rfl) (fun _ _ _ h => h) (Or.inl ⟨by rfl, ?_⟩) sd ?_
          rotate_left
          · intro wq hSq
            obtain ⟨hSa, hSb, hSc⟩ := hSq
            first | (go_simp; done) | (go_simp; with_reducible rfl)
          try simp only [Act.put, List.setIfInBounds_toArray, List.set_cons_zero, List.set_cons_succ]
          refine wpAnyH_take (i := 3) (oi := ⟨some 121, _, _, _, _, none⟩) (v := ?_) rfl (by kernel_rfl) (by kernel_rfl) (by kernel_rfl) (fun _ _ _ h => h) (Or.inl ⟨by rfl, ?_⟩) sd ?_
          rotate_left
          · intro wq hSq
            obtain ⟨hSa, hSb, hSc⟩ := hSq
            first | (go_simp; done) | (go_simp; with_reducible rfl)
          try simp only [Act.put, List.setIfInBounds_toArray, List.set_cons_zero, List.set_cons_succ]
          refine wpAnyH_take (i := 4) (oi := ⟨some 122, _, _, _, _, _⟩) (v := ?_) rfl (by kernel_rfl) (by kernel_rfl) (by kernel_rfl) (fun _ _ _ h => h) (Or.inl ⟨by rfl, ?_⟩) sd ?_
          rotate_left
          · intro wq hSq
            obtain ⟨hSa, hSb, hSc⟩ := hSq
            first | (go_simp; done) | (go_simp; with_reducible rfl)
          try simp only [Act.put, List.setIfInBounds_toArray, List.set_cons_zero, List.set_cons_succ]
          refine wpAnyH_take (i := 5) (oi := ⟨some 123, _, _, _, _, _⟩) (v := ?_) rfl (by kernel_rfl) (by kernel_rfl) (by kernel_rfl) (fun _ _ _ h => h) (Or.inl ⟨by rfl, ?_⟩) sd ?_
          rotate_left
          · intro wq hSq
            obtain ⟨hSa, hSb, hSc⟩ := hSq
            first | (go_simp; done) | (go_simp; with_reducible rfl)
          try simp only [Act.put, List.setIfInBounds_toArray, List.set_cons_zero, List.set_cons_succ]
          refine wpAnyH_take (i := 6) (oi := ⟨some 124, _, _, _, _, _⟩) (v := ?_) rfl (by kernel_rfl) (by kernel_rfl) (by kernel_rfl) (fun _ _ _ h => h) (Or.inl ⟨by rfl, ?_⟩) sd ?_
          rotate_left
          · intro wq hSq
            obtain ⟨hSa, hSb, hSc⟩ := hSq
            first | (go_simp; done) | (go_simp; with_reducible rfl)
          try simp only [Act.put, List.setIfInBounds_toArray, List.set_cons_zero, List.set_cons_succ]
          refine wpAnyH_take (i := 7) (oi := ⟨some 125, _, _, _, _, _⟩) (v := ?_) rfl (by kernel_rfl) (by kernel_rfl) (by kernel_rfl) (fun _ _ _ h => h) (Or.inl ⟨by rfl, ?_⟩) sd ?_
          rotate_left
          · intro wq hSq
            obtain ⟨hSa, hSb, hSc⟩ := hSq
            first | (go_simp; done) | (go_simp; with_reducible rfl)
          try simp only [Act.put, List.setIfInBounds_toArray, List.set_cons_zero, List.set_cons_succ]
          refine wpAnyH_take (i := 8) (oi := ⟨some 126, _, _, _, _, _⟩) (v := ?_) rfl (by kernel_rfl) (by kernel_rfl) (by kernel_rfl) (fun _ _ _ h => h) (Or.inl ⟨by rfl, ?_⟩) sd ?_
          rotate_left
          · intro wq hSq
            obtain ⟨hSa, hSb, hSc⟩ := hSq
            first | (go_simp; done) | (go_simp; with_reducible rfl)
          try simp only [Act.put, List.setIfInBounds_toArray, List.set_cons_zero, List.set_cons_succ]
          refine wpAnyH_take (i := 9) (oi := ⟨some 127, _, _, _, _, _⟩) (v := ?_) rfl (by kernel_rfl) (by kernel_rfl) (by kernel_rfl) (fun _ _ _ h => h) (Or.inl ⟨by rfl, ?_⟩) sd ?_
          rotate_left
          · intro wq hSq
            obtain ⟨hSa, hSb, hSc⟩ := hSq
            first | (go_simp; done) | (go_simp; with_reducible rfl)
          try simp only [Act.put, List.setIfInBounds_toArray, List.set_cons_zero, List.set_cons_succ]
          refine wpAnyH_take (i := 10) (oi := ⟨some 128, _, _, _, _, _⟩) (v := ?_) rfl (by kernel_rfl) (by kernel_rfl) (by kernel_rfl) (fun _ _ _ h => h) (Or.inl ⟨by rfl, ?_⟩) sd ?_
          rotate_left
          · intro wq hSq
            obtain ⟨hSa, hSb, hSc⟩ := hSq
            first | (go_simp; done) | (go_simp; with_reducible rfl)
          try simp only [Act.put, List.setIfInBounds_toArray, List.set_cons_zero, List.set_cons_succ]
          refine wpAnyH_take (i := 11) (oi := ⟨some 129, _, _, _, _, none⟩) (v := ?_) rfl (by kernel_rfl) (by kernel_rfl) (by kernel_rfl) (fun _ _ _ h => h) (Or.inl ⟨by rfl, ?_⟩) sd ?_
          rotate_left
          · intro wq hSq
            obtain ⟨hSa, hSb, hSc⟩ := hSq
            first | (go_simp; done) | (go_simp; with_reducible rfl)
          try simp only [Act.put, List.setIfInBounds_toArray, List.set_cons_zero, List.set_cons_succ]
          refine wpAnyH_take (i := 12) (oi := ⟨some 130, _, _, _, _, none⟩) (v := ?_) rfl (by kernel_rfl) (by kernel_rfl) (by kernel_rfl) (fun _ _ _ h => h) (Or.inl ⟨by rfl, ?_⟩) sd ?_
          rotate_left
          · intro wq hSq
            obtain ⟨hSa, hSb, hSc⟩ := hSq
            first | (go_simp; done) | (go_simp; with_reducible rfl)
          try simp only [Act.put, List.setIfInBounds_toArray, List.set_cons_zero, List.set_cons_succ]
          refine wpAnyH_take (i := 13) (oi := ⟨some 131, _, _, _, _, _⟩) (v := ?_) rfl (by kernel_rfl) (by kernel_rfl) (by kernel_rfl) (fun _ _ _ h => h) (Or.inl ⟨by rfl, ?_⟩) sd ?_
          rotate_left
          · intro wq hSq
            obtain ⟨hSa, hSb, hSc⟩ := hSq
            first | (go_simp; done) | (go_simp; with_reducible rfl)
          try simp only [Act.put, List.setIfInBounds_toArray, List.set_cons_zero, List.set_cons_succ]
          refine wpAnyH_take (i := 14) (oi := ⟨some 132, _, _, _, _, _⟩) (v := ?_) rfl (by kernel_rfl) (by kernel_rfl) (by kernel_rfl) (fun _ _ _ h => h) (Or.inl ⟨by rfl, ?_⟩) sd ?_
          rotate_left
          · intro wq hSq
            obtain ⟨hSa, hSb, hSc⟩ := hSq
            first | (go_simp; done) | (go_simp; with_reducible rfl)
          try simp only [Act.put, List.setIfInBounds_toArray, List.set_cons_zero, List.set_cons_succ]
          refine wpAnyH_take (i := 15) (oi := ⟨some 133, _, _, _, _, _⟩) (v := ?_) rfl (by kernel_rfl) (by kernel_rfl) (by kernel_rfl) (fun _ _ _ h => h) (Or.inl ⟨by rfl, ?_⟩) sd ?_
          rotate_left
          · intro wq hSq
            obtain ⟨hSa, hSb, hSc⟩ := hSq
            first | (go_simp; done) | (go_simp; with_reducible rfl)
          try simp only [Act.put, List.setIfInBounds_toArray, List.set_cons_zero, List.set_cons_succ]
          refine wpAnyH_take (i := 16) (oi := ⟨some 134, _, _, _, _, _⟩) (v := ?_) rfl (by kernel_rfl) (by kernel_rfl) (by kernel_rfl) (fun _ _ _ h => h) (Or.inl ⟨by rfl, ?_⟩) sd ?_
          rotate_left
          · intro wq hSq
            obtain ⟨hSa, hSb, hSc⟩ := hSq
            first | (go_simp; done) | (go_simp; with_reducible rfl)
          try simp only [Act.put, List.setIfInBounds_toArray, List.set_cons_zero, List.set_cons_succ]
          refine wpAnyH_take (i := 17) (oi := ⟨some 135, _, _, _, _, _⟩) (v := ?_) rfl (by kernel_rfl) (by kernel_rfl) (by kernel_rfl) (fun _ _ _ h => h) (Or.inl ⟨by rfl, ?_⟩) sd ?_
          rotate_left
          · intro wq hSq
            obtain ⟨hSa, hSb, hSc⟩ := hSq
            first | (go_simp; done) | (go_simp; with_reducible rfl)
          try simp only [Act.put, List.setIfInBounds_toArray, List.set_cons_zero, List.set_cons_succ]
          refine wpAnyH_take (i := 18) (oi := ⟨some 136, _, _, _, _, _⟩) (v := ?_) rfl (by kernel_rfl) (by kernel_rfl) (by kernel_rfl) (fun _ _ _ h => h) (Or.inl ⟨by rfl, ?_⟩) sd ?_
          rotate_left
          · intro wq hSq
            obtain ⟨hSa, hSb, hSc⟩ := hSq
            first | (go_simp; done) | (go_simp; with_reducible rfl)
          try simp only [Act.put, List.setIfInBounds_toArray, List.set_cons_zero, List.set_cons_succ]
          refine wpAnyH_take (i := 19) (oi := ⟨some 137, _, _, _, _, none⟩) (v := ?_) rfl (by kernel_rfl) (by kernel_rfl) (by kernel_rfl) (fun _ _ _ h => h) (Or.inl ⟨by rfl, ?_⟩) sd ?_
          rotate_left
          · intro wq hSq
            obtain ⟨hSa, hSb, hSc⟩ := hSq
            first | (go_simp; done) | (go_simp; with_reducible rfl)
          try simp only [Act.put, List.setIfInBounds_toArray, List.set_cons_zero, List.set_cons_succ]
          refine wpAnyH_take (i := 20) (oi := ⟨some 138, _, _, _, _, none⟩) (v := ?_) rfl (by kernel_rfl) (by kernel_rfl) (by kernel_rfl) (fun _ _ _ h => h) (Or.inl ⟨by rfl, ?_⟩) sd ?_
          rotate_left
          · intro wq hSq
            obtain ⟨hSa, hSb, hSc⟩ := hSq
            first | (go_simp; done) | (go_simp; with_reducible rfl)
          try simp only [Act.put, List.setIfInBounds_toArray, List.set_cons_zero, List.set_cons_succ]
          refine wpAnyH_take (i := 21) (oi := ⟨some 139, _, _, _, _, _⟩) (v := ?_) rfl (by kernel_rfl) (by kernel_rfl) (by kernel_rfl) (fun _ _ _ h => h) (Or.inl ⟨by rfl, ?_⟩) sd ?_
          rotate_left
          · intro wq hSq
            obtain ⟨hSa, hSb, hSc⟩ := hSq
            first | (go_simp; done) | (go_simp; with_reducible rfl)
          try simp only [Act.put, List.setIfInBounds_toArray, List.set_cons_zero, List.set_cons_succ]
          refine wpAnyH_take (i := 22) (oi := ⟨some 140, _, _, _, _, _⟩) (v := ?_) rfl (by kernel_rfl) (by kernel_rfl) (by kernel_rfl) (fun _ _ _ h => h) (Or.inl ⟨by rfl, ?_⟩) sd ?_
          rotate_left
          · intro wq hSq
            obtain ⟨hSa, hSb, hSc⟩ := hSq
            first | (go_simp; done) | (go_simp; with_reducible rfl)
          try simp only [Act.put, List.setIfInBounds_toArray, List.set_cons_zero, List.set_cons_succ]
          refine wpAnyH_take (i := 23) (oi := ⟨some 141, _, _, _, _, _⟩) (v := ?_) rfl (by kernel_rfl) (by kernel_rfl) (by kernel_rfl) (fun _ _ _ h => h) (Or.inl ⟨by rfl, ?_⟩) sd ?_
          rotate_left
          · intro wq hSq
            obtain ⟨hSa, hSb, hSc⟩ := hSq
            first | (go_simp; done) | (go_simp; with_reducible rfl)
          try simp only [Act.put, List.setIfInBounds_toArray, List.set_cons_zero, List.set_cons_succ]
          refine wpAnyH_take (i := 24) (oi := ⟨some 142, _, _, _, _, _⟩) (v := ?_) rfl (by kernel_rfl) (by kernel_rfl) (by kernel_rfl) (fun _ _ _ h => h) (Or.inl ⟨by rfl, ?_⟩) sd ?_
          rotate_left
          · intro wq hSq
            obtain ⟨hSa, hSb, hSc⟩ := hSq
            first | (go_simp; done) | (go_simp; with_reducible rfl)
          try simp only [Act.put, List.setIfInBounds_toArray, List.set_cons_zero, List.set_cons_succ]
          refine wpAnyH_take (i := 25) (oi := ⟨some 143, _, _, _, _, _⟩) (v := ?_) rfl (by kernel_rfl) (by kernel_rfl) (by kernel_rfl) (fun _ _ _ h => h) (Or.inl ⟨by rfl, ?_⟩) sd ?_
          rotate_left
          · intro wq hSq
            obtain ⟨hSa, hSb, hSc⟩ := hSq
            first | (go_simp; done) | (go_simp; with_reducible rfl)
          try simp only [Act.put, List.setIfInBounds_toArray, List.set_cons_zero, List.set_cons_succ]
          refine wpAnyH_take (i := 26) (oi := ⟨some 144, _, _, _, _, none⟩) (v := ?_) rfl (by kernel_rfl) (by kernel_rfl) (by kernel_rfl) (fun _ _ _ h => h) (Or.inl ⟨by rfl, ?_⟩) sd ?_
          rotate_left
          · intro wq hSq
            obtain ⟨hSa, hSb, hSc⟩ := hSq
            first | (go_simp; done) | (go_simp; with_reducible rfl)
          try simp only [Act.put, List.setIfInBounds_toArray, List.set_cons_zero, List.set_cons_succ]
          refine wpAnyH_take (i := 27) (oi := ⟨some 6, _, _, _, _, none⟩) (v := ?_) rfl (by kernel_rfl) (by kernel_rfl) (by kernel_rfl) (fun _ _ _ h => h) (Or.inl ⟨by rfl, ?_⟩) sd ?_
          rotate_left
          · intro wq hSq
            obtain ⟨hSa, hSb, hSc⟩ := hSq
            first | (go_simp; done) | (go_simp; with_reducible rfl)
          try simp only [Act.put, List.setIfInBounds_toArray, List.set_cons_zero, List.set_cons_succ]
          refine wpAnyH_done (by kernel_rfl) ?_ _
          go_wp2
          go_ret
          refine ⟨?_, Cd⟩
          simp
    | some a =>
      obtain ⟨kd, at_, nw⟩ := a
      have hac := needL_acc hn
      have hsl := HH.out.sl
      obtain ⟨⟨l2, u⟩, hy, hyl⟩ := doP_in (l := l) (a := ⟨kd, at_, nw⟩) (by have := HH.out.len; have h2 := hac.2; dsimp only at h2 ⊢; omega)
      obtain ⟨hn90, x, h16, hins, hk1, hkk, hoddk⟩ := HH.out.ahead hn hy
      have HS := Lib.hid (HH.out.step hn hy)
      have hll := HH.out.len
      have hst : stepL l p = some (l2, takeL p u) := by unfold stepL; rw [hn]; dsimp only; rw [hy]; rfl
      have h16' := HW.out 16 _ h16
      have S1 : ∀ w, w.heap[r]? = some (.cells cur 22 (0, 0)) → Calls Tryz.prog 63 #[.slice (some ⟨r, 0, none⟩) 56 c, .agg (layC p)] w fun e w' => ∃ R2, e = .returned (.tuple #[.slice (some ⟨R2, 0, none⟩) 56 56, .agg (layC (takeL p u)), I 0]) ∧ w'.heap[R2]? = some (.cells (wcells l2) 22 (0, 0)) ∧ Ch [] w w' := fun w h => by
        have := lStep_any l r c cur p w (by omega) (by omega) h HW.out hright
        rw [hll] at this
        refine this.mono fun e w' hh => ?_
        unfold StepLPost at hh
        rw [hst] at hh
        obtain ⟨R2, he, hrow, hl2, hC⟩ := hh
        dsimp only at he hrow hl2
        rw [hl2, hll] at he
        exact ⟨R2, he, hrow.2, hC⟩
      rw [hn] at N1
      simp only [needLV, hw0] at N1
      obtain ⟨p2, hp2⟩ : ∃ q, takeL p u = q := ⟨_, rfl⟩
      dsimp only at HS
      rw [hp2] at S1 HS
      have hins2 : insideL p = false ∨ insideL p = true ∧ oddB x = true := by
        cases hi : insideL p with
        | false => exact .inl rfl
        | true =>
          right
          refine ⟨rfl, hins ?_⟩
          unfold insideL at hi
          simp only [Bool.and_eq_true, decide_eq_true_eq] at hi
          exact hi.2.1
      have hnI : (n : Int) < 90 := by omega
      have hnI2 : (n : Int) < 100 := by omega
      have HW2 := HW
      have HWR := Lib.hid (show IntKind.i64.wrap ((n : Int) + 1) = (n : Int) + 1 by simp only [IntKind.wrap, IntKind.signed, IntKind.bits]; simp; omega)
      dsimp only at hk1 hkk hoddk
      obtain ⟨ins, hinsv⟩ : ∃ b, insideL p = b := ⟨_, rfl⟩
      rw [hinsv] at I1 hins2
      obtain ⟨o, ho⟩ : ∃ b, oddB x = b := ⟨_, rfl⟩
      rw [ho] at hins2 hoddk
      rcases hkk with rfl | rfl
      · have e1 : l2 = l := hk1 rfl
        have EQ := fun R2 w h1 h2 => eq_rows20 (l := l2) (n := 56) (by omega) (by rw [e1]; exact hll) R2 r 56 c (wcells l2) cur (wcells_at l2) (by rw [e1]; exact HW2.out) w h1 h2
        clear hk1 hoddk hins hy hyl hac hn hst hll hright hinsv hp2 e1 HH HW HW2 h16 hsl hw0
        rcases hins2 with rfl | ⟨rfl, rfl⟩
        · go_wp2_with fail
          refine (N1 _).mono ?_
          rintro e w5 ⟨rfl, hc5⟩
          have hcz := accv_put_ch who 1 at_ (N nw) w5
          have a6 := accv_put who 1 at_ (N nw) w5
          have hch := hc5.trans hcz
          have D6 := hkeep hch Dr
          have T6 := hkeep hch Tr
          have R6 := hkeep hch Rr
          have C6 := Cr.trans hch
          clear hcz hch hc5 Dr Tr Rr Cr N1
          go_upto_region 11 with (fail)
          obtain ⟨w6, hw6⟩ : ∃ W, World.onObj (w5.alloc (.cells (accC 0 0 0 0) 87)) w5.heap.size (laidAt 0 (accC who 1 at_ (N nw))) = W := ⟨_, rfl⟩
          rw [hw6] at a6 D6 T6 R6 C6 ⊢
          clear hw6
          obtain ⟨AA, hA⟩ : ∃ A, w5.heap.size = A := ⟨_, rfl⟩
          rw [hA] at a6 ⊢
          clear hA
          go_wp2_with fail
          refine (I1 _).mono ?_
          rintro e w7 ⟨rfl, hc7⟩
          have a7 := hkeep hc7 a6
          have D7 := hkeep hc7 D6
          have T7 := hkeep hc7 T6
          have R7 := hkeep hc7 R6
          have C7 := C6.trans hc7
          clear a6 D6 T6 R6 C6 hc7 I1
          go_wp2_with fail
          refine (S1 _ R7).mono ?_
          rintro e w8 ⟨R2, rfl, r8, hc8⟩
          have a8 := hkeep hc8 a7
          have D8 := hkeep hc8 D7
          have T8 := hkeep hc8 T7
          have R8 := hkeep hc8 R7
          have C8 := C7.trans hc8
          clear a7 D7 T7 R7 C7 hc8 S1
          go_upto_region 15 with (fail)
          have p9 := lay_put p2 w8
          have hcp := lay_put_ch p2 w8
          have a9 := hkeep hcp a8
          have D9 := hkeep hcp D8
          have T9 := hkeep hcp T8
          have R9 := hkeep hcp R8
          have r9 := hkeep hcp r8
          have C9 := C8.trans hcp
          have nDP : D < w8.heap.size := blk_lt19 D8
          clear a8 D8 T8 R8 r8 C8 hcp
          obtain ⟨w9, hw9⟩ : ∃ W, World.onObj (w8.alloc (.cells (layC zeroLay) 72)) w8.heap.size (laidAt 0 (layC p2)) = W := ⟨_, rfl⟩
          rw [hw9] at p9 a9 D9 T9 R9 r9 C9 ⊢
          clear hw9
          obtain ⟨P, hP⟩ : ∃ P, w8.heap.size = P := ⟨_, rfl⟩
          rw [hP] at p9 nDP ⊢
          clear hP
          have hPD : ¬ P = D := by omega
          clear nDP
          go_wp2_with fail
          refine (EQ R2 _ r9 R9).mono ?_
          rintro e w10 ⟨rfl, hc10⟩
          have p10 := hkeep hc10 p9
          have a10 := hkeep hc10 a9
          have D10 := hkeep hc10 D9
          have T10 := hkeep hc10 T9
          have r10 := hkeep hc10 r9
          have C10 := C9.trans hc10
          clear p9 a9 D9 T9 R9 r9 C9 hc10 EQ
          go_upto_region 19 with (fail)
          have sP : (fun W' : World => W'.heap[P]? = some (.cells (layC p2) 72 (0, 0))) w10.drew := p10
          have DD : w10.drew.heap[D]? = some (.cells (layC p) 72 (0, 0)) := D10
          have TT : w10.drew.heap[T]? = some (.cells (tcells t) 26 (0, 0)) := T10
          have rr : w10.drew.heap[R2]? = some (.cells (wcells l2) 22 (0, 0)) := r10
          have CC : Ch [] w w10.drew := C10.drew
          refine wp_region_held_drew (S := fun W' => W'.heap[P]? = some (.cells (layC p2) 72 (0, 0))) (by kernel_rfl) sP ?_
          intro _
          simp only [List.size_toArray, List.length_cons, List.length_nil, Nat.reduceAdd]
          clear p10 D10 T10 r10 C10
          generalize w10.drew = w11 at *
          refine wpAnyH_take (i := 0) (oi := ⟨some 102, _, _, _, _, none⟩) (v := ?_) rfl (by kernel_rfl) (by kernel_rfl) (by kernel_rfl) (fun _ _ _ h => h) (Or.inl ⟨by rfl, ?_⟩) sP ?_
          rotate_left
          · intro wq hSq
            first | (go_simp; done) | (go_simp; with_reducible rfl)
          try simp only [Act.put, List.setIfInBounds_toArray, List.set_cons_zero, List.set_cons_succ]
          refine wpAnyH_take (i := 1) (oi := ⟨some 103, _, _, _, _, none⟩) (v := ?_) rfl (by kernel_rfl) (by kernel_rfl) (by kernel_rfl) (fun _ _ _ h => h) (Or.inl ⟨by rfl, ?_⟩) sP ?_
          rotate_left
          · intro wq hSq
            first | (go_simp; done) | (go_simp; with_reducible rfl)
          try simp only [Act.put, List.setIfInBounds_toArray, List.set_cons_zero, List.set_cons_succ]
          refine wpAnyH_take (i := 2) (oi := ⟨some 104, _, _, _, _, none⟩) (v := ?_) rfl (by kernel_rfl) (by kernel_rfl) (by kernel_rfl) (fun _ _ _ h => h) (Or.inl ⟨by rfl, ?_⟩) sP ?_
          rotate_left
          · intro wq hSq
            first | (go_simp; done) | (go_simp; with_reducible rfl)
          try simp only [Act.put, List.setIfInBounds_toArray, List.set_cons_zero, List.set_cons_succ]
          refine wpAnyH_take (i := 3) (oi := ⟨some 105, _, _, _, _, none⟩) (v := ?_) rfl (by kernel_rfl) (by kernel_rfl) (by kernel_rfl) (fun _ _ _ h => h) (Or.inl ⟨by rfl, ?_⟩) sP ?_
          rotate_left
          · intro wq hSq
            first | (go_simp; done) | (go_simp; with_reducible rfl)
          try simp only [Act.put, List.setIfInBounds_toArray, List.set_cons_zero, List.set_cons_succ]
          refine wpAnyH_take (i := 4) (oi := ⟨some 7, _, _, _, _, none⟩) (v := ?_) rfl (by kernel_rfl) (by kernel_rfl) (by kernel_rfl) (fun _ _ _ h => h) (Or.inl ⟨by rfl, ?_⟩) sP ?_
          rotate_left
          · intro wq hSq
            first | (go_simp; done) | (go_simp; with_reducible rfl)
          try simp only [Act.put, List.setIfInBounds_toArray, List.set_cons_zero, List.set_cons_succ]
          refine wpAnyH_ready (rs := [5]) (by kernel_rfl) (by simp) ?_
          refine AllReadyH.cons rfl (fun K hK => ?_) AllReadyH.nil
          go_simp
          have sP2 : (World.onObj w11 D (laidAt 0 (layC p2))).heap[P]? = some (.cells (layC p2) 72 (0, 0)) := by rw [heap_onObj, if_neg hPD]; exact sP
          have D2 : (World.onObj w11 D (laidAt 0 (layC p2))).heap[D]? = some (.cells (layC p2) 72 (0, 0)) := by rw [heap_onObj, if_pos rfl, DD, Option.map_some, laidAt_lay]
          have T2 : (World.onObj w11 D (laidAt 0 (layC p2))).heap[T]? = some (.cells (tcells t) 26 (0, 0)) := by rw [heap_onObj, if_neg (by omega)]; exact TT
          have r2 := (onObj_other (w := w11) (F := D) (laidAt 0 (layC p2)) (fun e => block_ne rr DD (by decide) e)).trans rr
          have C2 : Ch [] w (World.onObj w11 D (laidAt 0 (layC p2))) := CC.onObj (.inr hDw) _
          refine hK.out _ _ sP2 (fun _ => ?_)
          clear hK K sP DD TT rr CC
          generalize (World.onObj w11 D (laidAt 0 (layC p2))) = w12 at *
          refine wpAnyH_take (i := 6) (oi := ⟨some 10, _, _, _, _, none⟩) (v := ?_) rfl (by kernel_rfl) (by kernel_rfl) (by kernel_rfl) (fun _ _ _ h => h) (Or.inl ⟨by rfl, ?_⟩) sP2 ?_
          rotate_left
          · intro wq hSq
            first | (go_simp; done) | (go_simp; with_reducible rfl)
          try simp only [Act.put, List.setIfInBounds_toArray, List.set_cons_zero, List.set_cons_succ]
          refine wpAnyH_done (by kernel_rfl) ?_ _
          go_wp2
          go_roundw
          case rel => exact ⟨R2, 56, wcells l2, l2, p2, n + 1, rfl, (by first | go_num | (rw [HWR.out]; rfl) | (simp only [HWR.out]; rfl)), (by first | go_num | (rw [HWR.out]; rfl) | (simp only [HWR.out]; rfl)), Lib.hid (wcells_at l2), HS, r2, D2, T2, C2⟩
          case measure => (have h3 := HWR.out; simp only [intOf]; first | omega | (rw [h3]; omega) | (simp; omega) | (simp [h3]; omega))
        · go_wp2_with fail
          refine (N1 _).mono ?_
          rintro e w5 ⟨rfl, hc5⟩
          have hcz := accv_put_ch who 1 at_ (N nw) w5
          have a6 := accv_put who 1 at_ (N nw) w5
          have hch := hc5.trans hcz
          have D6 := hkeep hch Dr
          have T6 := hkeep hch Tr
          have R6 := hkeep hch Rr
          have C6 := Cr.trans hch
          clear hcz hch hc5 Dr Tr Rr Cr N1
          go_upto_region 11 with (fail)
          obtain ⟨w6, hw6⟩ : ∃ W, World.onObj (w5.alloc (.cells (accC 0 0 0 0) 87)) w5.heap.size (laidAt 0 (accC who 1 at_ (N nw))) = W := ⟨_, rfl⟩
          rw [hw6] at a6 D6 T6 R6 C6 ⊢
          clear hw6
          obtain ⟨AA, hA⟩ : ∃ A, w5.heap.size = A := ⟨_, rfl⟩
          rw [hA] at a6 ⊢
          clear hA
          go_wp2_with fail
          refine (I1 _).mono ?_
          rintro e w7 ⟨rfl, hc7⟩
          have a7 := hkeep hc7 a6
          have D7 := hkeep hc7 D6
          have T7 := hkeep hc7 T6
          have R7 := hkeep hc7 R6
          have C7 := C6.trans hc7
          clear a6 D6 T6 R6 C6 hc7 I1
          go_wp2_with fail
          refine (S1 _ R7).mono ?_
          rintro e w8 ⟨R2, rfl, r8, hc8⟩
          have a8 := hkeep hc8 a7
          have D8 := hkeep hc8 D7
          have T8 := hkeep hc8 T7
          have R8 := hkeep hc8 R7
          have C8 := C7.trans hc8
          clear a7 D7 T7 R7 C7 hc8 S1
          go_upto_region 15 with (fail)
          have p9 := lay_put p2 w8
          have hcp := lay_put_ch p2 w8
          have a9 := hkeep hcp a8
          have D9 := hkeep hcp D8
          have T9 := hkeep hcp T8
          have R9 := hkeep hcp R8
          have r9 := hkeep hcp r8
          have C9 := C8.trans hcp
          have nDP : D < w8.heap.size := blk_lt19 D8
          clear a8 D8 T8 R8 r8 C8 hcp
          obtain ⟨w9, hw9⟩ : ∃ W, World.onObj (w8.alloc (.cells (layC zeroLay) 72)) w8.heap.size (laidAt 0 (layC p2)) = W := ⟨_, rfl⟩
          rw [hw9] at p9 a9 D9 T9 R9 r9 C9 ⊢
          clear hw9
          obtain ⟨P, hP⟩ : ∃ P, w8.heap.size = P := ⟨_, rfl⟩
          rw [hP] at p9 nDP ⊢
          clear hP
          have hPD : ¬ P = D := by omega
          clear nDP
          go_wp2_with fail
          refine (EQ R2 _ r9 R9).mono ?_
          rintro e w10 ⟨rfl, hc10⟩
          have p10 := hkeep hc10 p9
          have a10 := hkeep hc10 a9
          have D10 := hkeep hc10 D9
          have T10 := hkeep hc10 T9
          have r10 := hkeep hc10 r9
          have C10 := C9.trans hc10
          clear p9 a9 D9 T9 R9 r9 C9 hc10 EQ
          go_upto_region 19 with (fail)
          have sP : (fun W' : World => W'.heap[P]? = some (.cells (layC p2) 72 (0, 0))) w10.drew := p10
          have DD : w10.drew.heap[D]? = some (.cells (layC p) 72 (0, 0)) := D10
          have TT : w10.drew.heap[T]? = some (.cells (tcells t) 26 (0, 0)) := T10
          have rr : w10.drew.heap[R2]? = some (.cells (wcells l2) 22 (0, 0)) := r10
          have CC : Ch [] w w10.drew := C10.drew
          refine wp_region_held_drew (S := fun W' => W'.heap[P]? = some (.cells (layC p2) 72 (0, 0))) (by kernel_rfl) sP ?_
          intro _
          simp only [List.size_toArray, List.length_cons, List.length_nil, Nat.reduceAdd]
          clear p10 D10 T10 r10 C10
          generalize w10.drew = w11 at *
          refine wpAnyH_take (i := 0) (oi := ⟨some 102, _, _, _, _, none⟩) (v := ?_) rfl (by kernel_rfl) (by kernel_rfl) (by kernel_rfl) (fun _ _ _ h => h) (Or.inl ⟨by rfl, ?_⟩) sP ?_
          rotate_left
          · intro wq hSq
            first | (go_simp; done) | (go_simp; with_reducible rfl)
          try simp only [Act.put, List.setIfInBounds_toArray, List.set_cons_zero, List.set_cons_succ]
          refine wpAnyH_take (i := 1) (oi := ⟨some 103, _, _, _, _, none⟩) (v := ?_) rfl (by kernel_rfl) (by kernel_rfl) (by kernel_rfl) (fun _ _ _ h => h) (Or.inl ⟨by rfl, ?_⟩) sP ?_
          rotate_left
          · intro wq hSq
            first | (go_simp; done) | (go_simp; with_reducible rfl)
          try simp only [Act.put, List.setIfInBounds_toArray, List.set_cons_zero, List.set_cons_succ]
          refine wpAnyH_take (i := 2) (oi := ⟨some 104, _, _, _, _, none⟩) (v := ?_) rfl (by kernel_rfl) (by kernel_rfl) (by kernel_rfl) (fun _ _ _ h => h) (Or.inl ⟨by rfl, ?_⟩) sP ?_
          rotate_left
          · intro wq hSq
            first | (go_simp; done) | (go_simp; with_reducible rfl)
          try simp only [Act.put, List.setIfInBounds_toArray, List.set_cons_zero, List.set_cons_succ]
          refine wpAnyH_take (i := 3) (oi := ⟨some 105, _, _, _, _, none⟩) (v := ?_) rfl (by kernel_rfl) (by kernel_rfl) (by kernel_rfl) (fun _ _ _ h => h) (Or.inl ⟨by rfl, ?_⟩) sP ?_
          rotate_left
          · intro wq hSq
            first | (go_simp; done) | (go_simp; with_reducible rfl)
          try simp only [Act.put, List.setIfInBounds_toArray, List.set_cons_zero, List.set_cons_succ]
          refine wpAnyH_take (i := 4) (oi := ⟨some 7, _, _, _, _, none⟩) (v := ?_) rfl (by kernel_rfl) (by kernel_rfl) (by kernel_rfl) (fun _ _ _ h => h) (Or.inl ⟨by rfl, ?_⟩) sP ?_
          rotate_left
          · intro wq hSq
            first | (go_simp; done) | (go_simp; with_reducible rfl)
          try simp only [Act.put, List.setIfInBounds_toArray, List.set_cons_zero, List.set_cons_succ]
          refine wpAnyH_ready (rs := [5]) (by kernel_rfl) (by simp) ?_
          refine AllReadyH.cons rfl (fun K hK => ?_) AllReadyH.nil
          go_simp
          have sP2 : (World.onObj w11 D (laidAt 0 (layC p2))).heap[P]? = some (.cells (layC p2) 72 (0, 0)) := by rw [heap_onObj, if_neg hPD]; exact sP
          have D2 : (World.onObj w11 D (laidAt 0 (layC p2))).heap[D]? = some (.cells (layC p2) 72 (0, 0)) := by rw [heap_onObj, if_pos rfl, DD, Option.map_some, laidAt_lay]
          have T2 : (World.onObj w11 D (laidAt 0 (layC p2))).heap[T]? = some (.cells (tcells t) 26 (0, 0)) := by rw [heap_onObj, if_neg (by omega)]; exact TT
          have r2 := (onObj_other (w := w11) (F := D) (laidAt 0 (layC p2)) (fun e => block_ne rr DD (by decide) e)).trans rr
          have C2 : Ch [] w (World.onObj w11 D (laidAt 0 (layC p2))) := CC.onObj (.inr hDw) _
          refine hK.out _ _ sP2 (fun _ => ?_)
          clear hK K sP DD TT rr CC
          generalize (World.onObj w11 D (laidAt 0 (layC p2))) = w12 at *
          refine wpAnyH_take (i := 6) (oi := ⟨some 10, _, _, _, _, none⟩) (v := ?_) rfl (by kernel_rfl) (by kernel_rfl) (by kernel_rfl) (fun _ _ _ h => h) (Or.inl ⟨by rfl, ?_⟩) sP2 ?_
          rotate_left
          · intro wq hSq
            first | (go_simp; done) | (go_simp; with_reducible rfl)
          try simp only [Act.put, List.setIfInBounds_toArray, List.set_cons_zero, List.set_cons_succ]
          refine wpAnyH_done (by kernel_rfl) ?_ _
          go_wp2
          go_roundw
          case rel => exact ⟨R2, 56, wcells l2, l2, p2, n + 1, rfl, (by first | go_num | (rw [HWR.out]; rfl) | (simp only [HWR.out]; rfl)), (by first | go_num | (rw [HWR.out]; rfl) | (simp only [HWR.out]; rfl)), Lib.hid (wcells_at l2), HS, r2, D2, T2, C2⟩
          case measure => (have h3 := HWR.out; simp only [intOf]; first | omega | (rw [h3]; omega) | (simp; omega) | (simp [h3]; omega))
      · have hat : at_ = 16 ∨ ((at_ == 16) = false ∧ ¬ at_ = 16 ∧ (at_ != 16) = true) ∧ o = true := by
          by_cases h : at_ = 16
          · exact .inl h
          · exact .inr ⟨⟨beq_eq_false_iff_ne.2 h, h, by rw [bne, beq_eq_false_iff_ne.2 h]; rfl⟩, hoddk rfl h⟩
        clear hk1 hoddk hins hy hyl hac hn hst hll hright hinsv hp2 HH HW HW2 h16 hsl hw0
        rcases hat with rfl | ⟨⟨g1, g2, g3⟩, rfl⟩
        · rcases hins2 with rfl | ⟨rfl, rfl⟩
          · go_wp2_with fail
            refine (N1 _).mono ?_
            rintro e w5 ⟨rfl, hc5⟩
            have hcz := accv_put_ch who 2 (16 : Int) (N nw) w5
            have a6 := accv_put who 2 (16 : Int) (N nw) w5
            have hch := hc5.trans hcz
            have D6 := hkeep hch Dr
            have T6 := hkeep hch Tr
            have R6 := hkeep hch Rr
            have C6 := Cr.trans hch
            clear hcz hch hc5 Dr Tr Rr Cr N1
            go_upto_region 11 with (fail)
            obtain ⟨w6, hw6⟩ : ∃ W, World.onObj (w5.alloc (.cells (accC 0 0 0 0) 87)) w5.heap.size (laidAt 0 (accC who 2 (16 : Int) (N nw))) = W := ⟨_, rfl⟩
            rw [hw6] at a6 D6 T6 R6 C6 ⊢
            clear hw6
            obtain ⟨AA, hA⟩ : ∃ A, w5.heap.size = A := ⟨_, rfl⟩
            rw [hA] at a6 ⊢
            clear hA
            go_wp2_with fail
            refine (I1 _).mono ?_
            rintro e w7 ⟨rfl, hc7⟩
            have a7 := hkeep hc7 a6
            have D7 := hkeep hc7 D6
            have T7 := hkeep hc7 T6
            have R7 := hkeep hc7 R6
            have C7 := C6.trans hc7
            clear a6 D6 T6 R6 C6 hc7 I1
            go_wp2_with fail
            refine (S1 _ R7).mono ?_
            rintro e w8 ⟨R2, rfl, r8, hc8⟩
            have a8 := hkeep hc8 a7
            have D8 := hkeep hc8 D7
            have T8 := hkeep hc8 T7
            have R8 := hkeep hc8 R7
            have C8 := C7.trans hc8
            clear a7 D7 T7 R7 C7 hc8 S1
            go_upto_region 15 with (fail)
            have p9 := lay_put p2 w8
            have hcp := lay_put_ch p2 w8
            have a9 := hkeep hcp a8
            have D9 := hkeep hcp D8
            have T9 := hkeep hcp T8
            have R9 := hkeep hcp R8
            have r9 := hkeep hcp r8
            have C9 := C8.trans hcp
            have nDP : D < w8.heap.size := blk_lt19 D8
            clear a8 D8 T8 R8 r8 C8 hcp
            obtain ⟨w9, hw9⟩ : ∃ W, World.onObj (w8.alloc (.cells (layC zeroLay) 72)) w8.heap.size (laidAt 0 (layC p2)) = W := ⟨_, rfl⟩
            rw [hw9] at p9 a9 D9 T9 R9 r9 C9 ⊢
            clear hw9
            obtain ⟨P, hP⟩ : ∃ P, w8.heap.size = P := ⟨_, rfl⟩
            rw [hP] at p9 nDP ⊢
            clear hP
            have hPD : ¬ P = D := by omega
            clear nDP
            go_upto_region 19 with (fail)
            have sP : (fun W' : World => W'.heap[P]? = some (.cells (layC p2) 72 (0, 0))) w9.drew := p9
            have DD : w9.drew.heap[D]? = some (.cells (layC p) 72 (0, 0)) := D9
            have TT : w9.drew.heap[T]? = some (.cells (tcells t) 26 (0, 0)) := T9
            have rr : w9.drew.heap[R2]? = some (.cells (wcells l2) 22 (0, 0)) := r9
            have CC : Ch [] w w9.drew := C9.drew
            refine wp_region_held_drew (S := fun W' => W'.heap[P]? = some (.cells (layC p2) 72 (0, 0))) (by kernel_rfl) sP ?_
            intro _
            simp only [List.size_toArray, List.length_cons, List.length_nil, Nat.reduceAdd]
            clear p9 D9 T9 r9 C9
            generalize w9.drew = w11 at *
            refine wpAnyH_take (i := 0) (oi := ⟨some 102, _, _, _, _, none⟩) (v := ?_) rfl (by kernel_rfl) (by kernel_rfl) (by kernel_rfl) (fun _ _ _ h => h) (Or.inl ⟨by rfl, ?_⟩) sP ?_
            rotate_left
            · intro wq hSq
              first | (go_simp; done) | (go_simp; with_reducible rfl)
            try simp only [Act.put, List.setIfInBounds_toArray, List.set_cons_zero, List.set_cons_succ]
            refine wpAnyH_take (i := 1) (oi := ⟨some 103, _, _, _, _, none⟩) (v := ?_) rfl (by kernel_rfl) (by kernel_rfl) (by kernel_rfl) (fun _ _ _ h => h) (Or.inl ⟨by rfl, ?_⟩) sP ?_
            rotate_left
            · intro wq hSq
              first | (go_simp; done) | (go_simp; with_reducible rfl)
            try simp only [Act.put, List.setIfInBounds_toArray, List.set_cons_zero, List.set_cons_succ]
            refine wpAnyH_take (i := 2) (oi := ⟨some 104, _, _, _, _, none⟩) (v := ?_) rfl (by kernel_rfl) (by kernel_rfl) (by kernel_rfl) (fun _ _ _ h => h) (Or.inl ⟨by rfl, ?_⟩) sP ?_
            rotate_left
            · intro wq hSq
              first | (go_simp; done) | (go_simp; with_reducible rfl)
            try simp only [Act.put, List.setIfInBounds_toArray, List.set_cons_zero, List.set_cons_succ]
            refine wpAnyH_take (i := 3) (oi := ⟨some 105, _, _, _, _, none⟩) (v := ?_) rfl (by kernel_rfl) (by kernel_rfl) (by kernel_rfl) (fun _ _ _ h => h) (Or.inl ⟨by rfl, ?_⟩) sP ?_
            rotate_left
            · intro wq hSq
              first | (go_simp; done) | (go_simp; with_reducible rfl)
            try simp only [Act.put, List.setIfInBounds_toArray, List.set_cons_zero, List.set_cons_succ]
            refine wpAnyH_take (i := 4) (oi := ⟨some 7, _, _, _, _, none⟩) (v := ?_) rfl (by kernel_rfl) (by kernel_rfl) (by kernel_rfl) (fun _ _ _ h => h) (Or.inl ⟨by rfl, ?_⟩) sP ?_
            rotate_left
            · intro wq hSq
              first | (go_simp; done) | (go_simp; with_reducible rfl)
            try simp only [Act.put, List.setIfInBounds_toArray, List.set_cons_zero, List.set_cons_succ]
            refine wpAnyH_ready (rs := [5]) (by kernel_rfl) (by simp) ?_
            refine AllReadyH.cons rfl (fun K hK => ?_) AllReadyH.nil
            go_simp
            have sP2 : (World.onObj w11 D (laidAt 0 (layC p2))).heap[P]? = some (.cells (layC p2) 72 (0, 0)) := by rw [heap_onObj, if_neg hPD]; exact sP
            have D2 : (World.onObj w11 D (laidAt 0 (layC p2))).heap[D]? = some (.cells (layC p2) 72 (0, 0)) := by rw [heap_onObj, if_pos rfl, DD, Option.map_some, laidAt_lay]
            have T2 : (World.onObj w11 D (laidAt 0 (layC p2))).heap[T]? = some (.cells (tcells t) 26 (0, 0)) := by rw [heap_onObj, if_neg (by omega)]; exact TT
            have r2 := (onObj_other (w := w11) (F := D) (laidAt 0 (layC p2)) (fun e => block_ne rr DD (by decide) e)).trans rr
            have C2 : Ch [] w (World.onObj w11 D (laidAt 0 (layC p2))) := CC.onObj (.inr hDw) _
            refine hK.out _ _ sP2 (fun _ => ?_)
            clear hK K sP DD TT rr CC
            generalize (World.onObj w11 D (laidAt 0 (layC p2))) = w12 at *
            refine wpAnyH_take (i := 6) (oi := ⟨some 10, _, _, _, _, none⟩) (v := ?_) rfl (by kernel_rfl) (by kernel_rfl) (by kernel_rfl) (fun _ _ _ h => h) (Or.inl ⟨by rfl, ?_⟩) sP2 ?_
            rotate_left
            · intro wq hSq
              first | (go_simp; done) | (go_simp; with_reducible rfl)
            try simp only [Act.put, List.setIfInBounds_toArray, List.set_cons_zero, List.set_cons_succ]
            refine wpAnyH_done (by kernel_rfl) ?_ _
            go_wp2
            go_roundw
            case rel => exact ⟨R2, 56, wcells l2, l2, p2, n + 1, rfl, (by first | go_num | (rw [HWR.out]; rfl) | (simp only [HWR.out]; rfl)), (by first | go_num | (rw [HWR.out]; rfl) | (simp only [HWR.out]; rfl)), Lib.hid (wcells_at l2), HS, r2, D2, T2, C2⟩
            case measure => (have h3 := HWR.out; simp only [intOf]; first | omega | (rw [h3]; omega) | (simp; omega) | (simp [h3]; omega))
          · go_wp2_with fail
            refine (N1 _).mono ?_
            rintro e w5 ⟨rfl, hc5⟩
            have hcz := accv_put_ch who 2 (16 : Int) (N nw) w5
            have a6 := accv_put who 2 (16 : Int) (N nw) w5
            have hch := hc5.trans hcz
            have D6 := hkeep hch Dr
            have T6 := hkeep hch Tr
            have R6 := hkeep hch Rr
            have C6 := Cr.trans hch
            clear hcz hch hc5 Dr Tr Rr Cr N1
            go_upto_region 11 with (fail)
            obtain ⟨w6, hw6⟩ : ∃ W, World.onObj (w5.alloc (.cells (accC 0 0 0 0) 87)) w5.heap.size (laidAt 0 (accC who 2 (16 : Int) (N nw))) = W := ⟨_, rfl⟩
            rw [hw6] at a6 D6 T6 R6 C6 ⊢
            clear hw6
            obtain ⟨AA, hA⟩ : ∃ A, w5.heap.size = A := ⟨_, rfl⟩
            rw [hA] at a6 ⊢
            clear hA
            go_wp2_with fail
            refine (I1 _).mono ?_
            rintro e w7 ⟨rfl, hc7⟩
            have a7 := hkeep hc7 a6
            have D7 := hkeep hc7 D6
            have T7 := hkeep hc7 T6
            have R7 := hkeep hc7 R6
            have C7 := C6.trans hc7
            clear a6 D6 T6 R6 C6 hc7 I1
            go_wp2_with fail
            refine (S1 _ R7).mono ?_
            rintro e w8 ⟨R2, rfl, r8, hc8⟩
            have a8 := hkeep hc8 a7
            have D8 := hkeep hc8 D7
            have T8 := hkeep hc8 T7
            have R8 := hkeep hc8 R7
            have C8 := C7.trans hc8
            clear a7 D7 T7 R7 C7 hc8 S1
            go_upto_region 15 with (fail)
            have p9 := lay_put p2 w8
            have hcp := lay_put_ch p2 w8
            have a9 := hkeep hcp a8
            have D9 := hkeep hcp D8
            have T9 := hkeep hcp T8
            have R9 := hkeep hcp R8
            have r9 := hkeep hcp r8
            have C9 := C8.trans hcp
            have nDP : D < w8.heap.size := blk_lt19 D8
            clear a8 D8 T8 R8 r8 C8 hcp
            obtain ⟨w9, hw9⟩ : ∃ W, World.onObj (w8.alloc (.cells (layC zeroLay) 72)) w8.heap.size (laidAt 0 (layC p2)) = W := ⟨_, rfl⟩
            rw [hw9] at p9 a9 D9 T9 R9 r9 C9 ⊢
            clear hw9
            obtain ⟨P, hP⟩ : ∃ P, w8.heap.size = P := ⟨_, rfl⟩
            rw [hP] at p9 nDP ⊢
            clear hP
            have hPD : ¬ P = D := by omega
            clear nDP
            go_upto_region 19 with (fail)
            have sP : (fun W' : World => W'.heap[P]? = some (.cells (layC p2) 72 (0, 0))) w9.drew := p9
            have DD : w9.drew.heap[D]? = some (.cells (layC p) 72 (0, 0)) := D9
            have TT : w9.drew.heap[T]? = some (.cells (tcells t) 26 (0, 0)) := T9
            have rr : w9.drew.heap[R2]? = some (.cells (wcells l2) 22 (0, 0)) := r9
            have CC : Ch [] w w9.drew := C9.drew
            refine wp_region_held_drew (S := fun W' => W'.heap[P]? = some (.cells (layC p2) 72 (0, 0))) (by kernel_rfl) sP ?_
            intro _
            simp only [List.size_toArray, List.length_cons, List.length_nil, Nat.reduceAdd]
            clear p9 D9 T9 r9 C9
            generalize w9.drew = w11 at *
            refine wpAnyH_take (i := 0) (oi := ⟨some 102, _, _, _, _, none⟩) (v := ?_) rfl (by kernel_rfl) (by kernel_rfl) (by kernel_rfl) (fun _ _ _ h => h) (Or.inl ⟨by rfl, ?_⟩) sP ?_
            rotate_left
            · intro wq hSq
              first | (go_simp; done) | (go_simp; with_reducible rfl)
            try simp only [Act.put, List.setIfInBounds_toArray, List.set_cons_zero, List.set_cons_succ]
            refine wpAnyH_take (i := 1) (oi := ⟨some 103, _, _, _, _, none⟩) (v := ?_) rfl (by kernel_rfl) (by kernel_rfl) (by kernel_rfl) (fun _ _ _ h => h) (Or.inl ⟨by rfl, ?_⟩) sP ?_
            rotate_left
            · intro wq hSq
              first | (go_simp; done) | (go_simp; with_reducible rfl)
            try simp only [Act.put, List.setIfInBounds_toArray, List.set_cons_zero, List.set_cons_succ]
            refine wpAnyH_take (i := 2) (oi := ⟨some 104, _, _, _, _, none⟩) (v := ?_) rfl (by kernel_rfl) (by kernel_rfl) (by kernel_rfl) (fun _ _ _ h => h) (Or.inl ⟨by rfl, ?_⟩) sP ?_
            rotate_left
            · intro wq hSq
              first | (go_simp; done) | (go_simp; with_reducible rfl)
            try simp only [Act.put, List.setIfInBounds_toArray, List.set_cons_zero, List.set_cons_succ]
            refine wpAnyH_take (i := 3) (oi := ⟨some 105, _, _, _, _, none⟩) (v := ?_) rfl (by kernel_rfl) (by kernel_rfl) (by kernel_rfl) (fun _ _ _ h => h) (Or.inl ⟨by rfl, ?_⟩) sP ?_
            rotate_left
            · intro wq hSq
              first | (go_simp; done) | (go_simp; with_reducible rfl)
            try simp only [Act.put, List.setIfInBounds_toArray, List.set_cons_zero, List.set_cons_succ]
            refine wpAnyH_take (i := 4) (oi := ⟨some 7, _, _, _, _, none⟩) (v := ?_) rfl (by kernel_rfl) (by kernel_rfl) (by kernel_rfl) (fun _ _ _ h => h) (Or.inl ⟨by rfl, ?_⟩) sP ?_
            rotate_left
            · intro wq hSq
              first | (go_simp; done) | (go_simp; with_reducible rfl)
            try simp only [Act.put, List.setIfInBounds_toArray, List.set_cons_zero, List.set_cons_succ]
            refine wpAnyH_ready (rs := [5]) (by kernel_rfl) (by simp) ?_
            refine AllReadyH.cons rfl (fun K hK => ?_) AllReadyH.nil
            go_simp
            have sP2 : (World.onObj w11 D (laidAt 0 (layC p2))).heap[P]? = some (.cells (layC p2) 72 (0, 0)) := by rw [heap_onObj, if_neg hPD]; exact sP
            have D2 : (World.onObj w11 D (laidAt 0 (layC p2))).heap[D]? = some (.cells (layC p2) 72 (0, 0)) := by rw [heap_onObj, if_pos rfl, DD, Option.map_some, laidAt_lay]
            have T2 : (World.onObj w11 D (laidAt 0 (layC p2))).heap[T]? = some (.cells (tcells t) 26 (0, 0)) := by rw [heap_onObj, if_neg (by omega)]; exact TT
            have r2 := (onObj_other (w := w11) (F := D) (laidAt 0 (layC p2)) (fun e => block_ne rr DD (by decide) e)).trans rr
            have C2 : Ch [] w (World.onObj w11 D (laidAt 0 (layC p2))) := CC.onObj (.inr hDw) _
            refine hK.out _ _ sP2 (fun _ => ?_)
            clear hK K sP DD TT rr CC
            generalize (World.onObj w11 D (laidAt 0 (layC p2))) = w12 at *
            refine wpAnyH_take (i := 6) (oi := ⟨some 10, _, _, _, _, none⟩) (v := ?_) rfl (by kernel_rfl) (by kernel_rfl) (by kernel_rfl) (fun _ _ _ h => h) (Or.inl ⟨by rfl, ?_⟩) sP2 ?_
            rotate_left
            · intro wq hSq
              first | (go_simp; done) | (go_simp; with_reducible rfl)
            try simp only [Act.put, List.setIfInBounds_toArray, List.set_cons_zero, List.set_cons_succ]
            refine wpAnyH_done (by kernel_rfl) ?_ _
            go_wp2
            go_roundw
            case rel => exact ⟨R2, 56, wcells l2, l2, p2, n + 1, rfl, (by first | go_num | (rw [HWR.out]; rfl) | (simp only [HWR.out]; rfl)), (by first | go_num | (rw [HWR.out]; rfl) | (simp only [HWR.out]; rfl)), Lib.hid (wcells_at l2), HS, r2, D2, T2, C2⟩
            case measure => (have h3 := HWR.out; simp only [intOf]; first | omega | (rw [h3]; omega) | (simp; omega) | (simp [h3]; omega))
        · rcases hins2 with rfl | ⟨rfl, -⟩
          · go_wp2_with fail
            refine (N1 _).mono ?_
            rintro e w5 ⟨rfl, hc5⟩
            have hcz := accv_put_ch who 2 at_ (N nw) w5
            have a6 := accv_put who 2 at_ (N nw) w5
            have hch := hc5.trans hcz
            have D6 := hkeep hch Dr
            have T6 := hkeep hch Tr
            have R6 := hkeep hch Rr
            have C6 := Cr.trans hch
            clear hcz hch hc5 Dr Tr Rr Cr N1
            go_upto_region 11 with (fail)
            obtain ⟨w6, hw6⟩ : ∃ W, World.onObj (w5.alloc (.cells (accC 0 0 0 0) 87)) w5.heap.size (laidAt 0 (accC who 2 at_ (N nw))) = W := ⟨_, rfl⟩
            rw [hw6] at a6 D6 T6 R6 C6 ⊢
            clear hw6
            obtain ⟨AA, hA⟩ : ∃ A, w5.heap.size = A := ⟨_, rfl⟩
            rw [hA] at a6 ⊢
            clear hA
            go_wp2_with fail
            refine (I1 _).mono ?_
            rintro e w7 ⟨rfl, hc7⟩
            have a7 := hkeep hc7 a6
            have D7 := hkeep hc7 D6
            have T7 := hkeep hc7 T6
            have R7 := hkeep hc7 R6
            have C7 := C6.trans hc7
            clear a6 D6 T6 R6 C6 hc7 I1
            go_wp2_with fail
            refine (S1 _ R7).mono ?_
            rintro e w8 ⟨R2, rfl, r8, hc8⟩
            have a8 := hkeep hc8 a7
            have D8 := hkeep hc8 D7
            have T8 := hkeep hc8 T7
            have R8 := hkeep hc8 R7
            have C8 := C7.trans hc8
            clear a7 D7 T7 R7 C7 hc8 S1
            go_upto_region 15 with (fail)
            have p9 := lay_put p2 w8
            have hcp := lay_put_ch p2 w8
            have a9 := hkeep hcp a8
            have D9 := hkeep hcp D8
            have T9 := hkeep hcp T8
            have R9 := hkeep hcp R8
            have r9 := hkeep hcp r8
            have C9 := C8.trans hcp
            have nDP : D < w8.heap.size := blk_lt19 D8
            clear a8 D8 T8 R8 r8 C8 hcp
            obtain ⟨w9, hw9⟩ : ∃ W, World.onObj (w8.alloc (.cells (layC zeroLay) 72)) w8.heap.size (laidAt 0 (layC p2)) = W := ⟨_, rfl⟩
            rw [hw9] at p9 a9 D9 T9 R9 r9 C9 ⊢
            clear hw9
            obtain ⟨P, hP⟩ : ∃ P, w8.heap.size = P := ⟨_, rfl⟩
            rw [hP] at p9 nDP ⊢
            clear hP
            have hPD : ¬ P = D := by omega
            clear nDP
            go_upto_region 19 with (fail)
            have sP : (fun W' : World => W'.heap[P]? = some (.cells (layC p2) 72 (0, 0))) w9.drew := p9
            have DD : w9.drew.heap[D]? = some (.cells (layC p) 72 (0, 0)) := D9
            have TT : w9.drew.heap[T]? = some (.cells (tcells t) 26 (0, 0)) := T9
            have rr : w9.drew.heap[R2]? = some (.cells (wcells l2) 22 (0, 0)) := r9
            have CC : Ch [] w w9.drew := C9.drew
            refine wp_region_held_drew (S := fun W' => W'.heap[P]? = some (.cells (layC p2) 72 (0, 0))) (by kernel_rfl) sP ?_
            intro _
            simp only [List.size_toArray, List.length_cons, List.length_nil, Nat.reduceAdd]
            clear p9 D9 T9 r9 C9
            generalize w9.drew = w11 at *
            refine wpAnyH_take (i := 0) (oi := ⟨some 102, _, _, _, _, none⟩) (v := ?_) rfl (by kernel_rfl) (by kernel_rfl) (by kernel_rfl) (fun _ _ _ h => h) (Or.inl ⟨by rfl, ?_⟩) sP ?_
            rotate_left
            · intro wq hSq
              first | (go_simp; done) | (go_simp; with_reducible rfl)
            try simp only [Act.put, List.setIfInBounds_toArray, List.set_cons_zero, List.set_cons_succ]
            refine wpAnyH_take (i := 1) (oi := ⟨some 103, _, _, _, _, none⟩) (v := ?_) rfl (by kernel_rfl) (by kernel_rfl) (by kernel_rfl) (fun _ _ _ h => h) (Or.inl ⟨by rfl, ?_⟩) sP ?_
            rotate_left
            · intro wq hSq
              first | (go_simp; done) | (go_simp; with_reducible rfl)
            try simp only [Act.put, List.setIfInBounds_toArray, List.set_cons_zero, List.set_cons_succ]
            refine wpAnyH_take (i := 2) (oi := ⟨some 104, _, _, _, _, none⟩) (v := ?_) rfl (by kernel_rfl) (by kernel_rfl) (by kernel_rfl) (fun _ _ _ h => h) (Or.inl ⟨by rfl, ?_⟩) sP ?_
            rotate_left
            · intro wq hSq
              first | (go_simp; done) | (go_simp; with_reducible rfl)
            try simp only [Act.put, List.setIfInBounds_toArray, List.set_cons_zero, List.set_cons_succ]
            refine wpAnyH_take (i := 3) (oi := ⟨some 105, _, _, _, _, none⟩) (v := ?_) rfl (by kernel_rfl) (by kernel_rfl) (by kernel_rfl) (fun _ _ _ h => h) (Or.inl ⟨by rfl, ?_⟩) sP ?_
            rotate_left
            · intro wq hSq
              first | (go_simp; done) | (go_simp; with_reducible rfl)
            try simp only [Act.put, List.setIfInBounds_toArray, List.set_cons_zero, List.set_cons_succ]
            refine wpAnyH_take (i := 4) (oi := ⟨some 7, _, _, _, _, none⟩) (v := ?_) rfl (by kernel_rfl) (by kernel_rfl) (by kernel_rfl) (fun _ _ _ h => h) (Or.inl ⟨by rfl, ?_⟩) sP ?_
            rotate_left
            · intro wq hSq
              first | (go_simp; done) | (go_simp; with_reducible rfl)
            try simp only [Act.put, List.setIfInBounds_toArray, List.set_cons_zero, List.set_cons_succ]
            refine wpAnyH_ready (rs := [5]) (by kernel_rfl) (by simp) ?_
            refine AllReadyH.cons rfl (fun K hK => ?_) AllReadyH.nil
            go_simp
            have sP2 : (World.onObj w11 D (laidAt 0 (layC p2))).heap[P]? = some (.cells (layC p2) 72 (0, 0)) := by rw [heap_onObj, if_neg hPD]; exact sP
            have D2 : (World.onObj w11 D (laidAt 0 (layC p2))).heap[D]? = some (.cells (layC p2) 72 (0, 0)) := by rw [heap_onObj, if_pos rfl, DD, Option.map_some, laidAt_lay]
            have T2 : (World.onObj w11 D (laidAt 0 (layC p2))).heap[T]? = some (.cells (tcells t) 26 (0, 0)) := by rw [heap_onObj, if_neg (by omega)]; exact TT
            have r2 := (onObj_other (w := w11) (F := D) (laidAt 0 (layC p2)) (fun e => block_ne rr DD (by decide) e)).trans rr
            have C2 : Ch [] w (World.onObj w11 D (laidAt 0 (layC p2))) := CC.onObj (.inr hDw) _
            refine hK.out _ _ sP2 (fun _ => ?_)
            clear hK K sP DD TT rr CC
            generalize (World.onObj w11 D (laidAt 0 (layC p2))) = w12 at *
            refine wpAnyH_take (i := 6) (oi := ⟨some 10, _, _, _, _, none⟩) (v := ?_) rfl (by kernel_rfl) (by kernel_rfl) (by kernel_rfl) (fun _ _ _ h => h) (Or.inl ⟨by rfl, ?_⟩) sP2 ?_
            rotate_left
            · intro wq hSq
              first | (go_simp; done) | (go_simp; with_reducible rfl)
            try simp only [Act.put, List.setIfInBounds_toArray, List.set_cons_zero, List.set_cons_succ]
            refine wpAnyH_done (by kernel_rfl) ?_ _
            go_wp2
            go_roundw
            case rel => exact ⟨R2, 56, wcells l2, l2, p2, n + 1, rfl, (by first | go_num | (rw [HWR.out]; rfl) | (simp only [HWR.out]; rfl)), (by first | go_num | (rw [HWR.out]; rfl) | (simp only [HWR.out]; rfl)), Lib.hid (wcells_at l2), HS, r2, D2, T2, C2⟩
            case measure => (have h3 := HWR.out; simp only [intOf]; first | omega | (rw [h3]; omega) | (simp; omega) | (simp [h3]; omega))
          · go_wp2_with fail
            refine (N1 _).mono ?_
            rintro e w5 ⟨rfl, hc5⟩
            have hcz := accv_put_ch who 2 at_ (N nw) w5
            have a6 := accv_put who 2 at_ (N nw) w5
            have hch := hc5.trans hcz
            have D6 := hkeep hch Dr
            have T6 := hkeep hch Tr
            have R6 := hkeep hch Rr
            have C6 := Cr.trans hch
            clear hcz hch hc5 Dr Tr Rr Cr N1
            go_upto_region 11 with (fail)
            obtain ⟨w6, hw6⟩ : ∃ W, World.onObj (w5.alloc (.cells (accC 0 0 0 0) 87)) w5.heap.size (laidAt 0 (accC who 2 at_ (N nw))) = W := ⟨_, rfl⟩
            rw [hw6] at a6 D6 T6 R6 C6 ⊢
            clear hw6
            obtain ⟨AA, hA⟩ : ∃ A, w5.heap.size = A := ⟨_, rfl⟩
            rw [hA] at a6 ⊢
            clear hA
            go_wp2_with fail
            refine (I1 _).mono ?_
            rintro e w7 ⟨rfl, hc7⟩
            have a7 := hkeep hc7 a6
            have D7 := hkeep hc7 D6
            have T7 := hkeep hc7 T6
            have R7 := hkeep hc7 R6
            have C7 := C6.trans hc7
            clear a6 D6 T6 R6 C6 hc7 I1
            go_wp2_with fail
            refine (S1 _ R7).mono ?_
            rintro e w8 ⟨R2, rfl, r8, hc8⟩
            have a8 := hkeep hc8 a7
            have D8 := hkeep hc8 D7
            have T8 := hkeep hc8 T7
            have R8 := hkeep hc8 R7
            have C8 := C7.trans hc8
            clear a7 D7 T7 R7 C7 hc8 S1
            go_upto_region 15 with (fail)
            have p9 := lay_put p2 w8
            have hcp := lay_put_ch p2 w8
            have a9 := hkeep hcp a8
            have D9 := hkeep hcp D8
            have T9 := hkeep hcp T8
            have R9 := hkeep hcp R8
            have r9 := hkeep hcp r8
            have C9 := C8.trans hcp
            have nDP : D < w8.heap.size := blk_lt19 D8
            clear a8 D8 T8 R8 r8 C8 hcp
            obtain ⟨w9, hw9⟩ : ∃ W, World.onObj (w8.alloc (.cells (layC zeroLay) 72)) w8.heap.size (laidAt 0 (layC p2)) = W := ⟨_, rfl⟩
            rw [hw9] at p9 a9 D9 T9 R9 r9 C9 ⊢
            clear hw9
            obtain ⟨P, hP⟩ : ∃ P, w8.heap.size = P := ⟨_, rfl⟩
            rw [hP] at p9 nDP ⊢
            clear hP
            have hPD : ¬ P = D := by omega
            clear nDP
            go_upto_region 19 with (fail)
            have sP : (fun W' : World => W'.heap[P]? = some (.cells (layC p2) 72 (0, 0))) w9.drew := p9
            have DD : w9.drew.heap[D]? = some (.cells (layC p) 72 (0, 0)) := D9
            have TT : w9.drew.heap[T]? = some (.cells (tcells t) 26 (0, 0)) := T9
            have rr : w9.drew.heap[R2]? = some (.cells (wcells l2) 22 (0, 0)) := r9
            have CC : Ch [] w w9.drew := C9.drew
            refine wp_region_held_drew (S := fun W' => W'.heap[P]? = some (.cells (layC p2) 72 (0, 0))) (by kernel_rfl) sP ?_
            intro _
            simp only [List.size_toArray, List.length_cons, List.length_nil, Nat.reduceAdd]
            clear p9 D9 T9 r9 C9
            generalize w9.drew = w11 at *
            refine wpAnyH_take (i := 0) (oi := ⟨some 102, _, _, _, _, none⟩) (v := ?_) rfl (by kernel_rfl) (by kernel_rfl) (by kernel_rfl) (fun _ _ _ h => h) (Or.inl ⟨by rfl, ?_⟩) sP ?_
            rotate_left
            · intro wq hSq
              first | (go_simp; done) | (go_simp; with_reducible rfl)
            try simp only [Act.put, List.setIfInBounds_toArray, List.set_cons_zero, List.set_cons_succ]
            refine wpAnyH_take (i := 1) (oi := ⟨some 103, _, _, _, _, none⟩) (v := ?_) rfl (by kernel_rfl) (by kernel_rfl) (by kernel_rfl) (fun _ _ _ h => h) (Or.inl ⟨by rfl, ?_⟩) sP ?_
            rotate_left
            · intro wq hSq
              first | (go_simp; done) | (go_simp; with_reducible rfl)
            try simp only [Act.put, List.setIfInBounds_toArray, List.set_cons_zero, List.set_cons_succ]
            refine wpAnyH_take (i := 2) (oi := ⟨some 104, _, _, _, _, none⟩) (v := ?_) rfl (by kernel_rfl) (by kernel_rfl) (by kernel_rfl) (fun _ _ _ h => h) (Or.inl ⟨by rfl, ?_⟩) sP ?_
            rotate_left
            · intro wq hSq
              first | (go_simp; done) | (go_simp; with_reducible rfl)
            try simp only [Act.put, List.setIfInBounds_toArray, List.set_cons_zero, List.set_cons_succ]
            refine wpAnyH_take (i := 3) (oi := ⟨some 105, _, _, _, _, none⟩) (v := ?_) rfl (by kernel_rfl) (by kernel_rfl) (by kernel_rfl) (fun _ _ _ h => h) (Or.inl ⟨by rfl, ?_⟩) sP ?_
            rotate_left
            · intro wq hSq
              first | (go_simp; done) | (go_simp; with_reducible rfl)
            try simp only [Act.put, List.setIfInBounds_toArray, List.set_cons_zero, List.set_cons_succ]
            refine wpAnyH_take (i := 4) (oi := ⟨some 7, _, _, _, _, none⟩) (v := ?_) rfl (by kernel_rfl) (by kernel_rfl) (by kernel_rfl) (fun _ _ _ h => h) (Or.inl ⟨by rfl, ?_⟩) sP ?_
            rotate_left
            · intro wq hSq
              first | (go_simp; done) | (go_simp; with_reducible rfl)
            try simp only [Act.put, List.setIfInBounds_toArray, List.set_cons_zero, List.set_cons_succ]
            refine wpAnyH_ready (rs := [5]) (by kernel_rfl) (by simp) ?_
            refine AllReadyH.cons rfl (fun K hK => ?_) AllReadyH.nil
            go_simp
            have sP2 : (World.onObj w11 D (laidAt 0 (layC p2))).heap[P]? = some (.cells (layC p2) 72 (0, 0)) := by rw [heap_onObj, if_neg hPD]; exact sP
            have D2 : (World.onObj w11 D (laidAt 0 (layC p2))).heap[D]? = some (.cells (layC p2) 72 (0, 0)) := by rw [heap_onObj, if_pos rfl, DD, Option.map_some, laidAt_lay]
            have T2 : (World.onObj w11 D (laidAt 0 (layC p2))).heap[T]? = some (.cells (tcells t) 26 (0, 0)) := by rw [heap_onObj, if_neg (by omega)]; exact TT
            have r2 := (onObj_other (w := w11) (F := D) (laidAt 0 (layC p2)) (fun e => block_ne rr DD (by decide) e)).trans rr
            have C2 : Ch [] w (World.onObj w11 D (laidAt 0 (layC p2))) := CC.onObj (.inr hDw) _
            refine hK.out _ _ sP2 (fun _ => ?_)
            clear hK K sP DD TT rr CC
            generalize (World.onObj w11 D (laidAt 0 (layC p2))) = w12 at *
            refine wpAnyH_take (i := 6) (oi := ⟨some 10, _, _, _, _, none⟩) (v := ?_) rfl (by kernel_rfl) (by kernel_rfl) (by kernel_rfl) (fun _ _ _ h => h) (Or.inl ⟨by rfl, ?_⟩) sP2 ?_
            rotate_left
            · intro wq hSq
              first | (go_simp; done) | (go_simp; with_reducible rfl)
            try simp only [Act.put, List.setIfInBounds_toArray, List.set_cons_zero, List.set_cons_succ]
            refine wpAnyH_done (by kernel_rfl) ?_ _
            go_wp2
            go_roundw
            case rel => exact ⟨R2, 56, wcells l2, l2, p2, n + 1, rfl, (by first | go_num | (rw [HWR.out]; rfl) | (simp only [HWR.out]; rfl)), (by first | go_num | (rw [HWR.out]; rfl) | (simp only [HWR.out]; rfl)), Lib.hid (wcells_at l2), HS, r2, D2, T2, C2⟩
            case measure => (have h3 := HWR.out; simp only [intOf]; first | omega | (rw [h3]; omega) | (simp; omega) | (simp [h3]; omega))
theorem hidesLaw (t : Tab) (seed : BitVec 64) (who : Int) (w : World) : Calls Tryz.prog 11 #[U seed, .agg (tcells t), I who] w fun e w' => e = .returned (.bool true) ∧ Ch [] w w' := by
  cases hf : flatT t with
  | false => exact hides_none t seed who hf w
  | true =>
    cases hr : rightL (firstL who 0 seed) with
    | false => exact hides_not t seed who hf hr w
    | true => exact hides_go t seed who hf hr w
end Go.Proofs.Hc
