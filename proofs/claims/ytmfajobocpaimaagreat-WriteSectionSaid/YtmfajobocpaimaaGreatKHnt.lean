/- Package write: accesses, Need. -/
import Derived.Test.YtmfajobocpaimaaGreatKHmet
import Derived.Test.YtmfajobocpaimaaGreatKHcc
import Derived.Test.YtmfajobocpaimaaGreatKHcs
import Derived.Test.YtmfajobocpaimaaGreatKHm
import Derived.Test.YtmfajobocpaimaaGreatKHma
import Derived.Test.YtmfajobocpaimaaGreatKHns
import Derived.Test.YtmfajobocpaimaaGreatKHni
import Derived.Test.YtmfajobocpaimaaGreatKHxh
import Derived.Below
import Derived.BigQuiet
import Derived.Deep.Draws
import Derived.Deep.Light
import Derived.Deep.QuietTactic
import Derived.Deep.RegionHeld
import Derived.Laws.CopyRow
import Derived.Laws.StructEq
import Derived.Laws.Tables
import Derived.Lib.AppendZerosOnto
import Derived.Lib.Hide
import Derived.Lib.Tables
import Derived.Lib.Walk
import Derived.LoopIn
import Derived.LoopN
import Derived.LoopNIn
import Derived.Maps.AppendAt
import Derived.Maps.Views
import Derived.OwnWalkIn
import Derived.RangeFuncBox
import Derived.RangeFuncCalls
import Derived.RangeFuncRecord
import Derived.RangeFuncSeq
import Derived.Recover
import Derived.RegionTactic
import Derived.ScopeJumps
import Derived.Shelf.Slices.Clone
import Derived.StillTail
import Derived.StillTailTactics
import Derived.TacticsInMore
import Derived.Test.YtmfajobocpaimaaGreatProg
import Derived.WalkKit
import Derived.WalkLawsBesides
import Derived.WalkMore
import Derived.WalkSpells
set_option linter.unusedSimpArgs false
set_option linter.unusedVariables false
namespace Go.Proofs.Hc
open Go.RowKit
attribute [local go_sem] wrap_u64 wrap_u8 bits_xor64 bits_and64 bits_or64 bits_not64 bits_xor8 bits_and8 bits_or8 signed64 signed8 ofInt_N BitVec.ofInt_add BitVec.ofInt_mul ofInt_sub' ofInt8_N64 ofInt64_N8 wide8 eqN neN shr_pow shr1 shr7 shr56
attribute [local go_sem high] bits_com64 shl_wrap
attribute [local go_sem] cell_heap ice_heap cellAt_cells iceAt_cells setAt_cells rowAt_cells canLay_cells laidAt_cells size_onObj size_setCell rowRes_some layRes_true
attribute [local go_sem] load26 load73 load23 store26 build73
attribute [local go_sem ↓] lrow26 lrow73 lrow23 srow26 zero26 brow73 heap_alloc heap_drew heap_drewN heap_setCell heap_onObj
attribute [local go_sem] tcells_size hcells_size tcells_get hcells_get tcells_one hcells_one hcells_table tcells_table hcells_all hcells_ctrl tcells_ctrl
attribute [local go_sem] nn2 nm2 nn3 nm3 nn4 nm4 nn5 nm5 nn6 nm6 nn7 nm7 nn8 nm8
attribute [local go_sem] nn2 nm2 nn3 nm3 nn4 nm4 nn5 nm5 nn6 nm6 nn7 nm7 nn8 nm8
attribute [local go_sem] ofInt_N ofInt_pow8
attribute [local go_sem] Oper.semAt_some make_func1
attribute [local go_sem] pen_g0 pen_g1 pen_g2 pen_g3 pen_g4 pen_g5 pen_g6 pen_g7 pen_g8 pen_g9 pen_g10 pen_g11 pen_g12 pen_g13 pen_g14 pen_g15 pen_g16 pen_g17 penC_size penC_one penC_all
attribute [local irreducible] penC
attribute [local go_sem] acc_g0 acc_g1 acc_g2 acc_g4 acc_s0 acc_s1 acc_s2 acc_s4 accC_size accC_one accC_all loadAcc storeAcc bacc0 bacc2 bacc3 bacc3u bacc4
attribute [local go_sem ↓] lrowAcc srowAcc browAcc zeroAcc_run
attribute [local go_sem high] laidAt_acc
attribute [local irreducible] accC
attribute [local go_sem] build170 box170 boxPen loadPen storePen
attribute [local go_sem ↓] brow170 lrowPen srowPen
/-- The accesses' functions. -/
def accessesV : Array Value := #[.func (.func 171) #[] #[], .func (.func 172) #[] #[], .func (.func 173) #[] #[], .func (.func 174) #[] #[], .func (.func 175) #[] #[], .func (.func 176) #[] #[], .func (.func 177) #[] #[], .func (.func 178) #[] #[], .func (.func 179) #[] #[], .func (.func 180) #[] #[], .func (.func 181) #[] #[], .func (.func 182) #[] #[], .func (.func 183) #[] #[], .func (.func 184) #[] #[]]
theorem accessesV_size : accessesV.size = 14 := rfl
theorem accessesV_one : allOne accessesV = true := by unfold allOne accessesV; simp [Value.oneCell']
def accesses0 : Array Value := Array.replicate 14 (.nilFunc)
theorem brow172 (ps : Array (Nat × Value)) : Instr.build 172 ps = buildRow 172 ps := rfl
theorem build172 (w : World) : (buildRow 172 #[(0, .func (.func 171) #[] #[]), (1, .func (.func 172) #[] #[]), (2, .func (.func 173) #[] #[]), (3, .func (.func 174) #[] #[]), (4, .func (.func 175) #[] #[]), (5, .func (.func 176) #[] #[]), (6, .func (.func 177) #[] #[]), (7, .func (.func 178) #[] #[]), (8, .func (.func 179) #[] #[]), (9, .func (.func 180) #[] #[]), (10, .func (.func 181) #[] #[]), (11, .func (.func 182) #[] #[]), (12, .func (.func 183) #[] #[]), (13, .func (.func 184) #[] #[])]).run Tryz.prog w = .ok (.agg accessesV) w := by kernel_rfl
theorem zero172_run (w : World) : (zeroValue 172).run Tryz.prog w = .ok (.agg accesses0) w := by kernel_rfl
theorem store172 (g o : Nat) (vs : Array Value) (w : World) : (storeRow 172 ⟨g, o, none⟩ (.agg vs)).run Tryz.prog w = layRes Tryz.prog 172 g o vs w (((w.heap[g]?).map (canLay o 14 vs)).getD false) :=
  run_lay (by kernel_rfl) g o vs w
theorem srow172 (a : Addr) (v : Value) : storeVar 172 a v = storeRow 172 a v := rfl
theorem accesses0_size : accesses0.size = 14 := rfl
theorem laidAt_172 (t : TypeId) (fr : Nat × Nat) : laidAt 0 accessesV (.cells accesses0 t fr) = .cells accessesV t fr := by
  rw [laidAt_cells, laid_whole _ _ (by rw [accesses0_size, accessesV_size])]
attribute [local go_sem] build172 store172 accessesV_one accessesV_size accesses0_size
attribute [local go_sem ↓] brow172 zero172_run srow172
attribute [local go_sem high] laidAt_172
attribute [local irreducible] accessesV accesses0
theorem index172 (av : Array Value) (n k : Nat) (hn : (n : Int) < 14) (h : av[n]? = some (.func (.func k) #[] #[])) (w : World) : (Instr.index 172 (.agg av) (.int .i64 (n : Int))).run Tryz.prog w = .ok (.func (.func k) #[] #[]) w := by
  simp [Instr.index, run_underlying Tryz.underlying172, asIntOf, go_sem, h, show n < 14 by omega]
set_option maxRecDepth 100000 in
theorem accesses_any (w : World) : Calls Tryz.prog 114 #[] w fun e w' => e = .returned (.agg accessesV) ∧ Ch [] w w' := by
  go_enter Tryz.func114, Tryz.ntmps114
  go_wp2
  refine bodyPost_ret (results_cell1 Tryz.results114 _ _ _ rfl (run_loadVar_row _ w.heap.size 172 172 accessesV (0, 0) _ ?_ Tryz.underlying172 rfl (by rw [accessesV_size]; kernel_rfl))) rfl ⟨rfl, ?_⟩
  · simp [go_sem]
  · exact ((Ch.refl [] w).alloc _).onObj (p := w.heap.size) (.inr (Nat.le_refl _)) _
theorem wnew_pena (p : PenT) (w : World) : ((w.alloc (.cells (penC p) 71)).alloc (.cells (accC 0 0 0 0) 96)).heap[w.heap.size]? = some (.cells (penC p) 71 (0, 0)) := by
  rw [heap_alloc, if_neg (by simp), heap_alloc, if_pos rfl]
theorem wnew_penaz (p : PenT) (w : World) : ((w.alloc (.cells (penC p) 71)).alloc (.cells (accC 0 0 0 0) 96)).heap[w.heap.size + 1]? = some (.cells (accC 0 0 0 0) 96 (0, 0)) := by
  rw [heap_alloc, if_pos (by simp)]
theorem checkV_no {p : PenT} (h : rightP p = false) : checkV p = 290 := by unfold checkV; rw [h]; rfl
theorem checkV_yes {p : PenT} (h : rightP p = true) : checkV p = 0 := by unfold checkV; rw [h]; rfl
set_option maxHeartbeats 1000000 in
set_option maxRecDepth 100000 in
theorem wNeed_no (p : PenT) (who : Int) (h : (rightP p && decide (p.ph ≤ 13)) = false) (w : World) : Calls Tryz.prog 57 #[.agg (penC p), I who] w fun e w' => e = .returned (.tuple #[.agg (accC 0 0 0 0), .bool false]) ∧ Ch [] w w' := by
  have R1 := fun w => check_pen p w
  have hcs : checkV p = 290 ∨ checkV p = 0 ∧ 14 ≤ p.ph := by
    cases hr : rightP p
    · exact .inl (checkV_no hr)
    · rw [hr] at h; exact .inr ⟨checkV_yes hr, by have : 13 < p.ph := by simpa using h
                                                  omega⟩
  generalize checkV p = r at *
  clear h
  rcases hcs with rfl | ⟨rfl, hph⟩
  all_goals
    go_enter Tryz.func57, Tryz.ntmps57
    go_wp2_with fail
    have hC0 : Ch [] w ((w.alloc (.cells (penC p) 71)).alloc (.cells (accC 0 0 0 0) 96)) := ((Ch.refl [] w).alloc _).alloc _
    have b0 := wnew_pena p w
    have z0 := wnew_penaz p w
    generalize (w.alloc (.cells (penC p) 71)).alloc (.cells (accC 0 0 0 0) 96) = W0 at *
    refine (R1 _).mono ?_
    rintro e w1 ⟨rfl, hc1⟩
    have b1 := hkeep hc1 b0
    have z1 := hkeep hc1 z0
    have hC1 := hC0.trans hc1
    clear b0 z0 hc1 R1 hC0
    go_wp2
    refine bodyPost_ret (need_results Tryz.results57 _ _ _ 0 0 0 0 _ rfl rfl ?_) rfl ⟨rfl, ?_⟩
    · simp [go_sem, z1]
    · exact hC1.onObj (p := w.heap.size + 1) (.inr (by omega)) _
set_option maxHeartbeats 4000000 in
set_option maxRecDepth 100000 in
theorem wNeed_core (p : PenT) (who : Int) (n k : Nat) (kd wd nw : Int) (hr : rightP p = true) (hpn : p.ph = (n : Int)) (hn : (n : Int) < 14) (hph : (p.ph == 12) = false) (hsl0 : 0 ≤ p.sl) (hsl1 : p.sl < 128) (hw0 : 0 ≤ wd) (hw1 : wd < 40) (hav : accessesV[n]? = some (.func (.func k) #[] #[]))
    (hdf : ∀ args w, (callFunc k args).run Tryz.prog w = .ok (.enter k args) w)
    (X1 : ∀ (g : Nat) (w : World), w.heap[g]? = some (.cells (penC p) 170 (0, 0)) → Calls Tryz.prog k #[.pointer (some ⟨g, 0, none⟩)] w fun e w' => e = .returned (.agg (accC 0 kd wd nw)) ∧ Ch [] w w') (w : World) :
    Calls Tryz.prog 57 #[.agg (penC p), I who] w fun e w' => e = .returned (.tuple #[.agg (accC who kd (16 + 40 * p.sl + wd) nw), .bool true]) ∧ Ch [] w w' := by
  have R1 := fun w => check_pen p w
  rw [checkV_yes hr] at R1
  have A1 := fun w => accesses_any w
  have hix := index172 accessesV n k hn hav
  have L1 := fun w => cell_ok p.sl wd hsl0 hsl1 hw0 hw1 w
  generalize accessesV = av at *
  clear hr
  go_enter Tryz.func57, Tryz.ntmps57
  go_wp2_with fail
  have hC0 : Ch [] w ((w.alloc (.cells (penC p) 71)).alloc (.cells (accC 0 0 0 0) 96)) := ((Ch.refl [] w).alloc _).alloc _
  have b0 := wnew_pena p w
  have z0 := wnew_penaz p w
  generalize (w.alloc (.cells (penC p) 71)).alloc (.cells (accC 0 0 0 0) 96) = W0 at *
  refine (R1 _).mono ?_
  rintro e w0 ⟨rfl, hc0⟩
  have b1 := hkeep hc0 b0
  have z1 := hkeep hc0 z0
  have hC1 := hC0.trans hc0
  clear b0 z0 hc0 R1 hC0
  go_wp2
  have hcG : Ch [] w0 (w0.alloc (.cells (penC p) 170)) := (Ch.refl [] w0).alloc _
  have g2 : (w0.alloc (.cells (penC p) 170)).heap[w0.heap.size]? = some (.cells (penC p) 170 (0, 0)) := by rw [heap_alloc, if_pos rfl]
  have b2 := hkeep hcG b1
  have z2 := hkeep hcG z1
  have hC2 := hC1.trans hcG
  generalize w0.alloc (.cells (penC p) 170) = w01 at *
  generalize w0.heap.size = G at *
  obtain ⟨B, hB⟩ : ∃ B, w.heap.size = B := ⟨_, rfl⟩
  rw [hB] at b2 z2 ⊢
  have HB := Lib.hid hB
  clear hB b1 z1 hcG hC1
  have s1 : (fun W' : World => W'.heap[B]? = some (.cells (penC p) 71 (0, 0))) w01.drew := b2
  have z1 : w01.drew.heap[B + 1]? = some (.cells (accC 0 0 0 0) 96 (0, 0)) := z2
  have g1 : w01.drew.heap[G]? = some (.cells (penC p) 170 (0, 0)) := g2
  have C1 : Ch [] w w01.drew := hC2.drew
  refine wp_region_held_drew (S := fun W' => W'.heap[B]? = some (.cells (penC p) 71 (0, 0))) (by kernel_rfl) s1 ?_
  intro _
  simp only [List.size_toArray, List.length_cons, List.length_nil, Nat.reduceAdd]
  clear b2 z2 g2 hC2
  generalize w01.drew = w1 at *
  refine wpAnyH_take (i := 1) (oi := ⟨some 21, _, _, _, _, none⟩) (v := ?_) rfl (by kernel_rfl) (by kernel_rfl) (by kernel_rfl) (fun _ _ _ h => h) (Or.inl ⟨by rfl, ?_⟩) s1 ?_
  rotate_left
  · intro wq hSq
    first | (go_simp; done) | (go_simp; with_reducible rfl)
  try simp only [Act.put, List.setIfInBounds_toArray, List.set_cons_zero, List.set_cons_succ]
  refine wpAnyH_take (i := 2) (oi := ⟨some 22, _, _, _, _, none⟩) (v := ?_) rfl (by kernel_rfl) (by kernel_rfl) (by kernel_rfl) (fun _ _ _ h => h) (Or.inl ⟨by rfl, ?_⟩) s1 ?_
  rotate_left
  · intro wq hSq
    first | (go_simp; done) | (go_simp; with_reducible rfl)
  try simp only [Act.put, List.setIfInBounds_toArray, List.set_cons_zero, List.set_cons_succ]
  refine wpAnyH_take (i := 4) (oi := ⟨some 24, _, _, _, _, none⟩) (v := ?_) rfl (by kernel_rfl) (by kernel_rfl) (by kernel_rfl) (fun _ _ _ h => h) (Or.inl ⟨by rfl, ?_⟩) s1 ?_
  rotate_left
  · intro wq hSq
    first | (go_simp; done) | (go_simp; with_reducible rfl)
  try simp only [Act.put, List.setIfInBounds_toArray, List.set_cons_zero, List.set_cons_succ]
  refine wpAnyH_ready (rs := [0, 6]) (by kernel_rfl) (by simp) ?_
  refine AllReadyH.cons rfl (fun K hK => ?_) (AllReadyH.cons (o := ⟨some 7, _, _, _, _, none⟩) rfl (fun K hK => ?_) AllReadyH.nil)
  · go_simp
    refine (A1 _).mono ?_
    rintro e w2 ⟨rfl, hc2⟩
    have s2 := hkeep hc2 s1
    have C2 := C1.trans hc2
    have z2 := hkeep hc2 z1
    have g2 := hkeep hc2 g1
    refine hK.out _ _ s2 (fun _ => ?_)
    clear hK K hc2 s1 C1 z1 g1
    refine wpAnyH_take (i := 3) (oi := ⟨some 23, _, _, _, _, none⟩) (v := ?_) rfl (by kernel_rfl) (by kernel_rfl) (by kernel_rfl) (fun _ _ _ h => h) (Or.inl ⟨by rfl, ?_⟩) s2 ?_
    rotate_left
    · intro wq hSq
      first | (go_simp; done) | (go_simp; with_reducible rfl)
    try simp only [Act.put, List.setIfInBounds_toArray, List.set_cons_zero, List.set_cons_succ]
    refine wpAnyH_ready (rs := [5, 6]) (by kernel_rfl) (by simp) ?_
    refine AllReadyH.cons rfl (fun K hK => ?_) (AllReadyH.cons (o := ⟨some 7, _, _, _, _, none⟩) rfl (fun K hK => ?_) AllReadyH.nil)
    · go_simp
      refine (X1 _ _ g2).mono ?_
      rintro e w3 ⟨rfl, hc3⟩
      have s3 := hkeep hc3 s2
      have C3 := C2.trans hc3
      have z3 := hkeep hc3 z2
      have g3 := hkeep hc3 g2
      refine hK.out _ _ s3 (fun _ => ?_)
      clear hK K hc3 s2 C2 z2 g2
      refine wpAnyH_ready (rs := [6]) (by kernel_rfl) (by simp) ?_
      refine AllReadyH.cons (o := ⟨some 7, _, _, _, _, none⟩) rfl (fun K hK => ?_) AllReadyH.nil
      · go_simp
        have hc4 : Ch [] w3 (w3.alloc (.cells (accC 0 0 0 0) 96)) := (Ch.refl [] w3).alloc _
        have s4 := hkeep hc4 s3
        have C4 := C3.trans hc4
        have z4 := hkeep hc4 z3
        have g4 := hkeep hc4 g3
        have a4 : (w3.alloc (.cells (accC 0 0 0 0) 96)).heap[w3.heap.size]? = some (.cells (accC 0 0 0 0) 96 (0, 0)) := by rw [heap_alloc, if_pos rfl]
        have hAs : ¬ B = w3.heap.size := by have := (Array.getElem?_eq_some_iff.1 s3).1; omega
        have hAz : ¬ (B + 1) = w3.heap.size := by have := (Array.getElem?_eq_some_iff.1 z3).1; omega
        have hAg : ¬ G = w3.heap.size := by have := (Array.getElem?_eq_some_iff.1 g3).1; omega
        have hAw : w.heap.size ≤ w3.heap.size := C3.size
        refine hK.out _ _ s4 (fun _ => ?_)
        clear hK K hc4 s3 C3 z3 g3
        generalize w3.alloc (.cells (accC 0 0 0 0) 96) = w4 at *
        generalize w3.heap.size = A at *
        refine wpAnyH_ready (rs := [7]) (by kernel_rfl) (by simp) ?_
        refine AllReadyH.cons rfl (fun K hK => ?_) AllReadyH.nil
        go_simp
        have s5 : (World.onObj w4 A (laidAt 0 (accC 0 kd wd nw))).heap[B]? = some (.cells (penC p) 71 (0, 0)) := by rw [heap_onObj, if_neg hAs]; exact s4
        have z5 : (World.onObj w4 A (laidAt 0 (accC 0 kd wd nw))).heap[(B + 1)]? = some (.cells (accC 0 0 0 0) 96 (0, 0)) := by rw [heap_onObj, if_neg hAz]; exact z4
        have g5 : (World.onObj w4 A (laidAt 0 (accC 0 kd wd nw))).heap[G]? = some (.cells (penC p) 170 (0, 0)) := by rw [heap_onObj, if_neg hAg]; exact g4
        have a5 : (World.onObj w4 A (laidAt 0 (accC 0 kd wd nw))).heap[A]? = some (.cells (accC 0 kd wd nw) 96 (0, 0)) := by rw [heap_onObj, if_pos rfl, a4, Option.map_some, laidAt_acc]
        have C5 : Ch [] w (World.onObj w4 A (laidAt 0 (accC 0 kd wd nw))) := C4.onObj (.inr hAw) _
        refine hK.out _ _ s5 (fun _ => ?_)
        clear hK K s4 C4 z4 g4 a4
        generalize (World.onObj w4 A (laidAt 0 (accC 0 kd wd nw))) = w5 at *
        refine wpAnyH_done (by kernel_rfl) ?_ _
        go_wp2_with (go_at_call 56; refine (L1 _).mono ?_; rintro e w' ⟨rfl, rfl⟩)
        have hAz : ¬ B + 1 = A := hAz
        refine bodyPost_ret (need_results Tryz.results57 _ _ _ who kd (16 + 40 * p.sl + wd) nw _ rfl rfl ?_) rfl ⟨rfl, ?_⟩
        · simp [go_sem, z5, a5, hAz]
        · exact ((C5.setCell (p := ⟨A, 0, none⟩) (.inr hAw) _).setCell (p := ⟨A, 2, none⟩) (.inr hAw) _).onObj (p := B + 1) (.inr (by rw [HB.out]; omega)) _
    · go_simp
      have hc6 : Ch [] w2 (w2.alloc (.cells (accC 0 0 0 0) 96)) := (Ch.refl [] w2).alloc _
      have s6 := hkeep hc6 s2
      have C6 := C2.trans hc6
      have z6 := hkeep hc6 z2
      have g6 := hkeep hc6 g2
      have a6 : (w2.alloc (.cells (accC 0 0 0 0) 96)).heap[w2.heap.size]? = some (.cells (accC 0 0 0 0) 96 (0, 0)) := by rw [heap_alloc, if_pos rfl]
      have hAs : ¬ B = w2.heap.size := by have := (Array.getElem?_eq_some_iff.1 s2).1; omega
      have hAz : ¬ (B + 1) = w2.heap.size := by have := (Array.getElem?_eq_some_iff.1 z2).1; omega
      have hAg : ¬ G = w2.heap.size := by have := (Array.getElem?_eq_some_iff.1 g2).1; omega
      have hAw : w.heap.size ≤ w2.heap.size := C2.size
      refine hK.out _ _ s6 (fun _ => ?_)
      clear hK K hc6 s2 C2 z2 g2
      generalize w2.alloc (.cells (accC 0 0 0 0) 96) = w6 at *
      generalize w2.heap.size = A at *
      refine wpAnyH_ready (rs := [5]) (by kernel_rfl) (by simp) ?_
      refine AllReadyH.cons rfl (fun K hK => ?_) AllReadyH.nil
      · go_simp
        refine (X1 _ _ g6).mono ?_
        rintro e w7 ⟨rfl, hc7⟩
        have s7 := hkeep hc7 s6
        have C7 := C6.trans hc7
        have z7 := hkeep hc7 z6
        have g7 := hkeep hc7 g6
        have a7 := hkeep hc7 a6
        refine hK.out _ _ s7 (fun _ => ?_)
        clear hK K hc7 s6 C6 z6 g6 a6
        refine wpAnyH_ready (rs := [7]) (by kernel_rfl) (by simp) ?_
        refine AllReadyH.cons rfl (fun K hK => ?_) AllReadyH.nil
        go_simp
        have s8 : (World.onObj w7 A (laidAt 0 (accC 0 kd wd nw))).heap[B]? = some (.cells (penC p) 71 (0, 0)) := by rw [heap_onObj, if_neg hAs]; exact s7
        have z8 : (World.onObj w7 A (laidAt 0 (accC 0 kd wd nw))).heap[(B + 1)]? = some (.cells (accC 0 0 0 0) 96 (0, 0)) := by rw [heap_onObj, if_neg hAz]; exact z7
        have g8 : (World.onObj w7 A (laidAt 0 (accC 0 kd wd nw))).heap[G]? = some (.cells (penC p) 170 (0, 0)) := by rw [heap_onObj, if_neg hAg]; exact g7
        have a8 : (World.onObj w7 A (laidAt 0 (accC 0 kd wd nw))).heap[A]? = some (.cells (accC 0 kd wd nw) 96 (0, 0)) := by rw [heap_onObj, if_pos rfl, a7, Option.map_some, laidAt_acc]
        have C8 : Ch [] w (World.onObj w7 A (laidAt 0 (accC 0 kd wd nw))) := C7.onObj (.inr hAw) _
        refine hK.out _ _ s8 (fun _ => ?_)
        clear hK K s7 C7 z7 g7 a7
        generalize (World.onObj w7 A (laidAt 0 (accC 0 kd wd nw))) = w8 at *
        refine wpAnyH_done (by kernel_rfl) ?_ _
        go_wp2_with (go_at_call 56; refine (L1 _).mono ?_; rintro e w' ⟨rfl, rfl⟩)
        have hAz : ¬ B + 1 = A := hAz
        refine bodyPost_ret (need_results Tryz.results57 _ _ _ who kd (16 + 40 * p.sl + wd) nw _ rfl rfl ?_) rfl ⟨rfl, ?_⟩
        · simp [go_sem, z8, a8, hAz]
        · exact ((C8.setCell (p := ⟨A, 0, none⟩) (.inr hAw) _).setCell (p := ⟨A, 2, none⟩) (.inr hAw) _).onObj (p := B + 1) (.inr (by rw [HB.out]; omega)) _
  · go_simp
    have hc9 : Ch [] w1 (w1.alloc (.cells (accC 0 0 0 0) 96)) := (Ch.refl [] w1).alloc _
    have s9 := hkeep hc9 s1
    have C9 := C1.trans hc9
    have z9 := hkeep hc9 z1
    have g9 := hkeep hc9 g1
    have a9 : (w1.alloc (.cells (accC 0 0 0 0) 96)).heap[w1.heap.size]? = some (.cells (accC 0 0 0 0) 96 (0, 0)) := by rw [heap_alloc, if_pos rfl]
    have hAs : ¬ B = w1.heap.size := by have := (Array.getElem?_eq_some_iff.1 s1).1; omega
    have hAz : ¬ (B + 1) = w1.heap.size := by have := (Array.getElem?_eq_some_iff.1 z1).1; omega
    have hAg : ¬ G = w1.heap.size := by have := (Array.getElem?_eq_some_iff.1 g1).1; omega
    have hAw : w.heap.size ≤ w1.heap.size := C1.size
    refine hK.out _ _ s9 (fun _ => ?_)
    clear hK K hc9 s1 C1 z1 g1
    generalize w1.alloc (.cells (accC 0 0 0 0) 96) = w9 at *
    generalize w1.heap.size = A at *
    refine wpAnyH_ready (rs := [0]) (by kernel_rfl) (by simp) ?_
    refine AllReadyH.cons rfl (fun K hK => ?_) AllReadyH.nil
    · go_simp
      refine (A1 _).mono ?_
      rintro e w10 ⟨rfl, hc10⟩
      have s10 := hkeep hc10 s9
      have C10 := C9.trans hc10
      have z10 := hkeep hc10 z9
      have g10 := hkeep hc10 g9
      have a10 := hkeep hc10 a9
      refine hK.out _ _ s10 (fun _ => ?_)
      clear hK K hc10 s9 C9 z9 g9 a9
      refine wpAnyH_take (i := 3) (oi := ⟨some 23, _, _, _, _, none⟩) (v := ?_) rfl (by kernel_rfl) (by kernel_rfl) (by kernel_rfl) (fun _ _ _ h => h) (Or.inl ⟨by rfl, ?_⟩) s10 ?_
      rotate_left
      · intro wq hSq
        first | (go_simp; done) | (go_simp; with_reducible rfl)
      try simp only [Act.put, List.setIfInBounds_toArray, List.set_cons_zero, List.set_cons_succ]
      refine wpAnyH_ready (rs := [5]) (by kernel_rfl) (by simp) ?_
      refine AllReadyH.cons rfl (fun K hK => ?_) AllReadyH.nil
      · go_simp
        refine (X1 _ _ g10).mono ?_
        rintro e w11 ⟨rfl, hc11⟩
        have s11 := hkeep hc11 s10
        have C11 := C10.trans hc11
        have z11 := hkeep hc11 z10
        have g11 := hkeep hc11 g10
        have a11 := hkeep hc11 a10
        refine hK.out _ _ s11 (fun _ => ?_)
        clear hK K hc11 s10 C10 z10 g10 a10
        refine wpAnyH_ready (rs := [7]) (by kernel_rfl) (by simp) ?_
        refine AllReadyH.cons rfl (fun K hK => ?_) AllReadyH.nil
        go_simp
        have s12 : (World.onObj w11 A (laidAt 0 (accC 0 kd wd nw))).heap[B]? = some (.cells (penC p) 71 (0, 0)) := by rw [heap_onObj, if_neg hAs]; exact s11
        have z12 : (World.onObj w11 A (laidAt 0 (accC 0 kd wd nw))).heap[(B + 1)]? = some (.cells (accC 0 0 0 0) 96 (0, 0)) := by rw [heap_onObj, if_neg hAz]; exact z11
        have g12 : (World.onObj w11 A (laidAt 0 (accC 0 kd wd nw))).heap[G]? = some (.cells (penC p) 170 (0, 0)) := by rw [heap_onObj, if_neg hAg]; exact g11
        have a12 : (World.onObj w11 A (laidAt 0 (accC 0 kd wd nw))).heap[A]? = some (.cells (accC 0 kd wd nw) 96 (0, 0)) := by rw [heap_onObj, if_pos rfl, a11, Option.map_some, laidAt_acc]
        have C12 : Ch [] w (World.onObj w11 A (laidAt 0 (accC 0 kd wd nw))) := C11.onObj (.inr hAw) _
        refine hK.out _ _ s12 (fun _ => ?_)
        clear hK K s11 C11 z11 g11 a11
        generalize (World.onObj w11 A (laidAt 0 (accC 0 kd wd nw))) = w12 at *
        refine wpAnyH_done (by kernel_rfl) ?_ _
        go_wp2_with (go_at_call 56; refine (L1 _).mono ?_; rintro e w' ⟨rfl, rfl⟩)
        have hAz : ¬ B + 1 = A := hAz
        refine bodyPost_ret (need_results Tryz.results57 _ _ _ who kd (16 + 40 * p.sl + wd) nw _ rfl rfl ?_) rfl ⟨rfl, ?_⟩
        · simp [go_sem, z12, a12, hAz]
        · exact ((C12.setCell (p := ⟨A, 0, none⟩) (.inr hAw) _).setCell (p := ⟨A, 2, none⟩) (.inr hAw) _).onObj (p := B + 1) (.inr (by rw [HB.out]; omega)) _
set_option maxHeartbeats 4000000 in
set_option maxRecDepth 100000 in
theorem wNeed_add (p : PenT) (who : Int) (n k : Nat) (kd wd nw : Int) (hr : rightP p = true) (hpn : p.ph = (n : Int)) (hn : (n : Int) < 14) (hph : p.ph = 12) (hav : accessesV[n]? = some (.func (.func k) #[] #[]))
    (hdf : ∀ args w, (callFunc k args).run Tryz.prog w = .ok (.enter k args) w)
    (X1 : ∀ (g : Nat) (w : World), w.heap[g]? = some (.cells (penC p) 170 (0, 0)) → Calls Tryz.prog k #[.pointer (some ⟨g, 0, none⟩)] w fun e w' => e = .returned (.agg (accC 0 kd wd nw)) ∧ Ch [] w w') (w : World) :
    Calls Tryz.prog 57 #[.agg (penC p), I who] w fun e w' => e = .returned (.tuple #[.agg (accC who kd wd nw), .bool true]) ∧ Ch [] w w' := by
  have R1 := fun w => check_pen p w
  rw [checkV_yes hr] at R1
  have A1 := fun w => accesses_any w
  have hix := index172 accessesV n k hn hav
  generalize accessesV = av at *
  clear hr
  go_enter Tryz.func57, Tryz.ntmps57
  go_wp2_with fail
  have hC0 : Ch [] w ((w.alloc (.cells (penC p) 71)).alloc (.cells (accC 0 0 0 0) 96)) := ((Ch.refl [] w).alloc _).alloc _
  have b0 := wnew_pena p w
  have z0 := wnew_penaz p w
  generalize (w.alloc (.cells (penC p) 71)).alloc (.cells (accC 0 0 0 0) 96) = W0 at *
  refine (R1 _).mono ?_
  rintro e w0 ⟨rfl, hc0⟩
  have b1 := hkeep hc0 b0
  have z1 := hkeep hc0 z0
  have hC1 := hC0.trans hc0
  clear b0 z0 hc0 R1 hC0
  go_wp2
  have hcG : Ch [] w0 (w0.alloc (.cells (penC p) 170)) := (Ch.refl [] w0).alloc _
  have g2 : (w0.alloc (.cells (penC p) 170)).heap[w0.heap.size]? = some (.cells (penC p) 170 (0, 0)) := by rw [heap_alloc, if_pos rfl]
  have b2 := hkeep hcG b1
  have z2 := hkeep hcG z1
  have hC2 := hC1.trans hcG
  generalize w0.alloc (.cells (penC p) 170) = w01 at *
  generalize w0.heap.size = G at *
  obtain ⟨B, hB⟩ : ∃ B, w.heap.size = B := ⟨_, rfl⟩
  rw [hB] at b2 z2 ⊢
  have HB := Lib.hid hB
  clear hB b1 z1 hcG hC1
  have s1 : (fun W' : World => W'.heap[B]? = some (.cells (penC p) 71 (0, 0))) w01.drew := b2
  have z1 : w01.drew.heap[B + 1]? = some (.cells (accC 0 0 0 0) 96 (0, 0)) := z2
  have g1 : w01.drew.heap[G]? = some (.cells (penC p) 170 (0, 0)) := g2
  have C1 : Ch [] w w01.drew := hC2.drew
  refine wp_region_held_drew (S := fun W' => W'.heap[B]? = some (.cells (penC p) 71 (0, 0))) (by kernel_rfl) s1 ?_
  intro _
  simp only [List.size_toArray, List.length_cons, List.length_nil, Nat.reduceAdd]
  clear b2 z2 g2 hC2
  generalize w01.drew = w1 at *
  refine wpAnyH_take (i := 1) (oi := ⟨some 21, _, _, _, _, none⟩) (v := ?_) rfl (by kernel_rfl) (by kernel_rfl) (by kernel_rfl) (fun _ _ _ h => h) (Or.inl ⟨by rfl, ?_⟩) s1 ?_
  rotate_left
  · intro wq hSq
    first | (go_simp; done) | (go_simp; with_reducible rfl)
  try simp only [Act.put, List.setIfInBounds_toArray, List.set_cons_zero, List.set_cons_succ]
  refine wpAnyH_take (i := 2) (oi := ⟨some 22, _, _, _, _, none⟩) (v := ?_) rfl (by kernel_rfl) (by kernel_rfl) (by kernel_rfl) (fun _ _ _ h => h) (Or.inl ⟨by rfl, ?_⟩) s1 ?_
  rotate_left
  · intro wq hSq
    first | (go_simp; done) | (go_simp; with_reducible rfl)
  try simp only [Act.put, List.setIfInBounds_toArray, List.set_cons_zero, List.set_cons_succ]
  refine wpAnyH_take (i := 4) (oi := ⟨some 24, _, _, _, _, none⟩) (v := ?_) rfl (by kernel_rfl) (by kernel_rfl) (by kernel_rfl) (fun _ _ _ h => h) (Or.inl ⟨by rfl, ?_⟩) s1 ?_
  rotate_left
  · intro wq hSq
    first | (go_simp; done) | (go_simp; with_reducible rfl)
  try simp only [Act.put, List.setIfInBounds_toArray, List.set_cons_zero, List.set_cons_succ]
  refine wpAnyH_ready (rs := [0, 6]) (by kernel_rfl) (by simp) ?_
  refine AllReadyH.cons rfl (fun K hK => ?_) (AllReadyH.cons (o := ⟨some 7, _, _, _, _, none⟩) rfl (fun K hK => ?_) AllReadyH.nil)
  · go_simp
    refine (A1 _).mono ?_
    rintro e w2 ⟨rfl, hc2⟩
    have s2 := hkeep hc2 s1
    have C2 := C1.trans hc2
    have z2 := hkeep hc2 z1
    have g2 := hkeep hc2 g1
    refine hK.out _ _ s2 (fun _ => ?_)
    clear hK K hc2 s1 C1 z1 g1
    refine wpAnyH_take (i := 3) (oi := ⟨some 23, _, _, _, _, none⟩) (v := ?_) rfl (by kernel_rfl) (by kernel_rfl) (by kernel_rfl) (fun _ _ _ h => h) (Or.inl ⟨by rfl, ?_⟩) s2 ?_
    rotate_left
    · intro wq hSq
      first | (go_simp; done) | (go_simp; with_reducible rfl)
    try simp only [Act.put, List.setIfInBounds_toArray, List.set_cons_zero, List.set_cons_succ]
    refine wpAnyH_ready (rs := [5, 6]) (by kernel_rfl) (by simp) ?_
    refine AllReadyH.cons rfl (fun K hK => ?_) (AllReadyH.cons (o := ⟨some 7, _, _, _, _, none⟩) rfl (fun K hK => ?_) AllReadyH.nil)
    · go_simp
      refine (X1 _ _ g2).mono ?_
      rintro e w3 ⟨rfl, hc3⟩
      have s3 := hkeep hc3 s2
      have C3 := C2.trans hc3
      have z3 := hkeep hc3 z2
      have g3 := hkeep hc3 g2
      refine hK.out _ _ s3 (fun _ => ?_)
      clear hK K hc3 s2 C2 z2 g2
      refine wpAnyH_ready (rs := [6]) (by kernel_rfl) (by simp) ?_
      refine AllReadyH.cons (o := ⟨some 7, _, _, _, _, none⟩) rfl (fun K hK => ?_) AllReadyH.nil
      · go_simp
        have hc4 : Ch [] w3 (w3.alloc (.cells (accC 0 0 0 0) 96)) := (Ch.refl [] w3).alloc _
        have s4 := hkeep hc4 s3
        have C4 := C3.trans hc4
        have z4 := hkeep hc4 z3
        have g4 := hkeep hc4 g3
        have a4 : (w3.alloc (.cells (accC 0 0 0 0) 96)).heap[w3.heap.size]? = some (.cells (accC 0 0 0 0) 96 (0, 0)) := by rw [heap_alloc, if_pos rfl]
        have hAs : ¬ B = w3.heap.size := by have := (Array.getElem?_eq_some_iff.1 s3).1; omega
        have hAz : ¬ (B + 1) = w3.heap.size := by have := (Array.getElem?_eq_some_iff.1 z3).1; omega
        have hAg : ¬ G = w3.heap.size := by have := (Array.getElem?_eq_some_iff.1 g3).1; omega
        have hAw : w.heap.size ≤ w3.heap.size := C3.size
        refine hK.out _ _ s4 (fun _ => ?_)
        clear hK K hc4 s3 C3 z3 g3
        generalize w3.alloc (.cells (accC 0 0 0 0) 96) = w4 at *
        generalize w3.heap.size = A at *
        refine wpAnyH_ready (rs := [7]) (by kernel_rfl) (by simp) ?_
        refine AllReadyH.cons rfl (fun K hK => ?_) AllReadyH.nil
        go_simp
        have s5 : (World.onObj w4 A (laidAt 0 (accC 0 kd wd nw))).heap[B]? = some (.cells (penC p) 71 (0, 0)) := by rw [heap_onObj, if_neg hAs]; exact s4
        have z5 : (World.onObj w4 A (laidAt 0 (accC 0 kd wd nw))).heap[(B + 1)]? = some (.cells (accC 0 0 0 0) 96 (0, 0)) := by rw [heap_onObj, if_neg hAz]; exact z4
        have g5 : (World.onObj w4 A (laidAt 0 (accC 0 kd wd nw))).heap[G]? = some (.cells (penC p) 170 (0, 0)) := by rw [heap_onObj, if_neg hAg]; exact g4
        have a5 : (World.onObj w4 A (laidAt 0 (accC 0 kd wd nw))).heap[A]? = some (.cells (accC 0 kd wd nw) 96 (0, 0)) := by rw [heap_onObj, if_pos rfl, a4, Option.map_some, laidAt_acc]
        have C5 : Ch [] w (World.onObj w4 A (laidAt 0 (accC 0 kd wd nw))) := C4.onObj (.inr hAw) _
        refine hK.out _ _ s5 (fun _ => ?_)
        clear hK K s4 C4 z4 g4 a4
        generalize (World.onObj w4 A (laidAt 0 (accC 0 kd wd nw))) = w5 at *
        refine wpAnyH_done (by kernel_rfl) ?_ _
        go_wp2
        have hAz : ¬ B + 1 = A := hAz
        refine bodyPost_ret (need_results Tryz.results57 _ _ _ who kd wd nw _ rfl rfl ?_) rfl ⟨rfl, ?_⟩
        · simp [go_sem, z5, a5, hAz]
        · exact (C5.setCell (p := ⟨A, 0, none⟩) (.inr hAw) _).onObj (p := B + 1) (.inr (by rw [HB.out]; omega)) _
    · go_simp
      have hc6 : Ch [] w2 (w2.alloc (.cells (accC 0 0 0 0) 96)) := (Ch.refl [] w2).alloc _
      have s6 := hkeep hc6 s2
      have C6 := C2.trans hc6
      have z6 := hkeep hc6 z2
      have g6 := hkeep hc6 g2
      have a6 : (w2.alloc (.cells (accC 0 0 0 0) 96)).heap[w2.heap.size]? = some (.cells (accC 0 0 0 0) 96 (0, 0)) := by rw [heap_alloc, if_pos rfl]
      have hAs : ¬ B = w2.heap.size := by have := (Array.getElem?_eq_some_iff.1 s2).1; omega
      have hAz : ¬ (B + 1) = w2.heap.size := by have := (Array.getElem?_eq_some_iff.1 z2).1; omega
      have hAg : ¬ G = w2.heap.size := by have := (Array.getElem?_eq_some_iff.1 g2).1; omega
      have hAw : w.heap.size ≤ w2.heap.size := C2.size
      refine hK.out _ _ s6 (fun _ => ?_)
      clear hK K hc6 s2 C2 z2 g2
      generalize w2.alloc (.cells (accC 0 0 0 0) 96) = w6 at *
      generalize w2.heap.size = A at *
      refine wpAnyH_ready (rs := [5]) (by kernel_rfl) (by simp) ?_
      refine AllReadyH.cons rfl (fun K hK => ?_) AllReadyH.nil
      · go_simp
        refine (X1 _ _ g6).mono ?_
        rintro e w7 ⟨rfl, hc7⟩
        have s7 := hkeep hc7 s6
        have C7 := C6.trans hc7
        have z7 := hkeep hc7 z6
        have g7 := hkeep hc7 g6
        have a7 := hkeep hc7 a6
        refine hK.out _ _ s7 (fun _ => ?_)
        clear hK K hc7 s6 C6 z6 g6 a6
        refine wpAnyH_ready (rs := [7]) (by kernel_rfl) (by simp) ?_
        refine AllReadyH.cons rfl (fun K hK => ?_) AllReadyH.nil
        go_simp
        have s8 : (World.onObj w7 A (laidAt 0 (accC 0 kd wd nw))).heap[B]? = some (.cells (penC p) 71 (0, 0)) := by rw [heap_onObj, if_neg hAs]; exact s7
        have z8 : (World.onObj w7 A (laidAt 0 (accC 0 kd wd nw))).heap[(B + 1)]? = some (.cells (accC 0 0 0 0) 96 (0, 0)) := by rw [heap_onObj, if_neg hAz]; exact z7
        have g8 : (World.onObj w7 A (laidAt 0 (accC 0 kd wd nw))).heap[G]? = some (.cells (penC p) 170 (0, 0)) := by rw [heap_onObj, if_neg hAg]; exact g7
        have a8 : (World.onObj w7 A (laidAt 0 (accC 0 kd wd nw))).heap[A]? = some (.cells (accC 0 kd wd nw) 96 (0, 0)) := by rw [heap_onObj, if_pos rfl, a7, Option.map_some, laidAt_acc]
        have C8 : Ch [] w (World.onObj w7 A (laidAt 0 (accC 0 kd wd nw))) := C7.onObj (.inr hAw) _
        refine hK.out _ _ s8 (fun _ => ?_)
        clear hK K s7 C7 z7 g7 a7
        generalize (World.onObj w7 A (laidAt 0 (accC 0 kd wd nw))) = w8 at *
        refine wpAnyH_done (by kernel_rfl) ?_ _
        go_wp2
        have hAz : ¬ B + 1 = A := hAz
        refine bodyPost_ret (need_results Tryz.results57 _ _ _ who kd wd nw _ rfl rfl ?_) rfl ⟨rfl, ?_⟩
        · simp [go_sem, z8, a8, hAz]
        · exact (C8.setCell (p := ⟨A, 0, none⟩) (.inr hAw) _).onObj (p := B + 1) (.inr (by rw [HB.out]; omega)) _
  · go_simp
    have hc9 : Ch [] w1 (w1.alloc (.cells (accC 0 0 0 0) 96)) := (Ch.refl [] w1).alloc _
    have s9 := hkeep hc9 s1
    have C9 := C1.trans hc9
    have z9 := hkeep hc9 z1
    have g9 := hkeep hc9 g1
    have a9 : (w1.alloc (.cells (accC 0 0 0 0) 96)).heap[w1.heap.size]? = some (.cells (accC 0 0 0 0) 96 (0, 0)) := by rw [heap_alloc, if_pos rfl]
    have hAs : ¬ B = w1.heap.size := by have := (Array.getElem?_eq_some_iff.1 s1).1; omega
    have hAz : ¬ (B + 1) = w1.heap.size := by have := (Array.getElem?_eq_some_iff.1 z1).1; omega
    have hAg : ¬ G = w1.heap.size := by have := (Array.getElem?_eq_some_iff.1 g1).1; omega
    have hAw : w.heap.size ≤ w1.heap.size := C1.size
    refine hK.out _ _ s9 (fun _ => ?_)
    clear hK K hc9 s1 C1 z1 g1
    generalize w1.alloc (.cells (accC 0 0 0 0) 96) = w9 at *
    generalize w1.heap.size = A at *
    refine wpAnyH_ready (rs := [0]) (by kernel_rfl) (by simp) ?_
    refine AllReadyH.cons rfl (fun K hK => ?_) AllReadyH.nil
    · go_simp
      refine (A1 _).mono ?_
      rintro e w10 ⟨rfl, hc10⟩
      have s10 := hkeep hc10 s9
      have C10 := C9.trans hc10
      have z10 := hkeep hc10 z9
      have g10 := hkeep hc10 g9
      have a10 := hkeep hc10 a9
      refine hK.out _ _ s10 (fun _ => ?_)
      clear hK K hc10 s9 C9 z9 g9 a9
      refine wpAnyH_take (i := 3) (oi := ⟨some 23, _, _, _, _, none⟩) (v := ?_) rfl (by kernel_rfl) (by kernel_rfl) (by kernel_rfl) (fun _ _ _ h => h) (Or.inl ⟨by rfl, ?_⟩) s10 ?_
      rotate_left
      · intro wq hSq
        first | (go_simp; done) | (go_simp; with_reducible rfl)
      try simp only [Act.put, List.setIfInBounds_toArray, List.set_cons_zero, List.set_cons_succ]
      refine wpAnyH_ready (rs := [5]) (by kernel_rfl) (by simp) ?_
      refine AllReadyH.cons rfl (fun K hK => ?_) AllReadyH.nil
      · go_simp
        refine (X1 _ _ g10).mono ?_
        rintro e w11 ⟨rfl, hc11⟩
        have s11 := hkeep hc11 s10
        have C11 := C10.trans hc11
        have z11 := hkeep hc11 z10
        have g11 := hkeep hc11 g10
        have a11 := hkeep hc11 a10
        refine hK.out _ _ s11 (fun _ => ?_)
        clear hK K hc11 s10 C10 z10 g10 a10
        refine wpAnyH_ready (rs := [7]) (by kernel_rfl) (by simp) ?_
        refine AllReadyH.cons rfl (fun K hK => ?_) AllReadyH.nil
        go_simp
        have s12 : (World.onObj w11 A (laidAt 0 (accC 0 kd wd nw))).heap[B]? = some (.cells (penC p) 71 (0, 0)) := by rw [heap_onObj, if_neg hAs]; exact s11
        have z12 : (World.onObj w11 A (laidAt 0 (accC 0 kd wd nw))).heap[(B + 1)]? = some (.cells (accC 0 0 0 0) 96 (0, 0)) := by rw [heap_onObj, if_neg hAz]; exact z11
        have g12 : (World.onObj w11 A (laidAt 0 (accC 0 kd wd nw))).heap[G]? = some (.cells (penC p) 170 (0, 0)) := by rw [heap_onObj, if_neg hAg]; exact g11
        have a12 : (World.onObj w11 A (laidAt 0 (accC 0 kd wd nw))).heap[A]? = some (.cells (accC 0 kd wd nw) 96 (0, 0)) := by rw [heap_onObj, if_pos rfl, a11, Option.map_some, laidAt_acc]
        have C12 : Ch [] w (World.onObj w11 A (laidAt 0 (accC 0 kd wd nw))) := C11.onObj (.inr hAw) _
        refine hK.out _ _ s12 (fun _ => ?_)
        clear hK K s11 C11 z11 g11 a11
        generalize (World.onObj w11 A (laidAt 0 (accC 0 kd wd nw))) = w12 at *
        refine wpAnyH_done (by kernel_rfl) ?_ _
        go_wp2
        have hAz : ¬ B + 1 = A := hAz
        refine bodyPost_ret (need_results Tryz.results57 _ _ _ who kd wd nw _ rfl rfl ?_) rfl ⟨rfl, ?_⟩
        · simp [go_sem, z12, a12, hAz]
        · exact (C12.setCell (p := ⟨A, 0, none⟩) (.inr hAw) _).onObj (p := B + 1) (.inr (by rw [HB.out]; omega)) _
end Go.Proofs.Hc
