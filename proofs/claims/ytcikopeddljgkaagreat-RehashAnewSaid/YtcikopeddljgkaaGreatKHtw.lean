/- Package table: Anew. -/
import Derived.Test.YtcikopeddljgkaaGreatKHcb
import Derived.Test.YtcikopeddljgkaaGreatKHdn
import Derived.Test.YtcikopeddljgkaaGreatKHj
import Derived.Test.YtcikopeddljgkaaGreatKHma
import Derived.Test.YtcikopeddljgkaaGreatKHmet
import Derived.Test.YtcikopeddljgkaaGreatKHmy
import Derived.Test.YtcikopeddljgkaaGreatKHn
import Derived.Test.YtcikopeddljgkaaGreatKHo
import Derived.Test.YtcikopeddljgkaaGreatKHr
import Derived.Test.YtcikopeddljgkaaGreatKHrw
import Derived.Test.YtcikopeddljgkaaGreatKHta
import Derived.Test.YtcikopeddljgkaaGreatKHtc
import Derived.Test.YtcikopeddljgkaaGreatKHtm
import Derived.Test.YtcikopeddljgkaaGreatKHtv
import Derived.Test.YtcikopeddljgkaaGreatKHye
import Derived.Test.YtcikopeddljgkaaGreatKHyf
import Derived.Below
import Derived.BigQuiet
import Derived.Deep.Draws
import Derived.Deep.Light
import Derived.Deep.QuietTactic
import Derived.Deep.RegionHeld
import Derived.Laws.CopyRow
import Derived.Laws.Tables
import Derived.Lib.AppendZerosOnto
import Derived.Lib.Hide
import Derived.Lib.Tables
import Derived.Lib.Walk
import Derived.LoopIn
import Derived.LoopN
import Derived.LoopNIn
import Derived.Maps.AppendAt
import Derived.Maps.Views
import Derived.OwnWalkIn
import Derived.RangeFuncBox
import Derived.RangeFuncCalls
import Derived.RangeFuncRecord
import Derived.RangeFuncSeq
import Derived.Recover
import Derived.RegionTactic
import Derived.Shelf.Slices.Clone
import Derived.StillTail
import Derived.StillTailTactics
import Derived.TacticsInMore
import Derived.Test.YtcikopeddljgkaaGreatProg
import Derived.WalkKit
import Derived.WalkLawsBesides
import Derived.WalkMore
import Derived.WalkSpells
set_option linter.unusedSimpArgs false
set_option linter.unusedVariables false
namespace Go.Proofs.Hc
open Go.RowKit
attribute [local go_sem] wrap_u64 wrap_u8 bits_xor64 bits_and64 bits_or64 bits_not64 bits_xor8 bits_and8 bits_or8 signed64 signed8 ofInt_N BitVec.ofInt_add BitVec.ofInt_mul ofInt_sub' ofInt8_N64 ofInt64_N8 wide8 eqN neN shr_pow shr1 shr7 shr56
attribute [local go_sem high] bits_com64 shl_wrap
attribute [local go_sem] cell_heap ice_heap cellAt_cells iceAt_cells setAt_cells rowAt_cells canLay_cells laidAt_cells size_onObj size_setCell rowRes_some layRes_true
attribute [local go_sem] load26 load73 load23 store26 build73
attribute [local go_sem ↓] lrow26 lrow73 lrow23 srow26 zero26 brow73 heap_alloc heap_drew heap_drewN heap_setCell heap_onObj
attribute [local go_sem] tcells_size hcells_size tcells_get hcells_get tcells_one hcells_one hcells_table tcells_table hcells_all hcells_ctrl tcells_ctrl
attribute [local go_sem] nn2 nm2 nn3 nm3 nn4 nm4 nn5 nm5 nn6 nm6 nn7 nm7 nn8 nm8
attribute [local go_sem] loadA loadT2 storeA storeT2 buildA_ts buildA_sm assert_errno make_func acells_size t2cells_size acells_get t2cells_get acells_one t2cells_one acells_table acells_all t2cells_all t2cells_l t2cells_r
attribute [local go_sem ↓] lrowA lrowT2 srowA srowT2 browA zeroA_run zeroT2_run
attribute [local go_sem] nn2 nm2 nn3 nm3 nn4 nm4 nn5 nm5 nn6 nm6 nn7 nm7 nn8 nm8
attribute [local go_sem] Oper.semAt_some make_func1 ofInt_pow8
attribute [local go_sem] box26 tcells_idx cell0 cell1 cell2 cell3 cell4 hcells_idx hcells_pop
attribute [local go_sem] cell5 cell6
attribute [local go_sem high] laidAt_t
theorem enters_anew1 (args : Array Value) (w : World) : (callFunc 77 args).run Tryz.prog w = .ok (.enter 77 args) w := by kernel_rfl
/-- A table laid anew. -/
def anewT (t : Tab) (s : BitVec 64) : Except Int Tab := laidT s (bareT t.count t.depth t.pre) (pairsT t)
theorem bare_ok (c : BitVec 64) (d : Int) (p : BitVec 64) : OkT (bareT c d p) 0 := ⟨by kernel_rfl, by kernel_rfl, by show -((0 : Nat) : Int) ≤ 14 ∧ (14 : Int) ≤ 14; omega, by show (0 : Int) ≤ 0 ∧ (0 : Int) ≤ 14 + ((0 : Nat) : Int); omega⟩
theorem pairs_le (t : Tab) : (pairsT t).length ≤ 16 := by
  have := slots_len t
  unfold pairsT
  rw [List.length_map]; omega
set_option maxHeartbeats 1000000 in
set_option maxRecDepth 100000 in
theorem anew1_any (t : Tab) (s : BitVec 64) (b : Nat) (w : World) (hok : OkT t 0)
    (hb : w.heap[b]? = some (.cells (hcells t s) 141 (0, 0))) :
    Calls Tryz.prog 77 #[.pointer (some ⟨b, 0, none⟩)] w fun e w' => e = retOr (fun y => .agg (tcells y)) (anewT t s) ∧ Ch [] w w' := by
  have hbl := (Array.getElem?_eq_some_iff.1 hb).1
  obtain ⟨W0, hW0⟩ : ∃ W0, w.alloc (.cells (tcells zeroT) 26) = W0 := ⟨_, rfl⟩
  have hC0 : Ch [] w W0 := by rw [← hW0]; exact (Ch.refl [] w).alloc _
  have b0 : W0.heap[w.heap.size]? = some (.cells (tcells zeroT) 26 (0, 0)) := by rw [← hW0]; simp [go_sem]
  have bb := hkeep hC0 hb
  have hn := pairs_le t
  have B1 := fun W => bare_any t.count t.depth t.pre W
  have P1 := fun (W : World) hb => pairs_any t s b W hok.c0 hok.c1 hb
  have L1 : ∀ (W : World) a c base, W.ownsRow base 31 2 (.slice a (pairsT t).length c) (pairsT t).length (pcells (pairsT t)) → W.heap[b]? = some (.cells (hcells t s) 141 (0, 0)) →
      Calls Tryz.prog 78 #[.pointer (some ⟨b, 0, none⟩), .agg (tcells (bareT t.count t.depth t.pre)), .slice a (pairsT t).length c] W fun e w' => e = retOr (fun x => .agg (tcells x)) (anewT t s) ∧ Ch [] W w' := by
    intro W a c base hown hb
    obtain ⟨cur, h1, h2, h3⟩ := pairs_at rfl hown
    exact laid_walk t _ s (pairsT t) 0 a c cur b W (bare_ok _ _ _) (by omega) hb h1 h2 (fun r hr => (h3 r hr).2)
  generalize anewT t s = R at *
  generalize pairsT t = l at *
  generalize bareT t.count t.depth t.pre = bare at *
  generalize pcells l = pc at *
  generalize l.length = n at *
  clear hn hok hb hbl
  rcases R with e | y
  all_goals
    go_enter Tryz.func77, Tryz.ntmps77
    go_wp2
    have hS : (fun W' : World => W'.heap[b]? = some (.cells (hcells t s) 141 (0, 0))) W0.drew := bb
    refine wp_region_held_drew (S := fun W' => W'.heap[b]? = some (.cells (hcells t s) 141 (0, 0))) (by kernel_rfl) hS ?_
    intro _
    simp only [List.size_toArray, List.length_cons, List.length_nil, Nat.reduceAdd]
    refine wpAnyH_take (i := 0) (oi := ⟨some 3, _, _, _, _, none⟩) (v := ?_) rfl (by kernel_rfl) (by kernel_rfl) (by kernel_rfl) (fun _ _ _ h => h) (Or.inl ⟨by rfl, ?_⟩) bb ?_
    rotate_left
    · intro wq hSq
      first | (go_simp; done) | (go_simp; with_reducible rfl)
    try simp only [Act.put, List.setIfInBounds_toArray, List.set_cons_zero, List.set_cons_succ]
    refine wpAnyH_take (i := 1) (oi := ⟨some 4, _, _, _, _, none⟩) (v := ?_) rfl (by kernel_rfl) (by kernel_rfl) (by kernel_rfl) (fun _ _ _ h => h) (Or.inl ⟨by rfl, ?_⟩) bb ?_
    rotate_left
    · intro wq hSq
      first | (go_simp; done) | (go_simp; with_reducible rfl)
    try simp only [Act.put, List.setIfInBounds_toArray, List.set_cons_zero, List.set_cons_succ]
    refine wpAnyH_take (i := 2) (oi := ⟨some 5, _, _, _, _, none⟩) (v := ?_) rfl (by kernel_rfl) (by kernel_rfl) (by kernel_rfl) (fun _ _ _ h => h) (Or.inl ⟨by rfl, ?_⟩) bb ?_
    rotate_left
    · intro wq hSq
      first | (go_simp; done) | (go_simp; with_reducible rfl)
    try simp only [Act.put, List.setIfInBounds_toArray, List.set_cons_zero, List.set_cons_succ]
    refine wpAnyH_take (i := 3) (oi := ⟨some 6, _, _, _, _, none⟩) (v := ?_) rfl (by kernel_rfl) (by kernel_rfl) (by kernel_rfl) (fun _ _ _ h => h) (Or.inl ⟨by rfl, ?_⟩) bb ?_
    rotate_left
    · intro wq hSq
      first | (go_simp; done) | (go_simp; with_reducible rfl)
    try simp only [Act.put, List.setIfInBounds_toArray, List.set_cons_zero, List.set_cons_succ]
    refine wpAnyH_take (i := 4) (oi := ⟨some 7, _, _, _, _, none⟩) (v := ?_) rfl (by kernel_rfl) (by kernel_rfl) (by kernel_rfl) (fun _ _ _ h => h) (Or.inl ⟨by rfl, ?_⟩) bb ?_
    rotate_left
    · intro wq hSq
      first | (go_simp; done) | (go_simp; with_reducible rfl)
    try simp only [Act.put, List.setIfInBounds_toArray, List.set_cons_zero, List.set_cons_succ]
    refine wpAnyH_take (i := 5) (oi := ⟨some 8, _, _, _, _, none⟩) (v := ?_) rfl (by kernel_rfl) (by kernel_rfl) (by kernel_rfl) (fun _ _ _ h => h) (Or.inl ⟨by rfl, ?_⟩) bb ?_
    rotate_left
    · intro wq hSq
      first | (go_simp; done) | (go_simp; with_reducible rfl)
    try simp only [Act.put, List.setIfInBounds_toArray, List.set_cons_zero, List.set_cons_succ]
    refine wpAnyH_take (i := 6) (oi := ⟨some 9, _, _, _, _, none⟩) (v := ?_) rfl (by kernel_rfl) (by kernel_rfl) (by kernel_rfl) (fun _ _ _ h => h) (Or.inl ⟨by rfl, ?_⟩) bb ?_
    rotate_left
    · intro wq hSq
      first | (go_simp; done) | (go_simp; with_reducible rfl)
    try simp only [Act.put, List.setIfInBounds_toArray, List.set_cons_zero, List.set_cons_succ]
    refine wpAnyH_take (i := 7) (oi := ⟨some 10, _, _, _, _, none⟩) (v := ?_) rfl (by kernel_rfl) (by kernel_rfl) (by kernel_rfl) (fun _ _ _ h => h) (Or.inl ⟨by rfl, ?_⟩) bb ?_
    rotate_left
    · intro wq hSq
      first | (go_simp; done) | (go_simp; with_reducible rfl)
    try simp only [Act.put, List.setIfInBounds_toArray, List.set_cons_zero, List.set_cons_succ]
    refine wpAnyH_take (i := 8) (oi := ⟨some 11, _, _, _, _, none⟩) (v := ?_) rfl (by kernel_rfl) (by kernel_rfl) (by kernel_rfl) (fun _ _ _ h => h) (Or.inl ⟨by rfl, ?_⟩) bb ?_
    rotate_left
    · intro wq hSq
      first | (go_simp; done) | (go_simp; with_reducible rfl)
    try simp only [Act.put, List.setIfInBounds_toArray, List.set_cons_zero, List.set_cons_succ]
    refine wpAnyH_take (i := 9) (oi := ⟨some 12, _, _, _, _, none⟩) (v := ?_) rfl (by kernel_rfl) (by kernel_rfl) (by kernel_rfl) (fun _ _ _ h => h) (Or.inl ⟨by rfl, ?_⟩) bb ?_
    rotate_left
    · intro wq hSq
      first | (go_simp; done) | (go_simp; with_reducible rfl)
    try simp only [Act.put, List.setIfInBounds_toArray, List.set_cons_zero, List.set_cons_succ]
    refine wpAnyH_take (i := 10) (oi := ⟨some 13, _, _, _, _, none⟩) (v := ?_) rfl (by kernel_rfl) (by kernel_rfl) (by kernel_rfl) (fun _ _ _ h => h) (Or.inl ⟨by rfl, ?_⟩) bb ?_
    rotate_left
    · intro wq hSq
      first | (go_simp; done) | (go_simp; with_reducible rfl)
    try simp only [Act.put, List.setIfInBounds_toArray, List.set_cons_zero, List.set_cons_succ]
    refine wpAnyH_take (i := 11) (oi := ⟨some 14, _, _, _, _, none⟩) (v := ?_) rfl (by kernel_rfl) (by kernel_rfl) (by kernel_rfl) (fun _ _ _ h => h) (Or.inl ⟨by rfl, ?_⟩) bb ?_
    rotate_left
    · intro wq hSq
      first | (go_simp; done) | (go_simp; with_reducible rfl)
    try simp only [Act.put, List.setIfInBounds_toArray, List.set_cons_zero, List.set_cons_succ]
    refine wpAnyH_take (i := 12) (oi := ⟨some 15, _, _, _, _, none⟩) (v := ?_) rfl (by kernel_rfl) (by kernel_rfl) (by kernel_rfl) (fun _ _ _ h => h) (Or.inl ⟨by rfl, ?_⟩) bb ?_
    rotate_left
    · intro wq hSq
      first | (go_simp; done) | (go_simp; with_reducible rfl)
    try simp only [Act.put, List.setIfInBounds_toArray, List.set_cons_zero, List.set_cons_succ]
    refine wpAnyH_take (i := 13) (oi := ⟨some 16, _, _, _, _, none⟩) (v := ?_) rfl (by kernel_rfl) (by kernel_rfl) (by kernel_rfl) (fun _ _ _ h => h) (Or.inl ⟨by rfl, ?_⟩) bb ?_
    rotate_left
    · intro wq hSq
      first | (go_simp; done) | (go_simp; with_reducible rfl)
    try simp only [Act.put, List.setIfInBounds_toArray, List.set_cons_zero, List.set_cons_succ]
    refine wpAnyH_take (i := 14) (oi := ⟨some 17, _, _, _, _, none⟩) (v := ?_) rfl (by kernel_rfl) (by kernel_rfl) (by kernel_rfl) (fun _ _ _ h => h) (Or.inl ⟨by rfl, ?_⟩) bb ?_
    rotate_left
    · intro wq hSq
      first | (go_simp; done) | (go_simp; with_reducible rfl)
    try simp only [Act.put, List.setIfInBounds_toArray, List.set_cons_zero, List.set_cons_succ]
    refine wpAnyH_take (i := 15) (oi := ⟨some 18, _, _, _, _, none⟩) (v := ?_) rfl (by kernel_rfl) (by kernel_rfl) (by kernel_rfl) (fun _ _ _ h => h) (Or.inl ⟨by rfl, ?_⟩) bb ?_
    rotate_left
    · intro wq hSq
      first | (go_simp; done) | (go_simp; with_reducible rfl)
    try simp only [Act.put, List.setIfInBounds_toArray, List.set_cons_zero, List.set_cons_succ]
    refine wpAnyH_take (i := 17) (oi := ⟨some 20, _, _, _, _, none⟩) (v := ?_) rfl (by kernel_rfl) (by kernel_rfl) (by kernel_rfl) (fun _ _ _ h => h) (Or.inl ⟨by rfl, ?_⟩) bb ?_
    rotate_left
    · intro wq hSq
      first | (go_simp; done) | (go_simp; with_reducible rfl)
    try simp only [Act.put, List.setIfInBounds_toArray, List.set_cons_zero, List.set_cons_succ]
    refine wpAnyH_ready (rs := [16]) (by kernel_rfl) (by simp) ?_
    refine AllReadyH.cons rfl (fun K hK => ?_) AllReadyH.nil
    go_simp
    refine (B1 _).mono ?_
    rintro e W1 ⟨rfl, hc1⟩
    have d1 := hkeep hc1 (show W0.drew.heap[b]? = _ from bb)
    refine hK.out _ _ d1 (fun _ => ?_)
    clear hK K
    refine wpAnyH_ready (rs := [18]) (by kernel_rfl) (by simp) ?_
    refine AllReadyH.cons rfl (fun K hK => ?_) AllReadyH.nil
    go_simp
    refine (P1 _ d1).mono ?_
    rintro e W2 ⟨a, c, rfl, hown, hc2⟩
    have d2 := hkeep hc2 d1
    refine hK.out _ _ d2 (fun _ => ?_)
    clear hK K
    have HL := L1 W2 a c _ hown d2
    have HC2 : Ch [] w W2 := ((hC0.drew).trans hc1).trans hc2
    have f0 := hkeep hc2 (hkeep hc1 (show W0.drew.heap[w.heap.size]? = _ from b0))
    clear hown hc1 hc2 d1 b0 L1 P1 B1
    refine wpAnyH_ready (rs := [19]) (by kernel_rfl) (by simp) ?_
    refine AllReadyH.cons rfl (fun K hK => ?_) AllReadyH.nil
    go_simp
    refine HL.mono ?_
    rintro e W3 ⟨rfl, hc3⟩
    simp only [retOr]
  · exact ⟨rfl, rfl, HC2.trans hc3⟩
  · have d3 := hkeep hc3 d2
    have g0 := hkeep hc3 f0
    refine hK.out _ _ d3 (fun _ => ?_)
    clear hK K
    refine wpAnyH_ready (rs := [20]) (by kernel_rfl) (by simp) ?_
    refine AllReadyH.cons (o := ⟨none, .store 26 (.tmp 2) (.tmp 22), 0, _, _, none⟩) rfl (fun K hK => ?_) AllReadyH.nil
    go_simp
    have hbne : ¬ b = w.heap.size := by intro e; rw [e] at d3; rw [g0] at d3; have := congrArg (fun o => match o with | some (Obj.cells c _ _) => c.size | _ => 0) d3; simp [hcells_size, tcells_size] at this
    have d4 : (World.onObj W3 w.heap.size (laidAt 0 (tcells y))).heap[b]? = some (.cells (hcells t s) 141 (0, 0)) := by rw [heap_onObj, if_neg hbne]; exact d3
    refine hK.out _ _ d4 (fun _ => ?_)
    refine wpAnyH_done (by kernel_rfl) ?_ _
    have HC3 := HC2.trans hc3
    clear hK K
    go_wp2
    refine bodyPost_ret (v := .agg (tcells y)) (results_cell1 Tryz.results77 _ _ _ rfl (run_loadVar_row _ _ 26 26 (tcells y) (0, 0) _ ?_ Tryz.underlying26 rfl (by rw [tcells_size]; kernel_rfl))) rfl ⟨rfl, ?_⟩
    · simp only [heap_onObj, if_true, g0, Option.map_some, laidAt_t]
    · exact HC3.onObj (.inr (Nat.le_refl _)) _
set_option maxHeartbeats 1000000 in
set_option maxRecDepth 100000 in
theorem Anew_any (t : Tab) (s : BitVec 64) (w : World) :
    Calls Tryz.prog 15 #[U s, .agg (tcells t)] w fun e w' => e = .returned (tupOr (fun v => .agg (tcells v)) (.agg (tcells zeroT)) (ifMay t s (anewT t s))) ∧ Ch [] w w' := by
  have T1 : ∀ (w : World) (cap : Array Value), _ → Calls Tryz.prog 76 #[U s, .agg (tcells t), .func (.func 77) #[] cap] w fun e w' => e = .returned (tupOr (fun v => .agg (tcells v)) (.agg (tcells zeroT)) (ifMay t s (anewT t s))) ∧ Ch [] w w' := fun w cap hd => tries26_any t s 77 cap (anewT t s) w enters_anew1 hd
  have D1 := fun b w hok hb => anew1_any t s b w hok hb
  have hm := fun h => may_okT (t := t) (s := s) h
  generalize ifMay t s (anewT t s) = R at *
  generalize anewT t s = r at *
  obtain ⟨y, e0, htup⟩ := tup26 R
  rw [htup]
  obtain ⟨W0, hW0⟩ : ∃ W0, (w.alloc (.cells (tcells t) 26)).alloc (.cells (tcells zeroT) 26) = W0 := ⟨_, rfl⟩
  have hC0 : Ch [] w W0 := by rw [← hW0]; exact ((Ch.refl [] w).alloc _).alloc _
  have b0 : W0.heap[w.heap.size]? = some (.cells (tcells t) 26 (0, 0)) := by rw [← hW0]; simp [go_sem]
  have b2 : W0.heap[w.heap.size + 1]? = some (.cells (tcells zeroT) 26 (0, 0)) := by rw [← hW0]; simp [go_sem]
  go_enter Tryz.func15, Tryz.ntmps15
  go_wp2_with fail
  refine (T1 W0 #[] ?_).mono ?_
  · intro hmt b w1 hb hc hle
    refine (D1 b w1 (hm hmt) hb).mono ?_
    rintro e w2 ⟨rfl, hc2⟩
    exact ⟨rfl, hc2.of_nil⟩
  · rintro e w1 ⟨rfl, hc1⟩
    have d2 := hkeep hc1 b2
    clear T1 D1 hm b0 b2
    rw [htup]
    clear htup
    go_wp2
    refine bodyPost_ret (v := .tuple #[.agg (tcells y), I e0]) (results_c0t Tryz.results15 _ _ _ rfl rfl (run_loadVar_row _ _ 26 26 (tcells y) (0, 0) _ ?_ Tryz.underlying26 rfl (by rw [tcells_size]; kernel_rfl))) rfl ⟨rfl, ?_⟩
    · simp only [heap_onObj, if_true, d2, Option.map_some, laidAt_t]
    · exact (hC0.trans hc1).onObj (.inr (by omega)) _
end Go.Proofs.Hc
