/- The references of layer 19: decided, on, next. -/
import Derived.Test.YtmfajobocpaimaaGreatKHxe
import Derived.Test.YtmfajobocpaimaaGreatKHnc
import Derived.Test.YtmfajobocpaimaaGreatKHni
import Derived.Test.YtmfajobocpaimaaGreatKHnl
import Derived.Test.YtmfajobocpaimaaGreatKHnq
import Derived.Test.YtmfajobocpaimaaGreatKHny
import Derived.Test.YtmfajobocpaimaaGreatKHpa
import Derived.Test.YtmfajobocpaimaaGreatKHq
import Derived.Test.YtmfajobocpaimaaGreatKHr
import Derived.Test.YtmfajobocpaimaaGreatKHta
import Derived.Test.YtmfajobocpaimaaGreatKHop2
import Derived.Test.YtmfajobocpaimaaGreatKHxo
import Derived.Below
import Derived.BigQuiet
import Derived.Deep.Draws
import Derived.Deep.Light
import Derived.Deep.QuietTactic
import Derived.Deep.RegionHeld
import Derived.Laws.CopyRow
import Derived.Laws.StructEq
import Derived.Laws.Tables
import Derived.Lib.AppendZerosOnto
import Derived.Lib.Hide
import Derived.Lib.Tables
import Derived.Lib.Walk
import Derived.LoopIn
import Derived.LoopN
import Derived.LoopNIn
import Derived.Maps.AppendAt
import Derived.Maps.Views
import Derived.OwnWalkIn
import Derived.RangeFuncBox
import Derived.RangeFuncCalls
import Derived.RangeFuncRecord
import Derived.RangeFuncSeq
import Derived.Recover
import Derived.RegionTactic
import Derived.Shelf.Slices.Clone
import Derived.StillTail
import Derived.StillTailTactics
import Derived.TacticsInMore
import Derived.Test.YtmfajobocpaimaaGreatProg
import Derived.WalkKit
import Derived.WalkLawsBesides
import Derived.WalkMore
import Derived.WalkSpells
import Derived.ScopeJumps
set_option linter.unusedSimpArgs false
set_option linter.unusedVariables false
namespace Go.Proofs.Hc
open Go.RowKit
attribute [local go_sem] wrap_u64 wrap_u8 bits_xor64 bits_and64 bits_or64 bits_not64 bits_xor8 bits_and8 bits_or8 signed64 signed8 ofInt_N BitVec.ofInt_add BitVec.ofInt_mul ofInt_sub' ofInt8_N64 ofInt64_N8 wide8 eqN neN shr_pow shr1 shr7 shr56
attribute [local go_sem high] bits_com64 shl_wrap
attribute [local go_sem] cell_heap ice_heap cellAt_cells iceAt_cells setAt_cells rowAt_cells canLay_cells laidAt_cells size_onObj size_setCell rowRes_some layRes_true
attribute [local go_sem] load26 load73 load23 store26 build73
attribute [local go_sem ↓] lrow26 lrow73 lrow23 srow26 zero26 brow73 heap_alloc heap_drew heap_drewN heap_setCell heap_onObj
attribute [local go_sem] tcells_size hcells_size tcells_get hcells_get tcells_one hcells_one hcells_table tcells_table hcells_all hcells_ctrl tcells_ctrl
attribute [local go_sem] nn2 nm2 nn3 nm3 nn4 nm4 nn5 nm5 nn6 nm6 nn7 nm7 nn8 nm8
attribute [local go_sem] nn2 nm2 nn3 nm3 nn4 nm4 nn5 nm5 nn6 nm6 nn7 nm7 nn8 nm8
attribute [local go_sem] ofInt_N
theorem zeroPen_run (w : World) : (zeroValue 71).run Tryz.prog w = .ok (.agg (penC zeroPen)) w := by kernel_rfl
theorem laidAt_pen (p q : PenT) (T : TypeId) (fr : Nat × Nat) : laidAt 0 (penC q) (.cells (penC p) T fr) = .cells (penC q) T fr := by
  rw [laidAt_cells, laid_whole _ _ (by rw [penC_size, penC_size])]
theorem new_pen2 (p : PenT) (w : World) : ((w.alloc (.cells (penC p) 71)).alloc (.cells (penC zeroPen) 71)).heap[w.heap.size]? = some (.cells (penC p) 71 (0, 0)) := by
  rw [heap_alloc, if_neg (by simp), heap_alloc, if_pos rfl]
theorem new_penz (p : PenT) (w : World) : ((w.alloc (.cells (penC p) 71)).alloc (.cells (penC zeroPen) 71)).heap[w.heap.size + 1]? = some (.cells (penC zeroPen) 71 (0, 0)) := by
  rw [heap_alloc, if_pos (by simp)]
theorem new_pens (p : PenT) (w : World) : w.heap.size + 1 < ((w.alloc (.cells (penC p) 71)).alloc (.cells (penC zeroPen) 71)).heap.size := by simp
theorem pen_result {fn : Func} {q : Tmp} (h : fn.results = #[.cell q 71]) (tmps : Array Value) (b : Nat) (w : World) (p : PenT) (hq : tmps.getD q undef = .pointer (some ⟨b, 0, none⟩)) (hb : w.heap[b]? = some (.cells (penC p) 71 (0, 0))) :
    (results fn tmps).run Tryz.prog w = .ok (.agg (penC p)) w :=
  results_cell1 h tmps _ w hq (run_loadVar_row w b 71 71 (penC p) (0, 0) _ hb Tryz.underlying71 rfl (by rw [penC_size]; kernel_rfl))
attribute [local go_sem] pen_g0 pen_g1 pen_g2 pen_g3 pen_g4 pen_g5 pen_g6 pen_g7 pen_g8 pen_g9 pen_g10 pen_g11 pen_g12 pen_g13 pen_g14 pen_g15 pen_g16 pen_g17 penC_size penC_one penC_all boxPen loadPen storePen
attribute [local go_sem ↓] lrowPen srowPen
attribute [local go_sem] pen_s0 pen_s1 pen_s2 pen_s3 pen_s4 pen_s5 pen_s6 pen_s7 pen_s8 pen_s9 pen_s10 pen_s11 pen_s12 pen_s13 pen_s14 pen_s15 pen_s16 pen_s17
attribute [local go_sem ↓] zeroPen_run
attribute [local go_sem high] laidAt_pen
attribute [local irreducible] penC
set_option maxHeartbeats 1000000 in
set_option maxRecDepth 100000 in
theorem r19Decided_any (p : PenT) (w : World) : Calls Tryz.prog 168 #[.agg (penC p)] w fun e w' => e = .returned (.agg (penC (decidedP p))) ∧ Ch [] w w' := by
  have W1 := fun w => rWants_any p w
  have HD : Hid (decidedP p = { p with ph := if wantsP p = 0 then 14 else if wantsP p = 2 then 6 else if wantsP p = 1 ∧ p.free = 0 then 16 else 4 }) := Lib.hid (by rw [decidedP])
  have hw := wantsP_cases p
  generalize decidedP p = d at *
  generalize wantsP p = n at *
  have hf : p.free = 0 ∨ (p.free == 0) = false := eq_cases _ _
  rcases hf with hf | hf <;> rcases hw with rfl | rfl | rfl | rfl
  all_goals
    go_enter Tryz.func168, Tryz.ntmps168
    go_wp2_with fail
    (have hC0 : Ch [] w ((w.alloc (.cells (penC p) 71)).alloc (.cells (penC zeroPen) 71)) := ((Ch.refl [] w).alloc _).alloc _; have b0 := new_pen2 p w; have z0 := new_penz p w; have hs0 := new_pens p w; generalize (w.alloc (.cells (penC p) 71)).alloc (.cells (penC zeroPen) 71) = W0 at *)
    refine (W1 _).mono ?_
    rintro e w1 ⟨rfl, hc1⟩
    have b1 := hkeep hc1 b0
    have z1 := hkeep hc1 z0
    have hC1 := hC0.trans hc1
    clear b0 z0 hc1 W1 hC0
    go_wp2
    refine bodyPost_ret (pen_result Tryz.results168 _ _ _ d rfl ?_) rfl ⟨rfl, ?_⟩
    · rw [HD.out]
      first | (simp [go_sem, z1, hf]; done) | (simp [go_sem, z1, show ¬ p.free = 0 by simpa using hf]; done)
    · exact (hC1.setCell (p := ⟨w.heap.size, 0, none⟩) (.inr (Nat.le_refl _)) _).onObj (p := w.heap.size + 1) (.inr (by omega)) _
theorem N8_zero (m : BitVec 8) : (N m == 0) = (m == 0#8) := by rw [← eqN]; rfl
theorem left_cases (m : BitVec 8) : (m ≠ 0#8 ∧ (N m == 0) = false ∧ (N m != 0) = true) ∨ (m = 0#8 ∧ (N m == 0) = true ∧ (N m != 0) = false) := by
  rw [bne, N8_zero]
  by_cases h : m = 0#8
  · exact .inr ⟨h, by rw [h]; rfl, by rw [h]; rfl⟩
  · refine .inl ⟨h, by simpa using h, by simpa using h⟩
set_option maxHeartbeats 1000000 in
set_option maxRecDepth 100000 in
theorem r19On_any (p : PenT) (hg : p.grp = 0 ∨ p.grp = 1) (w : World) : Calls Tryz.prog 164 #[.agg (penC p)] w fun e w' => e = .returned (.agg (penC (onP p))) ∧ Ch [] w w' := by
  have E1 := fun w => r19Empty_any p.ctrl w
  have D1 := fun w => r19Decided_any p w
  have HD : Hid (onP p = if p.left != 0#8 then { p with ph := 2 } else if emptyM p.ctrl != 0#8 || p.grp == 1 then decidedP p else { p with grp := 1, ph := 1 }) := Lib.hid (by rw [onP])
  generalize onP p = d at *
  generalize decidedP p = q at *
  generalize (emptyM p.ctrl != 0#8) = em at *
  rcases left_cases p.left with ⟨hl, l1, l2⟩ | ⟨hl, l1, l2⟩
  · have HL := Lib.hid hl
    clear hl
    go_enter Tryz.func164, Tryz.ntmps164
    go_wp2
    refine bodyPost_ret (pen_result Tryz.results164 _ _ _ d rfl ?_) rfl ⟨rfl, ?_⟩
    · rw [HD.out]
      simp [go_sem, show p.left ≠ 0#8 from HL.out]
    · exact (((Ch.refl [] w).alloc _).alloc _).onObj (p := w.heap.size + 1) (.inr (by omega)) _
  · have HL := Lib.hid hl
    clear hl
    have hcs : em = true ∨ em = false ∧ p.grp = 1 ∨ em = false ∧ p.grp = 0 := by
      rcases hg with h | h <;> cases em <;> simp [h]
    clear hg
    rcases hcs with rfl | ⟨rfl, hg⟩ | ⟨rfl, hg⟩
    all_goals
      go_enter Tryz.func164, Tryz.ntmps164
      go_wp2_with fail
      (have hC0 : Ch [] w ((w.alloc (.cells (penC p) 71)).alloc (.cells (penC zeroPen) 71)) := ((Ch.refl [] w).alloc _).alloc _; have b0 := new_pen2 p w; have z0 := new_penz p w; have hs0 := new_pens p w; generalize (w.alloc (.cells (penC p) 71)).alloc (.cells (penC zeroPen) 71) = W0 at *)
      go_wp2_with fail
      refine (E1 _).mono ?_
      rintro e w1 ⟨rfl, hc1⟩
      have b1 := hkeep hc1 b0
      have z1 := hkeep hc1 z0
      have hC1 := hC0.trans hc1
      clear b0 z0 hc1 E1 hC0
    · go_wp2_with fail
      refine (D1 _).mono ?_
      rintro e w2 ⟨rfl, hc2⟩
      have z2 := hkeep hc2 z1
      have hC2 := hC1.trans hc2
      clear z1 b1 hc2 hC1
      go_wp2
      refine bodyPost_ret (pen_result Tryz.results164 _ _ _ d rfl ?_) rfl ⟨rfl, ?_⟩
      · rw [HD.out]
        simp [go_sem, z2, show p.left = 0#8 from HL.out]
      · exact hC2.onObj (.inr (by omega)) _
    · go_wp2_with fail
      refine (D1 _).mono ?_
      rintro e w2 ⟨rfl, hc2⟩
      have z2 := hkeep hc2 z1
      have hC2 := hC1.trans hc2
      clear z1 b1 hc2 hC1
      go_wp2
      refine bodyPost_ret (pen_result Tryz.results164 _ _ _ d rfl ?_) rfl ⟨rfl, ?_⟩
      · rw [HD.out]
        simp [go_sem, z2, hg, show p.left = 0#8 from HL.out]
      · exact hC2.onObj (.inr (by omega)) _
    · go_wp2
      refine bodyPost_ret (pen_result Tryz.results164 _ _ _ d rfl ?_) rfl ⟨rfl, ?_⟩
      · rw [HD.out]
        simp [go_sem, z1, hg, show p.left = 0#8 from HL.out]
      · exact ((hC1.setCell (p := ⟨w.heap.size, 10, none⟩) (.inr (Nat.le_refl _)) _).setCell (p := ⟨w.heap.size, 0, none⟩) (.inr (Nat.le_refl _)) _).onObj (p := w.heap.size + 1) (.inr (by omega)) _
theorem nextP_step {n : Nat} {x : Int} (h : x + 1 ≤ 13) (h6 : 0 ≤ x) : nextP n x = if throughP n (x + 1) then x + 1 else nextP n (x + 1) := by
  obtain ⟨k, rfl⟩ := Int.eq_ofNat_of_zero_le h6
  have hk : k ≤ 12 := by omega
  have key : ∀ (f : Int → Bool), (((List.range 14).map fun n : Nat => (n : Int)).find? fun n => decide ((k : Int) < n) && f n).getD 14 = if f ((k : Int) + 1) then (k : Int) + 1 else (((List.range 14).map fun n : Nat => (n : Int)).find? fun n => decide ((k : Int) + 1 < n) && f n).getD 14 := by
    intro f
    rcases (show k = 0 ∨ k = 1 ∨ k = 2 ∨ k = 3 ∨ k = 4 ∨ k = 5 ∨ k = 6 ∨ k = 7 ∨ k = 8 ∨ k = 9 ∨ k = 10 ∨ k = 11 ∨ k = 12 by omega) with rfl | rfl | rfl | rfl | rfl | rfl | rfl | rfl | rfl | rfl | rfl | rfl | rfl
    all_goals
      simp [List.range_succ, List.find?_cons]
      try (split <;> simp_all)
  exact key (throughP n)
set_option maxHeartbeats 1000000 in
set_option maxRecDepth 100000 in
theorem r19Next_any (n : Nat) (hn : n ≤ 3) (x : Int) (h6 : 6 ≤ x) (h13 : x ≤ 13) (w : World) : Calls Tryz.prog 170 #[I n, I x] w fun e w' => e = .returned (I (nextP n x)) ∧ w = w' := by
  go_enter Tryz.func170, Tryz.ntmps170
  go_wp2
  go_loop [5] (fun i => ∃ y : Int, i = .int .i64 (y + 1) ∧ x ≤ y ∧ y ≤ 13 ∧ nextP n y = nextP n x) (fun i => (15 - intOf i).toNat)
  case atStart => exact ⟨x, rfl, by omega, by omega, rfl⟩
  case round =>
    obtain ⟨y, rfl, hxy, hy13, hny⟩ := hrel
    by_cases hlt : y + 1 ≤ 13
    · have hs := nextP_step (n := n) hlt (by omega)
      have T1 := fun w => rThrough_any n hn (y + 1) (by omega) hlt w
      rw [hny] at hs
      have HS := Lib.hid hs
      have HY := Lib.hid hny
      clear hs hny
      generalize throughP n (y + 1) = b at *
      cases b
      · go_wp2_with (go_at_call 109; refine (T1 _).mono ?_; rintro e w' ⟨rfl, rfl⟩)
        go_round
        case rel => exact ⟨y + 1, rfl, by omega, by omega, by rw [HS.out]; simp⟩
        case measure => simp [intOf]; omega
      · go_wp2_with (go_at_call 109; refine (T1 _).mono ?_; rintro e w' ⟨rfl, rfl⟩)
        go_ret
        exact ⟨by rw [HS.out]; rfl, rfl⟩
    · have hy : y = 13 := by omega
      subst hy
      have HS : Hid (nextP n x = 14) := Lib.hid (by rw [← hny]; rfl)
      clear hny
      go_wp2
      go_ret
      exact ⟨by rw [HS.out]; rfl, rfl⟩
end Go.Proofs.Hc
/- The reference of layer 19: Take, where a key told another key. -/
namespace Go.Proofs.Hc
open Go.RowKit
attribute [local go_sem] wrap_u64 wrap_u8 bits_xor64 bits_and64 bits_or64 bits_not64 bits_xor8 bits_and8 bits_or8 signed64 signed8 ofInt_N BitVec.ofInt_add BitVec.ofInt_mul ofInt_sub' ofInt8_N64 ofInt64_N8 wide8 eqN neN shr_pow shr1 shr7 shr56
attribute [local go_sem high] bits_com64 shl_wrap
attribute [local go_sem] cell_heap ice_heap cellAt_cells iceAt_cells setAt_cells rowAt_cells canLay_cells laidAt_cells size_onObj size_setCell rowRes_some layRes_true
attribute [local go_sem] load26 load73 load23 store26 build73
attribute [local go_sem ↓] lrow26 lrow73 lrow23 srow26 zero26 brow73 heap_alloc heap_drew heap_drewN heap_setCell heap_onObj
attribute [local go_sem] tcells_size hcells_size tcells_get hcells_get tcells_one hcells_one hcells_table tcells_table hcells_all hcells_ctrl tcells_ctrl
attribute [local go_sem] nn2 nm2 nn3 nm3 nn4 nm4 nn5 nm5 nn6 nm6 nn7 nm7 nn8 nm8
attribute [local go_sem] nn2 nm2 nn3 nm3 nn4 nm4 nn5 nm5 nn6 nm6 nn7 nm7 nn8 nm8
attribute [local go_sem] ofInt_N
attribute [local go_sem] pen_g0 pen_g1 pen_g2 pen_g3 pen_g4 pen_g5 pen_g6 pen_g7 pen_g8 pen_g9 pen_g10 pen_g11 pen_g12 pen_g13 pen_g14 pen_g15 pen_g16 pen_g17 penC_size penC_one penC_all boxPen loadPen storePen
attribute [local go_sem ↓] lrowPen srowPen
attribute [local go_sem] pen_s0 pen_s1 pen_s2 pen_s3 pen_s4 pen_s5 pen_s6 pen_s7 pen_s8 pen_s9 pen_s10 pen_s11 pen_s12 pen_s13 pen_s14 pen_s15 pen_s16 pen_s17
attribute [local go_sem ↓] zeroPen_run
attribute [local go_sem high] laidAt_pen
attribute [local irreducible] penC
def withAll (l : List Nat) (m : BitVec 8) : BitVec 8 := l.foldl (fun m v => m + laneM v) m
theorem lanes_rest : ∀ m : BitVec 8, m ≠ 0#8 → withAll (lanesOf m).tail 0#8 = m &&& ~~~(1#8 <<< laneP m) := by
  unfold withAll laneM
  decide +kernel
theorem withAll_step (t : List Nat) (j v : Nat) (h : t[j]? = some v) : withAll (t.take j) 0#8 + laneM v = withAll (t.take (j + 1)) 0#8 := by
  unfold withAll
  rw [List.take_add_one, h, List.foldl_append]
  rfl
theorem head_mem' {m : BitVec 8} {v : Nat} (h : v ∈ lanesOf m) : v < 8 := by
  unfold lanesOf at h; simp at h; exact h.1
theorem lanes_split {m : BitVec 8} (h : m ≠ 0#8) : ∃ t, lanesOf m = laneP m :: t := by
  obtain ⟨x, hx⟩ := lanes_ne h
  unfold laneP
  cases hl : lanesOf m with
  | nil => rw [hl] at hx; cases hx
  | cons a t => exact ⟨t, rfl⟩
set_option maxHeartbeats 4000000 in
set_option maxRecDepth 100000 in
theorem r19Take_2n (p : PenT) (R : RightP p) (hph : p.ph = 2) (x : BitVec 64) (hx : (x == p.key) = false) (w : World) : Calls Tryz.prog 111 #[.agg (penC p), U x] w fun e w' => e = .returned (.agg (penC (takeP p x))) ∧ Ch [] w w' := by
  have HT := takeP_2 hph x
  rw [hx, if_neg (by decide)] at HT
  have hl0 := R.left hph
  have hg := R.grp
  clear R
  obtain ⟨_, sl, op, ky, pa, pb, ph, cn, cc, lv, gr, ct, lf, fr, fc, st, vl, fd⟩ := p
  dsimp only at hph hl0 hg HT hx
  subst hph
  rw [HT]
  obtain ⟨t, ht⟩ := lanes_split hl0
  have hrest := lanes_rest lf hl0
  rw [ht, List.tail_cons] at hrest
  have hmem : ∀ v ∈ t, v < 8 := fun v hv => (head_mem' (by rw [ht]; simp [hv]))
  have ht8 : t.length ≤ 8 := by
    have h1 : (lanesOf lf).length ≤ 8 := by unfold lanesOf; exact Nat.le_trans (List.length_filter_le _ _) (by simp)
    rw [ht] at h1; simp at h1; omega
  have L1 := fun w => r19Least_any lf hl0 w
  have A1 := fun w => r1All_any lf w
  rw [ht] at A1
  have hic : icells (laneP lf :: t) = I (laneP lf : Nat) :: icells t := rfl
  rw [hic] at A1
  have hlen : (laneP lf :: t).length = t.length + 1 := rfl
  rw [hlen] at A1
  have O1 := fun w => r19On_any ⟨2, sl, op, ky, pa, pb, ph, cn, cc, lv, gr, ct, lf &&& ~~~(1#8 <<< laneP lf), fr, fc, st, vl, fd⟩ hg w
  rw [← hrest]
  rw [← hrest] at O1
  have HX := Lib.hid hrest
  clear hrest HT hl0 hic hlen ht
  generalize laneP lf = l0 at *
  go_enter Tryz.func111, Tryz.ntmps111
  go_wp2_with fail
  have hC0 : Ch [] w ((w.alloc (.cells (penC ⟨2, sl, op, ky, pa, pb, ph, cn, cc, lv, gr, ct, lf, fr, fc, st, vl, fd⟩) 71)).alloc (.cells (penC zeroPen) 71)) := ((Ch.refl [] w).alloc _).alloc _
  have b0 := new_pen2 ⟨2, sl, op, ky, pa, pb, ph, cn, cc, lv, gr, ct, lf, fr, fc, st, vl, fd⟩ w
  have z0 := new_penz ⟨2, sl, op, ky, pa, pb, ph, cn, cc, lv, gr, ct, lf, fr, fc, st, vl, fd⟩ w
  generalize (w.alloc (.cells (penC ⟨2, sl, op, ky, pa, pb, ph, cn, cc, lv, gr, ct, lf, fr, fc, st, vl, fd⟩) 71)).alloc (.cells (penC zeroPen) 71) = W0 at *
  refine (L1 _).mono ?_
  rintro e w1 ⟨rfl, hc1⟩
  have b1 := hkeep hc1 b0
  have z1 := hkeep hc1 z0
  have C1 := hC0.trans hc1
  clear b0 z0 hC0 hc1 L1
  go_wp2_with fail
  refine (A1 _).mono ?_
  rintro e w2 ⟨v, rfl, hown, hc2⟩
  have b2 := hkeep hc2 b1
  have z2 := hkeep hc2 z1
  have C2 := C1.trans hc2
  clear b1 z1 C1 hc2 A1
  obtain ⟨_, ⟨hv, hn⟩ | ⟨g, cap, cur, rfl, hgo, hW, hle, _, hsz, hcur⟩⟩ := hown
  · omega
  have hcg : ∀ j v, t[j]? = some v → cur[1 + j]? = some (I (v : Nat)) := by
    intro j v hj
    have h1 : (cur.toList.take ((t.length + 1) * 1))[1 + j]? = some (I (v : Nat)) := by rw [hcur, Nat.add_comm, List.getElem?_cons_succ]; unfold icells; rw [List.getElem?_map, hj]; rfl
    rw [List.getElem?_take] at h1
    have hjl : j < t.length := (List.getElem?_eq_some_iff.1 hj).1
    rw [if_pos (by omega)] at h1
    simpa using h1
  have hcs : t.length + 1 ≤ cap := hle
  clear hcur hsz hle
  go_wp2
  all_goals
    go_loop [9, 99] (fun v i => ∃ j : Nat, i = .int .i64 j ∧ j ≤ t.length ∧ v = Y (withAll (t.take j) 0#8)) (fun _ i => t.length - (intOf i).toNat)
    case atStart => exact ⟨0, rfl, by omega, by rfl⟩
    case round =>
      obtain ⟨j, rfl, hjt, rfl⟩ := hrel
      by_cases hlt : j < t.length
      · first
          | (exfalso; omega)
          | (obtain ⟨y, hy⟩ : ∃ y, t[j]? = some y := ⟨t[j]'hlt, List.getElem?_eq_getElem hlt⟩
             have hcy := hcg j y hy
             have hy8 : y < 8 := hmem y (List.mem_of_getElem? hy)
             have T1 := fun w => rWith_any (withAll (t.take j) 0#8) y (by omega) w
             have HS := Lib.hid (withAll_step t j y hy)
             clear hy hcg hmem
             generalize withAll (t.take j) 0#8 = m at *
             generalize t.length = n at *
             go_wp2_with (go_at_call 167; refine (T1 _).mono ?_; rintro e w' ⟨rfl, rfl⟩)
             go_round
             case rel => exact ⟨j + 1, by go_num, by omega, by rw [← HS.out]⟩
             case measure => simp [intOf]; omega)
      · have hj : j = t.length := by omega
        subst hj
        rw [List.take_length] at *
        have O2 := O1
        clear hcg hmem
        generalize hM : withAll t 0#8 = m at *
        have HM := Lib.hid hM
        clear hM
        go_wp2_with fail
        have z3 : (w2.setCell ⟨w.heap.size, 12, none⟩ (.int .u8 (N m))).heap[w.heap.size + 1]? = some (.cells (penC zeroPen) 71 (0, 0)) := by simp [go_sem, z2]
        have C3 : Ch [] w (w2.setCell ⟨w.heap.size, 12, none⟩ (.int .u8 (N m))) := C2.setCell (p := ⟨w.heap.size, 12, none⟩) (.inr (Nat.le_refl _)) _
        generalize w2.setCell ⟨w.heap.size, 12, none⟩ (.int .u8 (N m)) = w3 at *
        refine (O2 _).mono ?_
        rintro e w4 ⟨rfl, hc4⟩
        have z4 := hkeep hc4 z3
        have C4 := C3.trans hc4
        clear z3 C3 hc4 O1 O2
        go_wp2
        refine bodyPost_ret (pen_result Tryz.results111 _ (w.heap.size + 1) _ _ rfl ?_) rfl ⟨rfl, C4.onObj (p := w.heap.size + 1) (.inr (by omega)) _⟩
        simp [go_sem, z4, HM.out]
end Go.Proofs.Hc
