/- The reference of layer 17: Set, Drop. -/
import Derived.Test.YtaddieimkpijeaaGreatKHxnHxoHxpHxq
set_option linter.unusedSimpArgs false
set_option linter.unusedVariables false
namespace Go.Proofs.Hc
open Go.RowKit
attribute [local go_sem] wrap_u64 wrap_u8 bits_xor64 bits_and64 bits_or64 bits_not64 bits_xor8 bits_and8 bits_or8 signed64 signed8 ofInt_N BitVec.ofInt_add BitVec.ofInt_mul ofInt_sub' ofInt8_N64 ofInt64_N8 wide8 eqN neN shr_pow shr1 shr7 shr56
attribute [local go_sem high] bits_com64 shl_wrap
attribute [local go_sem] cell_heap ice_heap cellAt_cells iceAt_cells setAt_cells rowAt_cells canLay_cells laidAt_cells size_onObj size_setCell rowRes_some layRes_true
attribute [local go_sem] load26 load73 load23 store26 build73
attribute [local go_sem ↓] lrow26 lrow73 lrow23 srow26 zero26 brow73 heap_alloc heap_drew heap_drewN heap_setCell heap_onObj
attribute [local go_sem] tcells_size hcells_size tcells_get hcells_get tcells_one hcells_one hcells_table tcells_table hcells_all hcells_ctrl tcells_ctrl
attribute [local go_sem] nn2 nm2 nn3 nm3 nn4 nm4 nn5 nm5 nn6 nm6 nn7 nm7 nn8 nm8
attribute [local go_sem] loadA loadT2 storeA storeT2 buildA_ts buildA_sm assert_errno make_func acells_size t2cells_size acells_get t2cells_get acells_one t2cells_one acells_table acells_all t2cells_all t2cells_l t2cells_r
attribute [local go_sem ↓] lrowA lrowT2 srowA srowT2 browA zeroA_run zeroT2_run
attribute [local go_sem] nn2 nm2 nn3 nm3 nn4 nm4 nn5 nm5 nn6 nm6 nn7 nm7 nn8 nm8
attribute [local go_sem] box26 tcells_idx cell0 cell1 cell2 cell3 cell4 cell5 cell6
attribute [local go_sem] ofInt_N build_zero
attribute [local go_sem high] laidAt_t
attribute [local go_sem ↓] brow26
theorem tset {t t' : Tab} {j : Nat} {x : Value} (hj : j < 39) (hx : t'.cell j = x) (ho : ∀ i, i < 39 → i ≠ j → t'.cell i = t.cell i) : (tcells t).setIfInBounds j x = tcells t' := by
  apply Array.ext_getElem?; intro i
  rw [Array.getElem?_setIfInBounds, tcells_get, tcells_get, tcells_size]
  by_cases h : j = i
  · subst h; simp [hj, hx]
  · rw [if_neg h]
    by_cases h2 : i < 39
    · simp only [h2, if_true]
      rw [ho i h2 (fun e => h e.symm)]
    · simp [h2]
theorem tset_can (t : Tab) (x : Int) : (tcells t).setIfInBounds 3 (I x) = tcells { t with can := x } :=
  tset (by omega) rfl (fun i _ h => by unfold Tab.cell; split <;> first | rfl | omega)
theorem tset_live (t : Tab) (x : Int) : (tcells t).setIfInBounds 4 (I x) = tcells { t with live := x } :=
  tset (by omega) rfl (fun i _ h => by unfold Tab.cell; split <;> first | rfl | omega)
theorem tset_key (t : Tab) (j : Nat) (hj : j < 16) (x : BitVec 64) : (tcells t).setIfInBounds (7 + j) (U x) = tcells { t with k := fun i => if i = j then x else t.k i } := by
  refine tset (by omega) ?_ (fun i hi h => ?_)
  · rw [Nat.add_comm]; simp [Tab.cell, hj]
  · unfold Tab.cell
    split <;> first | rfl | skip
    rename_i i
    by_cases h2 : i < 16
    · simp [h2, show i ≠ j by omega]
    · simp [h2]
theorem tset_val (t : Tab) (j : Nat) (hj : j < 16) (x : BitVec 64) : (tcells t).setIfInBounds (23 + j) (U x) = tcells { t with v := fun i => if i = j then x else t.v i } := by
  refine tset (by omega) ?_ (fun i hi h => ?_)
  · rw [show 23 + j = (16 + j) + 7 by omega]; simp [Tab.cell, show ¬ 16 + j < 16 by omega]
  · unfold Tab.cell
    split <;> first | rfl | skip
    rename_i i
    by_cases h2 : i < 16
    · simp [h2]
    · simp [h2, show i - 16 ≠ j by omega]
attribute [local irreducible] tcells
set_option maxHeartbeats 1000000 in
set_option maxRecDepth 100000 in
theorem rSet_no (t : Tab) (k v : BitVec 64) (w : World) (hs : slotR t k = none) : Calls Tryz.prog 24 #[.agg (tcells t), .agg #[U k, U v]] w fun e w' => e = .returned (.tuple #[.agg (tcells zeroT), I 4]) ∧ Ch [] w w' := by
  have S1 := fun w => rSlot_any t k w
  rw [hs] at S1
  dsimp only [slotI] at S1
  clear hs
  obtain ⟨W0, hW0⟩ : ∃ W0, ((w.alloc (.cells (tcells t) 26)).alloc (.cells #[U k, U v] 31)).alloc (.cells (tcells zeroT) 26) = W0 := ⟨_, rfl⟩
  have hC0 : Ch [] w W0 := by rw [← hW0]; exact (((Ch.refl [] w).alloc _).alloc _).alloc _
  have b0 : W0.heap[w.heap.size]? = some (.cells (tcells t) 26 (0, 0)) := by rw [← hW0]; simp [go_sem]
  have b1 : W0.heap[w.heap.size + 1]? = some (.cells #[U k, U v] 31 (0, 0)) := by rw [← hW0]; simp [go_sem]
  have b2 : W0.heap[w.heap.size + 1 + 1]? = some (.cells (tcells zeroT) 26 (0, 0)) := by rw [← hW0]; simp [go_sem]
  go_enter Tryz.func24, Tryz.ntmps24
  go_wp2_with fail
  refine (S1 _).mono ?_
  rintro e w1 ⟨rfl, hc1⟩
  have d2 := hkeep hc1 b2
  have hz : w.heap.size ≤ w1.heap.size := Nat.le_trans hC0.size hc1.size
  clear b0 b1 b2 hW0 S1
  go_wp2
  refine bodyPost_ret (v := .tuple #[.agg (tcells zeroT), I 4]) (results_c0t Tryz.results24 _ _ _ rfl rfl (run_loadVar_row _ _ 26 26 (tcells zeroT) (0, 0) _ ?_ Tryz.underlying26 rfl (by rw [tcells_size]; kernel_rfl))) rfl ⟨rfl, ?_⟩
  · simp only [heap_onObj, if_true, d2, Option.map_some, laidAt_t]
  · exact (hC0.trans hc1).onObj (.inr (by omega)) _
set_option maxHeartbeats 1000000 in
set_option maxRecDepth 100000 in
theorem rSet_ok (t : Tab) (k v : BitVec 64) (j : Nat) (w : World) (hj : j < 16) (hs : slotR t k = some j) : Calls Tryz.prog 24 #[.agg (tcells t), .agg #[U k, U v]] w fun e w' => e = .returned (.tuple #[.agg (tcells (setT t j v)), I 0]) ∧ Ch [] w w' := by
  have S1 := fun w => rSlot_any t k w
  rw [hs] at S1
  dsimp only [slotI] at S1
  clear hs
  have hj0 : (0 : Int) ≤ (j : Int) := by omega
  have hj1 : (j : Int) < 16 := by omega
  have HTS : Hid ((tcells t).setIfInBounds (23 + j) (U v) = tcells (setT t j v)) := Lib.hid (tset_val t j hj v)
  generalize setT t j v = t' at *
  obtain ⟨W0, hW0⟩ : ∃ W0, ((w.alloc (.cells (tcells t) 26)).alloc (.cells #[U k, U v] 31)).alloc (.cells (tcells zeroT) 26) = W0 := ⟨_, rfl⟩
  have hC0 : Ch [] w W0 := by rw [← hW0]; exact (((Ch.refl [] w).alloc _).alloc _).alloc _
  have b0 : W0.heap[w.heap.size]? = some (.cells (tcells t) 26 (0, 0)) := by rw [← hW0]; simp [go_sem]
  have b1 : W0.heap[w.heap.size + 1]? = some (.cells #[U k, U v] 31 (0, 0)) := by rw [← hW0]; simp [go_sem]
  have b2 : W0.heap[w.heap.size + 1 + 1]? = some (.cells (tcells zeroT) 26 (0, 0)) := by rw [← hW0]; simp [go_sem]
  go_enter Tryz.func24, Tryz.ntmps24
  go_wp2_with fail
  refine (S1 _).mono ?_
  rintro e w1 ⟨rfl, hc1⟩
  have d0 := hkeep hc1 b0
  have d1 := hkeep hc1 b1
  have d2 := hkeep hc1 b2
  have hC1 := hC0.trans hc1
  clear b0 b1 b2 hW0 S1 hc1 hC0
  have hv : (tcells t)[23 + j]? = some (U (t.v j)) := tcells_val t j hj
  go_upto_region 5 with (fail)
  have e0 : (w1.setCell ⟨w.heap.size, 23 + j, none⟩ (U v)).heap[w.heap.size]? = some (.cells (tcells t') 26 (0, 0)) := by
    rw [heap_setCell, if_pos rfl, d0, Option.map_some, setAt_cells, HTS.out]
  have e2 : (w1.setCell ⟨w.heap.size, 23 + j, none⟩ (U v)).heap[w.heap.size + 1 + 1]? = some (.cells (tcells zeroT) 26 (0, 0)) := by
    rw [heap_setCell, if_neg (by omega), d2]
  have hC2 : Ch [] w (w1.setCell ⟨w.heap.size, 23 + j, none⟩ (U v)) := hC1.setCell (p := ⟨w.heap.size, 23 + j, none⟩) (.inr (Nat.le_refl _)) _
  clear d0 d1 d2 hv hC1
  generalize w1.setCell ⟨w.heap.size, 23 + j, none⟩ (U v) = W2 at *
  go_wp2
  refine bodyPost_ret (v := .tuple #[.agg (tcells t'), I 0]) (results_c0t Tryz.results24 _ _ _ rfl rfl (run_loadVar_row _ _ 26 26 (tcells t') (0, 0) _ ?_ Tryz.underlying26 rfl (by rw [tcells_size]; kernel_rfl))) rfl ⟨rfl, ?_⟩
  · simp only [heap_onObj, if_true, e2, Option.map_some, laidAt_t]
  · exact hC2.onObj (.inr (by omega)) _
theorem rSet_any (t : Tab) (s k v : BitVec 64) (m : May t s) (w : World) : Calls Tryz.prog 24 #[.agg (tcells t), .agg #[U k, U v]] w fun e w' => e = .returned (tupOr (fun v => .agg (tcells v)) (.agg (tcells zeroT)) (setE t s k v)) ∧ Ch [] w w' := by
  rcases slotR_cases m k with ⟨h1, h2, _⟩ | ⟨j, n, h1, hj, _, _, h2, _⟩
  · rw [setE, h2]; exact rSet_no t k v w h1
  · rw [setE, h2]; exact rSet_ok t k v j w hj h1
set_option maxHeartbeats 1000000 in
set_option maxRecDepth 100000 in
theorem rDrop_no (t : Tab) (k : BitVec 64) (w : World) (hs : slotR t k = none) : Calls Tryz.prog 25 #[.agg (tcells t), U k] w fun e w' => e = .returned (.tuple #[.agg (tcells zeroT), I 0, I 4]) ∧ Ch [] w w' := by
  have S1 := fun w => rSlot_any t k w
  rw [hs] at S1
  dsimp only [slotI] at S1
  clear hs
  obtain ⟨W0, hW0⟩ : ∃ W0, (w.alloc (.cells (tcells t) 26)).alloc (.cells (tcells zeroT) 26) = W0 := ⟨_, rfl⟩
  have hC0 : Ch [] w W0 := by rw [← hW0]; exact ((Ch.refl [] w).alloc _).alloc _
  have b0 : W0.heap[w.heap.size]? = some (.cells (tcells t) 26 (0, 0)) := by rw [← hW0]; simp [go_sem]
  have b2 : W0.heap[w.heap.size + 1]? = some (.cells (tcells zeroT) 26 (0, 0)) := by rw [← hW0]; simp [go_sem]
  go_enter Tryz.func25, Tryz.ntmps25
  go_wp2_with fail
  refine (S1 _).mono ?_
  rintro e w1 ⟨rfl, hc1⟩
  have d2 := hkeep hc1 b2
  clear b0 b2 hW0 S1
  go_wp2
  refine bodyPost_ret (v := .tuple #[.agg (tcells zeroT), I 0, I 4]) (results_c0tt Tryz.results25 _ _ _ rfl rfl rfl (run_loadVar_row _ _ 26 26 (tcells zeroT) (0, 0) _ ?_ Tryz.underlying26 rfl (by rw [tcells_size]; kernel_rfl))) rfl ⟨rfl, ?_⟩
  · simp only [heap_onObj, if_true, d2, Option.map_some, laidAt_t]
  · exact (hC0.trans hc1).onObj (.inr (by omega)) _
theorem drop_eq (t : Tab) (j : Nat) (c : Int) (h : (dropT t j).can = c) : dropT t j = { t with c := fun i => if i = j / 8 then goneC t j else t.c i, can := c, live := t.live - 1 } := by
  subst h; rfl
set_option maxHeartbeats 2000000 in
set_option maxRecDepth 100000 in
theorem rDrop_ok (t : Tab) (k : BitVec 64) (j : Nat) (w : World) (hj : j < 16) (hfu : fullJ t j = true) (hs : slotR t k = some j) (hcan : 0 ≤ t.can ∧ t.can ≤ 14) (hlive : 0 ≤ t.live ∧ t.live ≤ 14) :
    Calls Tryz.prog 25 #[.agg (tcells t), U k] w fun e w' => e = .returned (.tuple #[.agg (tcells (dropT t j)), I j, I 0]) ∧ Ch [] w w' := by
  have S1 := fun w => rSlot_any t k w
  rw [hs] at S1
  dsimp only [slotI] at S1
  clear hs
  have hj0 : (0 : Int) ≤ (j : Int) := by omega
  have hj1 : (j : Int) < 16 := by omega
  have hd : (j : Int).tdiv 8 = ((j / 8 : Nat) : Int) := by rw [Int.tdiv_eq_ediv_of_nonneg (by omega)]; rfl
  have hm : (j : Int).tmod 8 = ((j % 8 : Nat) : Int) := by rw [Int.tmod_eq_emod_of_nonneg (by omega)]; rfl
  have hg : j / 8 < 2 := by omega
  have P1 := fun w => rStops_any (t.c (j / 8)) w
  have E1 := fun w => rErase_any (t.c (j / 8)) (j % 8) (by omega) (full_lt hfu) w
  have HDR := Lib.hid (fun c (h : (if hasE t (j / 8) = true then t.can + 1 else t.can) = c) => drop_eq t j c ((drop_can hfu).trans h))
  have HGC : Hid (goneC t j = withB (t.c (j / 8)) (j % 8) (gone (t.c (j / 8)))) := Lib.hid (by rw [goneC])
  rw [HGC.out] at HDR
  rw [show (emptyM (t.c (j / 8)) != 0#8) = hasE t (j / 8) from rfl] at P1
  have hc5 := tcells_ctrl_at t (j / 8) hg
  generalize dropT t j = dt at *
  generalize withB (t.c (j / 8)) (j % 8) (gone (t.c (j / 8))) = gc at *
  generalize hasE t (j / 8) = hE at *
  generalize j / 8 = g at *
  generalize j % 8 = x at *
  clear HGC hfu
  obtain ⟨c0, c1⟩ := hcan
  obtain ⟨l0, l1⟩ := hlive
  obtain ⟨W0, hW0⟩ : ∃ W0, (w.alloc (.cells (tcells t) 26)).alloc (.cells (tcells zeroT) 26) = W0 := ⟨_, rfl⟩
  have hC0 : Ch [] w W0 := by rw [← hW0]; exact ((Ch.refl [] w).alloc _).alloc _
  have b0 : W0.heap[w.heap.size]? = some (.cells (tcells t) 26 (0, 0)) := by rw [← hW0]; simp [go_sem]
  have b2 : W0.heap[w.heap.size + 1]? = some (.cells (tcells zeroT) 26 (0, 0)) := by rw [← hW0]; simp [go_sem]
  go_enter Tryz.func25, Tryz.ntmps25
  go_wp2_with fail
  refine (S1 _).mono ?_
  rintro e w1 ⟨rfl, hc1⟩
  have d0 := hkeep hc1 b0
  have d2 := hkeep hc1 b2
  have hC1 := hC0.trans hc1
  clear b0 b2 hW0 S1 hc1 hC0
  go_wp2_with fail
  refine (P1 _).mono ?_
  rintro e w2 ⟨rfl, rfl⟩
  clear P1
  cases hE
  · go_upto_region 6 with (fail)
    obtain ⟨W2, rfl⟩ : ∃ W2, w1 = W2 := ⟨_, rfl⟩
    obtain ⟨t1, ht1⟩ : ∃ t1 : Tab, t1 = { t with can := t.can } := ⟨_, rfl⟩
    have HD2 := Lib.hid (HDR.out t.can (if_neg (by decide)))
    have e0 : w1.heap[w.heap.size]? = some (.cells (tcells t1) 26 (0, 0)) := by rw [ht1]; exact d0
    have e2 : w1.heap[w.heap.size + 1]? = some (.cells (tcells zeroT) 26 (0, 0)) := d2
    have hC2 : Ch [] w w1 := hC1
    have HT1 := Lib.hid ht1
    have c5 : (tcells t1)[5 + g]? = some (U (t.c g)) := by rw [ht1]; exact hc5
    have hl1 : t1.live = t.live := by rw [ht1]
    have HL1 := Lib.hid hl1
    clear ht1 hl1 d0 d2 hC1 hc5 HDR
    have l5 : 0 ≤ t1.live := by rw [HL1.out]; exact l0
    have l6 : t1.live ≤ 14 := by rw [HL1.out]; exact l1
    go_wp2_with fail
    refine (E1 _).mono ?_
    rintro e W3 ⟨rfl, hc3⟩
    have f0 := hkeep hc3 e0
    have f2 := hkeep hc3 e2
    have hC3 := hC2.trans hc3
    clear e0 e2 hC2 hc3 E1
    go_upto_region 7 with (fail)
    have g0 : (W3.setCell ⟨w.heap.size, 5 + g, none⟩ (U gc)).heap[w.heap.size]? = some (.cells (tcells { t1 with c := fun i => if i = g then gc else t1.c i }) 26 (0, 0)) := by
      rw [heap_setCell, if_pos rfl, f0, Option.map_some, setAt_cells, tset_ctrl t1 g hg]
    have g2 : (W3.setCell ⟨w.heap.size, 5 + g, none⟩ (U gc)).heap[w.heap.size + 1]? = some (.cells (tcells zeroT) 26 (0, 0)) := by
      rw [heap_setCell, if_neg (by omega), f2]
    have hC4 : Ch [] w (W3.setCell ⟨w.heap.size, 5 + g, none⟩ (U gc)) := hC3.setCell (p := ⟨w.heap.size, 5 + g, none⟩) (.inr (Nat.le_refl _)) _
    generalize W3.setCell ⟨w.heap.size, 5 + g, none⟩ (U gc) = W4 at *
    obtain ⟨t2, ht2⟩ : ∃ t2 : Tab, t2 = { t1 with c := fun i => if i = g then gc else t1.c i } := ⟨_, rfl⟩
    rw [← ht2] at g0
    have hl2 : t2.live = t1.live := by rw [ht2]
    have l7 : 0 ≤ t2.live := by rw [hl2]; exact l5
    have l8 : t2.live ≤ 14 := by rw [hl2]; exact l6
    have HT2 := Lib.hid ht2
    clear ht2 hl2 f0 f2 hC3 c5
    go_upto_region 8 with (fail)
    have k0 : (W4.setCell ⟨w.heap.size, 4, none⟩ (I (t2.live - 1))).heap[w.heap.size]? = some (.cells (tcells dt) 26 (0, 0)) := by
      rw [heap_setCell, if_pos rfl, g0, Option.map_some, setAt_cells, tset_live, HT2.out, HT1.out, HD2.out]
    have k2 : (W4.setCell ⟨w.heap.size, 4, none⟩ (I (t2.live - 1))).heap[w.heap.size + 1]? = some (.cells (tcells zeroT) 26 (0, 0)) := by
      rw [heap_setCell, if_neg (by omega), g2]
    have hC5 : Ch [] w (W4.setCell ⟨w.heap.size, 4, none⟩ (I (t2.live - 1))) := hC4.setCell (p := ⟨w.heap.size, 4, none⟩) (.inr (Nat.le_refl _)) _
    generalize W4.setCell ⟨w.heap.size, 4, none⟩ (I (t2.live - 1)) = W5 at *
    clear g0 g2 hC4 HT2 HT1 HD2 l5 l6 l7 l8
    go_wp2
    refine bodyPost_ret (v := .tuple #[.agg (tcells dt), I j, I 0]) (results_c0tt Tryz.results25 _ _ _ rfl rfl rfl (run_loadVar_row _ _ 26 26 (tcells dt) (0, 0) _ ?_ Tryz.underlying26 rfl (by rw [tcells_size]; kernel_rfl))) rfl ⟨rfl, ?_⟩
    · simp only [heap_onObj, if_true, k2, Option.map_some, laidAt_t]
    · exact hC5.onObj (.inr (by omega)) _
  · go_upto_region 6 with (fail)
    obtain ⟨t1, ht1⟩ : ∃ t1 : Tab, t1 = { t with can := t.can + 1 } := ⟨_, rfl⟩
    have HD2 := Lib.hid (HDR.out (t.can + 1) (if_pos (by first | trivial | rfl)))
    have e0 : (w1.setCell ⟨w.heap.size, 3, none⟩ (I (t.can + 1))).heap[w.heap.size]? = some (.cells (tcells t1) 26 (0, 0)) := by
      rw [heap_setCell, if_pos rfl, d0, Option.map_some, setAt_cells, tset_can, ht1]
    have e2 : (w1.setCell ⟨w.heap.size, 3, none⟩ (I (t.can + 1))).heap[w.heap.size + 1]? = some (.cells (tcells zeroT) 26 (0, 0)) := by
      rw [heap_setCell, if_neg (by omega), d2]
    have hC2 : Ch [] w (w1.setCell ⟨w.heap.size, 3, none⟩ (I (t.can + 1))) := hC1.setCell (p := ⟨w.heap.size, 3, none⟩) (.inr (Nat.le_refl _)) _
    have HT1 := Lib.hid ht1
    have c5 : (tcells t1)[5 + g]? = some (U (t.c g)) := by rw [ht1]; exact tcells_ctrl_at _ g hg
    have hl1 : t1.live = t.live := by rw [ht1]
    have HL1 := Lib.hid hl1
    clear ht1 hl1 d0 d2 hC1 hc5 HDR
    generalize w1.setCell ⟨w.heap.size, 3, none⟩ (I (t.can + 1)) = w1 at *
    have l5 : 0 ≤ t1.live := by rw [HL1.out]; exact l0
    have l6 : t1.live ≤ 14 := by rw [HL1.out]; exact l1
    go_wp2_with fail
    refine (E1 _).mono ?_
    rintro e W3 ⟨rfl, hc3⟩
    have f0 := hkeep hc3 e0
    have f2 := hkeep hc3 e2
    have hC3 := hC2.trans hc3
    clear e0 e2 hC2 hc3 E1
    go_upto_region 7 with (fail)
    have g0 : (W3.setCell ⟨w.heap.size, 5 + g, none⟩ (U gc)).heap[w.heap.size]? = some (.cells (tcells { t1 with c := fun i => if i = g then gc else t1.c i }) 26 (0, 0)) := by
      rw [heap_setCell, if_pos rfl, f0, Option.map_some, setAt_cells, tset_ctrl t1 g hg]
    have g2 : (W3.setCell ⟨w.heap.size, 5 + g, none⟩ (U gc)).heap[w.heap.size + 1]? = some (.cells (tcells zeroT) 26 (0, 0)) := by
      rw [heap_setCell, if_neg (by omega), f2]
    have hC4 : Ch [] w (W3.setCell ⟨w.heap.size, 5 + g, none⟩ (U gc)) := hC3.setCell (p := ⟨w.heap.size, 5 + g, none⟩) (.inr (Nat.le_refl _)) _
    generalize W3.setCell ⟨w.heap.size, 5 + g, none⟩ (U gc) = W4 at *
    obtain ⟨t2, ht2⟩ : ∃ t2 : Tab, t2 = { t1 with c := fun i => if i = g then gc else t1.c i } := ⟨_, rfl⟩
    rw [← ht2] at g0
    have hl2 : t2.live = t1.live := by rw [ht2]
    have l7 : 0 ≤ t2.live := by rw [hl2]; exact l5
    have l8 : t2.live ≤ 14 := by rw [hl2]; exact l6
    have HT2 := Lib.hid ht2
    clear ht2 hl2 f0 f2 hC3 c5
    go_upto_region 8 with (fail)
    have k0 : (W4.setCell ⟨w.heap.size, 4, none⟩ (I (t2.live - 1))).heap[w.heap.size]? = some (.cells (tcells dt) 26 (0, 0)) := by
      rw [heap_setCell, if_pos rfl, g0, Option.map_some, setAt_cells, tset_live, HT2.out, HT1.out, HD2.out]
    have k2 : (W4.setCell ⟨w.heap.size, 4, none⟩ (I (t2.live - 1))).heap[w.heap.size + 1]? = some (.cells (tcells zeroT) 26 (0, 0)) := by
      rw [heap_setCell, if_neg (by omega), g2]
    have hC5 : Ch [] w (W4.setCell ⟨w.heap.size, 4, none⟩ (I (t2.live - 1))) := hC4.setCell (p := ⟨w.heap.size, 4, none⟩) (.inr (Nat.le_refl _)) _
    generalize W4.setCell ⟨w.heap.size, 4, none⟩ (I (t2.live - 1)) = W5 at *
    clear g0 g2 hC4 HT2 HT1 HD2 l5 l6 l7 l8
    go_wp2
    refine bodyPost_ret (v := .tuple #[.agg (tcells dt), I j, I 0]) (results_c0tt Tryz.results25 _ _ _ rfl rfl rfl (run_loadVar_row _ _ 26 26 (tcells dt) (0, 0) _ ?_ Tryz.underlying26 rfl (by rw [tcells_size]; kernel_rfl))) rfl ⟨rfl, ?_⟩
    · simp only [heap_onObj, if_true, k2, Option.map_some, laidAt_t]
    · exact hC5.onObj (.inr (by omega)) _
/-- What a drop answers. -/
theorem rDrop_any (t : Tab) (s k : BitVec 64) (m : May t s) (w : World) : Calls Tryz.prog 25 #[.agg (tcells t), U k] w fun e w' => e = .returned (putV (dropE t s k)) ∧ Ch [] w w' := by
  rcases slotR_cases m k with ⟨h1, h2, _⟩ | ⟨j, n, h1, hj, hf, _, h2, _⟩
  · rw [dropE, h2]; exact rDrop_no t k w h1
  · rw [dropE, h2]
    obtain ⟨_, _, _, a, b, c, d⟩ := (flatT_iff t).1 m.flat
    exact rDrop_ok t k j w hj hf h1 ⟨a, b⟩ ⟨c, d⟩
end Go.Proofs.Hc
/- The reference of layer 17: Put. -/
namespace Go.Proofs.Hc
open Go.RowKit
attribute [local go_sem] wrap_u64 wrap_u8 bits_xor64 bits_and64 bits_or64 bits_not64 bits_xor8 bits_and8 bits_or8 signed64 signed8 ofInt_N BitVec.ofInt_add BitVec.ofInt_mul ofInt_sub' ofInt8_N64 ofInt64_N8 wide8 eqN neN shr_pow shr1 shr7 shr56
attribute [local go_sem high] bits_com64 shl_wrap
attribute [local go_sem] cell_heap ice_heap cellAt_cells iceAt_cells setAt_cells rowAt_cells canLay_cells laidAt_cells size_onObj size_setCell rowRes_some layRes_true
attribute [local go_sem] load26 load73 load23 store26 build73
attribute [local go_sem ↓] lrow26 lrow73 lrow23 srow26 zero26 brow73 heap_alloc heap_drew heap_drewN heap_setCell heap_onObj
attribute [local go_sem] tcells_size hcells_size tcells_get hcells_get tcells_one hcells_one hcells_table tcells_table hcells_all hcells_ctrl tcells_ctrl
attribute [local go_sem] nn2 nm2 nn3 nm3 nn4 nm4 nn5 nm5 nn6 nm6 nn7 nm7 nn8 nm8
attribute [local go_sem] loadA loadT2 storeA storeT2 buildA_ts buildA_sm assert_errno make_func acells_size t2cells_size acells_get t2cells_get acells_one t2cells_one acells_table acells_all t2cells_all t2cells_l t2cells_r
attribute [local go_sem ↓] lrowA lrowT2 srowA srowT2 browA zeroA_run zeroT2_run
attribute [local go_sem] nn2 nm2 nn3 nm3 nn4 nm4 nn5 nm5 nn6 nm6 nn7 nm7 nn8 nm8
attribute [local go_sem] box26 tcells_idx cell0 cell1 cell2 cell3 cell4 cell5 cell6
attribute [local go_sem] ofInt_N build_zero N_128
attribute [local go_sem high] laidAt_t
attribute [local go_sem ↓] brow26
attribute [local irreducible] tcells
set_option maxHeartbeats 1000000 in
set_option maxRecDepth 100000 in
theorem rPut_err (t : Tab) (s k v : BitVec 64) (c : Int) (m : May t s) (hP : placeT t s k = .error c) (w : World) : Calls Tryz.prog 23 #[U s, .agg (tcells t), .agg #[U k, U v]] w fun e w' => e = .returned (.tuple #[.agg (tcells zeroT), I 0, I c]) ∧ Ch [] w w' := by
  have P1 := fun w => rPlace_any t s k m w
  have hc0 : (c != 0) = true := by
    rcases place_cases t s k with ⟨_, h⟩ | ⟨_, _, h⟩ | ⟨_, _, h⟩ | ⟨_, _, sl, h⟩
    all_goals
      rw [hP] at h
      first | (cases h; done) | (cases h; decide)
  rw [hP] at P1
  simp only [placeV] at P1
  clear hP m
  obtain ⟨W0, hW0⟩ : ∃ W0, ((w.alloc (.cells (tcells t) 26)).alloc (.cells #[U k, U v] 31)).alloc (.cells (tcells zeroT) 26) = W0 := ⟨_, rfl⟩
  have hC0 : Ch [] w W0 := by rw [← hW0]; exact (((Ch.refl [] w).alloc _).alloc _).alloc _
  have b0 : W0.heap[w.heap.size]? = some (.cells (tcells t) 26 (0, 0)) := by rw [← hW0]; simp [go_sem]
  have b1 : W0.heap[w.heap.size + 1]? = some (.cells #[U k, U v] 31 (0, 0)) := by rw [← hW0]; simp [go_sem]
  have b2 : W0.heap[w.heap.size + 1 + 1]? = some (.cells (tcells zeroT) 26 (0, 0)) := by rw [← hW0]; simp [go_sem]
  go_enter Tryz.func23, Tryz.ntmps23
  go_wp2_with fail
  refine (P1 _).mono ?_
  rintro e w1 ⟨rfl, hc1⟩
  have d2 := hkeep hc1 b2
  have hC1 := hC0.trans hc1
  clear b0 b1 b2 hW0 P1 hc1 hC0
  go_wp2
  refine bodyPost_ret (v := .tuple #[.agg (tcells zeroT), I 0, I c]) (results_c0tt Tryz.results23 _ _ _ rfl rfl rfl (run_loadVar_row _ _ 26 26 (tcells zeroT) (0, 0) _ ?_ Tryz.underlying26 rfl (by rw [tcells_size]; kernel_rfl))) rfl ⟨rfl, ?_⟩
  · simp only [heap_onObj, if_true, d2, Option.map_some, laidAt_t]
  · exact hC1.onObj (.inr (by omega)) _
theorem fill_eq (t : Tab) (s k v : BitVec 64) (sl : Nat) (c : Int) (h : (fillT t s k v sl).can = c) : fillT t s k v sl = { t with can := c, live := t.live + 1, c := fun i => if i = sl / 8 then withB (t.c (sl / 8)) (sl % 8) (hash2 (hashOf s k)) else t.c i, k := fun i => if i = sl then k else t.k i, v := fun i => if i = sl then v else t.v i } := by
  subst h; rfl
set_option maxHeartbeats 4000000 in
set_option maxRecDepth 100000 in
theorem rPut_ok (t : Tab) (s k v : BitVec 64) (sl : Nat) (m : May t s) (hP : placeT t s k = .ok sl) (w : World) : Calls Tryz.prog 23 #[U s, .agg (tcells t), .agg #[U k, U v]] w fun e w' => e = .returned (.tuple #[.agg (tcells (fillT t s k v sl)), I sl, I 0]) ∧ Ch [] w w' := by
  have P1 := fun w => rPlace_any t s k m w
  have hsp := place_spot hP
  rw [hP] at P1
  simp only [placeV] at P1
  obtain ⟨_, _, _, c0, c1, l0, l1⟩ := (flatT_iff t).1 m.flat
  have hj := hsp.lt
  have hj0 : (0 : Int) ≤ (sl : Int) := by omega
  have hj1 : (sl : Int) < 16 := by omega
  have hd : (sl : Int).tdiv 8 = ((sl / 8 : Nat) : Int) := by rw [Int.tdiv_eq_ediv_of_nonneg (by omega)]; rfl
  have hm : (sl : Int).tmod 8 = ((sl % 8 : Nat) : Int) := by rw [Int.tmod_eq_emod_of_nonneg (by omega)]; rfl
  have hd' : (sl : Int) / 8 = ((sl / 8 : Nat) : Int) := rfl
  have hm' : (sl : Int) % 8 = ((sl % 8 : Nat) : Int) := rfl
  have hg : sl / 8 < 2 := by omega
  have hx8 : sl % 8 < 8 := by omega
  have A1 : ∀ w, Calls Tryz.prog 50 #[U (t.c (sl / 8)), I (sl % 8 : Nat)] w fun e w' => e = .returned (Y (bt t sl)) ∧ w = w' := fun w => rAt_any (t.c (sl / 8)) (sl % 8) (by omega) w
  have Y1 := fun w => rh2_any s k w
  have W1 := fun w => rPut_any (t.c (sl / 8)) (hash2 (hashOf s k)) (sl % 8) hx8 w
  have HDR := Lib.hid (fun c (h : (if bt t sl = 128#8 then t.can - 1 else t.can) = c) => fill_eq t s k v sl c ((fill_can v).trans h))
  have hc5 := tcells_ctrl_at t (sl / 8) hg
  clear hP m hsp
  generalize withB (t.c (sl / 8)) (sl % 8) (hash2 (hashOf s k)) = gc at *
  generalize fillT t s k v sl = dt at *
  generalize hash2 (hashOf s k) = y at *
  generalize bt t sl = b at *
  generalize sl / 8 = g at *
  generalize sl % 8 = x at *
  have HM1 := Lib.hid hm'
  have HD1 := Lib.hid hd'
  obtain ⟨W0, hW0⟩ : ∃ W0, ((w.alloc (.cells (tcells t) 26)).alloc (.cells #[U k, U v] 31)).alloc (.cells (tcells zeroT) 26) = W0 := ⟨_, rfl⟩
  have hC0 : Ch [] w W0 := by rw [← hW0]; exact (((Ch.refl [] w).alloc _).alloc _).alloc _
  have b0 : W0.heap[w.heap.size]? = some (.cells (tcells t) 26 (0, 0)) := by rw [← hW0]; simp [go_sem]
  have b1 : W0.heap[w.heap.size + 1]? = some (.cells #[U k, U v] 31 (0, 0)) := by rw [← hW0]; simp [go_sem]
  have b2 : W0.heap[w.heap.size + 1 + 1]? = some (.cells (tcells zeroT) 26 (0, 0)) := by rw [← hW0]; simp [go_sem]
  go_enter Tryz.func23, Tryz.ntmps23
  go_wp2_with fail
  refine (P1 _).mono ?_
  rintro e w1 ⟨rfl, hc1⟩
  have d0 := hkeep hc1 b0
  have d1 := hkeep hc1 b1
  have d2 := hkeep hc1 b2
  have hC1 := hC0.trans hc1
  clear b0 b1 b2 hW0 P1 hc1 hC0
  go_wp2_with fail
  refine (A1 _).mono ?_
  rintro e w' ⟨rfl, rfl⟩
  clear A1
  by_cases hb : b = 128#8
  · subst hb
    go_upto_region 6 with (fail)
    obtain ⟨t1, ht1⟩ : ∃ t1 : Tab, t1 = { t with can := t.can - 1 } := ⟨_, rfl⟩
    have HD2 := Lib.hid (HDR.out (t.can - 1) (if_pos (by first | trivial | rfl)))
    have e0 : (w1.setCell ⟨w.heap.size, 3, none⟩ (I (t.can - 1))).heap[w.heap.size]? = some (.cells (tcells t1) 26 (0, 0)) := by
      rw [heap_setCell, if_pos rfl, d0, Option.map_some, setAt_cells, tset_can, ht1]
    have e1 : (w1.setCell ⟨w.heap.size, 3, none⟩ (I (t.can - 1))).heap[w.heap.size + 1]? = some (.cells #[U k, U v] 31 (0, 0)) := by
      rw [heap_setCell, if_neg (by omega), d1]
    have e2 : (w1.setCell ⟨w.heap.size, 3, none⟩ (I (t.can - 1))).heap[w.heap.size + 1 + 1]? = some (.cells (tcells zeroT) 26 (0, 0)) := by
      rw [heap_setCell, if_neg (by omega), d2]
    have hC2 : Ch [] w (w1.setCell ⟨w.heap.size, 3, none⟩ (I (t.can - 1))) := hC1.setCell (p := ⟨w.heap.size, 3, none⟩) (.inr (Nat.le_refl _)) _
    have HT1 := Lib.hid ht1
    have c5 : (tcells t1)[5 + g]? = some (U (t.c g)) := by rw [ht1]; exact tcells_ctrl_at _ g hg
    have hl1 : t1.live = t.live := by rw [ht1]
    have HL1 := Lib.hid hl1
    clear ht1 hl1 d0 d1 d2 hC1 hc5 HDR
    generalize w1.setCell ⟨w.heap.size, 3, none⟩ (I (t.can - 1)) = W2 at *
    have l5 : 0 ≤ t1.live := by rw [HL1.out]; exact l0
    have l6 : t1.live ≤ 14 := by rw [HL1.out]; exact l1
    have hgb0 : ∀ q : Gar W2, (q.1).heap[w.heap.size]? = some (.cells (tcells t1) 26 (0, 0)) := fun q => hkeep q.2 e0
    have hgb1 : ∀ q : Gar W2, (q.1).heap[w.heap.size + 1]? = some (.cells #[U k, U v] 31 (0, 0)) := fun q => hkeep q.2 e1
    have W3 : ∀ w, Calls Tryz.prog 68 #[U (t.c g), Y y, .int .i64 ((sl : Int) % 8)] w fun e w' => e = .returned (U gc) ∧ Ch [] w w' := fun w => by rw [HM1.out]; exact W1 w
    refine wp_region_gar_tail 16 (by kernel_rfl) (by kernel_rfl) ?_
    simp only [List.take_succ_cons, List.take_zero, List.drop_succ_cons, List.drop_zero]
    repeat (go_big_quiet_step ((first | (go_at_call 51; exact garL (Y1 _)) | (go_at_call 68; with_reducible exact garC (W1 _)) | (go_at_call 68; with_reducible exact garC (W3 _)))))
    refine wpQuiet_nil ?_
    rintro W6 ⟨g6, hw6⟩
    have hc6 : Ch [] W2 W6 := by rw [hw6]; exact g6.2
    clear hw6 g6 hgb0 hgb1 Y1 W1 W3
    have f0 := hkeep hc6 e0
    have f1 := hkeep hc6 e1
    have f2 := hkeep hc6 e2
    have hC6 := hC2.trans hc6
    clear e0 e1 e2 hc6 hC2
    go_wp2
    have g0 : (W6.setCell ⟨w.heap.size, 5 + g, none⟩ (U gc)).heap[w.heap.size]? = some (.cells (tcells { t1 with c := fun i => if i = g then gc else t1.c i }) 26 (0, 0)) := by
      rw [heap_setCell, if_pos rfl, f0, Option.map_some, setAt_cells, tset_ctrl t1 g hg]
    have g1 : (W6.setCell ⟨w.heap.size, 5 + g, none⟩ (U gc)).heap[w.heap.size + 1]? = some (.cells #[U k, U v] 31 (0, 0)) := by
      rw [heap_setCell, if_neg (by omega), f1]
    have g2 : (W6.setCell ⟨w.heap.size, 5 + g, none⟩ (U gc)).heap[w.heap.size + 1 + 1]? = some (.cells (tcells zeroT) 26 (0, 0)) := by
      rw [heap_setCell, if_neg (by omega), f2]
    have hC7 : Ch [] w (W6.setCell ⟨w.heap.size, 5 + g, none⟩ (U gc)) := hC6.setCell (p := ⟨w.heap.size, 5 + g, none⟩) (.inr (Nat.le_refl _)) _
    generalize W6.setCell ⟨w.heap.size, 5 + g, none⟩ (U gc) = W7 at *
    obtain ⟨t2, ht2⟩ : ∃ t2 : Tab, t2 = { t1 with c := fun i => if i = g then gc else t1.c i } := ⟨_, rfl⟩
    rw [← ht2] at g0
    have hl2 : t2.live = t1.live := by rw [ht2]
    have l7 : 0 ≤ t2.live := by rw [hl2]; exact l5
    have l8 : t2.live ≤ 14 := by rw [hl2]; exact l6
    have HT2 := Lib.hid ht2
    have HL2 := Lib.hid hl2
    clear ht2 hl2 f0 f1 f2 hC6 c5 hd hm
    have hwr : IntKind.i64.wrap (t2.live + 1) = t2.live + 1 := by simp only [IntKind.wrap_i64]; omega
    have hS : (fun W' : World => W'.heap[w.heap.size + 1]? = some (.cells #[U k, U v] 31 (0, 0))) W7.drew := g1
    have d0 : W7.drew.heap[w.heap.size]? = some (.cells (tcells t2) 26 (0, 0)) := g0
    have d2 : W7.drew.heap[w.heap.size + 1 + 1]? = some (.cells (tcells zeroT) 26 (0, 0)) := g2
    have hC8 : Ch [] w W7.drew := hC7.drew
    refine wp_region_held_drew (S := fun W' => W'.heap[w.heap.size + 1]? = some (.cells #[U k, U v] 31 (0, 0))) (by kernel_rfl) hS ?_
    intro _
    simp only [List.size_toArray, List.length_cons, List.length_nil, Nat.reduceAdd]
    clear g0 g1 g2 hC7
    generalize W7.drew = W8 at *
    refine wpAnyH_take (i := 0) (oi := ⟨some 52, _, _, _, _, none⟩) (v := ?_) rfl (by decide +kernel) (by decide +kernel) (by decide +kernel) (fun _ _ _ h => h) (Or.inl ⟨by rfl, ?_⟩) hS ?_
    rotate_left
    · intro wq hSq
      first | (go_simp; done) | (go_simp; with_reducible rfl)
    try simp only [Act.put, List.setIfInBounds_toArray, List.set_cons_zero, List.set_cons_succ]
    refine wpAnyH_take (i := 1) (oi := ⟨some 53, _, _, _, _, none⟩) (v := ?_) rfl (by decide +kernel) (by decide +kernel) (by decide +kernel) (fun _ _ _ h => h) (Or.inl ⟨by rfl, ?_⟩) hS ?_
    rotate_left
    · intro wq hSq
      first | (go_simp; done) | (go_simp; with_reducible rfl)
    try simp only [Act.put, List.setIfInBounds_toArray, List.set_cons_zero, List.set_cons_succ]
    refine wpAnyH_take (i := 2) (oi := ⟨some 54, _, _, _, _, none⟩) (v := ?_) rfl (by decide +kernel) (by decide +kernel) (by decide +kernel) (fun _ _ _ h => h) (Or.inl ⟨by rfl, ?_⟩) hS ?_
    rotate_left
    · intro wq hSq
      first | (go_simp; done) | (go_simp; with_reducible rfl)
    try simp only [Act.put, List.setIfInBounds_toArray, List.set_cons_zero, List.set_cons_succ]
    refine wpAnyH_take (i := 3) (oi := ⟨some 55, _, _, _, _, none⟩) (v := ?_) rfl (by decide +kernel) (by decide +kernel) (by decide +kernel) (fun _ _ _ h => h) (Or.inl ⟨by rfl, ?_⟩) hS ?_
    rotate_left
    · intro wq hSq
      first | (go_simp; done) | (go_simp; with_reducible rfl)
    try simp only [Act.put, List.setIfInBounds_toArray, List.set_cons_zero, List.set_cons_succ]
    refine wpAnyH_take (i := 4) (oi := ⟨some 56, _, _, _, _, none⟩) (v := ?_) rfl (by decide +kernel) (by decide +kernel) (by decide +kernel) (fun _ _ _ h => h) (Or.inl ⟨by rfl, ?_⟩) hS ?_
    rotate_left
    · intro wq hSq
      first | (go_simp; done) | (go_simp; with_reducible rfl)
    try simp only [Act.put, List.setIfInBounds_toArray, List.set_cons_zero, List.set_cons_succ]
    refine wpAnyH_take (i := 5) (oi := ⟨some 57, _, _, _, _, none⟩) (v := ?_) rfl (by decide +kernel) (by decide +kernel) (by decide +kernel) (fun _ _ _ h => h) (Or.inl ⟨by rfl, ?_⟩) hS ?_
    rotate_left
    · intro wq hSq
      first | (go_simp; done) | (go_simp; with_reducible rfl)
    try simp only [Act.put, List.setIfInBounds_toArray, List.set_cons_zero, List.set_cons_succ]
    refine wpAnyH_take (i := 6) (oi := ⟨some 58, _, _, _, _, none⟩) (v := ?_) rfl (by decide +kernel) (by decide +kernel) (by decide +kernel) (fun _ _ _ h => h) (Or.inl ⟨by rfl, ?_⟩) hS ?_
    rotate_left
    · intro wq hSq
      first | (go_simp; done) | (go_simp; with_reducible rfl)
    try simp only [Act.put, List.setIfInBounds_toArray, List.set_cons_zero, List.set_cons_succ]
    refine wpAnyH_take (i := 9) (oi := ⟨some 61, _, _, _, _, none⟩) (v := ?_) rfl (by decide +kernel) (by decide +kernel) (by decide +kernel) (fun _ _ _ h => h) (Or.inl ⟨by rfl, ?_⟩) hS ?_
    rotate_left
    · intro wq hSq
      first | (go_simp; done) | (go_simp; with_reducible rfl)
    try simp only [Act.put, List.setIfInBounds_toArray, List.set_cons_zero, List.set_cons_succ]
    refine wpAnyH_take (i := 12) (oi := ⟨some 63, _, _, _, _, none⟩) (v := ?_) rfl (by decide +kernel) (by decide +kernel) (by decide +kernel) (fun _ _ _ h => h) (Or.inl ⟨by rfl, ?_⟩) hS ?_
    rotate_left
    · intro wq hSq
      first | (go_simp; done) | (go_simp; with_reducible rfl)
    try simp only [Act.put, List.setIfInBounds_toArray, List.set_cons_zero, List.set_cons_succ]
    refine wpAnyH_ready (rs := [7]) (by decide +kernel) (by simp) ?_
    refine AllReadyH.cons (o := ⟨some 59, _, _, _, _, none⟩) rfl (fun K hK => ?_) AllReadyH.nil
    go_simp
    refine hK.out _ _ hS (fun _ => ?_)
    clear hK K
    refine wpAnyH_take (i := 8) (oi := ⟨some 60, _, _, _, _, none⟩) (v := ?_) rfl (by decide +kernel) (by decide +kernel) (by decide +kernel) (fun _ _ _ h => h) (Or.inl ⟨by rfl, ?_⟩) hS ?_
    rotate_left
    · intro wq hSq
      first | (go_simp; done) | (go_simp; with_reducible rfl)
    try simp only [Act.put, List.setIfInBounds_toArray, List.set_cons_zero, List.set_cons_succ]
    refine wpAnyH_take (i := 10) (oi := ⟨some 62, _, _, _, _, none⟩) (v := ?_) rfl (by decide +kernel) (by decide +kernel) (by decide +kernel) (fun _ _ _ h => h) (Or.inl ⟨by rfl, ?_⟩) hS ?_
    rotate_left
    · intro wq hSq
      first | (go_simp; done) | (go_simp; with_reducible rfl)
    try simp only [Act.put, List.setIfInBounds_toArray, List.set_cons_zero, List.set_cons_succ]
    have ck := tcells_key t2 sl hj
    refine wpAnyH_ready (rs := [11]) (by decide +kernel) (by simp) ?_
    refine AllReadyH.cons rfl (fun K hK => ?_) AllReadyH.nil
    go_simp
    clear ck
    have k0 : (W8.setCell ⟨w.heap.size, 7 + sl, none⟩ (U k)).heap[w.heap.size]? = some (.cells (tcells { t2 with k := fun i => if i = sl then k else t2.k i }) 26 (0, 0)) := by
      rw [heap_setCell, if_pos rfl, d0, Option.map_some, setAt_cells, tset_key t2 sl hj]
    have k1 : (W8.setCell ⟨w.heap.size, 7 + sl, none⟩ (U k)).heap[w.heap.size + 1]? = some (.cells #[U k, U v] 31 (0, 0)) := by
      rw [heap_setCell, if_neg (by omega), hS]
    have k2 : (W8.setCell ⟨w.heap.size, 7 + sl, none⟩ (U k)).heap[w.heap.size + 1 + 1]? = some (.cells (tcells zeroT) 26 (0, 0)) := by
      rw [heap_setCell, if_neg (by omega), d2]
    have hC9 : Ch [] w (W8.setCell ⟨w.heap.size, 7 + sl, none⟩ (U k)) := hC8.setCell (p := ⟨w.heap.size, 7 + sl, none⟩) (.inr (Nat.le_refl _)) _
    refine hK.out _ _ k1 (fun _ => ?_)
    clear hK K
    generalize W8.setCell ⟨w.heap.size, 7 + sl, none⟩ (U k) = W9 at *
    clear d0 d2 hS hC8
    refine wpAnyH_take (i := 13) (oi := ⟨some 64, _, _, _, _, none⟩) (v := ?_) rfl (by decide +kernel) (by decide +kernel) (by decide +kernel) (fun _ _ _ h => h) (Or.inl ⟨by rfl, ?_⟩) k1 ?_
    rotate_left
    · intro wq hSq
      first | (go_simp; done) | (go_simp; with_reducible rfl)
    try simp only [Act.put, List.setIfInBounds_toArray, List.set_cons_zero, List.set_cons_succ]
    have cv := tcells_val { t2 with k := fun i => if i = sl then k else t2.k i } sl hj
    refine wpAnyH_ready (rs := [14]) (by decide +kernel) (by simp) ?_
    refine AllReadyH.cons rfl (fun K hK => ?_) AllReadyH.nil
    go_simp
    clear cv
    have n0 : (W9.setCell ⟨w.heap.size, 23 + sl, none⟩ (U v)).heap[w.heap.size]? = some (.cells (tcells { { t2 with k := fun i => if i = sl then k else t2.k i } with v := fun i => if i = sl then v else t2.v i }) 26 (0, 0)) := by
      rw [heap_setCell, if_pos rfl, k0, Option.map_some, setAt_cells, tset_val _ sl hj]
    have n1 : (W9.setCell ⟨w.heap.size, 23 + sl, none⟩ (U v)).heap[w.heap.size + 1]? = some (.cells #[U k, U v] 31 (0, 0)) := by
      rw [heap_setCell, if_neg (by omega), k1]
    have n2 : (W9.setCell ⟨w.heap.size, 23 + sl, none⟩ (U v)).heap[w.heap.size + 1 + 1]? = some (.cells (tcells zeroT) 26 (0, 0)) := by
      rw [heap_setCell, if_neg (by omega), k2]
    have hC10 : Ch [] w (W9.setCell ⟨w.heap.size, 23 + sl, none⟩ (U v)) := hC9.setCell (p := ⟨w.heap.size, 23 + sl, none⟩) (.inr (Nat.le_refl _)) _
    refine hK.out _ _ n1 (fun _ => ?_)
    clear hK K
    generalize W9.setCell ⟨w.heap.size, 23 + sl, none⟩ (U v) = W10 at *
    clear k0 k1 k2 hC9
    refine wpAnyH_take (i := 15) (oi := ⟨some 65, _, _, _, _, none⟩) (v := ?_) rfl (by decide +kernel) (by decide +kernel) (by decide +kernel) (fun _ _ _ h => h) (Or.inl ⟨by rfl, ?_⟩) n1 ?_
    rotate_left
    · intro wq hSq
      first | (go_simp; done) | (go_simp; with_reducible rfl)
    try simp only [Act.put, List.setIfInBounds_toArray, List.set_cons_zero, List.set_cons_succ]
    refine wpAnyH_ready (rs := [16]) (by decide +kernel) (by simp) ?_
    refine AllReadyH.cons rfl (fun K hK => ?_) AllReadyH.nil
    go_simp
    have q0 : (W10.setCell ⟨w.heap.size, 4, none⟩ (I (t2.live + 1))).heap[w.heap.size]? = some (.cells (tcells dt) 26 (0, 0)) := by
      rw [heap_setCell, if_pos rfl, n0, Option.map_some, setAt_cells, tset_live, HT2.out, HT1.out, HD2.out]
    have q1 : (W10.setCell ⟨w.heap.size, 4, none⟩ (I (t2.live + 1))).heap[w.heap.size + 1]? = some (.cells #[U k, U v] 31 (0, 0)) := by
      rw [heap_setCell, if_neg (by omega), n1]
    have q2 : (W10.setCell ⟨w.heap.size, 4, none⟩ (I (t2.live + 1))).heap[w.heap.size + 1 + 1]? = some (.cells (tcells zeroT) 26 (0, 0)) := by
      rw [heap_setCell, if_neg (by omega), n2]
    have hC11 : Ch [] w (W10.setCell ⟨w.heap.size, 4, none⟩ (I (t2.live + 1))) := hC10.setCell (p := ⟨w.heap.size, 4, none⟩) (.inr (Nat.le_refl _)) _
    refine hK.out _ _ q1 (fun _ => ?_)
    clear hK K
    generalize W10.setCell ⟨w.heap.size, 4, none⟩ (I (t2.live + 1)) = W11 at *
    clear n0 n1 n2 hC10 HT2 HT1 HD2 l5 l6 l7 l8
    refine wpAnyH_done (by kernel_rfl) ?_ _
    go_wp2
    refine bodyPost_ret (v := .tuple #[.agg (tcells dt), I sl, I 0]) (results_c0tt Tryz.results23 _ _ _ rfl rfl rfl (run_loadVar_row _ _ 26 26 (tcells dt) (0, 0) _ ?_ Tryz.underlying26 rfl (by rw [tcells_size]; kernel_rfl))) rfl ⟨rfl, ?_⟩
    · simp only [heap_onObj, if_true, q2, Option.map_some, laidAt_t]
    · exact hC11.onObj (.inr (by omega)) _
  · have hb6 : (N b == 128) = false := by rw [Y128]; simpa using hb
    go_upto_region 6 with (fail)
    obtain ⟨W2, rfl⟩ : ∃ W2, w1 = W2 := ⟨_, rfl⟩
    obtain ⟨t1, ht1⟩ : ∃ t1 : Tab, t1 = { t with can := t.can } := ⟨_, rfl⟩
    have HD2 := Lib.hid (HDR.out t.can (if_neg hb))
    have e0 : w1.heap[w.heap.size]? = some (.cells (tcells t1) 26 (0, 0)) := by rw [ht1]; exact d0
    have e1 : w1.heap[w.heap.size + 1]? = some (.cells #[U k, U v] 31 (0, 0)) := d1
    have e2 : w1.heap[w.heap.size + 1 + 1]? = some (.cells (tcells zeroT) 26 (0, 0)) := d2
    have hC2 : Ch [] w w1 := hC1
    have HT1 := Lib.hid ht1
    have c5 : (tcells t1)[5 + g]? = some (U (t.c g)) := by rw [ht1]; exact hc5
    have hl1 : t1.live = t.live := by rw [ht1]
    have HL1 := Lib.hid hl1
    clear ht1 hl1 d0 d1 d2 hC1 hc5 HDR hb
    generalize w1 = W2 at *
    have l5 : 0 ≤ t1.live := by rw [HL1.out]; exact l0
    have l6 : t1.live ≤ 14 := by rw [HL1.out]; exact l1
    have hgb0 : ∀ q : Gar W2, (q.1).heap[w.heap.size]? = some (.cells (tcells t1) 26 (0, 0)) := fun q => hkeep q.2 e0
    have hgb1 : ∀ q : Gar W2, (q.1).heap[w.heap.size + 1]? = some (.cells #[U k, U v] 31 (0, 0)) := fun q => hkeep q.2 e1
    have W3 : ∀ w, Calls Tryz.prog 68 #[U (t.c g), Y y, .int .i64 ((sl : Int) % 8)] w fun e w' => e = .returned (U gc) ∧ Ch [] w w' := fun w => by rw [HM1.out]; exact W1 w
    refine wp_region_gar_tail 16 (by kernel_rfl) (by kernel_rfl) ?_
    simp only [List.take_succ_cons, List.take_zero, List.drop_succ_cons, List.drop_zero]
    repeat (go_big_quiet_step ((first | (go_at_call 51; exact garL (Y1 _)) | (go_at_call 68; with_reducible exact garC (W1 _)) | (go_at_call 68; with_reducible exact garC (W3 _)))))
    refine wpQuiet_nil ?_
    rintro W6 ⟨g6, hw6⟩
    have hc6 : Ch [] W2 W6 := by rw [hw6]; exact g6.2
    clear hw6 g6 hgb0 hgb1 Y1 W1 W3
    have f0 := hkeep hc6 e0
    have f1 := hkeep hc6 e1
    have f2 := hkeep hc6 e2
    have hC6 := hC2.trans hc6
    clear e0 e1 e2 hc6 hC2
    go_wp2
    have g0 : (W6.setCell ⟨w.heap.size, 5 + g, none⟩ (U gc)).heap[w.heap.size]? = some (.cells (tcells { t1 with c := fun i => if i = g then gc else t1.c i }) 26 (0, 0)) := by
      rw [heap_setCell, if_pos rfl, f0, Option.map_some, setAt_cells, tset_ctrl t1 g hg]
    have g1 : (W6.setCell ⟨w.heap.size, 5 + g, none⟩ (U gc)).heap[w.heap.size + 1]? = some (.cells #[U k, U v] 31 (0, 0)) := by
      rw [heap_setCell, if_neg (by omega), f1]
    have g2 : (W6.setCell ⟨w.heap.size, 5 + g, none⟩ (U gc)).heap[w.heap.size + 1 + 1]? = some (.cells (tcells zeroT) 26 (0, 0)) := by
      rw [heap_setCell, if_neg (by omega), f2]
    have hC7 : Ch [] w (W6.setCell ⟨w.heap.size, 5 + g, none⟩ (U gc)) := hC6.setCell (p := ⟨w.heap.size, 5 + g, none⟩) (.inr (Nat.le_refl _)) _
    generalize W6.setCell ⟨w.heap.size, 5 + g, none⟩ (U gc) = W7 at *
    obtain ⟨t2, ht2⟩ : ∃ t2 : Tab, t2 = { t1 with c := fun i => if i = g then gc else t1.c i } := ⟨_, rfl⟩
    rw [← ht2] at g0
    have hl2 : t2.live = t1.live := by rw [ht2]
    have l7 : 0 ≤ t2.live := by rw [hl2]; exact l5
    have l8 : t2.live ≤ 14 := by rw [hl2]; exact l6
    have HT2 := Lib.hid ht2
    have HL2 := Lib.hid hl2
    clear ht2 hl2 f0 f1 f2 hC6 c5 hd hm
    have hwr : IntKind.i64.wrap (t2.live + 1) = t2.live + 1 := by simp only [IntKind.wrap_i64]; omega
    have hS : (fun W' : World => W'.heap[w.heap.size + 1]? = some (.cells #[U k, U v] 31 (0, 0))) W7.drew := g1
    have d0 : W7.drew.heap[w.heap.size]? = some (.cells (tcells t2) 26 (0, 0)) := g0
    have d2 : W7.drew.heap[w.heap.size + 1 + 1]? = some (.cells (tcells zeroT) 26 (0, 0)) := g2
    have hC8 : Ch [] w W7.drew := hC7.drew
    refine wp_region_held_drew (S := fun W' => W'.heap[w.heap.size + 1]? = some (.cells #[U k, U v] 31 (0, 0))) (by kernel_rfl) hS ?_
    intro _
    simp only [List.size_toArray, List.length_cons, List.length_nil, Nat.reduceAdd]
    clear g0 g1 g2 hC7
    generalize W7.drew = W8 at *
    refine wpAnyH_take (i := 0) (oi := ⟨some 52, _, _, _, _, none⟩) (v := ?_) rfl (by decide +kernel) (by decide +kernel) (by decide +kernel) (fun _ _ _ h => h) (Or.inl ⟨by rfl, ?_⟩) hS ?_
    rotate_left
    · intro wq hSq
      first | (go_simp; done) | (go_simp; with_reducible rfl)
    try simp only [Act.put, List.setIfInBounds_toArray, List.set_cons_zero, List.set_cons_succ]
    refine wpAnyH_take (i := 1) (oi := ⟨some 53, _, _, _, _, none⟩) (v := ?_) rfl (by decide +kernel) (by decide +kernel) (by decide +kernel) (fun _ _ _ h => h) (Or.inl ⟨by rfl, ?_⟩) hS ?_
    rotate_left
    · intro wq hSq
      first | (go_simp; done) | (go_simp; with_reducible rfl)
    try simp only [Act.put, List.setIfInBounds_toArray, List.set_cons_zero, List.set_cons_succ]
    refine wpAnyH_take (i := 2) (oi := ⟨some 54, _, _, _, _, none⟩) (v := ?_) rfl (by decide +kernel) (by decide +kernel) (by decide +kernel) (fun _ _ _ h => h) (Or.inl ⟨by rfl, ?_⟩) hS ?_
    rotate_left
    · intro wq hSq
      first | (go_simp; done) | (go_simp; with_reducible rfl)
    try simp only [Act.put, List.setIfInBounds_toArray, List.set_cons_zero, List.set_cons_succ]
    refine wpAnyH_take (i := 3) (oi := ⟨some 55, _, _, _, _, none⟩) (v := ?_) rfl (by decide +kernel) (by decide +kernel) (by decide +kernel) (fun _ _ _ h => h) (Or.inl ⟨by rfl, ?_⟩) hS ?_
    rotate_left
    · intro wq hSq
      first | (go_simp; done) | (go_simp; with_reducible rfl)
    try simp only [Act.put, List.setIfInBounds_toArray, List.set_cons_zero, List.set_cons_succ]
    refine wpAnyH_take (i := 4) (oi := ⟨some 56, _, _, _, _, none⟩) (v := ?_) rfl (by decide +kernel) (by decide +kernel) (by decide +kernel) (fun _ _ _ h => h) (Or.inl ⟨by rfl, ?_⟩) hS ?_
    rotate_left
    · intro wq hSq
      first | (go_simp; done) | (go_simp; with_reducible rfl)
    try simp only [Act.put, List.setIfInBounds_toArray, List.set_cons_zero, List.set_cons_succ]
    refine wpAnyH_take (i := 5) (oi := ⟨some 57, _, _, _, _, none⟩) (v := ?_) rfl (by decide +kernel) (by decide +kernel) (by decide +kernel) (fun _ _ _ h => h) (Or.inl ⟨by rfl, ?_⟩) hS ?_
    rotate_left
    · intro wq hSq
      first | (go_simp; done) | (go_simp; with_reducible rfl)
    try simp only [Act.put, List.setIfInBounds_toArray, List.set_cons_zero, List.set_cons_succ]
    refine wpAnyH_take (i := 6) (oi := ⟨some 58, _, _, _, _, none⟩) (v := ?_) rfl (by decide +kernel) (by decide +kernel) (by decide +kernel) (fun _ _ _ h => h) (Or.inl ⟨by rfl, ?_⟩) hS ?_
    rotate_left
    · intro wq hSq
      first | (go_simp; done) | (go_simp; with_reducible rfl)
    try simp only [Act.put, List.setIfInBounds_toArray, List.set_cons_zero, List.set_cons_succ]
    refine wpAnyH_take (i := 9) (oi := ⟨some 61, _, _, _, _, none⟩) (v := ?_) rfl (by decide +kernel) (by decide +kernel) (by decide +kernel) (fun _ _ _ h => h) (Or.inl ⟨by rfl, ?_⟩) hS ?_
    rotate_left
    · intro wq hSq
      first | (go_simp; done) | (go_simp; with_reducible rfl)
    try simp only [Act.put, List.setIfInBounds_toArray, List.set_cons_zero, List.set_cons_succ]
    refine wpAnyH_take (i := 12) (oi := ⟨some 63, _, _, _, _, none⟩) (v := ?_) rfl (by decide +kernel) (by decide +kernel) (by decide +kernel) (fun _ _ _ h => h) (Or.inl ⟨by rfl, ?_⟩) hS ?_
    rotate_left
    · intro wq hSq
      first | (go_simp; done) | (go_simp; with_reducible rfl)
    try simp only [Act.put, List.setIfInBounds_toArray, List.set_cons_zero, List.set_cons_succ]
    refine wpAnyH_ready (rs := [7]) (by decide +kernel) (by simp) ?_
    refine AllReadyH.cons (o := ⟨some 59, _, _, _, _, none⟩) rfl (fun K hK => ?_) AllReadyH.nil
    go_simp
    refine hK.out _ _ hS (fun _ => ?_)
    clear hK K
    refine wpAnyH_take (i := 8) (oi := ⟨some 60, _, _, _, _, none⟩) (v := ?_) rfl (by decide +kernel) (by decide +kernel) (by decide +kernel) (fun _ _ _ h => h) (Or.inl ⟨by rfl, ?_⟩) hS ?_
    rotate_left
    · intro wq hSq
      first | (go_simp; done) | (go_simp; with_reducible rfl)
    try simp only [Act.put, List.setIfInBounds_toArray, List.set_cons_zero, List.set_cons_succ]
    refine wpAnyH_take (i := 10) (oi := ⟨some 62, _, _, _, _, none⟩) (v := ?_) rfl (by decide +kernel) (by decide +kernel) (by decide +kernel) (fun _ _ _ h => h) (Or.inl ⟨by rfl, ?_⟩) hS ?_
    rotate_left
    · intro wq hSq
      first | (go_simp; done) | (go_simp; with_reducible rfl)
    try simp only [Act.put, List.setIfInBounds_toArray, List.set_cons_zero, List.set_cons_succ]
    have ck := tcells_key t2 sl hj
    refine wpAnyH_ready (rs := [11]) (by decide +kernel) (by simp) ?_
    refine AllReadyH.cons rfl (fun K hK => ?_) AllReadyH.nil
    go_simp
    clear ck
    have k0 : (W8.setCell ⟨w.heap.size, 7 + sl, none⟩ (U k)).heap[w.heap.size]? = some (.cells (tcells { t2 with k := fun i => if i = sl then k else t2.k i }) 26 (0, 0)) := by
      rw [heap_setCell, if_pos rfl, d0, Option.map_some, setAt_cells, tset_key t2 sl hj]
    have k1 : (W8.setCell ⟨w.heap.size, 7 + sl, none⟩ (U k)).heap[w.heap.size + 1]? = some (.cells #[U k, U v] 31 (0, 0)) := by
      rw [heap_setCell, if_neg (by omega), hS]
    have k2 : (W8.setCell ⟨w.heap.size, 7 + sl, none⟩ (U k)).heap[w.heap.size + 1 + 1]? = some (.cells (tcells zeroT) 26 (0, 0)) := by
      rw [heap_setCell, if_neg (by omega), d2]
    have hC9 : Ch [] w (W8.setCell ⟨w.heap.size, 7 + sl, none⟩ (U k)) := hC8.setCell (p := ⟨w.heap.size, 7 + sl, none⟩) (.inr (Nat.le_refl _)) _
    refine hK.out _ _ k1 (fun _ => ?_)
    clear hK K
    generalize W8.setCell ⟨w.heap.size, 7 + sl, none⟩ (U k) = W9 at *
    clear d0 d2 hS hC8
    refine wpAnyH_take (i := 13) (oi := ⟨some 64, _, _, _, _, none⟩) (v := ?_) rfl (by decide +kernel) (by decide +kernel) (by decide +kernel) (fun _ _ _ h => h) (Or.inl ⟨by rfl, ?_⟩) k1 ?_
    rotate_left
    · intro wq hSq
      first | (go_simp; done) | (go_simp; with_reducible rfl)
    try simp only [Act.put, List.setIfInBounds_toArray, List.set_cons_zero, List.set_cons_succ]
    have cv := tcells_val { t2 with k := fun i => if i = sl then k else t2.k i } sl hj
    refine wpAnyH_ready (rs := [14]) (by decide +kernel) (by simp) ?_
    refine AllReadyH.cons rfl (fun K hK => ?_) AllReadyH.nil
    go_simp
    clear cv
    have n0 : (W9.setCell ⟨w.heap.size, 23 + sl, none⟩ (U v)).heap[w.heap.size]? = some (.cells (tcells { { t2 with k := fun i => if i = sl then k else t2.k i } with v := fun i => if i = sl then v else t2.v i }) 26 (0, 0)) := by
      rw [heap_setCell, if_pos rfl, k0, Option.map_some, setAt_cells, tset_val _ sl hj]
    have n1 : (W9.setCell ⟨w.heap.size, 23 + sl, none⟩ (U v)).heap[w.heap.size + 1]? = some (.cells #[U k, U v] 31 (0, 0)) := by
      rw [heap_setCell, if_neg (by omega), k1]
    have n2 : (W9.setCell ⟨w.heap.size, 23 + sl, none⟩ (U v)).heap[w.heap.size + 1 + 1]? = some (.cells (tcells zeroT) 26 (0, 0)) := by
      rw [heap_setCell, if_neg (by omega), k2]
    have hC10 : Ch [] w (W9.setCell ⟨w.heap.size, 23 + sl, none⟩ (U v)) := hC9.setCell (p := ⟨w.heap.size, 23 + sl, none⟩) (.inr (Nat.le_refl _)) _
    refine hK.out _ _ n1 (fun _ => ?_)
    clear hK K
    generalize W9.setCell ⟨w.heap.size, 23 + sl, none⟩ (U v) = W10 at *
    clear k0 k1 k2 hC9
    refine wpAnyH_take (i := 15) (oi := ⟨some 65, _, _, _, _, none⟩) (v := ?_) rfl (by decide +kernel) (by decide +kernel) (by decide +kernel) (fun _ _ _ h => h) (Or.inl ⟨by rfl, ?_⟩) n1 ?_
    rotate_left
    · intro wq hSq
      first | (go_simp; done) | (go_simp; with_reducible rfl)
    try simp only [Act.put, List.setIfInBounds_toArray, List.set_cons_zero, List.set_cons_succ]
    refine wpAnyH_ready (rs := [16]) (by decide +kernel) (by simp) ?_
    refine AllReadyH.cons rfl (fun K hK => ?_) AllReadyH.nil
    go_simp
    have q0 : (W10.setCell ⟨w.heap.size, 4, none⟩ (I (t2.live + 1))).heap[w.heap.size]? = some (.cells (tcells dt) 26 (0, 0)) := by
      rw [heap_setCell, if_pos rfl, n0, Option.map_some, setAt_cells, tset_live, HT2.out, HT1.out, HD2.out]
    have q1 : (W10.setCell ⟨w.heap.size, 4, none⟩ (I (t2.live + 1))).heap[w.heap.size + 1]? = some (.cells #[U k, U v] 31 (0, 0)) := by
      rw [heap_setCell, if_neg (by omega), n1]
    have q2 : (W10.setCell ⟨w.heap.size, 4, none⟩ (I (t2.live + 1))).heap[w.heap.size + 1 + 1]? = some (.cells (tcells zeroT) 26 (0, 0)) := by
      rw [heap_setCell, if_neg (by omega), n2]
    have hC11 : Ch [] w (W10.setCell ⟨w.heap.size, 4, none⟩ (I (t2.live + 1))) := hC10.setCell (p := ⟨w.heap.size, 4, none⟩) (.inr (Nat.le_refl _)) _
    refine hK.out _ _ q1 (fun _ => ?_)
    clear hK K
    generalize W10.setCell ⟨w.heap.size, 4, none⟩ (I (t2.live + 1)) = W11 at *
    clear n0 n1 n2 hC10 HT2 HT1 HD2 l5 l6 l7 l8
    refine wpAnyH_done (by kernel_rfl) ?_ _
    go_wp2
    refine bodyPost_ret (v := .tuple #[.agg (tcells dt), I sl, I 0]) (results_c0tt Tryz.results23 _ _ _ rfl rfl rfl (run_loadVar_row _ _ 26 26 (tcells dt) (0, 0) _ ?_ Tryz.underlying26 rfl (by rw [tcells_size]; kernel_rfl))) rfl ⟨rfl, ?_⟩
    · simp only [heap_onObj, if_true, q2, Option.map_some, laidAt_t]
    · exact hC11.onObj (.inr (by omega)) _
theorem rPut17_any (t : Tab) (s k v : BitVec 64) (m : May t s) (w : World) : Calls Tryz.prog 23 #[U s, .agg (tcells t), .agg #[U k, U v]] w fun e w' => e = .returned (putV (putA t s k v)) ∧ Ch [] w w' := by
  cases hP : placeT t s k with
  | error c => rw [putA, hP]; exact rPut_err t s k v c m hP w
  | ok sl => rw [putA, hP]; exact rPut_ok t s k v sl m hP w
end Go.Proofs.Hc
