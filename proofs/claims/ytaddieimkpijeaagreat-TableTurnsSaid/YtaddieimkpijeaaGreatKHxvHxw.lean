/- The reference of layer 17: Anew, Half. -/
import Derived.Test.YtaddieimkpijeaaGreatKHxtHxu
import Derived.Test.YtaddieimkpijeaaGreatKHwkHwl
set_option linter.unusedSimpArgs false
set_option linter.unusedVariables false
namespace Go.Proofs.Hc
open Go.RowKit
attribute [local go_sem] wrap_u64 wrap_u8 bits_xor64 bits_and64 bits_or64 bits_not64 bits_xor8 bits_and8 bits_or8 signed64 signed8 ofInt_N BitVec.ofInt_add BitVec.ofInt_mul ofInt_sub' ofInt8_N64 ofInt64_N8 wide8 eqN neN shr_pow shr1 shr7 shr56
attribute [local go_sem high] bits_com64 shl_wrap
attribute [local go_sem] cell_heap ice_heap cellAt_cells iceAt_cells setAt_cells rowAt_cells canLay_cells laidAt_cells size_onObj size_setCell rowRes_some layRes_true
attribute [local go_sem] load26 load73 load23 store26 build73
attribute [local go_sem ↓] lrow26 lrow73 lrow23 srow26 zero26 brow73 heap_alloc heap_drew heap_drewN heap_setCell heap_onObj
attribute [local go_sem] tcells_size hcells_size tcells_get hcells_get tcells_one hcells_one hcells_table tcells_table hcells_all hcells_ctrl tcells_ctrl
attribute [local go_sem] nn2 nm2 nn3 nm3 nn4 nm4 nn5 nm5 nn6 nm6 nn7 nm7 nn8 nm8
attribute [local go_sem] loadA loadT2 storeA storeT2 buildA_ts buildA_sm assert_errno make_func acells_size t2cells_size acells_get t2cells_get acells_one t2cells_one acells_table acells_all t2cells_all t2cells_l t2cells_r
attribute [local go_sem ↓] lrowA lrowT2 srowA srowT2 browA zeroA_run zeroT2_run
attribute [local go_sem] nn2 nm2 nn3 nm3 nn4 nm4 nn5 nm5 nn6 nm6 nn7 nm7 nn8 nm8
attribute [local go_sem] box26 tcells_idx cell0 cell1 cell2 cell3 cell4 cell5 cell6
attribute [local go_sem] ofInt_N build_zero
attribute [local go_sem] loadP storeP allOne_pair
attribute [local go_sem ↓] lrowP srowP zeroP brow26
attribute [local go_sem high] laidAt_t laidAt_p
attribute [local irreducible] tcells
theorem bare_may_of {t : Tab} {s : BitVec 64} (m : May t s) : May (bareT t.count t.depth t.pre) s := by
  obtain ⟨h0, h5, hp, _⟩ := (flatT_iff t).1 m.flat
  exact bare_may s (bare_flat h0 h5 hp)
set_option maxHeartbeats 2000000 in
set_option maxRecDepth 100000 in
theorem rAnew_any (t x : Tab) (s : BitVec 64) (m : May t s) (hx : laidT s (bareT t.count t.depth t.pre) (pairsT t) = .ok x) (w : World) :
    Calls Tryz.prog 15 #[U s, .agg (tcells t)] w fun e w' => e = .returned (.agg (tcells x)) ∧ Ch [] w w' := by
  have N1 := fun w => rNew_any t.count t.depth t.pre w
  have P1 := fun w => rPairs_any t w
  have hbm := bare_may_of m
  have hn : (pairsT t).length ≤ 900 := by have := pairs_le t; omega
  have L1 : ∀ (W : World) a c base, W.ownsRow base 31 2 (.slice a (pairsT t).length c) (pairsT t).length (pcells (pairsT t)) →
      Calls Tryz.prog 17 #[U s, .agg (tcells (bareT t.count t.depth t.pre)), .slice a (pairsT t).length c] W fun e w' => e = .returned (.tuple #[.agg (tcells x), I 0]) ∧ Ch [] W w' := by
    intro W a c base hown
    obtain ⟨cur, h1, h2, h3⟩ := pairs_at rfl hown
    have := rPuts_any (bareT t.count t.depth t.pre) s (pairsT t) a c cur W hbm hn h1 h2 (fun r hr => (h3 r hr).2)
    rw [hx] at this
    exact this
  generalize pairsT t = l at *
  generalize bareT t.count t.depth t.pre = bare at *
  clear hx hbm hn m
  obtain ⟨W0, hW0⟩ : ∃ W0, (w.alloc (.cells (tcells t) 26)).alloc (.cells (tcells zeroT) 26) = W0 := ⟨_, rfl⟩
  have hC0 : Ch [] w W0 := by rw [← hW0]; exact ((Ch.refl [] w).alloc _).alloc _
  have b0 : W0.heap[w.heap.size]? = some (.cells (tcells t) 26 (0, 0)) := by rw [← hW0]; simp [go_sem]
  have b1 : W0.heap[w.heap.size + 1]? = some (.cells (tcells zeroT) 26 (0, 0)) := by rw [← hW0]; simp [go_sem]
  go_enter Tryz.func15, Tryz.ntmps15
  go_wp2
  clear hW0
  obtain ⟨B, hB⟩ : ∃ B, w.heap.size = B := ⟨_, rfl⟩
  rw [hB] at b0 b1 ⊢
  have HB := Lib.hid hB
  clear hB
  have s1 : (fun W' : World => W'.heap[B]? = some (.cells (tcells t) 26 (0, 0))) W0.drew := b0
  have e1 : W0.drew.heap[B + 1]? = some (.cells (tcells zeroT) 26 (0, 0)) := b1
  have C1 : Ch [] w W0.drew := hC0.drew
  refine wp_region_held_drew (S := fun W' => W'.heap[B]? = some (.cells (tcells t) 26 (0, 0))) (by kernel_rfl) s1 ?_
  intro _
  simp only [List.size_toArray, List.length_cons, List.length_nil, Nat.reduceAdd]
  clear b0 b1 hC0
  generalize W0.drew = w1 at *
  refine wpAnyH_take (i := 0) (oi := ⟨some 8, _, _, _, _, none⟩) (v := ?_) rfl (by decide +kernel) (by decide +kernel) (by decide +kernel) (fun _ _ _ h => h) (Or.inl ⟨by rfl, ?_⟩) s1 ?_
  rotate_left
  · intro wq hSq
    first | (go_simp; done) | (go_simp; with_reducible rfl)
  try simp only [Act.put, List.setIfInBounds_toArray, List.set_cons_zero, List.set_cons_succ]
  refine wpAnyH_take (i := 1) (oi := ⟨some 9, _, _, _, _, none⟩) (v := ?_) rfl (by decide +kernel) (by decide +kernel) (by decide +kernel) (fun _ _ _ h => h) (Or.inl ⟨by rfl, ?_⟩) s1 ?_
  rotate_left
  · intro wq hSq
    first | (go_simp; done) | (go_simp; with_reducible rfl)
  try simp only [Act.put, List.setIfInBounds_toArray, List.set_cons_zero, List.set_cons_succ]
  refine wpAnyH_take (i := 2) (oi := ⟨some 10, _, _, _, _, none⟩) (v := ?_) rfl (by decide +kernel) (by decide +kernel) (by decide +kernel) (fun _ _ _ h => h) (Or.inl ⟨by rfl, ?_⟩) s1 ?_
  rotate_left
  · intro wq hSq
    first | (go_simp; done) | (go_simp; with_reducible rfl)
  try simp only [Act.put, List.setIfInBounds_toArray, List.set_cons_zero, List.set_cons_succ]
  refine wpAnyH_take (i := 3) (oi := ⟨some 11, _, _, _, _, none⟩) (v := ?_) rfl (by decide +kernel) (by decide +kernel) (by decide +kernel) (fun _ _ _ h => h) (Or.inl ⟨by rfl, ?_⟩) s1 ?_
  rotate_left
  · intro wq hSq
    first | (go_simp; done) | (go_simp; with_reducible rfl)
  try simp only [Act.put, List.setIfInBounds_toArray, List.set_cons_zero, List.set_cons_succ]
  refine wpAnyH_take (i := 4) (oi := ⟨some 12, _, _, _, _, none⟩) (v := ?_) rfl (by decide +kernel) (by decide +kernel) (by decide +kernel) (fun _ _ _ h => h) (Or.inl ⟨by rfl, ?_⟩) s1 ?_
  rotate_left
  · intro wq hSq
    first | (go_simp; done) | (go_simp; with_reducible rfl)
  try simp only [Act.put, List.setIfInBounds_toArray, List.set_cons_zero, List.set_cons_succ]
  refine wpAnyH_take (i := 5) (oi := ⟨some 13, _, _, _, _, none⟩) (v := ?_) rfl (by decide +kernel) (by decide +kernel) (by decide +kernel) (fun _ _ _ h => h) (Or.inl ⟨by rfl, ?_⟩) s1 ?_
  rotate_left
  · intro wq hSq
    first | (go_simp; done) | (go_simp; with_reducible rfl)
  try simp only [Act.put, List.setIfInBounds_toArray, List.set_cons_zero, List.set_cons_succ]
  refine wpAnyH_take (i := 6) (oi := ⟨some 14, _, _, _, _, none⟩) (v := ?_) rfl (by decide +kernel) (by decide +kernel) (by decide +kernel) (fun _ _ _ h => h) (Or.inl ⟨by rfl, ?_⟩) s1 ?_
  rotate_left
  · intro wq hSq
    first | (go_simp; done) | (go_simp; with_reducible rfl)
  try simp only [Act.put, List.setIfInBounds_toArray, List.set_cons_zero, List.set_cons_succ]
  refine wpAnyH_take (i := 8) (oi := ⟨some 16, _, _, _, _, none⟩) (v := ?_) rfl (by decide +kernel) (by decide +kernel) (by decide +kernel) (fun _ _ _ h => h) (Or.inl ⟨by rfl, ?_⟩) s1 ?_
  rotate_left
  · intro wq hSq
    first | (go_simp; done) | (go_simp; with_reducible rfl)
  try simp only [Act.put, List.setIfInBounds_toArray, List.set_cons_zero, List.set_cons_succ]
  -- orders of Anew
  refine wpAnyH_ready (rs := [7, 14]) (by decide +kernel) (by simp) ?_
  refine AllReadyH.cons rfl (fun K hK => ?_) (AllReadyH.cons (o := ⟨some 5, _, _, _, _, none⟩) rfl (fun K hK => ?_) AllReadyH.nil)
  · go_simp
    refine (N1 _).mono ?_
    rintro e w2 ⟨rfl, hc2⟩
    have s2 := hkeep hc2 s1
    have e2 := hkeep hc2 e1
    have C2 := C1.trans hc2
    refine hK.out _ _ s2 (fun _ => ?_)
    clear hK K hc2
    refine wpAnyH_ready (rs := [9, 14]) (by decide +kernel) (by simp) ?_
    refine AllReadyH.cons rfl (fun K hK => ?_) (AllReadyH.cons (o := ⟨some 5, _, _, _, _, none⟩) rfl (fun K hK => ?_) AllReadyH.nil)
    · go_simp
      refine (P1 _).mono ?_
      rintro e w3 ⟨a, c, rfl, o3, hc3⟩
      have s3 := hkeep hc3 s2
      have e3 := hkeep hc3 e2
      have C3 := C2.trans hc3
      refine hK.out _ _ s3 (fun _ => ?_)
      clear hK K hc3
      refine wpAnyH_ready (rs := [10, 14]) (by decide +kernel) (by simp) ?_
      refine AllReadyH.cons rfl (fun K hK => ?_) (AllReadyH.cons (o := ⟨some 5, _, _, _, _, none⟩) rfl (fun K hK => ?_) AllReadyH.nil)
      · go_simp
        refine (L1 _ a c _ o3).mono ?_
        rintro e w4 ⟨rfl, hc4⟩
        have s4 := hkeep hc4 s3
        have e4 := hkeep hc4 e3
        have C4 := C3.trans hc4
        refine hK.out _ _ s4 (fun _ => ?_)
        clear hK K hc4
        refine wpAnyH_take (i := 11) (oi := ⟨some 7, _, _, _, _, none⟩) (v := ?_) rfl (by decide +kernel) (by decide +kernel) (by decide +kernel) (fun _ _ _ h => h) (Or.inl ⟨by rfl, ?_⟩) s4 ?_
        rotate_left
        · intro wq hSq
          first | (go_simp; done) | (go_simp; with_reducible rfl)
        try simp only [Act.put, List.setIfInBounds_toArray, List.set_cons_zero, List.set_cons_succ]
        refine wpAnyH_take (i := 12) (oi := ⟨some 19, _, _, _, _, none⟩) (v := ?_) rfl (by decide +kernel) (by decide +kernel) (by decide +kernel) (fun _ _ _ h => h) (Or.inl ⟨by rfl, ?_⟩) s4 ?_
        rotate_left
        · intro wq hSq
          first | (go_simp; done) | (go_simp; with_reducible rfl)
        try simp only [Act.put, List.setIfInBounds_toArray, List.set_cons_zero, List.set_cons_succ]
        refine wpAnyH_take (i := 13) (oi := ⟨some 20, _, _, _, _, none⟩) (v := ?_) rfl (by decide +kernel) (by decide +kernel) (by decide +kernel) (fun _ _ _ h => h) (Or.inl ⟨by rfl, ?_⟩) s4 ?_
        rotate_left
        · intro wq hSq
          first | (go_simp; done) | (go_simp; with_reducible rfl)
        try simp only [Act.put, List.setIfInBounds_toArray, List.set_cons_zero, List.set_cons_succ]
        refine wpAnyH_ready (rs := [14]) (by decide +kernel) (by simp) ?_
        refine AllReadyH.cons (o := ⟨some 5, _, _, _, _, none⟩) rfl (fun K hK => ?_) AllReadyH.nil
        · go_simp
          have hc5 : Ch [] w4 (w4.alloc (.cells (tcells zeroT) 26)) := (Ch.refl [] w4).alloc _
          have s5 := hkeep hc5 s4
          have e5 := hkeep hc5 e4
          have C5 := C4.trans hc5
          have a5 : (w4.alloc (.cells (tcells zeroT) 26)).heap[w4.heap.size]? = some (.cells (tcells zeroT) 26 (0, 0)) := by simp [go_sem]
          have hAB : ¬ B = w4.heap.size := by have := (Array.getElem?_eq_some_iff.1 s4).1; omega
          have hAB1 : ¬ B + 1 = w4.heap.size := by have := (Array.getElem?_eq_some_iff.1 e4).1; omega
          have hAw : w.heap.size ≤ w4.heap.size := C4.size
          refine hK.out _ _ s5 (fun _ => ?_)
          clear hK K hc5
          generalize w4.alloc (.cells (tcells zeroT) 26) = w5 at *
          generalize w4.heap.size = A at *
          refine wpAnyH_ready (rs := [15]) (by decide +kernel) (by simp) ?_
          refine AllReadyH.cons rfl (fun K hK => ?_) AllReadyH.nil
          go_simp
          have s6 : (World.onObj w5 A (laidAt 0 (tcells x))).heap[B]? = some (.cells (tcells t) 26 (0, 0)) := by rw [heap_onObj, if_neg hAB]; exact s5
          have e6 : (World.onObj w5 A (laidAt 0 (tcells x))).heap[B + 1]? = some (.cells (tcells zeroT) 26 (0, 0)) := by rw [heap_onObj, if_neg hAB1]; exact e5
          have a6 : (World.onObj w5 A (laidAt 0 (tcells x))).heap[A]? = some (.cells (tcells x) 26 (0, 0)) := by rw [heap_onObj, if_pos rfl, a5, Option.map_some, laidAt_t]
          have C6 : Ch [] w (World.onObj w5 A (laidAt 0 (tcells x))) := C5.onObj (.inr hAw) _
          refine hK.out _ _ s6 (fun _ => ?_)
          clear hK K s5 e5 a5 C5
          generalize World.onObj w5 A (laidAt 0 (tcells x)) = w6 at *
          refine wpAnyH_take (i := 16) (oi := ⟨some 6, _, _, _, _, none⟩) (v := ?_) rfl (by decide +kernel) (by decide +kernel) (by decide +kernel) (fun _ _ _ h => h) (Or.inl ⟨by rfl, ?_⟩) s6 ?_
          rotate_left
          · intro wq hSq
            first | (go_simp; done) | (go_simp; with_reducible rfl)
          try simp only [Act.put, List.setIfInBounds_toArray, List.set_cons_zero, List.set_cons_succ]
          refine wpAnyH_done (by kernel_rfl) ?_ _
          go_wp2
          refine bodyPost_ret (v := .agg (tcells x)) (results_cell1 Tryz.results15 _ _ _ rfl (run_loadVar_row _ _ 26 26 (tcells x) (0, 0) _ ?_ Tryz.underlying26 rfl (by rw [tcells_size]; kernel_rfl))) rfl ⟨rfl, ?_⟩
          · rw [heap_onObj, if_pos rfl, e6, Option.map_some, laidAt_t]
          · exact C6.onObj (.inr (by rw [HB.out]; omega)) _
      · go_simp
        have hc7 : Ch [] w3 (w3.alloc (.cells (tcells zeroT) 26)) := (Ch.refl [] w3).alloc _
        have s7 := hkeep hc7 s3
        have e7 := hkeep hc7 e3
        have C7 := C3.trans hc7
        have o7 := own_ch o3 hc7 (by simp)
        have a7 : (w3.alloc (.cells (tcells zeroT) 26)).heap[w3.heap.size]? = some (.cells (tcells zeroT) 26 (0, 0)) := by simp [go_sem]
        have hAB : ¬ B = w3.heap.size := by have := (Array.getElem?_eq_some_iff.1 s3).1; omega
        have hAB1 : ¬ B + 1 = w3.heap.size := by have := (Array.getElem?_eq_some_iff.1 e3).1; omega
        have hAw : w.heap.size ≤ w3.heap.size := C3.size
        refine hK.out _ _ s7 (fun _ => ?_)
        clear hK K hc7
        generalize w3.alloc (.cells (tcells zeroT) 26) = w7 at *
        generalize w3.heap.size = A at *
        refine wpAnyH_ready (rs := [10]) (by decide +kernel) (by simp) ?_
        refine AllReadyH.cons rfl (fun K hK => ?_) AllReadyH.nil
        · go_simp
          refine (L1 _ a c _ o7).mono ?_
          rintro e w8 ⟨rfl, hc8⟩
          have s8 := hkeep hc8 s7
          have e8 := hkeep hc8 e7
          have C8 := C7.trans hc8
          have a8 := hkeep hc8 a7
          refine hK.out _ _ s8 (fun _ => ?_)
          clear hK K hc8
          refine wpAnyH_take (i := 11) (oi := ⟨some 7, _, _, _, _, none⟩) (v := ?_) rfl (by decide +kernel) (by decide +kernel) (by decide +kernel) (fun _ _ _ h => h) (Or.inl ⟨by rfl, ?_⟩) s8 ?_
          rotate_left
          · intro wq hSq
            first | (go_simp; done) | (go_simp; with_reducible rfl)
          try simp only [Act.put, List.setIfInBounds_toArray, List.set_cons_zero, List.set_cons_succ]
          refine wpAnyH_take (i := 12) (oi := ⟨some 19, _, _, _, _, none⟩) (v := ?_) rfl (by decide +kernel) (by decide +kernel) (by decide +kernel) (fun _ _ _ h => h) (Or.inl ⟨by rfl, ?_⟩) s8 ?_
          rotate_left
          · intro wq hSq
            first | (go_simp; done) | (go_simp; with_reducible rfl)
          try simp only [Act.put, List.setIfInBounds_toArray, List.set_cons_zero, List.set_cons_succ]
          refine wpAnyH_take (i := 13) (oi := ⟨some 20, _, _, _, _, none⟩) (v := ?_) rfl (by decide +kernel) (by decide +kernel) (by decide +kernel) (fun _ _ _ h => h) (Or.inl ⟨by rfl, ?_⟩) s8 ?_
          rotate_left
          · intro wq hSq
            first | (go_simp; done) | (go_simp; with_reducible rfl)
          try simp only [Act.put, List.setIfInBounds_toArray, List.set_cons_zero, List.set_cons_succ]
          refine wpAnyH_ready (rs := [15]) (by decide +kernel) (by simp) ?_
          refine AllReadyH.cons rfl (fun K hK => ?_) AllReadyH.nil
          go_simp
          have s9 : (World.onObj w8 A (laidAt 0 (tcells x))).heap[B]? = some (.cells (tcells t) 26 (0, 0)) := by rw [heap_onObj, if_neg hAB]; exact s8
          have e9 : (World.onObj w8 A (laidAt 0 (tcells x))).heap[B + 1]? = some (.cells (tcells zeroT) 26 (0, 0)) := by rw [heap_onObj, if_neg hAB1]; exact e8
          have a9 : (World.onObj w8 A (laidAt 0 (tcells x))).heap[A]? = some (.cells (tcells x) 26 (0, 0)) := by rw [heap_onObj, if_pos rfl, a8, Option.map_some, laidAt_t]
          have C9 : Ch [] w (World.onObj w8 A (laidAt 0 (tcells x))) := C8.onObj (.inr hAw) _
          refine hK.out _ _ s9 (fun _ => ?_)
          clear hK K s8 e8 a8 C8
          generalize World.onObj w8 A (laidAt 0 (tcells x)) = w9 at *
          refine wpAnyH_take (i := 16) (oi := ⟨some 6, _, _, _, _, none⟩) (v := ?_) rfl (by decide +kernel) (by decide +kernel) (by decide +kernel) (fun _ _ _ h => h) (Or.inl ⟨by rfl, ?_⟩) s9 ?_
          rotate_left
          · intro wq hSq
            first | (go_simp; done) | (go_simp; with_reducible rfl)
          try simp only [Act.put, List.setIfInBounds_toArray, List.set_cons_zero, List.set_cons_succ]
          refine wpAnyH_done (by kernel_rfl) ?_ _
          go_wp2
          refine bodyPost_ret (v := .agg (tcells x)) (results_cell1 Tryz.results15 _ _ _ rfl (run_loadVar_row _ _ 26 26 (tcells x) (0, 0) _ ?_ Tryz.underlying26 rfl (by rw [tcells_size]; kernel_rfl))) rfl ⟨rfl, ?_⟩
          · rw [heap_onObj, if_pos rfl, e9, Option.map_some, laidAt_t]
          · exact C9.onObj (.inr (by rw [HB.out]; omega)) _
    · go_simp
      have hc10 : Ch [] w2 (w2.alloc (.cells (tcells zeroT) 26)) := (Ch.refl [] w2).alloc _
      have s10 := hkeep hc10 s2
      have e10 := hkeep hc10 e2
      have C10 := C2.trans hc10
      have a10 : (w2.alloc (.cells (tcells zeroT) 26)).heap[w2.heap.size]? = some (.cells (tcells zeroT) 26 (0, 0)) := by simp [go_sem]
      have hAB : ¬ B = w2.heap.size := by have := (Array.getElem?_eq_some_iff.1 s2).1; omega
      have hAB1 : ¬ B + 1 = w2.heap.size := by have := (Array.getElem?_eq_some_iff.1 e2).1; omega
      have hAw : w.heap.size ≤ w2.heap.size := C2.size
      refine hK.out _ _ s10 (fun _ => ?_)
      clear hK K hc10
      generalize w2.alloc (.cells (tcells zeroT) 26) = w10 at *
      generalize w2.heap.size = A at *
      refine wpAnyH_ready (rs := [9]) (by decide +kernel) (by simp) ?_
      refine AllReadyH.cons rfl (fun K hK => ?_) AllReadyH.nil
      · go_simp
        refine (P1 _).mono ?_
        rintro e w11 ⟨a, c, rfl, o11, hc11⟩
        have s11 := hkeep hc11 s10
        have e11 := hkeep hc11 e10
        have C11 := C10.trans hc11
        have a11 := hkeep hc11 a10
        refine hK.out _ _ s11 (fun _ => ?_)
        clear hK K hc11
        refine wpAnyH_ready (rs := [10]) (by decide +kernel) (by simp) ?_
        refine AllReadyH.cons rfl (fun K hK => ?_) AllReadyH.nil
        · go_simp
          refine (L1 _ a c _ o11).mono ?_
          rintro e w12 ⟨rfl, hc12⟩
          have s12 := hkeep hc12 s11
          have e12 := hkeep hc12 e11
          have C12 := C11.trans hc12
          have a12 := hkeep hc12 a11
          refine hK.out _ _ s12 (fun _ => ?_)
          clear hK K hc12
          refine wpAnyH_take (i := 11) (oi := ⟨some 7, _, _, _, _, none⟩) (v := ?_) rfl (by decide +kernel) (by decide +kernel) (by decide +kernel) (fun _ _ _ h => h) (Or.inl ⟨by rfl, ?_⟩) s12 ?_
          rotate_left
          · intro wq hSq
            first | (go_simp; done) | (go_simp; with_reducible rfl)
          try simp only [Act.put, List.setIfInBounds_toArray, List.set_cons_zero, List.set_cons_succ]
          refine wpAnyH_take (i := 12) (oi := ⟨some 19, _, _, _, _, none⟩) (v := ?_) rfl (by decide +kernel) (by decide +kernel) (by decide +kernel) (fun _ _ _ h => h) (Or.inl ⟨by rfl, ?_⟩) s12 ?_
          rotate_left
          · intro wq hSq
            first | (go_simp; done) | (go_simp; with_reducible rfl)
          try simp only [Act.put, List.setIfInBounds_toArray, List.set_cons_zero, List.set_cons_succ]
          refine wpAnyH_take (i := 13) (oi := ⟨some 20, _, _, _, _, none⟩) (v := ?_) rfl (by decide +kernel) (by decide +kernel) (by decide +kernel) (fun _ _ _ h => h) (Or.inl ⟨by rfl, ?_⟩) s12 ?_
          rotate_left
          · intro wq hSq
            first | (go_simp; done) | (go_simp; with_reducible rfl)
          try simp only [Act.put, List.setIfInBounds_toArray, List.set_cons_zero, List.set_cons_succ]
          refine wpAnyH_ready (rs := [15]) (by decide +kernel) (by simp) ?_
          refine AllReadyH.cons rfl (fun K hK => ?_) AllReadyH.nil
          go_simp
          have s13 : (World.onObj w12 A (laidAt 0 (tcells x))).heap[B]? = some (.cells (tcells t) 26 (0, 0)) := by rw [heap_onObj, if_neg hAB]; exact s12
          have e13 : (World.onObj w12 A (laidAt 0 (tcells x))).heap[B + 1]? = some (.cells (tcells zeroT) 26 (0, 0)) := by rw [heap_onObj, if_neg hAB1]; exact e12
          have a13 : (World.onObj w12 A (laidAt 0 (tcells x))).heap[A]? = some (.cells (tcells x) 26 (0, 0)) := by rw [heap_onObj, if_pos rfl, a12, Option.map_some, laidAt_t]
          have C13 : Ch [] w (World.onObj w12 A (laidAt 0 (tcells x))) := C12.onObj (.inr hAw) _
          refine hK.out _ _ s13 (fun _ => ?_)
          clear hK K s12 e12 a12 C12
          generalize World.onObj w12 A (laidAt 0 (tcells x)) = w13 at *
          refine wpAnyH_take (i := 16) (oi := ⟨some 6, _, _, _, _, none⟩) (v := ?_) rfl (by decide +kernel) (by decide +kernel) (by decide +kernel) (fun _ _ _ h => h) (Or.inl ⟨by rfl, ?_⟩) s13 ?_
          rotate_left
          · intro wq hSq
            first | (go_simp; done) | (go_simp; with_reducible rfl)
          try simp only [Act.put, List.setIfInBounds_toArray, List.set_cons_zero, List.set_cons_succ]
          refine wpAnyH_done (by kernel_rfl) ?_ _
          go_wp2
          refine bodyPost_ret (v := .agg (tcells x)) (results_cell1 Tryz.results15 _ _ _ rfl (run_loadVar_row _ _ 26 26 (tcells x) (0, 0) _ ?_ Tryz.underlying26 rfl (by rw [tcells_size]; kernel_rfl))) rfl ⟨rfl, ?_⟩
          · rw [heap_onObj, if_pos rfl, e13, Option.map_some, laidAt_t]
          · exact C13.onObj (.inr (by rw [HB.out]; omega)) _
  · go_simp
    have hc14 : Ch [] w1 (w1.alloc (.cells (tcells zeroT) 26)) := (Ch.refl [] w1).alloc _
    have s14 := hkeep hc14 s1
    have e14 := hkeep hc14 e1
    have C14 := C1.trans hc14
    have a14 : (w1.alloc (.cells (tcells zeroT) 26)).heap[w1.heap.size]? = some (.cells (tcells zeroT) 26 (0, 0)) := by simp [go_sem]
    have hAB : ¬ B = w1.heap.size := by have := (Array.getElem?_eq_some_iff.1 s1).1; omega
    have hAB1 : ¬ B + 1 = w1.heap.size := by have := (Array.getElem?_eq_some_iff.1 e1).1; omega
    have hAw : w.heap.size ≤ w1.heap.size := C1.size
    refine hK.out _ _ s14 (fun _ => ?_)
    clear hK K hc14
    generalize w1.alloc (.cells (tcells zeroT) 26) = w14 at *
    generalize w1.heap.size = A at *
    refine wpAnyH_ready (rs := [7]) (by decide +kernel) (by simp) ?_
    refine AllReadyH.cons rfl (fun K hK => ?_) AllReadyH.nil
    · go_simp
      refine (N1 _).mono ?_
      rintro e w15 ⟨rfl, hc15⟩
      have s15 := hkeep hc15 s14
      have e15 := hkeep hc15 e14
      have C15 := C14.trans hc15
      have a15 := hkeep hc15 a14
      refine hK.out _ _ s15 (fun _ => ?_)
      clear hK K hc15
      refine wpAnyH_ready (rs := [9]) (by decide +kernel) (by simp) ?_
      refine AllReadyH.cons rfl (fun K hK => ?_) AllReadyH.nil
      · go_simp
        refine (P1 _).mono ?_
        rintro e w16 ⟨a, c, rfl, o16, hc16⟩
        have s16 := hkeep hc16 s15
        have e16 := hkeep hc16 e15
        have C16 := C15.trans hc16
        have a16 := hkeep hc16 a15
        refine hK.out _ _ s16 (fun _ => ?_)
        clear hK K hc16
        refine wpAnyH_ready (rs := [10]) (by decide +kernel) (by simp) ?_
        refine AllReadyH.cons rfl (fun K hK => ?_) AllReadyH.nil
        · go_simp
          refine (L1 _ a c _ o16).mono ?_
          rintro e w17 ⟨rfl, hc17⟩
          have s17 := hkeep hc17 s16
          have e17 := hkeep hc17 e16
          have C17 := C16.trans hc17
          have a17 := hkeep hc17 a16
          refine hK.out _ _ s17 (fun _ => ?_)
          clear hK K hc17
          refine wpAnyH_take (i := 11) (oi := ⟨some 7, _, _, _, _, none⟩) (v := ?_) rfl (by decide +kernel) (by decide +kernel) (by decide +kernel) (fun _ _ _ h => h) (Or.inl ⟨by rfl, ?_⟩) s17 ?_
          rotate_left
          · intro wq hSq
            first | (go_simp; done) | (go_simp; with_reducible rfl)
          try simp only [Act.put, List.setIfInBounds_toArray, List.set_cons_zero, List.set_cons_succ]
          refine wpAnyH_take (i := 12) (oi := ⟨some 19, _, _, _, _, none⟩) (v := ?_) rfl (by decide +kernel) (by decide +kernel) (by decide +kernel) (fun _ _ _ h => h) (Or.inl ⟨by rfl, ?_⟩) s17 ?_
          rotate_left
          · intro wq hSq
            first | (go_simp; done) | (go_simp; with_reducible rfl)
          try simp only [Act.put, List.setIfInBounds_toArray, List.set_cons_zero, List.set_cons_succ]
          refine wpAnyH_take (i := 13) (oi := ⟨some 20, _, _, _, _, none⟩) (v := ?_) rfl (by decide +kernel) (by decide +kernel) (by decide +kernel) (fun _ _ _ h => h) (Or.inl ⟨by rfl, ?_⟩) s17 ?_
          rotate_left
          · intro wq hSq
            first | (go_simp; done) | (go_simp; with_reducible rfl)
          try simp only [Act.put, List.setIfInBounds_toArray, List.set_cons_zero, List.set_cons_succ]
          refine wpAnyH_ready (rs := [15]) (by decide +kernel) (by simp) ?_
          refine AllReadyH.cons rfl (fun K hK => ?_) AllReadyH.nil
          go_simp
          have s18 : (World.onObj w17 A (laidAt 0 (tcells x))).heap[B]? = some (.cells (tcells t) 26 (0, 0)) := by rw [heap_onObj, if_neg hAB]; exact s17
          have e18 : (World.onObj w17 A (laidAt 0 (tcells x))).heap[B + 1]? = some (.cells (tcells zeroT) 26 (0, 0)) := by rw [heap_onObj, if_neg hAB1]; exact e17
          have a18 : (World.onObj w17 A (laidAt 0 (tcells x))).heap[A]? = some (.cells (tcells x) 26 (0, 0)) := by rw [heap_onObj, if_pos rfl, a17, Option.map_some, laidAt_t]
          have C18 : Ch [] w (World.onObj w17 A (laidAt 0 (tcells x))) := C17.onObj (.inr hAw) _
          refine hK.out _ _ s18 (fun _ => ?_)
          clear hK K s17 e17 a17 C17
          generalize World.onObj w17 A (laidAt 0 (tcells x)) = w18 at *
          refine wpAnyH_take (i := 16) (oi := ⟨some 6, _, _, _, _, none⟩) (v := ?_) rfl (by decide +kernel) (by decide +kernel) (by decide +kernel) (fun _ _ _ h => h) (Or.inl ⟨by rfl, ?_⟩) s18 ?_
          rotate_left
          · intro wq hSq
            first | (go_simp; done) | (go_simp; with_reducible rfl)
          try simp only [Act.put, List.setIfInBounds_toArray, List.set_cons_zero, List.set_cons_succ]
          refine wpAnyH_done (by kernel_rfl) ?_ _
          go_wp2
          refine bodyPost_ret (v := .agg (tcells x)) (results_cell1 Tryz.results15 _ _ _ rfl (run_loadVar_row _ _ 26 26 (tcells x) (0, 0) _ ?_ Tryz.underlying26 rfl (by rw [tcells_size]; kernel_rfl))) rfl ⟨rfl, ?_⟩
          · rw [heap_onObj, if_pos rfl, e18, Option.map_some, laidAt_t]
          · exact C18.onObj (.inr (by rw [HB.out]; omega)) _
  -- end of orders
end Go.Proofs.Hc
/- The reference of layer 17: Half. -/
namespace Go.Proofs.Hc
open Go.RowKit
attribute [local go_sem] wrap_u64 wrap_u8 bits_xor64 bits_and64 bits_or64 bits_not64 bits_xor8 bits_and8 bits_or8 signed64 signed8 ofInt_N BitVec.ofInt_add BitVec.ofInt_mul ofInt_sub' ofInt8_N64 ofInt64_N8 wide8 eqN neN shr_pow shr1 shr7 shr56
attribute [local go_sem high] bits_com64 shl_wrap
attribute [local go_sem] cell_heap ice_heap cellAt_cells iceAt_cells setAt_cells rowAt_cells canLay_cells laidAt_cells size_onObj size_setCell rowRes_some layRes_true
attribute [local go_sem] load26 load73 load23 store26 build73
attribute [local go_sem ↓] lrow26 lrow73 lrow23 srow26 zero26 brow73 heap_alloc heap_drew heap_drewN heap_setCell heap_onObj
attribute [local go_sem] tcells_size hcells_size tcells_get hcells_get tcells_one hcells_one hcells_table tcells_table hcells_all hcells_ctrl tcells_ctrl
attribute [local go_sem] nn2 nm2 nn3 nm3 nn4 nm4 nn5 nm5 nn6 nm6 nn7 nm7 nn8 nm8
attribute [local go_sem] loadA loadT2 storeA storeT2 buildA_ts buildA_sm assert_errno make_func acells_size t2cells_size acells_get t2cells_get acells_one t2cells_one acells_table acells_all t2cells_all t2cells_l t2cells_r
attribute [local go_sem ↓] lrowA lrowT2 srowA srowT2 browA zeroA_run zeroT2_run
attribute [local go_sem] nn2 nm2 nn3 nm3 nn4 nm4 nn5 nm5 nn6 nm6 nn7 nm7 nn8 nm8
attribute [local go_sem] box26 tcells_idx cell0 cell1 cell2 cell3 cell4 cell5 cell6
attribute [local go_sem] ofInt_N build_zero
attribute [local go_sem] loadP storeP allOne_pair
attribute [local go_sem ↓] lrowP srowP zeroP brow26
attribute [local go_sem high] laidAt_t laidAt_p
attribute [local irreducible] tcells
theorem hasT_same {a b : Tab} (ha : flatT a = true) (hb : flatT b = true) (hd : a.depth = b.depth) (hp : a.pre = b.pre) (h : BitVec 64) : hasT a h = hasT b h := by
  rw [Bool.eq_iff_iff]
  exact ⟨fun x => hasT_of x hb hd.symm hp.symm, fun x => hasT_of x ha hd hp⟩
set_option maxHeartbeats 2000000 in
set_option maxRecDepth 100000 in
theorem rHalf_any (t X : Tab) (s : BitVec 64) (i : Nat) (hi : i < 2) (m : May t s) (hd : t.depth < 5) (hX : laidT s (halfB t i) (halfL t s i) = .ok X) (w : World) :
    Calls Tryz.prog 16 #[U s, .agg (tcells t), U (BitVec.ofNat 64 i)] w fun e w' => e = .returned (.agg (tcells X)) ∧ Ch [] w w' := by
  have P1 := fun w => rPairs_any t w
  have hfl := half_flat m.flat hd i hi
  have hbm : May (halfB t i) s := bare_may s hfl
  have hd0 : 0 ≤ t.depth := ((flatT_iff t).1 m.flat).1
  have hn : (pairsT t).length ≤ 16 := pairs_le t
  have N1 : ∀ w, Calls Tryz.prog 34 #[U 0#64, I (t.depth + 1), U (2#64 * t.pre + BitVec.ofNat 64 i)] w fun e w' => e = .returned (.agg (tcells (halfB t i))) ∧ Ch [] w w' := fun w => rNew_any 0#64 (t.depth + 1) (2#64 * t.pre + BitVec.ofNat 64 i) w
  have HLX : Hid (laidT s (halfB t i) ((pairsT t).filter (fun p => hasT (halfB t i) (hashOf s p.1))) = .ok X) := Lib.hid hX
  generalize halfB t i = hb at *
  generalize BitVec.ofNat 64 i = ib at *
  clear hX m hi
  generalize pairsT t = l at *
  obtain ⟨W0, hW0⟩ : ∃ W0, (w.alloc (.cells (tcells t) 26)).alloc (.cells (tcells zeroT) 26) = W0 := ⟨_, rfl⟩
  have hC0 : Ch [] w W0 := by rw [← hW0]; exact ((Ch.refl [] w).alloc _).alloc _
  have b0 : W0.heap[w.heap.size]? = some (.cells (tcells t) 26 (0, 0)) := by rw [← hW0]; simp [go_sem]
  have b1 : W0.heap[w.heap.size + 1]? = some (.cells (tcells zeroT) 26 (0, 0)) := by rw [← hW0]; simp [go_sem]
  go_enter Tryz.func16, Tryz.ntmps16
  go_wp2_with fail
  refine (N1 _).mono ?_
  rintro e w1 ⟨rfl, hc1⟩
  have d0 := hkeep hc1 b0
  have d1 := hkeep hc1 b1
  have hC1 := hC0.trans hc1
  clear hW0 b0 b1 hC0 hc1 N1
  obtain ⟨B, hB⟩ : ∃ B, w.heap.size = B := ⟨_, rfl⟩
  rw [hB] at d0 d1 ⊢
  have HB := Lib.hid hB
  have hBle : w.heap.size ≤ B := Nat.le_of_eq hB
  clear hB
  have hn0 : ¬ B = w1.heap.size := by have := (Array.getElem?_eq_some_iff.1 d0).1; omega
  have hn1 : ¬ B + 1 = w1.heap.size := by have := (Array.getElem?_eq_some_iff.1 d1).1; omega
  go_wp2_with fail
  have h2 := tab_block w1 zeroT hb
  have e1 := hkeep (tab_ch w1 zeroT hb) d1
  have hC2 := hC1.trans (tab_ch w1 zeroT hb)
  have hzz := (tab_ch w1 zeroT hb).size
  have hlH : w1.heap.size < (World.onObj (w1.alloc (.cells (tcells zeroT) 26)) w1.heap.size (laidAt 0 (tcells hb))).heap.size := (Array.getElem?_eq_some_iff.1 h2).1
  have hwH : w.heap.size ≤ w1.heap.size := hC1.size
  clear d0 d1 hC1
  generalize World.onObj (w1.alloc (.cells (tcells zeroT) 26)) w1.heap.size (laidAt 0 (tcells hb)) = W2 at *
  generalize w1.heap.size = H at *
  refine (P1 _).mono ?_
  rintro e w3 ⟨a, c, rfl, hown, hc3⟩
  obtain ⟨cur, hpa, ha, hr⟩ := pairs_at rfl hown
  have HP := Lib.hid hpa
  have HA := Lib.hid ha
  have HR := Lib.hid hr
  have f2 := hkeep hc3 h2
  have f1 := hkeep hc3 e1
  have hC3 := hC2.trans hc3
  clear hpa ha hr hown P1 h2 e1 hC2 hc3
  go_wp2
  go_loopw [22] (fun i wr => ∃ (m : Nat) (tm : Tab), i = .int .i64 m ∧ m ≤ l.length ∧ May tm s ∧ tm.depth = hb.depth ∧ tm.pre = hb.pre ∧ laidT s tm ((l.drop m).filter (fun p => hasT hb (hashOf s p.1))) = .ok X ∧ wr.heap[H]? = some (.cells (tcells tm) 26 (0, 0)) ∧ Ch [H] w3 wr) (fun i _ => l.length - (intOf i).toNat)
  case atStart => exact ⟨0, hb, rfl, Nat.zero_le _, hbm, rfl, rfl, by rw [List.drop_zero]; exact HLX.out, f2, Ch.refl _ _⟩
  case round =>
    obtain ⟨m, tm, hm, hml, hmay, htd, htp, hlaid, hxm, hcm⟩ := hrel
    subst hm
    have HL := Lib.hid hlaid
    have HMAY := Lib.hid hmay
    have HTD := Lib.hid htd
    have HTP := Lib.hid htp
    clear hlaid hmay f2 htd htp HLX hbm
    have e1 := hkeepS hcm (show B + 1 ∉ [H] by simp; omega) f1
    clear f1
    rcases Nat.lt_or_ge m l.length with hlt | hge
    · obtain ⟨r, hra⟩ := HA.out (by omega)
      obtain ⟨p, hpm, hdrop⟩ := drop_one hlt
      have hrow := HP.out m p hpm
      have hrow' : rowAt (m * 2) 2 (.cells cur 31 (0, 0)) = some #[U p.1, U p.2] := by rw [Nat.mul_comm]; exact hrow
      subst hra
      have hrr : wr.heap[r]? = some (.cells cur 31 (0, 0)) := by
        have h1 := HR.out r rfl
        exact hkeepS hcm (by have := h1.1; simp; omega) h1.2
      have hdec : decide (m < l.length) = true := by simpa using hlt
      have hne : ¬ H = wr.heap.size := by have := (Array.getElem?_eq_some_iff.1 hxm).1; omega
      have hne2 : ¬ r = wr.heap.size := by have := (Array.getElem?_eq_some_iff.1 hrr).1; omega
      have hLD : laidT s tm ((p :: l.drop (m + 1)).filter (fun p => hasT hb (hashOf s p.1))) = .ok X := by rw [← hdrop]; exact HL.out
      rw [List.filter_cons] at hLD
      have HLD := Lib.hid hLD
      have G1 := fun w => rGoes_any tm s p.1 HMAY.out.flat w
      rw [hasT_same HMAY.out.flat hfl HTD.out HTP.out] at G1
      clear hdrop hpm hLD
      go_wp2_with fail
      have q2 := pair_block wr (U 0#64) (U 0#64) (U p.1) (U p.2)
      have q0 := hkeep (pair_ch wr (U 0#64) (U 0#64) (U p.1) (U p.2)) hxm
      have qC := hcm.pure (pair_ch wr (U 0#64) (U 0#64) (U p.1) (U p.2))
      clear hxm e1 hcm hrr
      generalize World.onObj (wr.alloc (.cells #[U 0#64, U 0#64] 31)) wr.heap.size (laidAt 0 #[U p.1, U p.2]) = W1 at *
      generalize wr.heap.size = Q at *
      refine (G1 _).mono ?_
      rintro e w4 ⟨rfl, hc4⟩
      have r0 := hkeep hc4 q0
      have r2 := hkeep hc4 q2
      have rC := qC.pure hc4
      clear q0 q2 qC hc4 G1
      cases hq : hasT hb (hashOf s p.1)
      · rw [hq, if_neg (by decide)] at HLD
        clear hq
        go_wp2
        go_roundw
        case rel => exact ⟨m + 1, tm, by go_num, hlt, HMAY.out, HTD.out, HTP.out, HLD.out, r0, rC⟩
        case measure => simp [intOf]; omega
      · rw [hq, if_pos rfl] at HLD
        clear hq
        cases hP : placeT tm s p.1 with
        | error e0 =>
          have := HLD.out
          rw [laidT_err hP] at this
          cases this
        | ok sl =>
          have HM2 := Lib.hid (HMAY.out.fill p.2 (place_spot hP))
          have HD2 : Hid ((fillT tm s p.1 p.2 sl).depth = hb.depth) := Lib.hid (by rw [fill_depth, HTD.out])
          have HP2 : Hid ((fillT tm s p.1 p.2 sl).pre = hb.pre) := Lib.hid (by rw [fill_pre, HTP.out])
          have HLK : Hid (laidT s (fillT tm s p.1 p.2 sl) ((l.drop (m + 1)).filter (fun p => hasT hb (hashOf s p.1))) = .ok X) := Lib.hid (by rw [← laidT_ok hP]; exact HLD.out)
          have PP := fun w => rPut_ok tm s p.1 p.2 sl HMAY.out hP w
          clear hP HLD
          generalize fillT tm s p.1 p.2 sl = tf at *
          go_wp2_with fail
          refine (PP _).mono ?_
          rintro e w5 ⟨rfl, hc5⟩
          have u0 := hkeep hc5 r0
          have uC := rC.pure hc5
          clear r0 r2 rC hc5 PP
          go_wp2
          go_roundw
          case rel =>
            refine ⟨m + 1, tf, by go_num, hlt, HM2.out, HD2.out, HP2.out, HLK.out, ?_, uC.onObj (.inl (by simp)) _⟩
            rw [heap_onObj, if_pos rfl, u0, Option.map_some, laidAt_t]
          case measure => simp [intOf]; omega
    · have hme : m = l.length := Nat.le_antisymm hml hge
      have hdec : decide (m < l.length) = false := by simpa using hge
      have hXe : tm = X := by
        have := HL.out
        rw [hme, List.drop_length, List.filter_nil, laidT_nil] at this
        cases this; rfl
      subst hXe
      clear hme hge HL
      go_wp2
      refine bodyPost_ret (v := .agg (tcells tm)) (results_cell1 Tryz.results16 _ _ _ rfl (run_loadVar_row _ _ 26 26 (tcells tm) (0, 0) _ ?_ Tryz.underlying26 rfl (by rw [tcells_size]; kernel_rfl))) rfl ⟨rfl, ?_⟩
      · rw [heap_onObj, if_pos rfl, e1, Option.map_some, laidAt_t]
      · exact (hC3.trans2 hcm (by simp; omega)).onObj (.inr (by omega)) _
end Go.Proofs.Hc
