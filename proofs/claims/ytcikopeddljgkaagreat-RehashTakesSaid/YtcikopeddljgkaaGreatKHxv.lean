/- The reference of layer 17: Anew, Half. -/
import Derived.Test.YtcikopeddljgkaaGreatKHxu
import Derived.Test.YtcikopeddljgkaaGreatK0
set_option linter.unusedSimpArgs false
set_option linter.unusedVariables false
set_option maxHeartbeats 2000000
set_option maxRecDepth 100000
namespace Go.Proofs.Hc
open Go.RowKit
attribute [local go_sem] zbs zca zax zbc zbn zba zbm zbo zbu signed64 signed8 zar BitVec.ofInt_add BitVec.ofInt_mul ofInt_sub' zay zaz wide8 eqN neN zbz shr1 shr7 shr56
attribute [local go_sem high] zbb zbt
attribute [local go_sem] zag zbw zah zas zad zbe zaq zal zbl zan zbd zbf
attribute [local go_sem] load26 load73 load23 store26 build73
attribute [local go_sem ↓] lrow26 lrow73 lrow23 srow26 zero26 brow73 zac zaw zbg zaa zab
attribute [local go_sem] zai zav zat zbj zbk zbp zao zau zbq zbi zbh
attribute [local go_sem] nn2 nm2 nn3 nm3 nn4 nm4 nn5 nm5 nn6 nm6 nn7 nm7 nn8 nm8
section
attribute [local go_sem] loadA loadT2 storeA storeT2 zdj zdk zcj zdi zcd zce zct zcl zcy zco zcg zcz zcp zdh zdg
attribute [local go_sem ↓] lrowA lrowT2 srowA srowT2 browA zdf zcx
attribute [local go_sem] box26 zbx cell0 cell1 cell2 cell3 cell4 cell5 cell6
attribute [local go_sem] zar build_zero
attribute [local go_sem] loadP storeP allOne_pair
attribute [local go_sem ↓] lrowP srowP zeroP brow26
attribute [local go_sem high] zcb laidAt_p
attribute [local irreducible] tcells
theorem bare_may_of {t : Tab} {s : BitVec 64} (m : May t s) : May (bareT t.count t.depth t.pre) s := by
  obtain ⟨h0, h5, hp, _⟩ := (flatT_iff t).1 m.flat
  exact bare_may s (bare_flat h0 h5 hp)
theorem rAnew_any (t x : Tab) (s : BitVec 64) (m : May t s) (hx : laidT s (bareT t.count t.depth t.pre) (pairsT t) = .ok x) (w : World) :
    Calls Tryz.prog 19 #[U s, .agg (tcells t)] w fun e w' => e = .returned (.agg (tcells x)) ∧ Ch [] w w' := by
  have N1 := fun w => rNew_any t.count t.depth t.pre w
  have P1 := fun w => rPairs_any t w
  have hbm := bare_may_of m
  have hn : (pairsT t).length ≤ 900 := by have := pairs_le t; omega
  have L1 : ∀ (W : World) a c base, W.ownsRow base 31 2 (.slice a (pairsT t).length c) (pairsT t).length (pcells (pairsT t)) →
      Calls Tryz.prog 21 #[U s, .agg (tcells (bareT t.count t.depth t.pre)), .slice a (pairsT t).length c] W fun e w' => e = .returned (.tuple #[.agg (tcells x), I 0]) ∧ Ch [] W w' := by
    intro W a c base hown
    obtain ⟨cur, h1, h2, h3⟩ := pairs_at rfl hown
    have := rPuts_any (bareT t.count t.depth t.pre) s (pairsT t) a c cur W hbm hn h1 h2 (fun r hr => (h3 r hr).2)
    rw [hx] at this
    exact this
  generalize pairsT t = l at *
  generalize bareT t.count t.depth t.pre = bare at *
  clear hx hbm hn m
  obtain ⟨W0, hW0⟩ : ∃ W0, (w.alloc (.cells (tcells t) 26)).alloc (.cells (tcells zeroT) 26) = W0 := ⟨_, rfl⟩
  have hC0 : Ch [] w W0 := by rw [← hW0]; exact ((Ch.refl [] w).alloc _).alloc _
  have b0 : W0.heap[w.heap.size]? = some (.cells (tcells t) 26 (0, 0)) := by rw [← hW0]; simp [go_sem]
  have b1 : W0.heap[w.heap.size + 1]? = some (.cells (tcells zeroT) 26 (0, 0)) := by rw [← hW0]; simp [go_sem]
  go_enter Tryz.func19, Tryz.ntmps19
  go_wp2
  clear hW0
  obtain ⟨B, hB⟩ : ∃ B, w.heap.size = B := ⟨_, rfl⟩
  rw [hB] at b0 b1 ⊢
  have HB := Lib.hid hB
  clear hB
  have s1 : (fun W' : World => W'.heap[B]? = some (.cells (tcells t) 26 (0, 0))) W0.drew := b0
  have e1 : W0.drew.heap[B + 1]? = some (.cells (tcells zeroT) 26 (0, 0)) := b1
  have C1 : Ch [] w W0.drew := hC0.drew
  refine wp_region_held_drew (S := fun W' => W'.heap[B]? = some (.cells (tcells t) 26 (0, 0))) (by kernel_rfl) s1 ?_
  intro _
  simp only [List.size_toArray, List.length_cons, List.length_nil, Nat.reduceAdd]
  clear b0 b1 hC0
  generalize W0.drew = w1 at *
  refine tk 0 8 ?_ rfl s1 ?_ ?_; rotate_left
  · intro _ _; go_simp; try with_reducible rfl
  try go_frame
  refine tk 1 9 ?_ rfl s1 ?_ ?_; rotate_left
  · intro _ _; go_simp; try with_reducible rfl
  try go_frame
  refine tk 2 10 ?_ rfl s1 ?_ ?_; rotate_left
  · intro _ _; go_simp; try with_reducible rfl
  try go_frame
  refine tk 3 11 ?_ rfl s1 ?_ ?_; rotate_left
  · intro _ _; go_simp; try with_reducible rfl
  try go_frame
  refine tk 4 12 ?_ rfl s1 ?_ ?_; rotate_left
  · intro _ _; go_simp; try with_reducible rfl
  try go_frame
  refine tk 5 13 ?_ rfl s1 ?_ ?_; rotate_left
  · intro _ _; go_simp; try with_reducible rfl
  try go_frame
  refine tk 6 14 ?_ rfl s1 ?_ ?_; rotate_left
  · intro _ _; go_simp; try with_reducible rfl
  try go_frame
  refine tk 8 16 ?_ rfl s1 ?_ ?_; rotate_left
  · intro _ _; go_simp; try with_reducible rfl
  try go_frame
  refine wpAnyH_ready (rs := [7, 14]) (by decide +kernel) (by simp) ?_
  refine AllReadyH.cons rfl (fun K hK => ?_) (AllReadyH.cons (o := ⟨some 5, _, _, _, _, none⟩) rfl (fun K hK => ?_) AllReadyH.nil)
  · go_simp
    refine (N1 _).mono ?_
    rintro e w2 ⟨rfl, hc2⟩
    have s2 := hkeep hc2 s1
    have e2 := hkeep hc2 e1
    have C2 := C1.trans hc2
    refine hK.out _ _ s2 (fun _ => ?_)
    clear hK K hc2
    refine wpAnyH_ready (rs := [9, 14]) (by decide +kernel) (by simp) ?_
    refine AllReadyH.cons rfl (fun K hK => ?_) (AllReadyH.cons (o := ⟨some 5, _, _, _, _, none⟩) rfl (fun K hK => ?_) AllReadyH.nil)
    · go_simp
      refine (P1 _).mono ?_
      rintro e w3 ⟨a, c, rfl, o3, hc3⟩
      have s3 := hkeep hc3 s2
      have e3 := hkeep hc3 e2
      have C3 := C2.trans hc3
      refine hK.out _ _ s3 (fun _ => ?_)
      clear hK K hc3
      refine wpAnyH_ready (rs := [10, 14]) (by decide +kernel) (by simp) ?_
      refine AllReadyH.cons rfl (fun K hK => ?_) (AllReadyH.cons (o := ⟨some 5, _, _, _, _, none⟩) rfl (fun K hK => ?_) AllReadyH.nil)
      · go_simp
        refine (L1 _ a c _ o3).mono ?_
        rintro e w4 ⟨rfl, hc4⟩
        have s4 := hkeep hc4 s3
        have e4 := hkeep hc4 e3
        have C4 := C3.trans hc4
        refine hK.out _ _ s4 (fun _ => ?_)
        clear hK K hc4
        refine tk 11 7 ?_ rfl s4 ?_ ?_; rotate_left
        · intro _ _; go_simp; try with_reducible rfl
        try go_frame
        refine tk 12 19 ?_ rfl s4 ?_ ?_; rotate_left
        · intro _ _; go_simp; try with_reducible rfl
        try go_frame
        refine tk 13 20 ?_ rfl s4 ?_ ?_; rotate_left
        · intro _ _; go_simp; try with_reducible rfl
        try go_frame
        refine wpAnyH_ready (rs := [14]) (by decide +kernel) (by simp) ?_
        refine AllReadyH.cons (o := ⟨some 5, _, _, _, _, none⟩) rfl (fun K hK => ?_) AllReadyH.nil
        · go_simp
          have hc5 : Ch [] w4 (w4.alloc (.cells (tcells zeroT) 26)) := (Ch.refl [] w4).alloc _
          have s5 := hkeep hc5 s4
          have e5 := hkeep hc5 e4
          have C5 := C4.trans hc5
          have a5 : (w4.alloc (.cells (tcells zeroT) 26)).heap[w4.heap.size]? = some (.cells (tcells zeroT) 26 (0, 0)) := by simp [go_sem]
          have hAB : ¬ B = w4.heap.size := by have := (Array.getElem?_eq_some_iff.1 s4).1; omega
          have hAB1 : ¬ B + 1 = w4.heap.size := by have := (Array.getElem?_eq_some_iff.1 e4).1; omega
          have hAw : w.heap.size ≤ w4.heap.size := C4.size
          refine hK.out _ _ s5 (fun _ => ?_)
          clear hK K hc5
          generalize w4.alloc (.cells (tcells zeroT) 26) = w5 at *
          generalize w4.heap.size = A at *
          refine rd 15 rfl (fun K hK => ?_); go_simp
          have s6 : (World.onObj w5 A (laidAt 0 (tcells x))).heap[B]? = some (.cells (tcells t) 26 (0, 0)) := by rw [zab, if_neg hAB]; exact s5
          have e6 : (World.onObj w5 A (laidAt 0 (tcells x))).heap[B + 1]? = some (.cells (tcells zeroT) 26 (0, 0)) := by rw [zab, if_neg hAB1]; exact e5
          have a6 : (World.onObj w5 A (laidAt 0 (tcells x))).heap[A]? = some (.cells (tcells x) 26 (0, 0)) := by rw [zab, if_pos rfl, a5, Option.map_some, zcb]
          have C6 : Ch [] w (World.onObj w5 A (laidAt 0 (tcells x))) := C5.onObj (.inr hAw) _
          refine hK.out _ _ s6 (fun _ => ?_)
          clear hK K s5 e5 a5 C5
          generalize World.onObj w5 A (laidAt 0 (tcells x)) = w6 at *
          refine tk 16 6 ?_ rfl s6 ?_ ?_; rotate_left
          · intro _ _; go_simp; try with_reducible rfl
          try go_frame
          refine wpAnyH_done (by kernel_rfl) ?_ _
          go_wp2
          refine bodyPost_ret (v := .agg (tcells x)) (zcf Tryz.results19 _ _ _ rfl (run_loadVar_row _ _ 26 26 (tcells x) (0, 0) _ ?_ Tryz.underlying26 rfl (by rw [zai]; kernel_rfl))) rfl ⟨rfl, ?_⟩
          · rw [zab, if_pos rfl, e6, Option.map_some, zcb]
          · exact C6.onObj (.inr (by rw [HB.out]; omega)) _
      · go_simp
        have hc7 : Ch [] w3 (w3.alloc (.cells (tcells zeroT) 26)) := (Ch.refl [] w3).alloc _
        have s7 := hkeep hc7 s3
        have e7 := hkeep hc7 e3
        have C7 := C3.trans hc7
        have o7 := own_ch o3 hc7 (by simp)
        have a7 : (w3.alloc (.cells (tcells zeroT) 26)).heap[w3.heap.size]? = some (.cells (tcells zeroT) 26 (0, 0)) := by simp [go_sem]
        have hAB : ¬ B = w3.heap.size := by have := (Array.getElem?_eq_some_iff.1 s3).1; omega
        have hAB1 : ¬ B + 1 = w3.heap.size := by have := (Array.getElem?_eq_some_iff.1 e3).1; omega
        have hAw : w.heap.size ≤ w3.heap.size := C3.size
        refine hK.out _ _ s7 (fun _ => ?_)
        clear hK K hc7
        generalize w3.alloc (.cells (tcells zeroT) 26) = w7 at *
        generalize w3.heap.size = A at *
        refine wpAnyH_ready (rs := [10]) (by decide +kernel) (by simp) ?_
        refine AllReadyH.cons rfl (fun K hK => ?_) AllReadyH.nil
        · go_simp
          refine (L1 _ a c _ o7).mono ?_
          rintro e w8 ⟨rfl, hc8⟩
          have s8 := hkeep hc8 s7
          have e8 := hkeep hc8 e7
          have C8 := C7.trans hc8
          have a8 := hkeep hc8 a7
          refine hK.out _ _ s8 (fun _ => ?_)
          clear hK K hc8
          refine tk 11 7 ?_ rfl s8 ?_ ?_; rotate_left
          · intro _ _; go_simp; try with_reducible rfl
          try go_frame
          refine tk 12 19 ?_ rfl s8 ?_ ?_; rotate_left
          · intro _ _; go_simp; try with_reducible rfl
          try go_frame
          refine tk 13 20 ?_ rfl s8 ?_ ?_; rotate_left
          · intro _ _; go_simp; try with_reducible rfl
          try go_frame
          refine rd 15 rfl (fun K hK => ?_); go_simp
          have s9 : (World.onObj w8 A (laidAt 0 (tcells x))).heap[B]? = some (.cells (tcells t) 26 (0, 0)) := by rw [zab, if_neg hAB]; exact s8
          have e9 : (World.onObj w8 A (laidAt 0 (tcells x))).heap[B + 1]? = some (.cells (tcells zeroT) 26 (0, 0)) := by rw [zab, if_neg hAB1]; exact e8
          have a9 : (World.onObj w8 A (laidAt 0 (tcells x))).heap[A]? = some (.cells (tcells x) 26 (0, 0)) := by rw [zab, if_pos rfl, a8, Option.map_some, zcb]
          have C9 : Ch [] w (World.onObj w8 A (laidAt 0 (tcells x))) := C8.onObj (.inr hAw) _
          refine hK.out _ _ s9 (fun _ => ?_)
          clear hK K s8 e8 a8 C8
          generalize World.onObj w8 A (laidAt 0 (tcells x)) = w9 at *
          refine tk 16 6 ?_ rfl s9 ?_ ?_; rotate_left
          · intro _ _; go_simp; try with_reducible rfl
          try go_frame
          refine wpAnyH_done (by kernel_rfl) ?_ _
          go_wp2
          refine bodyPost_ret (v := .agg (tcells x)) (zcf Tryz.results19 _ _ _ rfl (run_loadVar_row _ _ 26 26 (tcells x) (0, 0) _ ?_ Tryz.underlying26 rfl (by rw [zai]; kernel_rfl))) rfl ⟨rfl, ?_⟩
          · rw [zab, if_pos rfl, e9, Option.map_some, zcb]
          · exact C9.onObj (.inr (by rw [HB.out]; omega)) _
    · go_simp
      have hc10 : Ch [] w2 (w2.alloc (.cells (tcells zeroT) 26)) := (Ch.refl [] w2).alloc _
      have s10 := hkeep hc10 s2
      have e10 := hkeep hc10 e2
      have C10 := C2.trans hc10
      have a10 : (w2.alloc (.cells (tcells zeroT) 26)).heap[w2.heap.size]? = some (.cells (tcells zeroT) 26 (0, 0)) := by simp [go_sem]
      have hAB : ¬ B = w2.heap.size := by have := (Array.getElem?_eq_some_iff.1 s2).1; omega
      have hAB1 : ¬ B + 1 = w2.heap.size := by have := (Array.getElem?_eq_some_iff.1 e2).1; omega
      have hAw : w.heap.size ≤ w2.heap.size := C2.size
      refine hK.out _ _ s10 (fun _ => ?_)
      clear hK K hc10
      generalize w2.alloc (.cells (tcells zeroT) 26) = w10 at *
      generalize w2.heap.size = A at *
      refine wpAnyH_ready (rs := [9]) (by decide +kernel) (by simp) ?_
      refine AllReadyH.cons rfl (fun K hK => ?_) AllReadyH.nil
      · go_simp
        refine (P1 _).mono ?_
        rintro e w11 ⟨a, c, rfl, o11, hc11⟩
        have s11 := hkeep hc11 s10
        have e11 := hkeep hc11 e10
        have C11 := C10.trans hc11
        have a11 := hkeep hc11 a10
        refine hK.out _ _ s11 (fun _ => ?_)
        clear hK K hc11
        refine wpAnyH_ready (rs := [10]) (by decide +kernel) (by simp) ?_
        refine AllReadyH.cons rfl (fun K hK => ?_) AllReadyH.nil
        · go_simp
          refine (L1 _ a c _ o11).mono ?_
          rintro e w12 ⟨rfl, hc12⟩
          have s12 := hkeep hc12 s11
          have e12 := hkeep hc12 e11
          have C12 := C11.trans hc12
          have a12 := hkeep hc12 a11
          refine hK.out _ _ s12 (fun _ => ?_)
          clear hK K hc12
          refine tk 11 7 ?_ rfl s12 ?_ ?_; rotate_left
          · intro _ _; go_simp; try with_reducible rfl
          try go_frame
          refine tk 12 19 ?_ rfl s12 ?_ ?_; rotate_left
          · intro _ _; go_simp; try with_reducible rfl
          try go_frame
          refine tk 13 20 ?_ rfl s12 ?_ ?_; rotate_left
          · intro _ _; go_simp; try with_reducible rfl
          try go_frame
          refine rd 15 rfl (fun K hK => ?_); go_simp
          have s13 : (World.onObj w12 A (laidAt 0 (tcells x))).heap[B]? = some (.cells (tcells t) 26 (0, 0)) := by rw [zab, if_neg hAB]; exact s12
          have e13 : (World.onObj w12 A (laidAt 0 (tcells x))).heap[B + 1]? = some (.cells (tcells zeroT) 26 (0, 0)) := by rw [zab, if_neg hAB1]; exact e12
          have a13 : (World.onObj w12 A (laidAt 0 (tcells x))).heap[A]? = some (.cells (tcells x) 26 (0, 0)) := by rw [zab, if_pos rfl, a12, Option.map_some, zcb]
          have C13 : Ch [] w (World.onObj w12 A (laidAt 0 (tcells x))) := C12.onObj (.inr hAw) _
          refine hK.out _ _ s13 (fun _ => ?_)
          clear hK K s12 e12 a12 C12
          generalize World.onObj w12 A (laidAt 0 (tcells x)) = w13 at *
          refine tk 16 6 ?_ rfl s13 ?_ ?_; rotate_left
          · intro _ _; go_simp; try with_reducible rfl
          try go_frame
          refine wpAnyH_done (by kernel_rfl) ?_ _
          go_wp2
          refine bodyPost_ret (v := .agg (tcells x)) (zcf Tryz.results19 _ _ _ rfl (run_loadVar_row _ _ 26 26 (tcells x) (0, 0) _ ?_ Tryz.underlying26 rfl (by rw [zai]; kernel_rfl))) rfl ⟨rfl, ?_⟩
          · rw [zab, if_pos rfl, e13, Option.map_some, zcb]
          · exact C13.onObj (.inr (by rw [HB.out]; omega)) _
  · go_simp
    have hc14 : Ch [] w1 (w1.alloc (.cells (tcells zeroT) 26)) := (Ch.refl [] w1).alloc _
    have s14 := hkeep hc14 s1
    have e14 := hkeep hc14 e1
    have C14 := C1.trans hc14
    have a14 : (w1.alloc (.cells (tcells zeroT) 26)).heap[w1.heap.size]? = some (.cells (tcells zeroT) 26 (0, 0)) := by simp [go_sem]
    have hAB : ¬ B = w1.heap.size := by have := (Array.getElem?_eq_some_iff.1 s1).1; omega
    have hAB1 : ¬ B + 1 = w1.heap.size := by have := (Array.getElem?_eq_some_iff.1 e1).1; omega
    have hAw : w.heap.size ≤ w1.heap.size := C1.size
    refine hK.out _ _ s14 (fun _ => ?_)
    clear hK K hc14
    generalize w1.alloc (.cells (tcells zeroT) 26) = w14 at *
    generalize w1.heap.size = A at *
    refine wpAnyH_ready (rs := [7]) (by decide +kernel) (by simp) ?_
    refine AllReadyH.cons rfl (fun K hK => ?_) AllReadyH.nil
    · go_simp
      refine (N1 _).mono ?_
      rintro e w15 ⟨rfl, hc15⟩
      have s15 := hkeep hc15 s14
      have e15 := hkeep hc15 e14
      have C15 := C14.trans hc15
      have a15 := hkeep hc15 a14
      refine hK.out _ _ s15 (fun _ => ?_)
      clear hK K hc15
      refine wpAnyH_ready (rs := [9]) (by decide +kernel) (by simp) ?_
      refine AllReadyH.cons rfl (fun K hK => ?_) AllReadyH.nil
      · go_simp
        refine (P1 _).mono ?_
        rintro e w16 ⟨a, c, rfl, o16, hc16⟩
        have s16 := hkeep hc16 s15
        have e16 := hkeep hc16 e15
        have C16 := C15.trans hc16
        have a16 := hkeep hc16 a15
        refine hK.out _ _ s16 (fun _ => ?_)
        clear hK K hc16
        refine wpAnyH_ready (rs := [10]) (by decide +kernel) (by simp) ?_
        refine AllReadyH.cons rfl (fun K hK => ?_) AllReadyH.nil
        · go_simp
          refine (L1 _ a c _ o16).mono ?_
          rintro e w17 ⟨rfl, hc17⟩
          have s17 := hkeep hc17 s16
          have e17 := hkeep hc17 e16
          have C17 := C16.trans hc17
          have a17 := hkeep hc17 a16
          refine hK.out _ _ s17 (fun _ => ?_)
          clear hK K hc17
          refine tk 11 7 ?_ rfl s17 ?_ ?_; rotate_left
          · intro _ _; go_simp; try with_reducible rfl
          try go_frame
          refine tk 12 19 ?_ rfl s17 ?_ ?_; rotate_left
          · intro _ _; go_simp; try with_reducible rfl
          try go_frame
          refine tk 13 20 ?_ rfl s17 ?_ ?_; rotate_left
          · intro _ _; go_simp; try with_reducible rfl
          try go_frame
          refine rd 15 rfl (fun K hK => ?_); go_simp
          have s18 : (World.onObj w17 A (laidAt 0 (tcells x))).heap[B]? = some (.cells (tcells t) 26 (0, 0)) := by rw [zab, if_neg hAB]; exact s17
          have e18 : (World.onObj w17 A (laidAt 0 (tcells x))).heap[B + 1]? = some (.cells (tcells zeroT) 26 (0, 0)) := by rw [zab, if_neg hAB1]; exact e17
          have a18 : (World.onObj w17 A (laidAt 0 (tcells x))).heap[A]? = some (.cells (tcells x) 26 (0, 0)) := by rw [zab, if_pos rfl, a17, Option.map_some, zcb]
          have C18 : Ch [] w (World.onObj w17 A (laidAt 0 (tcells x))) := C17.onObj (.inr hAw) _
          refine hK.out _ _ s18 (fun _ => ?_)
          clear hK K s17 e17 a17 C17
          generalize World.onObj w17 A (laidAt 0 (tcells x)) = w18 at *
          refine tk 16 6 ?_ rfl s18 ?_ ?_; rotate_left
          · intro _ _; go_simp; try with_reducible rfl
          try go_frame
          refine wpAnyH_done (by kernel_rfl) ?_ _
          go_wp2
          refine bodyPost_ret (v := .agg (tcells x)) (zcf Tryz.results19 _ _ _ rfl (run_loadVar_row _ _ 26 26 (tcells x) (0, 0) _ ?_ Tryz.underlying26 rfl (by rw [zai]; kernel_rfl))) rfl ⟨rfl, ?_⟩
          · rw [zab, if_pos rfl, e18, Option.map_some, zcb]
          · exact C18.onObj (.inr (by rw [HB.out]; omega)) _
end
end Go.Proofs.Hc
