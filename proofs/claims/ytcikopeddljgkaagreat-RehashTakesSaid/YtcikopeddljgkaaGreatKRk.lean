/- Package rehash: laid (printed by gen_laid20.py). -/
import Derived.Test.YtcikopeddljgkaaGreatKRz0
import Derived.Test.YtcikopeddljgkaaGreatK0
set_option linter.unusedSimpArgs false
set_option linter.unusedVariables false
set_option maxHeartbeats 2000000
set_option maxRecDepth 100000
namespace Go.Proofs.Hc
open Go.RowKit
attribute [local go_sem] zbs zca zax zbc zbn zba zbm zbo zbu signed64 signed8 zar BitVec.ofInt_add BitVec.ofInt_mul ofInt_sub' zay zaz wide8 eqN neN zbz shr1 shr7 shr56
attribute [local go_sem high] zbb zbt
attribute [local go_sem] zag zbw zah zas zad zbe zaq zal zbl zan zbd zbf
attribute [local go_sem] load26 load73 load23 store26 build73
attribute [local go_sem ↓] lrow26 lrow73 lrow23 srow26 zero26 brow73 zac zaw zbg zaa zab
attribute [local go_sem] zai zav zat zbj zbk zbp zao zau zbq zbi zbh
attribute [local go_sem] nn2 nm2 nn3 nm3 nn4 nm4 nn5 nm5 nn6 nm6 nn7 nm7 nn8 nm8
section
attribute [local go_sem] loadA loadT2 storeA storeT2 zdj zdk zcj zdi zcd zce zct zcl zcy zco zcg zcz zcp zdh zdg
attribute [local go_sem ↓] lrowA lrowT2 srowA srowT2 browA zdf zcx
attribute [local go_sem] zar zby
attribute [local go_sem] Oper.semAt_some zap
attribute [local go_sem] layC_idx lcell0 lcell1 lcell2 lcell3 lcell4 lcell5 lcell46
attribute [local go_sem] lay_g0 lay_g1 lay_g2 lay_g3 lay_g4 lay_g5 lay_g46 lay_s0 lay_s4 lay_s5 lay_s46 zck layC_one layC_all layC_ws boxLay loadLay storeLay build_lay box_lay buildLay0 buildLay2 buildLay3
attribute [local go_sem ↓] lrowLay srowLay browLay brow_lay zcs
attribute [local go_sem high] zaj
attribute [local irreducible] layC
attribute [local go_sem high] zcb
theorem lay_AtW (p : LayT) : AtW (layC p) 6 p.ws := fun j hj => lay_gw p j hj
theorem lay_splice (p : LayT) (x : Tab) : ((layC p).toList.take 6 ++ (twords x).map (fun v => U v) ++ (layC p).toList.drop (6 + ((twords x).map (fun v => U v)).length)).toArray = layC { p with ws := tword x } := by
  have hl1 : ((layC p).toList.take 6).length = 6 := by simp [zck]
  have hl2 : ((twords x).map (fun v => U v)).length = 40 := by rw [List.length_map, twords_len]
  apply Array.ext_getElem?; intro i
  rw [List.getElem?_toArray, hl2, layC_get { p with ws := tword x }]
  by_cases h1 : i < 6
  · rw [List.append_assoc, List.getElem?_append_left (by rw [hl1]; exact h1), List.getElem?_take, if_pos h1, Array.getElem?_toList, layC_get, if_pos (show i < 47 by omega), if_pos (show i < 47 by omega)]
    match i, h1 with
    | 0, _ => rfl
    | 1, _ => rfl
    | 2, _ => rfl
    | 3, _ => rfl
    | 4, _ => rfl
    | 5, _ => rfl
  · by_cases h2 : i < 46
    · rw [List.append_assoc, List.getElem?_append_right (by rw [hl1]; omega), hl1, List.getElem?_append_left (by rw [hl2]; omega), List.getElem?_map, twords_get _ _ (by omega), if_pos (show i < 47 by omega)]
      obtain ⟨k, rfl⟩ : ∃ k, i = k + 6 := ⟨i - 6, by omega⟩
      show some (U (tword x (k + 6 - 6))) = some (if k < 40 then U (tword x k) else _)
      rw [if_pos (by omega), show k + 6 - 6 = k by omega]
    · rw [List.getElem?_append_right (by rw [List.length_append, hl1, hl2]; omega), List.length_append, hl1, hl2, List.getElem?_drop, Array.getElem?_toList, show 6 + 40 + (i - (6 + 40)) = i by omega, layC_get]
      by_cases h3 : i < 47
      · rw [if_pos h3, if_pos h3]
        have : i = 46 := by omega
        subst this
        rfl
      · rw [if_neg h3, if_neg h3]
theorem tab_put (t : Tab) (w : World) : (World.onObj (w.alloc (.cells (tcells zeroT) 26)) w.heap.size (laidAt 0 (tcells t))).heap[w.heap.size]? = some (.cells (tcells t) 26 (0, 0)) := by
  rw [zab, if_pos rfl, zac, if_pos rfl, Option.map_some, zcb]
theorem tab_put_ch (S : List Nat) (t : Tab) (w : World) : Ch S w (World.onObj (w.alloc (.cells (tcells zeroT) 26)) w.heap.size (laidAt 0 (tcells t))) := ((Ch.refl S w).alloc _).onObj (.inr (Nat.le_refl _)) _
attribute [local irreducible] tcells
theorem laid_bad1 (p q : LayT) (g : Nat) (hq : q = { p with ws := updW p.ws 0 p.count }) (hr : readOk q.ws = false) (w : World) (hg : w.heap[g]? = some (.cells (layC p) 163 (0, 0))) :
    Calls Tryz.prog 197 #[.pointer (some ⟨g, 0, none⟩)] w fun e w' => e = .returned (.tuple #[]) ∧ w'.heap[g]? = some (.cells (layC { q with bad := true, ph := 4 }) 163 (0, 0)) ∧ Ch [g] w w' := by
  have T1 := fun w hg => Table_any g 6 40 (layC q) 163 q.ws (by omega) (by omega) w hg (lay_AtW q)
  have hre : readE q.ws = .error 260 := by unfold readE; rw [if_neg (by rw [hr]; decide)]
  rw [hre] at T1
  clear hre hr
  have Z1 := fun w => words_row2 zeroT (by decide) w
  have es : { p with ws := updW p.ws 0 p.count } = q := hq.symm
  have hq5 : (layC p).setIfInBounds 6 (U p.count) = layC q := by rw [← es]; exact lay_sw p 0 (by omega) p.count
  clear es hq
  have s0 : (fun W' : World => W'.heap[g]? = some (.cells (layC p) 163 (0, 0))) w := hg
  go_enter Tryz.func197, Tryz.ntmps197
  go_upto_region 0 with (fail)
  have g0 : w.drew.heap[g]? = some (.cells (layC p) 163 (0, 0)) := hg
  have C0 : Ch [g] w w.drew := (Ch.refl [g] w).drew
  clear s0 hg
  refine wp_region_held_drew (S := fun W' => W'.cell? ⟨g, 4, none⟩ = some (U p.count)) (by kernel_rfl) (by rw [zag, g0, Option.bind_some, zah]; exact lay_g4 p) ?_
  intro _
  simp only [List.size_toArray, List.length_cons, List.length_nil, Nat.reduceAdd]
  generalize w.drew = w0 at *
  have hc4 : w0.cell? ⟨g, 4, none⟩ = some (U p.count) := (by rw [zag, g0, Option.bind_some, zah]; exact lay_g4 p)
  refine tk 0 6 ?_ rfl hc4 ?_ ?_; rotate_left
  · intro wq hSq; rw [zag] at hSq; go_simp; try with_reducible rfl
  try go_frame
  refine tk 1 7 ?_ rfl hc4 ?_ ?_; rotate_left
  · intro wq hSq; rw [zag] at hSq; go_simp; try with_reducible rfl
  try go_frame
  refine tk 2 8 ?_ rfl hc4 ?_ ?_; rotate_left
  · intro wq hSq; rw [zag] at hSq; go_simp; try with_reducible rfl
  try go_frame
  refine tk 3 9 ?_ rfl hc4 ?_ ?_; rotate_left
  · intro wq hSq; rw [zag] at hSq; go_simp; try with_reducible rfl
  try go_frame
  refine tk 4 10 ?_ rfl hc4 ?_ ?_; rotate_left
  · intro wq hSq; rw [zag] at hSq; go_simp; try with_reducible rfl
  try go_frame
  refine tk 5 11 ?_ rfl hc4 ?_ ?_; rotate_left
  · intro wq hSq; rw [zag] at hSq; go_simp; try with_reducible rfl
  try go_frame
  refine tk 6 12 ?_ rfl hc4 ?_ ?_; rotate_left
  · intro _ _; go_simp; try with_reducible rfl
  try go_frame
  refine tk 7 13 ?_ rfl hc4 ?_ ?_; rotate_left
  · intro _ _; go_simp; try with_reducible rfl
  try go_frame
  refine tk 8 14 ?_ rfl hc4 ?_ ?_; rotate_left
  · intro _ _; go_simp; try with_reducible rfl
  try go_frame
  refine tk 9 15 ?_ rfl hc4 ?_ ?_; rotate_left
  · intro _ _; go_simp; try with_reducible rfl
  try go_frame
  refine rd 10 rfl (fun K hK => ?_); go_simp
  have g1 : (w0.setCell ⟨g, 6, none⟩ (U p.count)).heap[g]? = some (.cells (layC q) 163 (0, 0)) := by rw [zaa, if_pos rfl, g0, Option.map_some, zad, hq5]
  have C1 := C0.setCell (p := ⟨g, 6, none⟩) (.inl (by simp)) (U p.count)
  refine hK.out _ _ ?_ (fun _ => ?_)
  · rw [zag, zaa, if_pos rfl, g0, Option.map_some, zad, hq5, Option.bind_some, zah, ← hq5, Array.getElem?_setIfInBounds, if_neg (by decide)]; exact lay_g4 p
  clear hK K hc4 hq5 g0 C0
  obtain ⟨w1, hw1⟩ : ∃ W, w0.setCell ⟨g, 6, none⟩ (U p.count) = W := ⟨_, rfl⟩
  rw [hw1] at g1 C1 ⊢
  clear hw1
  refine wpAnyH_done (by kernel_rfl) ?_ _
  go_wp2_with fail
  refine (T1 _ g1).mono ?_
  rintro e w2 ⟨rfl, hc2⟩
  have g2 := hkeep hc2 g1
  have C2 := C1.trans hc2.of_nil
  clear g1 C1 hc2 T1
  simp only [tupOr]
  go_upto_region 4 with (fail)
  have hgl := (Array.getElem?_eq_some_iff.1 g2).1
  have m3 := tab_put zeroT w2
  have hc3 := tab_put_ch [] zeroT w2
  have g3 := hkeep hc3 g2
  have C3 := C2.trans hc3.of_nil
  have hMw : w.heap.size ≤ w2.heap.size := C2.size
  obtain ⟨w3, hw3⟩ : ∃ W, World.onObj (w2.alloc (.cells (tcells zeroT) 26)) w2.heap.size (laidAt 0 (tcells zeroT)) = W := ⟨_, rfl⟩
  first | rw [hw3] at m3 g3 C3 ⊢ | (simp only [zcb] at hw3; rw [hw3] at m3 g3 C3 ⊢)
  clear hw3 hc3 g2 C2
  obtain ⟨M, hM⟩ : ∃ M, w2.heap.size = M := ⟨_, rfl⟩
  have hgM : ¬ g = M := by omega
  have hMw : w.heap.size ≤ M := by omega
  rw [hM] at m3 ⊢
  clear hM hgl
  go_wp2_with fail
  refine (Z1 _).mono ?_
  rintro e w7 ⟨R, cR, cur, rfl, hRw, hcur, h40, hR, hc7⟩
  have h40I : (40 : Int) ≤ cR := by omega
  have g7 := hkeep hc7 g3
  have C7 := C3.trans hc7.of_nil
  have hgk := (Array.getElem?_eq_some_iff.1 g3).1
  have hgR : ¬ g = R := by omega
  clear hc7 g3 m3 C3 hgk hRw
  go_wp2
  refine bodyPost_ret (results_none rfl _ _ _) rfl ⟨rfl, ?_, (C7.setCell (p := ⟨g, 46, none⟩) (.inl (by simp)) _).setCell (p := ⟨g, 0, none⟩) (.inl (by simp)) _⟩
  simp only [zaa, if_true, g7, Option.map_some, zad]
  rw [lay_s46, lay_s0]
theorem laid_bad2 (p q : LayT) (g : Nat) (hq : q = { p with ws := updW p.ws 0 p.count }) (hr : readOk q.ws = true) (hm : mayT (readTab q.ws) q.seed = false) (w : World) (hg : w.heap[g]? = some (.cells (layC p) 163 (0, 0))) :
    Calls Tryz.prog 197 #[.pointer (some ⟨g, 0, none⟩)] w fun e w' => e = .returned (.tuple #[]) ∧ w'.heap[g]? = some (.cells (layC { q with bad := true, ph := 4 }) 163 (0, 0)) ∧ Ch [g] w w' := by
  have T1 := fun w hg => Table_any g 6 40 (layC q) 163 q.ws (by omega) (by omega) w hg (lay_AtW q)
  have hre : readE q.ws = .ok (readTab q.ws) := by unfold readE; rw [if_pos hr]
  rw [hre] at T1
  have A1 := fun w => Anew_any (readTab q.ws) q.seed w
  have hif : ifMay (readTab q.ws) q.seed (anewT (readTab q.ws) q.seed) = .error 270 := by unfold ifMay; rw [if_neg (by rw [hm]; decide)]
  rw [hif] at A1
  clear hif
  obtain ⟨tt, htt⟩ : ∃ t, readTab q.ws = t := ⟨_, rfl⟩
  rw [htt] at T1 A1
  clear htt hre hr hm
  have Z1 := fun w => words_row2 zeroT (by decide) w
  have es : { p with ws := updW p.ws 0 p.count } = q := hq.symm
  have hq5 : (layC p).setIfInBounds 6 (U p.count) = layC q := by rw [← es]; exact lay_sw p 0 (by omega) p.count
  clear es hq
  have s0 : (fun W' : World => W'.heap[g]? = some (.cells (layC p) 163 (0, 0))) w := hg
  go_enter Tryz.func197, Tryz.ntmps197
  go_upto_region 0 with (fail)
  have g0 : w.drew.heap[g]? = some (.cells (layC p) 163 (0, 0)) := hg
  have C0 : Ch [g] w w.drew := (Ch.refl [g] w).drew
  clear s0 hg
  refine wp_region_held_drew (S := fun W' => W'.cell? ⟨g, 4, none⟩ = some (U p.count)) (by kernel_rfl) (by rw [zag, g0, Option.bind_some, zah]; exact lay_g4 p) ?_
  intro _
  simp only [List.size_toArray, List.length_cons, List.length_nil, Nat.reduceAdd]
  generalize w.drew = w0 at *
  have hc4 : w0.cell? ⟨g, 4, none⟩ = some (U p.count) := (by rw [zag, g0, Option.bind_some, zah]; exact lay_g4 p)
  refine tk 0 6 ?_ rfl hc4 ?_ ?_; rotate_left
  · intro wq hSq; rw [zag] at hSq; go_simp; try with_reducible rfl
  try go_frame
  refine tk 1 7 ?_ rfl hc4 ?_ ?_; rotate_left
  · intro wq hSq; rw [zag] at hSq; go_simp; try with_reducible rfl
  try go_frame
  refine tk 2 8 ?_ rfl hc4 ?_ ?_; rotate_left
  · intro wq hSq; rw [zag] at hSq; go_simp; try with_reducible rfl
  try go_frame
  refine tk 3 9 ?_ rfl hc4 ?_ ?_; rotate_left
  · intro wq hSq; rw [zag] at hSq; go_simp; try with_reducible rfl
  try go_frame
  refine tk 4 10 ?_ rfl hc4 ?_ ?_; rotate_left
  · intro wq hSq; rw [zag] at hSq; go_simp; try with_reducible rfl
  try go_frame
  refine tk 5 11 ?_ rfl hc4 ?_ ?_; rotate_left
  · intro wq hSq; rw [zag] at hSq; go_simp; try with_reducible rfl
  try go_frame
  refine tk 6 12 ?_ rfl hc4 ?_ ?_; rotate_left
  · intro _ _; go_simp; try with_reducible rfl
  try go_frame
  refine tk 7 13 ?_ rfl hc4 ?_ ?_; rotate_left
  · intro _ _; go_simp; try with_reducible rfl
  try go_frame
  refine tk 8 14 ?_ rfl hc4 ?_ ?_; rotate_left
  · intro _ _; go_simp; try with_reducible rfl
  try go_frame
  refine tk 9 15 ?_ rfl hc4 ?_ ?_; rotate_left
  · intro _ _; go_simp; try with_reducible rfl
  try go_frame
  refine rd 10 rfl (fun K hK => ?_); go_simp
  have g1 : (w0.setCell ⟨g, 6, none⟩ (U p.count)).heap[g]? = some (.cells (layC q) 163 (0, 0)) := by rw [zaa, if_pos rfl, g0, Option.map_some, zad, hq5]
  have C1 := C0.setCell (p := ⟨g, 6, none⟩) (.inl (by simp)) (U p.count)
  refine hK.out _ _ ?_ (fun _ => ?_)
  · rw [zag, zaa, if_pos rfl, g0, Option.map_some, zad, hq5, Option.bind_some, zah, ← hq5, Array.getElem?_setIfInBounds, if_neg (by decide)]; exact lay_g4 p
  clear hK K hc4 hq5 g0 C0
  obtain ⟨w1, hw1⟩ : ∃ W, w0.setCell ⟨g, 6, none⟩ (U p.count) = W := ⟨_, rfl⟩
  rw [hw1] at g1 C1 ⊢
  clear hw1
  refine wpAnyH_done (by kernel_rfl) ?_ _
  go_wp2_with fail
  refine (T1 _ g1).mono ?_
  rintro e w2 ⟨rfl, hc2⟩
  have g2 := hkeep hc2 g1
  have C2 := C1.trans hc2.of_nil
  clear g1 C1 hc2 T1
  simp only [tupOr]
  go_upto_region 3 with (fail)
  have hgl := (Array.getElem?_eq_some_iff.1 g2).1
  have m3 := tab_put tt w2
  have hc3 := tab_put_ch [] tt w2
  have g3 := hkeep hc3 g2
  have C3 := C2.trans hc3.of_nil
  have hMw : w.heap.size ≤ w2.heap.size := C2.size
  obtain ⟨w3, hw3⟩ : ∃ W, World.onObj (w2.alloc (.cells (tcells zeroT) 26)) w2.heap.size (laidAt 0 (tcells tt)) = W := ⟨_, rfl⟩
  first | rw [hw3] at m3 g3 C3 ⊢ | (simp only [zcb] at hw3; rw [hw3] at m3 g3 C3 ⊢)
  clear hw3 hc3 g2 C2
  obtain ⟨M, hM⟩ : ∃ M, w2.heap.size = M := ⟨_, rfl⟩
  have hgM : ¬ g = M := by omega
  have hMw : w.heap.size ≤ M := by omega
  rw [hM] at m3 ⊢
  clear hM hgl
  have g4 : w3.drew.heap[g]? = some (.cells (layC q) 163 (0, 0)) := g3
  have m4 : w3.drew.heap[M]? = _ := m3
  have C4 : Ch [g] w w3.drew := C3.drew
  refine wp_region_held_drew (S := fun W' => W'.heap[g]? = some (.cells (layC q) 163 (0, 0))) (by kernel_rfl) g4 ?_
  intro _
  simp only [List.size_toArray, List.length_cons, List.length_nil, Nat.reduceAdd]
  clear g3 m3 C3
  generalize w3.drew = w4 at *
  refine tk 0 28 ?_ rfl g4 ?_ ?_; rotate_left
  · intro _ _; go_simp; try with_reducible rfl
  try go_frame
  refine tk 1 29 ?_ rfl g4 ?_ ?_; rotate_left
  · intro _ _; go_simp; try with_reducible rfl
  try go_frame
  refine tk 2 30 ?_ rfl g4 ?_ ?_; rotate_left
  · intro _ _; go_simp; try with_reducible rfl
  try go_frame
  refine tk 3 31 ?_ rfl g4 ?_ ?_; rotate_left
  · intro _ _; go_simp; try with_reducible rfl
  try go_frame
  refine tk 4 32 ?_ rfl g4 ?_ ?_; rotate_left
  · intro _ _; go_simp; try with_reducible rfl
  try go_frame
  refine rd (o := ⟨some 33, _, _, _, _, none⟩) 5 rfl (fun K hK => ?_); go_simp
  refine hK.out _ _ g4 (fun _ => ?_)
  clear hK K
  refine rd (o := ⟨some 34, _, _, _, _, none⟩) 6 rfl (fun K hK => ?_); go_simp
  refine (A1 _).mono ?_
  rintro e w5 ⟨rfl, hc5⟩
  have g5 := hkeep hc5 g4
  have m5 := hkeep hc5 m4
  have C5 := C4.trans hc5.of_nil
  simp only [tupOr]
  refine hK.out _ _ g5 (fun _ => ?_)
  clear hK K hc5 g4 m4 C4 A1
  refine tk 7 27 ?_ rfl g5 ?_ ?_; rotate_left
  · intro _ _; go_simp; try with_reducible rfl
  try go_frame
  refine tk 8 35 ?_ rfl g5 ?_ ?_; rotate_left
  · intro _ _; go_simp; try with_reducible rfl
  try go_frame
  refine tk 9 36 ?_ rfl g5 ?_ ?_; rotate_left
  · intro _ _; go_simp; try with_reducible rfl
  try go_frame
  refine rd 10 rfl (fun K hK => ?_); go_simp
  have g6 : (World.onObj w5 M (laidAt 0 (tcells zeroT))).heap[g]? = some (.cells (layC q) 163 (0, 0)) := by rw [zab, if_neg hgM]; exact g5
  have m6 : (World.onObj w5 M (laidAt 0 (tcells zeroT))).heap[M]? = some (.cells (tcells zeroT) 26 (0, 0)) := by rw [zab, if_pos rfl, m5, Option.map_some, zcb]
  have C6 : Ch [g] w (World.onObj w5 M (laidAt 0 (tcells zeroT))) := C5.onObj (.inr hMw) _
  refine hK.out _ _ g6 (fun _ => ?_)
  clear hK K g5 m5 C5
  generalize World.onObj w5 M (laidAt 0 (tcells zeroT)) = w6 at *
  refine tk 11 3 ?_ rfl g6 ?_ ?_; rotate_left
  · intro _ _; go_simp; try with_reducible rfl
  try go_frame
  refine wpAnyH_done (by kernel_rfl) ?_ _
  go_wp2_with fail
  refine (Z1 _).mono ?_
  rintro e w7 ⟨R, cR, cur, rfl, hRw, hcur, h40, hR, hc7⟩
  have h40I : (40 : Int) ≤ cR := by omega
  have g7 := hkeep hc7 g6
  have C7 := C6.trans hc7.of_nil
  have hgk := (Array.getElem?_eq_some_iff.1 g6).1
  have hgR : ¬ g = R := by omega
  clear hc7 g6 m6 C6 hgk hRw
  go_wp2
  refine bodyPost_ret (results_none rfl _ _ _) rfl ⟨rfl, ?_, (C7.setCell (p := ⟨g, 46, none⟩) (.inl (by simp)) _).setCell (p := ⟨g, 0, none⟩) (.inl (by simp)) _⟩
  simp only [zaa, if_true, g7, Option.map_some, zad]
  rw [lay_s46, lay_s0]
theorem laid_good (p q : LayT) (g : Nat) (hq : q = { p with ws := updW p.ws 0 p.count }) (x : Tab) (hr : readOk q.ws = true) (hm : mayT (readTab q.ws) q.seed = true) (hx : anewT (readTab q.ws) q.seed = .ok x) (w : World) (hg : w.heap[g]? = some (.cells (layC p) 163 (0, 0))) :
    Calls Tryz.prog 197 #[.pointer (some ⟨g, 0, none⟩)] w fun e w' => e = .returned (.tuple #[]) ∧ w'.heap[g]? = some (.cells (layC { q with ws := tword x, ph := 3, at_ := 1 }) 163 (0, 0)) ∧ Ch [g] w w' := by
  have T1 := fun w hg => Table_any g 6 40 (layC q) 163 q.ws (by omega) (by omega) w hg (lay_AtW q)
  have hre : readE q.ws = .ok (readTab q.ws) := by unfold readE; rw [if_pos hr]
  rw [hre] at T1
  have A1 := fun w => Anew_any (readTab q.ws) q.seed w
  have hif : ifMay (readTab q.ws) q.seed (anewT (readTab q.ws) q.seed) = .ok x := by unfold ifMay; rw [if_pos hm, hx]
  rw [hif] at A1
  have hfx := anewT_flat hm hx
  have X1 := fun w => words_row2 x hfx w
  clear hif hfx hx
  obtain ⟨tt, htt⟩ : ∃ t, readTab q.ws = t := ⟨_, rfl⟩
  rw [htt] at T1 A1
  clear htt hre hr hm
  have es : { p with ws := updW p.ws 0 p.count } = q := hq.symm
  have hq5 : (layC p).setIfInBounds 6 (U p.count) = layC q := by rw [← es]; exact lay_sw p 0 (by omega) p.count
  clear es hq
  have s0 : (fun W' : World => W'.heap[g]? = some (.cells (layC p) 163 (0, 0))) w := hg
  go_enter Tryz.func197, Tryz.ntmps197
  go_upto_region 0 with (fail)
  have g0 : w.drew.heap[g]? = some (.cells (layC p) 163 (0, 0)) := hg
  have C0 : Ch [g] w w.drew := (Ch.refl [g] w).drew
  clear s0 hg
  refine wp_region_held_drew (S := fun W' => W'.cell? ⟨g, 4, none⟩ = some (U p.count)) (by kernel_rfl) (by rw [zag, g0, Option.bind_some, zah]; exact lay_g4 p) ?_
  intro _
  simp only [List.size_toArray, List.length_cons, List.length_nil, Nat.reduceAdd]
  generalize w.drew = w0 at *
  have hc4 : w0.cell? ⟨g, 4, none⟩ = some (U p.count) := (by rw [zag, g0, Option.bind_some, zah]; exact lay_g4 p)
  refine tk 0 6 ?_ rfl hc4 ?_ ?_; rotate_left
  · intro wq hSq; rw [zag] at hSq; go_simp; try with_reducible rfl
  try go_frame
  refine tk 1 7 ?_ rfl hc4 ?_ ?_; rotate_left
  · intro wq hSq; rw [zag] at hSq; go_simp; try with_reducible rfl
  try go_frame
  refine tk 2 8 ?_ rfl hc4 ?_ ?_; rotate_left
  · intro wq hSq; rw [zag] at hSq; go_simp; try with_reducible rfl
  try go_frame
  refine tk 3 9 ?_ rfl hc4 ?_ ?_; rotate_left
  · intro wq hSq; rw [zag] at hSq; go_simp; try with_reducible rfl
  try go_frame
  refine tk 4 10 ?_ rfl hc4 ?_ ?_; rotate_left
  · intro wq hSq; rw [zag] at hSq; go_simp; try with_reducible rfl
  try go_frame
  refine tk 5 11 ?_ rfl hc4 ?_ ?_; rotate_left
  · intro wq hSq; rw [zag] at hSq; go_simp; try with_reducible rfl
  try go_frame
  refine tk 6 12 ?_ rfl hc4 ?_ ?_; rotate_left
  · intro _ _; go_simp; try with_reducible rfl
  try go_frame
  refine tk 7 13 ?_ rfl hc4 ?_ ?_; rotate_left
  · intro _ _; go_simp; try with_reducible rfl
  try go_frame
  refine tk 8 14 ?_ rfl hc4 ?_ ?_; rotate_left
  · intro _ _; go_simp; try with_reducible rfl
  try go_frame
  refine tk 9 15 ?_ rfl hc4 ?_ ?_; rotate_left
  · intro _ _; go_simp; try with_reducible rfl
  try go_frame
  refine rd 10 rfl (fun K hK => ?_); go_simp
  have g1 : (w0.setCell ⟨g, 6, none⟩ (U p.count)).heap[g]? = some (.cells (layC q) 163 (0, 0)) := by rw [zaa, if_pos rfl, g0, Option.map_some, zad, hq5]
  have C1 := C0.setCell (p := ⟨g, 6, none⟩) (.inl (by simp)) (U p.count)
  refine hK.out _ _ ?_ (fun _ => ?_)
  · rw [zag, zaa, if_pos rfl, g0, Option.map_some, zad, hq5, Option.bind_some, zah, ← hq5, Array.getElem?_setIfInBounds, if_neg (by decide)]; exact lay_g4 p
  clear hK K hc4 hq5 g0 C0
  obtain ⟨w1, hw1⟩ : ∃ W, w0.setCell ⟨g, 6, none⟩ (U p.count) = W := ⟨_, rfl⟩
  rw [hw1] at g1 C1 ⊢
  clear hw1
  refine wpAnyH_done (by kernel_rfl) ?_ _
  go_wp2_with fail
  refine (T1 _ g1).mono ?_
  rintro e w2 ⟨rfl, hc2⟩
  have g2 := hkeep hc2 g1
  have C2 := C1.trans hc2.of_nil
  clear g1 C1 hc2 T1
  simp only [tupOr]
  go_upto_region 3 with (fail)
  have hgl := (Array.getElem?_eq_some_iff.1 g2).1
  have m3 := tab_put tt w2
  have hc3 := tab_put_ch [] tt w2
  have g3 := hkeep hc3 g2
  have C3 := C2.trans hc3.of_nil
  have hMw : w.heap.size ≤ w2.heap.size := C2.size
  obtain ⟨w3, hw3⟩ : ∃ W, World.onObj (w2.alloc (.cells (tcells zeroT) 26)) w2.heap.size (laidAt 0 (tcells tt)) = W := ⟨_, rfl⟩
  first | rw [hw3] at m3 g3 C3 ⊢ | (simp only [zcb] at hw3; rw [hw3] at m3 g3 C3 ⊢)
  clear hw3 hc3 g2 C2
  obtain ⟨M, hM⟩ : ∃ M, w2.heap.size = M := ⟨_, rfl⟩
  have hgM : ¬ g = M := by omega
  have hMw : w.heap.size ≤ M := by omega
  rw [hM] at m3 ⊢
  clear hM hgl
  have g4 : w3.drew.heap[g]? = some (.cells (layC q) 163 (0, 0)) := g3
  have m4 : w3.drew.heap[M]? = _ := m3
  have C4 : Ch [g] w w3.drew := C3.drew
  refine wp_region_held_drew (S := fun W' => W'.heap[g]? = some (.cells (layC q) 163 (0, 0))) (by kernel_rfl) g4 ?_
  intro _
  simp only [List.size_toArray, List.length_cons, List.length_nil, Nat.reduceAdd]
  clear g3 m3 C3
  generalize w3.drew = w4 at *
  refine tk 0 28 ?_ rfl g4 ?_ ?_; rotate_left
  · intro _ _; go_simp; try with_reducible rfl
  try go_frame
  refine tk 1 29 ?_ rfl g4 ?_ ?_; rotate_left
  · intro _ _; go_simp; try with_reducible rfl
  try go_frame
  refine tk 2 30 ?_ rfl g4 ?_ ?_; rotate_left
  · intro _ _; go_simp; try with_reducible rfl
  try go_frame
  refine tk 3 31 ?_ rfl g4 ?_ ?_; rotate_left
  · intro _ _; go_simp; try with_reducible rfl
  try go_frame
  refine tk 4 32 ?_ rfl g4 ?_ ?_; rotate_left
  · intro _ _; go_simp; try with_reducible rfl
  try go_frame
  refine rd (o := ⟨some 33, _, _, _, _, none⟩) 5 rfl (fun K hK => ?_); go_simp
  refine hK.out _ _ g4 (fun _ => ?_)
  clear hK K
  refine rd (o := ⟨some 34, _, _, _, _, none⟩) 6 rfl (fun K hK => ?_); go_simp
  refine (A1 _).mono ?_
  rintro e w5 ⟨rfl, hc5⟩
  have g5 := hkeep hc5 g4
  have m5 := hkeep hc5 m4
  have C5 := C4.trans hc5.of_nil
  simp only [tupOr]
  refine hK.out _ _ g5 (fun _ => ?_)
  clear hK K hc5 g4 m4 C4 A1
  refine tk 7 27 ?_ rfl g5 ?_ ?_; rotate_left
  · intro _ _; go_simp; try with_reducible rfl
  try go_frame
  refine tk 8 35 ?_ rfl g5 ?_ ?_; rotate_left
  · intro _ _; go_simp; try with_reducible rfl
  try go_frame
  refine tk 9 36 ?_ rfl g5 ?_ ?_; rotate_left
  · intro _ _; go_simp; try with_reducible rfl
  try go_frame
  refine rd 10 rfl (fun K hK => ?_); go_simp
  have g6 : (World.onObj w5 M (laidAt 0 (tcells x))).heap[g]? = some (.cells (layC q) 163 (0, 0)) := by rw [zab, if_neg hgM]; exact g5
  have m6 : (World.onObj w5 M (laidAt 0 (tcells x))).heap[M]? = some (.cells (tcells x) 26 (0, 0)) := by rw [zab, if_pos rfl, m5, Option.map_some, zcb]
  have C6 : Ch [g] w (World.onObj w5 M (laidAt 0 (tcells x))) := C5.onObj (.inr hMw) _
  refine hK.out _ _ g6 (fun _ => ?_)
  clear hK K g5 m5 C5
  generalize World.onObj w5 M (laidAt 0 (tcells x)) = w6 at *
  refine tk 11 3 ?_ rfl g6 ?_ ?_; rotate_left
  · intro _ _; go_simp; try with_reducible rfl
  try go_frame
  refine wpAnyH_done (by kernel_rfl) ?_ _
  go_wp2_with fail
  refine (X1 _).mono ?_
  rintro e w7 ⟨R, cR, cur, rfl, hRw, hcur, h40, hR, hc7⟩
  have h40I : (40 : Int) ≤ cR := by omega
  have g7 := hkeep hc7 g6
  have C7 := C6.trans hc7.of_nil
  have hgk := (Array.getElem?_eq_some_iff.1 g6).1
  have hgR : ¬ g = R := by omega
  clear hc7 g6 m6 C6 hgk hRw
  go_upto_region 7 with (fail)
  have g8 : w7.drew.heap[g]? = some (.cells (layC q) 163 (0, 0)) := g7
  have R8 : w7.drew.heap[R]? = _ := hR
  have C8 : Ch [g] w w7.drew := C7.drew
  refine wp_region_held_drew (S := fun _ => True) (by kernel_rfl) trivial ?_
  intro _
  simp only [List.size_toArray, List.length_cons, List.length_nil, Nat.reduceAdd]
  clear g7 hR C7
  generalize w7.drew = w8 at *
  have hcp := run_copy_row (P := Tryz.prog) w8 44 44 3 22 g 6 40 40 ⟨R, 0, none⟩ 40 40 (layC q) 163 ((twords x).map fun v => U v) Tryz.underlying44 (by kernel_rfl) g8 (by rw [List.length_map, twords_len]; rfl) (by
    intro j v hj
    rw [List.getElem?_map] at hj
    obtain ⟨y, hy, rfl⟩ := Option.map_eq_some_iff.1 hj
    rw [Addr.add_lit, zag, R8, Option.bind_some, zah, Nat.zero_add]
    exact hcur j y hy) (by rw [List.length_map, twords_len, zck]; omega) (words_one (twords x))
  rw [lay_splice] at hcp
  rw [show ((twords x).map fun v => U v).length = 40 by rw [List.length_map, twords_len]] at hcp
  refine tk 0 56 ?_ rfl trivial ?_ ?_; rotate_left
  · intro _ _; go_simp; try with_reducible rfl
  try go_frame
  refine tk 1 57 ?_ rfl trivial ?_ ?_; rotate_left
  · intro _ _; go_simp; try with_reducible rfl
  try go_frame
  refine tk 2 58 ?_ rfl trivial ?_ ?_; rotate_left
  · intro _ _; go_simp; try with_reducible rfl
  try go_frame
  refine tk 3 59 ?_ rfl trivial ?_ ?_; rotate_left
  · intro _ _; go_simp; try with_reducible rfl
  try go_frame
  refine tk 4 60 ?_ rfl trivial ?_ ?_; rotate_left
  · intro _ _; go_simp; try with_reducible rfl
  try go_frame
  refine tk 5 61 ?_ rfl trivial ?_ ?_; rotate_left
  · intro _ _; go_simp; try with_reducible rfl
  try go_frame
  refine tk 6 62 ?_ rfl trivial ?_ ?_; rotate_left
  · intro _ _; go_simp; try with_reducible rfl
  try go_frame
  refine rd 7 rfl (fun K hK => ?_); go_simp
  have g9 := setRow_rd (cu' := layC { q with ws := tword x }) g8
  have C9 : Ch [g] w (w8.setRow g (layC { q with ws := tword x })) := C8.trans (setRow_ch _)
  refine hK.out _ _ trivial (fun _ => ?_)
  clear hK K hcp g8 C8 R8 hcur
  obtain ⟨w9, hw9⟩ : ∃ W, (w8.setRow g (layC { q with ws := tword x })) = W := ⟨_, rfl⟩
  rw [hw9] at g9 C9 ⊢
  clear hw9
  refine wpAnyH_done (by kernel_rfl) ?_ _
  go_wp2
  go_end0
  refine ⟨rfl, ?_, (C9.setCell (p := ⟨g, 0, none⟩) (.inl (by simp)) _).setCell (p := ⟨g, 5, none⟩) (.inl (by simp)) _⟩
  simp only [zaa, if_true, g9, Option.map_some, zad]
  rw [lay_s0, lay_s5]
theorem laid_any (p : LayT) (g : Nat) (w : World) (hg : w.heap[g]? = some (.cells (layC p) 163 (0, 0))) :
    Calls Tryz.prog 197 #[.pointer (some ⟨g, 0, none⟩)] w fun e w' => e = .returned (.tuple #[]) ∧ w'.heap[g]? = some (.cells (layC (laidL { p with ws := updW p.ws 0 p.count })) 163 (0, 0)) ∧ Ch [g] w w' := by
  obtain ⟨q, hq⟩ : ∃ q, q = { p with ws := updW p.ws 0 p.count } := ⟨_, rfl⟩
  rw [← hq]
  cases hr : readOk q.ws with
  | false =>
    have e : laidL q = { q with bad := true, ph := 4 } := by unfold laidL; rw [hr, Bool.false_and, if_neg (by decide)]
    rw [e]; exact laid_bad1 p q g hq hr w hg
  | true =>
    cases hm : mayT (readTab q.ws) q.seed with
    | false =>
      have e : laidL q = { q with bad := true, ph := 4 } := by unfold laidL; rw [hr, hm, if_neg (by decide)]
      rw [e]; exact laid_bad2 p q g hq hr hm w hg
    | true =>
      obtain ⟨x, hx⟩ := anew_ok ((may_iff _ _).1 hm)
      have hx' : anewT (readTab q.ws) q.seed = .ok x := by unfold anewT; exact hx.eq
      have e : laidL q = { q with ws := tword x, ph := 3, at_ := 1 } := by unfold laidL; rw [hr, hm, if_pos (by decide), hx', okOr_ok]
      rw [e]; exact laid_good p q g hq x hr hm hx' w hg
end
end Go.Proofs.Hc
