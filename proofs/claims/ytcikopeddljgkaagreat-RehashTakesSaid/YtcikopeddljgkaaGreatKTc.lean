/- The reference of layer 20: Need (printed by gen_rneed20.py). -/
import Derived.Test.YtcikopeddljgkaaGreatKRs
import Derived.Test.YtcikopeddljgkaaGreatK0
set_option linter.unusedSimpArgs false
set_option linter.unusedVariables false
set_option maxHeartbeats 4000000
set_option maxRecDepth 100000
namespace Go.Proofs.Hc
open Go.RowKit
attribute [local go_sem] zbs zca zax zbc zbn zba zbm zbo zbu signed64 signed8 zar BitVec.ofInt_add BitVec.ofInt_mul ofInt_sub' zay zaz wide8 eqN neN zbz shr1 shr7 shr56
attribute [local go_sem high] zbb zbt
attribute [local go_sem] zag zbw zah zas zad zbe zaq zal zbl zan zbd zbf
attribute [local go_sem] load26 load73 load23 store26 build73
attribute [local go_sem ↓] lrow26 lrow73 lrow23 srow26 zero26 brow73 zac zaw zbg zaa zab
attribute [local go_sem] zai zav zat zbj zbk zbp zao zau zbq zbi zbh
attribute [local go_sem] nn2 nm2 nn3 nm3 nn4 nm4 nn5 nm5 nn6 nm6 nn7 nm7 nn8 nm8
section
attribute [local go_sem] acc_g0 acc_g1 acc_g2 acc_g4 acc_s0 acc_s1 acc_s2 acc_s4 zcv accC_one accC_all loadAcc storeAcc bacc0 bacc2 bacc3 bacc3u bacc4
attribute [local go_sem ↓] lrowAcc srowAcc browAcc zcn
attribute [local go_sem high] zak
attribute [local go_sem] zar zby
attribute [local go_sem] Oper.semAt_some zap
attribute [local go_sem] layC_idx lcell0 lcell1 lcell2 lcell3 lcell4 lcell5 lcell46
attribute [local go_sem] lay_g0 lay_g1 lay_g2 lay_g3 lay_g4 lay_g5 lay_g46 lay_s0 lay_s4 lay_s5 lay_s46 zck layC_one layC_all layC_ws boxLay loadLay storeLay build_lay box_lay buildLay0 buildLay2 buildLay3
attribute [local go_sem ↓] lrowLay srowLay browLay brow_lay zcs
attribute [local go_sem high] zaj
attribute [local irreducible] layC
attribute [local irreducible] accC
theorem r20Need_0 (p : LayT) (hp : p.ph = 0) (s0 : 0 ≤ p.sl) (s1 : p.sl < 128) (w : World) : Calls Tryz.prog 59 #[.agg (layC p)] w fun e w' => e = .returned (.agg (accC p.who 1 (16 + 40 * p.sl) 0)) ∧ Ch [] w w' := by
  have K1 := fun w => rCell_any p.sl 0 s0 s1 (by decide) (by decide) w
  have ea : (16 : Int) + 40 * p.sl + 0 = 16 + 40 * p.sl := by omega
  rw [ea] at K1
  clear ea
  have e0 : (layC p)[0]? = some (I 0) := by rw [lay_g0, hp]
  have e1 : (layC p)[1]? = some (I p.who) := lay_g1 p
  have e2 : (layC p)[2]? = some (I p.sl) := lay_g2 p
  have e4 : (layC p)[4]? = some (U p.count) := lay_g4 p
  obtain ⟨A0, hA0⟩ : ∃ a, 16 + 40 * p.sl = a := ⟨_, rfl⟩
  have hA1 : 16 ≤ A0 := by omega
  have hA2 : A0 ≤ 5200 := by omega
  rw [hA0] at K1 ⊢
  clear hA0 s0 s1 hp
  obtain ⟨wh, hwh⟩ : ∃ x, p.who = x := ⟨_, rfl⟩
  rw [hwh] at e1 ⊢
  obtain ⟨sl, hsl⟩ : ∃ x, p.sl = x := ⟨_, rfl⟩
  rw [hsl] at e2 K1
  obtain ⟨cn, hcn⟩ : ∃ x, p.count = x := ⟨_, rfl⟩
  rw [hcn] at e4
  try rw [hcn]
  clear hwh hsl hcn
  go_enter Tryz.func59, Tryz.ntmps59
  go_upto_region 1 with (fail)
  have hC0 : Ch [] w ((w.alloc (.cells (layC p) 72)).alloc (.cells (accC 0 0 0 0) 87)) := ((Ch.refl [] w).alloc _).alloc _
  have b0 := lnew_lay p w
  have z0 := lnew_layz p w
  generalize (w.alloc (.cells (layC p) 72)).alloc (.cells (accC 0 0 0 0) 87) = W0 at *
  obtain ⟨cp, hcp⟩ : ∃ c, layC p = c := ⟨_, rfl⟩
  rw [hcp] at b0 e0 e1 e2 e4
  skip
  clear hcp
  obtain ⟨B, hB⟩ : ∃ B, w.heap.size = B := ⟨_, rfl⟩
  rw [hB] at b0 z0 ⊢
  have hBw : w.heap.size ≤ B := by omega
  clear hB
  have s1 : (fun W' : World => W'.heap[B]? = some (.cells cp 72 (0, 0))) W0.drew := b0
  have z1 : W0.drew.heap[B + 1]? = some (.cells (accC 0 0 0 0) 87 (0, 0)) := z0
  have C1 : Ch [] w W0.drew := hC0.drew
  refine wp_region_held_drew (S := fun W' => W'.heap[B]? = some (.cells cp 72 (0, 0))) (by kernel_rfl) s1 ?_
  intro _
  simp only [List.size_toArray, List.length_cons, List.length_nil, Nat.reduceAdd]
  clear b0 z0 hC0
  generalize W0.drew = w1 at *
  refine tk 0 4 ?_ rfl s1 ?_ ?_; rotate_left
  · intro _ _; go_simp; try with_reducible rfl
  try go_frame
  refine tk 1 5 ?_ rfl s1 ?_ ?_; rotate_left
  · intro _ _; go_simp; try with_reducible rfl
  try go_frame
  refine tk 2 6 ?_ rfl s1 ?_ ?_; rotate_left
  · intro _ _; go_simp; try with_reducible rfl
  try go_frame
  refine tk 3 7 ?_ rfl s1 ?_ ?_; rotate_left
  · intro _ _; go_simp; try with_reducible rfl
  try go_frame
  refine wpAnyH_ready (rs := [4, 6]) (by kernel_rfl) (by simp) ?_
  refine AllReadyH.cons rfl (fun K hK => ?_) (AllReadyH.cons (o := ⟨some 3, _, _, _, _, none⟩) rfl (fun K hK => ?_) AllReadyH.nil)
  · go_simp
    refine (K1 _).mono ?_
    rintro e w' ⟨rfl, rfl⟩
    refine hK.out _ _ s1 (fun _ => ?_)
    clear hK K
    refine tk 5 9 ?_ rfl s1 ?_ ?_; rotate_left
    · intro _ _; go_simp; try with_reducible rfl
    try go_frame
    refine rd (o := ⟨some 3, _, _, _, _, none⟩) 6 rfl (fun K hK => ?_); go_simp
    have hc2 : Ch [] w1 (w1.alloc (.cells (accC 0 0 0 0) 87)) := (Ch.refl [] w1).alloc _
    have g2 : (w1.alloc (.cells (accC 0 0 0 0) 87)).heap[w1.heap.size]? = some (.cells (accC 0 0 0 0) 87 (0, 0)) := by rw [zac, if_pos rfl]
    have s2 := hkeep hc2 s1
    have z2 := hkeep hc2 z1
    have C2 := C1.trans hc2
    have hz := zae z1
    have hGw := C1.size
    refine hK.out _ _ s2 (fun _ => ?_)
    clear hK K hc2 s1 z1 C1
    obtain ⟨w2, hw2⟩ : ∃ W, (w1.alloc (.cells (accC 0 0 0 0) 87)) = W := ⟨_, rfl⟩
    rw [hw2] at s2 z2 C2 g2 ⊢
    clear hw2
    obtain ⟨G, hG⟩ : ∃ G, w1.heap.size = G := ⟨_, rfl⟩
    rw [hG] at g2 hz hGw ⊢
    clear hG
    refine rd 7 rfl (fun K hK => ?_); go_simp
    have g3 : (World.onObj w2 G (laidAt 0 (accC wh 2 A0 0))).heap[G]? = some (.cells (accC wh 2 A0 0) 87 (0, 0)) := by rw [zab, if_pos rfl, g2, Option.map_some, zak]
    have s3 : (World.onObj w2 G (laidAt 0 (accC wh 2 A0 0))).heap[B]? = some (.cells cp 72 (0, 0)) := by rw [zab, if_neg (by omega)]; exact s2
    have z3 : (World.onObj w2 G (laidAt 0 (accC wh 2 A0 0))).heap[B + 1]? = some (.cells (accC 0 0 0 0) 87 (0, 0)) := by rw [zab, if_neg (by omega)]; exact z2
    have C3 : Ch [] w (World.onObj w2 G (laidAt 0 (accC wh 2 A0 0))) := C2.onObj (.inr hGw) _
    refine hK.out _ _ s3 (fun _ => ?_)
    clear hK K s2 z2 C2 g2
    generalize (World.onObj w2 G (laidAt 0 (accC wh 2 A0 0))) = w3 at *
    refine wpAnyH_done (by kernel_rfl) ?_ _
    have hBG : ¬ B = G := by omega
    have hGB : ¬ G = B := by omega
    have hZG : ¬ B + 1 = G := by omega
    have hGZ : ¬ G = B + 1 := by omega
    clear hz
    go_wp2
    refine bodyPost_ret (acc_result Tryz.results59 _ (B + 1) _ wh 1 A0 0 rfl ?_) rfl ⟨rfl, (C3.setCell (p := ⟨G, 1, none⟩) (.inr hGw) _).onObj (.inr (by omega)) _⟩
    simp [go_sem, z3, hZG]
  · go_simp
    have hc2 : Ch [] w1 (w1.alloc (.cells (accC 0 0 0 0) 87)) := (Ch.refl [] w1).alloc _
    have g2 : (w1.alloc (.cells (accC 0 0 0 0) 87)).heap[w1.heap.size]? = some (.cells (accC 0 0 0 0) 87 (0, 0)) := by rw [zac, if_pos rfl]
    have s2 := hkeep hc2 s1
    have z2 := hkeep hc2 z1
    have C2 := C1.trans hc2
    have hz := zae z1
    have hGw := C1.size
    refine hK.out _ _ s2 (fun _ => ?_)
    clear hK K hc2 s1 z1 C1
    obtain ⟨w2, hw2⟩ : ∃ W, (w1.alloc (.cells (accC 0 0 0 0) 87)) = W := ⟨_, rfl⟩
    rw [hw2] at s2 z2 C2 g2 ⊢
    clear hw2
    obtain ⟨G, hG⟩ : ∃ G, w1.heap.size = G := ⟨_, rfl⟩
    rw [hG] at g2 hz hGw ⊢
    clear hG
    refine rd (o := ⟨some 8, _, _, _, _, none⟩) 4 rfl (fun K hK => ?_); go_simp
    refine (K1 _).mono ?_
    rintro e w' ⟨rfl, rfl⟩
    refine hK.out _ _ s2 (fun _ => ?_)
    clear hK K
    refine tk 5 9 ?_ rfl s2 ?_ ?_; rotate_left
    · intro _ _; go_simp; try with_reducible rfl
    try go_frame
    refine rd 7 rfl (fun K hK => ?_); go_simp
    have g3 : (World.onObj w2 G (laidAt 0 (accC wh 2 A0 0))).heap[G]? = some (.cells (accC wh 2 A0 0) 87 (0, 0)) := by rw [zab, if_pos rfl, g2, Option.map_some, zak]
    have s3 : (World.onObj w2 G (laidAt 0 (accC wh 2 A0 0))).heap[B]? = some (.cells cp 72 (0, 0)) := by rw [zab, if_neg (by omega)]; exact s2
    have z3 : (World.onObj w2 G (laidAt 0 (accC wh 2 A0 0))).heap[B + 1]? = some (.cells (accC 0 0 0 0) 87 (0, 0)) := by rw [zab, if_neg (by omega)]; exact z2
    have C3 : Ch [] w (World.onObj w2 G (laidAt 0 (accC wh 2 A0 0))) := C2.onObj (.inr hGw) _
    refine hK.out _ _ s3 (fun _ => ?_)
    clear hK K s2 z2 C2 g2
    generalize (World.onObj w2 G (laidAt 0 (accC wh 2 A0 0))) = w3 at *
    refine wpAnyH_done (by kernel_rfl) ?_ _
    have hBG : ¬ B = G := by omega
    have hGB : ¬ G = B := by omega
    have hZG : ¬ B + 1 = G := by omega
    have hGZ : ¬ G = B + 1 := by omega
    clear hz
    go_wp2
    refine bodyPost_ret (acc_result Tryz.results59 _ (B + 1) _ wh 1 A0 0 rfl ?_) rfl ⟨rfl, (C3.setCell (p := ⟨G, 1, none⟩) (.inr hGw) _).onObj (.inr (by omega)) _⟩
    simp [go_sem, z3, hZG]
theorem r20Need_1 (p : LayT) (hp : p.ph = 1) (s0 : 0 ≤ p.sl) (s1 : p.sl < 128) (w : World) : Calls Tryz.prog 59 #[.agg (layC p)] w fun e w' => e = .returned (.agg (accC p.who 2 (16 + 40 * p.sl) (N (p.count + 1#64)))) ∧ Ch [] w w' := by
  have K1 := fun w => rCell_any p.sl 0 s0 s1 (by decide) (by decide) w
  have ea : (16 : Int) + 40 * p.sl + 0 = 16 + 40 * p.sl := by omega
  rw [ea] at K1
  clear ea
  have e0 : (layC p)[0]? = some (I 1) := by rw [lay_g0, hp]
  have e1 : (layC p)[1]? = some (I p.who) := lay_g1 p
  have e2 : (layC p)[2]? = some (I p.sl) := lay_g2 p
  have e4 : (layC p)[4]? = some (U p.count) := lay_g4 p
  obtain ⟨A0, hA0⟩ : ∃ a, 16 + 40 * p.sl = a := ⟨_, rfl⟩
  have hA1 : 16 ≤ A0 := by omega
  have hA2 : A0 ≤ 5200 := by omega
  rw [hA0] at K1 ⊢
  clear hA0 s0 s1 hp
  obtain ⟨wh, hwh⟩ : ∃ x, p.who = x := ⟨_, rfl⟩
  rw [hwh] at e1 ⊢
  obtain ⟨sl, hsl⟩ : ∃ x, p.sl = x := ⟨_, rfl⟩
  rw [hsl] at e2 K1
  obtain ⟨cn, hcn⟩ : ∃ x, p.count = x := ⟨_, rfl⟩
  rw [hcn] at e4
  try rw [hcn]
  clear hwh hsl hcn
  go_enter Tryz.func59, Tryz.ntmps59
  go_upto_region 1 with (fail)
  have hC0 : Ch [] w ((w.alloc (.cells (layC p) 72)).alloc (.cells (accC 0 0 0 0) 87)) := ((Ch.refl [] w).alloc _).alloc _
  have b0 := lnew_lay p w
  have z0 := lnew_layz p w
  generalize (w.alloc (.cells (layC p) 72)).alloc (.cells (accC 0 0 0 0) 87) = W0 at *
  obtain ⟨cp, hcp⟩ : ∃ c, layC p = c := ⟨_, rfl⟩
  rw [hcp] at b0 e0 e1 e2 e4
  skip
  clear hcp
  obtain ⟨B, hB⟩ : ∃ B, w.heap.size = B := ⟨_, rfl⟩
  rw [hB] at b0 z0 ⊢
  have hBw : w.heap.size ≤ B := by omega
  clear hB
  have s1 : (fun W' : World => W'.heap[B]? = some (.cells cp 72 (0, 0))) W0.drew := b0
  have z1 : W0.drew.heap[B + 1]? = some (.cells (accC 0 0 0 0) 87 (0, 0)) := z0
  have C1 : Ch [] w W0.drew := hC0.drew
  refine wp_region_held_drew (S := fun W' => W'.heap[B]? = some (.cells cp 72 (0, 0))) (by kernel_rfl) s1 ?_
  intro _
  simp only [List.size_toArray, List.length_cons, List.length_nil, Nat.reduceAdd]
  clear b0 z0 hC0
  generalize W0.drew = w1 at *
  refine tk 0 4 ?_ rfl s1 ?_ ?_; rotate_left
  · intro _ _; go_simp; try with_reducible rfl
  try go_frame
  refine tk 1 5 ?_ rfl s1 ?_ ?_; rotate_left
  · intro _ _; go_simp; try with_reducible rfl
  try go_frame
  refine tk 2 6 ?_ rfl s1 ?_ ?_; rotate_left
  · intro _ _; go_simp; try with_reducible rfl
  try go_frame
  refine tk 3 7 ?_ rfl s1 ?_ ?_; rotate_left
  · intro _ _; go_simp; try with_reducible rfl
  try go_frame
  refine wpAnyH_ready (rs := [4, 6]) (by kernel_rfl) (by simp) ?_
  refine AllReadyH.cons rfl (fun K hK => ?_) (AllReadyH.cons (o := ⟨some 3, _, _, _, _, none⟩) rfl (fun K hK => ?_) AllReadyH.nil)
  · go_simp
    refine (K1 _).mono ?_
    rintro e w' ⟨rfl, rfl⟩
    refine hK.out _ _ s1 (fun _ => ?_)
    clear hK K
    refine tk 5 9 ?_ rfl s1 ?_ ?_; rotate_left
    · intro _ _; go_simp; try with_reducible rfl
    try go_frame
    refine rd (o := ⟨some 3, _, _, _, _, none⟩) 6 rfl (fun K hK => ?_); go_simp
    have hc2 : Ch [] w1 (w1.alloc (.cells (accC 0 0 0 0) 87)) := (Ch.refl [] w1).alloc _
    have g2 : (w1.alloc (.cells (accC 0 0 0 0) 87)).heap[w1.heap.size]? = some (.cells (accC 0 0 0 0) 87 (0, 0)) := by rw [zac, if_pos rfl]
    have s2 := hkeep hc2 s1
    have z2 := hkeep hc2 z1
    have C2 := C1.trans hc2
    have hz := zae z1
    have hGw := C1.size
    refine hK.out _ _ s2 (fun _ => ?_)
    clear hK K hc2 s1 z1 C1
    obtain ⟨w2, hw2⟩ : ∃ W, (w1.alloc (.cells (accC 0 0 0 0) 87)) = W := ⟨_, rfl⟩
    rw [hw2] at s2 z2 C2 g2 ⊢
    clear hw2
    obtain ⟨G, hG⟩ : ∃ G, w1.heap.size = G := ⟨_, rfl⟩
    rw [hG] at g2 hz hGw ⊢
    clear hG
    refine rd 7 rfl (fun K hK => ?_); go_simp
    have g3 : (World.onObj w2 G (laidAt 0 (accC wh 2 A0 0))).heap[G]? = some (.cells (accC wh 2 A0 0) 87 (0, 0)) := by rw [zab, if_pos rfl, g2, Option.map_some, zak]
    have s3 : (World.onObj w2 G (laidAt 0 (accC wh 2 A0 0))).heap[B]? = some (.cells cp 72 (0, 0)) := by rw [zab, if_neg (by omega)]; exact s2
    have z3 : (World.onObj w2 G (laidAt 0 (accC wh 2 A0 0))).heap[B + 1]? = some (.cells (accC 0 0 0 0) 87 (0, 0)) := by rw [zab, if_neg (by omega)]; exact z2
    have C3 : Ch [] w (World.onObj w2 G (laidAt 0 (accC wh 2 A0 0))) := C2.onObj (.inr hGw) _
    refine hK.out _ _ s3 (fun _ => ?_)
    clear hK K s2 z2 C2 g2
    generalize (World.onObj w2 G (laidAt 0 (accC wh 2 A0 0))) = w3 at *
    refine wpAnyH_done (by kernel_rfl) ?_ _
    have hBG : ¬ B = G := by omega
    have hGB : ¬ G = B := by omega
    have hZG : ¬ B + 1 = G := by omega
    have hGZ : ¬ G = B + 1 := by omega
    clear hz
    go_wp2
    refine bodyPost_ret (acc_result Tryz.results59 _ (B + 1) _ wh 2 A0 (N (cn + 1#64)) rfl ?_) rfl ⟨rfl, (C3.setCell (p := ⟨G, 4, none⟩) (.inr hGw) _).onObj (.inr (by omega)) _⟩
    simp [go_sem, z3, hZG]
  · go_simp
    have hc2 : Ch [] w1 (w1.alloc (.cells (accC 0 0 0 0) 87)) := (Ch.refl [] w1).alloc _
    have g2 : (w1.alloc (.cells (accC 0 0 0 0) 87)).heap[w1.heap.size]? = some (.cells (accC 0 0 0 0) 87 (0, 0)) := by rw [zac, if_pos rfl]
    have s2 := hkeep hc2 s1
    have z2 := hkeep hc2 z1
    have C2 := C1.trans hc2
    have hz := zae z1
    have hGw := C1.size
    refine hK.out _ _ s2 (fun _ => ?_)
    clear hK K hc2 s1 z1 C1
    obtain ⟨w2, hw2⟩ : ∃ W, (w1.alloc (.cells (accC 0 0 0 0) 87)) = W := ⟨_, rfl⟩
    rw [hw2] at s2 z2 C2 g2 ⊢
    clear hw2
    obtain ⟨G, hG⟩ : ∃ G, w1.heap.size = G := ⟨_, rfl⟩
    rw [hG] at g2 hz hGw ⊢
    clear hG
    refine rd (o := ⟨some 8, _, _, _, _, none⟩) 4 rfl (fun K hK => ?_); go_simp
    refine (K1 _).mono ?_
    rintro e w' ⟨rfl, rfl⟩
    refine hK.out _ _ s2 (fun _ => ?_)
    clear hK K
    refine tk 5 9 ?_ rfl s2 ?_ ?_; rotate_left
    · intro _ _; go_simp; try with_reducible rfl
    try go_frame
    refine rd 7 rfl (fun K hK => ?_); go_simp
    have g3 : (World.onObj w2 G (laidAt 0 (accC wh 2 A0 0))).heap[G]? = some (.cells (accC wh 2 A0 0) 87 (0, 0)) := by rw [zab, if_pos rfl, g2, Option.map_some, zak]
    have s3 : (World.onObj w2 G (laidAt 0 (accC wh 2 A0 0))).heap[B]? = some (.cells cp 72 (0, 0)) := by rw [zab, if_neg (by omega)]; exact s2
    have z3 : (World.onObj w2 G (laidAt 0 (accC wh 2 A0 0))).heap[B + 1]? = some (.cells (accC 0 0 0 0) 87 (0, 0)) := by rw [zab, if_neg (by omega)]; exact z2
    have C3 : Ch [] w (World.onObj w2 G (laidAt 0 (accC wh 2 A0 0))) := C2.onObj (.inr hGw) _
    refine hK.out _ _ s3 (fun _ => ?_)
    clear hK K s2 z2 C2 g2
    generalize (World.onObj w2 G (laidAt 0 (accC wh 2 A0 0))) = w3 at *
    refine wpAnyH_done (by kernel_rfl) ?_ _
    have hBG : ¬ B = G := by omega
    have hGB : ¬ G = B := by omega
    have hZG : ¬ B + 1 = G := by omega
    have hGZ : ¬ G = B + 1 := by omega
    clear hz
    go_wp2
    refine bodyPost_ret (acc_result Tryz.results59 _ (B + 1) _ wh 2 A0 (N (cn + 1#64)) rfl ?_) rfl ⟨rfl, (C3.setCell (p := ⟨G, 4, none⟩) (.inr hGw) _).onObj (.inr (by omega)) _⟩
    simp [go_sem, z3, hZG]
theorem r20Need_2 (p : LayT) (hp : p.ph = 2) (s0 : 0 ≤ p.sl) (s1 : p.sl < 128) (a0 : 1 ≤ p.at_) (a1 : p.at_ < 40) (w : World) : Calls Tryz.prog 59 #[.agg (layC p)] w fun e w' => e = .returned (.agg (accC p.who 1 (16 + 40 * p.sl + p.at_) 0)) ∧ Ch [] w w' := by
  have K1 := fun w => rCell_any p.sl 0 s0 s1 (by decide) (by decide) w
  have ea : (16 : Int) + 40 * p.sl + 0 = 16 + 40 * p.sl := by omega
  rw [ea] at K1
  clear ea
  have e0 : (layC p)[0]? = some (I 2) := by rw [lay_g0, hp]
  have e1 : (layC p)[1]? = some (I p.who) := lay_g1 p
  have e2 : (layC p)[2]? = some (I p.sl) := lay_g2 p
  have e4 : (layC p)[4]? = some (U p.count) := lay_g4 p
  have e5 : (layC p)[5]? = some (I p.at_) := lay_g5 p
  obtain ⟨A0, hA0⟩ : ∃ a, 16 + 40 * p.sl = a := ⟨_, rfl⟩
  have hA1 : 16 ≤ A0 := by omega
  have hA2 : A0 ≤ 5200 := by omega
  rw [hA0] at K1 ⊢
  clear hA0 s0 s1 hp
  have hwA : IntKind.i64.wrap (A0 + p.at_) = A0 + p.at_ := by rw [IntKind.wrap_i64]; omega
  obtain ⟨wh, hwh⟩ : ∃ x, p.who = x := ⟨_, rfl⟩
  rw [hwh] at e1 ⊢
  obtain ⟨sl, hsl⟩ : ∃ x, p.sl = x := ⟨_, rfl⟩
  rw [hsl] at e2 K1
  obtain ⟨cn, hcn⟩ : ∃ x, p.count = x := ⟨_, rfl⟩
  rw [hcn] at e4
  try rw [hcn]
  clear hwh hsl hcn
  go_enter Tryz.func59, Tryz.ntmps59
  go_upto_region 1 with (fail)
  have hC0 : Ch [] w ((w.alloc (.cells (layC p) 72)).alloc (.cells (accC 0 0 0 0) 87)) := ((Ch.refl [] w).alloc _).alloc _
  have b0 := lnew_lay p w
  have z0 := lnew_layz p w
  generalize (w.alloc (.cells (layC p) 72)).alloc (.cells (accC 0 0 0 0) 87) = W0 at *
  obtain ⟨cp, hcp⟩ : ∃ c, layC p = c := ⟨_, rfl⟩
  rw [hcp] at b0 e0 e1 e2 e4
  rw [hcp] at e5
  clear hcp
  obtain ⟨B, hB⟩ : ∃ B, w.heap.size = B := ⟨_, rfl⟩
  rw [hB] at b0 z0 ⊢
  have hBw : w.heap.size ≤ B := by omega
  clear hB
  have s1 : (fun W' : World => W'.heap[B]? = some (.cells cp 72 (0, 0))) W0.drew := b0
  have z1 : W0.drew.heap[B + 1]? = some (.cells (accC 0 0 0 0) 87 (0, 0)) := z0
  have C1 : Ch [] w W0.drew := hC0.drew
  refine wp_region_held_drew (S := fun W' => W'.heap[B]? = some (.cells cp 72 (0, 0))) (by kernel_rfl) s1 ?_
  intro _
  simp only [List.size_toArray, List.length_cons, List.length_nil, Nat.reduceAdd]
  clear b0 z0 hC0
  generalize W0.drew = w1 at *
  refine tk 0 4 ?_ rfl s1 ?_ ?_; rotate_left
  · intro _ _; go_simp; try with_reducible rfl
  try go_frame
  refine tk 1 5 ?_ rfl s1 ?_ ?_; rotate_left
  · intro _ _; go_simp; try with_reducible rfl
  try go_frame
  refine tk 2 6 ?_ rfl s1 ?_ ?_; rotate_left
  · intro _ _; go_simp; try with_reducible rfl
  try go_frame
  refine tk 3 7 ?_ rfl s1 ?_ ?_; rotate_left
  · intro _ _; go_simp; try with_reducible rfl
  try go_frame
  refine wpAnyH_ready (rs := [4, 6]) (by kernel_rfl) (by simp) ?_
  refine AllReadyH.cons rfl (fun K hK => ?_) (AllReadyH.cons (o := ⟨some 3, _, _, _, _, none⟩) rfl (fun K hK => ?_) AllReadyH.nil)
  · go_simp
    refine (K1 _).mono ?_
    rintro e w' ⟨rfl, rfl⟩
    refine hK.out _ _ s1 (fun _ => ?_)
    clear hK K
    refine tk 5 9 ?_ rfl s1 ?_ ?_; rotate_left
    · intro _ _; go_simp; try with_reducible rfl
    try go_frame
    refine rd (o := ⟨some 3, _, _, _, _, none⟩) 6 rfl (fun K hK => ?_); go_simp
    have hc2 : Ch [] w1 (w1.alloc (.cells (accC 0 0 0 0) 87)) := (Ch.refl [] w1).alloc _
    have g2 : (w1.alloc (.cells (accC 0 0 0 0) 87)).heap[w1.heap.size]? = some (.cells (accC 0 0 0 0) 87 (0, 0)) := by rw [zac, if_pos rfl]
    have s2 := hkeep hc2 s1
    have z2 := hkeep hc2 z1
    have C2 := C1.trans hc2
    have hz := zae z1
    have hGw := C1.size
    refine hK.out _ _ s2 (fun _ => ?_)
    clear hK K hc2 s1 z1 C1
    obtain ⟨w2, hw2⟩ : ∃ W, (w1.alloc (.cells (accC 0 0 0 0) 87)) = W := ⟨_, rfl⟩
    rw [hw2] at s2 z2 C2 g2 ⊢
    clear hw2
    obtain ⟨G, hG⟩ : ∃ G, w1.heap.size = G := ⟨_, rfl⟩
    rw [hG] at g2 hz hGw ⊢
    clear hG
    refine rd 7 rfl (fun K hK => ?_); go_simp
    have g3 : (World.onObj w2 G (laidAt 0 (accC wh 2 A0 0))).heap[G]? = some (.cells (accC wh 2 A0 0) 87 (0, 0)) := by rw [zab, if_pos rfl, g2, Option.map_some, zak]
    have s3 : (World.onObj w2 G (laidAt 0 (accC wh 2 A0 0))).heap[B]? = some (.cells cp 72 (0, 0)) := by rw [zab, if_neg (by omega)]; exact s2
    have z3 : (World.onObj w2 G (laidAt 0 (accC wh 2 A0 0))).heap[B + 1]? = some (.cells (accC 0 0 0 0) 87 (0, 0)) := by rw [zab, if_neg (by omega)]; exact z2
    have C3 : Ch [] w (World.onObj w2 G (laidAt 0 (accC wh 2 A0 0))) := C2.onObj (.inr hGw) _
    refine hK.out _ _ s3 (fun _ => ?_)
    clear hK K s2 z2 C2 g2
    generalize (World.onObj w2 G (laidAt 0 (accC wh 2 A0 0))) = w3 at *
    refine wpAnyH_done (by kernel_rfl) ?_ _
    have hBG : ¬ B = G := by omega
    have hGB : ¬ G = B := by omega
    have hZG : ¬ B + 1 = G := by omega
    have hGZ : ¬ G = B + 1 := by omega
    clear hz
    go_upto_region 8 with (fail)
    have s4 : (fun W' : World => W'.heap[B]? = some (.cells cp 72 (0, 0))) w3.drew := s3
    have z4 : w3.drew.heap[B + 1]? = _ := z3
    have g4 : w3.drew.heap[G]? = _ := g3
    have C4 : Ch [] w w3.drew := C3.drew
    refine wp_region_held_drew (S := fun W' => W'.heap[B]? = some (.cells cp 72 (0, 0))) (by kernel_rfl) s4 ?_
    intro _
    simp only [List.size_toArray, List.length_cons, List.length_nil, Nat.reduceAdd]
    clear s3 z3 g3 C3
    generalize w3.drew = w4 at *
    refine tk 0 23 ?_ rfl s4 ?_ ?_; rotate_left
    · intro _ _; go_simp; try with_reducible rfl
    try go_frame
    refine tk 2 25 ?_ rfl s4 ?_ ?_; rotate_left
    · intro _ _; go_simp; try with_reducible rfl
    try go_frame
    refine tk 3 26 ?_ rfl s4 ?_ ?_; rotate_left
    · intro _ _; go_simp; try with_reducible rfl
    try go_frame
    refine rd (o := ⟨some 24, _, _, _, _, none⟩) 1 rfl (fun K hK => ?_); go_simp
    refine hK.out _ _ s4 (fun _ => ?_)
    clear hK K
    refine tk 4 27 ?_ rfl s4 ?_ ?_; rotate_left
    · intro _ _; go_simp; try with_reducible rfl
    try go_frame
    refine tk 5 28 ?_ rfl s4 ?_ ?_; rotate_left
    · intro _ _; go_simp; try with_reducible rfl
    try go_frame
    refine rd 6 rfl (fun K hK => ?_); go_simp
    have g5 : (w4.setCell ⟨G, 1, none⟩ (I 1)).heap[G]? = some (.cells (accC wh 1 A0 0) 87 (0, 0)) := by rw [zaa, if_pos rfl, g4, Option.map_some, zad, acc_s1]
    have s5 : (w4.setCell ⟨G, 1, none⟩ (I 1)).heap[B]? = some (.cells cp 72 (0, 0)) := by rw [zaa, if_neg hBG]; exact s4
    have z5 : (w4.setCell ⟨G, 1, none⟩ (I 1)).heap[B + 1]? = some (.cells (accC 0 0 0 0) 87 (0, 0)) := by rw [zaa, if_neg hZG]; exact z4
    have C5 : Ch [] w (w4.setCell ⟨G, 1, none⟩ (I 1)) := C4.setCell (.inr hGw) _
    refine hK.out _ _ s5 (fun _ => ?_)
    clear hK K s4 z4 C4 g4
    generalize (w4.setCell ⟨G, 1, none⟩ (I 1)) = w5 at *
    refine tk 7 29 ?_ rfl s5 ?_ ?_; rotate_left
    · intro _ _; go_simp; try with_reducible rfl
    try go_frame
    refine rd 8 rfl (fun K hK => ?_); go_simp
    have g6 : (w5.setCell ⟨G, 2, none⟩ (I (A0 + p.at_))).heap[G]? = some (.cells (accC wh 1 (A0 + p.at_) 0) 87 (0, 0)) := by rw [zaa, if_pos rfl, g5, Option.map_some, zad, acc_s2]
    have s6 : (w5.setCell ⟨G, 2, none⟩ (I (A0 + p.at_))).heap[B]? = some (.cells cp 72 (0, 0)) := by rw [zaa, if_neg hBG]; exact s5
    have z6 : (w5.setCell ⟨G, 2, none⟩ (I (A0 + p.at_))).heap[B + 1]? = some (.cells (accC 0 0 0 0) 87 (0, 0)) := by rw [zaa, if_neg hZG]; exact z5
    have C6 : Ch [] w (w5.setCell ⟨G, 2, none⟩ (I (A0 + p.at_))) := C5.setCell (.inr hGw) _
    refine hK.out _ _ s6 (fun _ => ?_)
    clear hK K s5 z5 C5 g5
    generalize (w5.setCell ⟨G, 2, none⟩ (I (A0 + p.at_))) = w6 at *
    refine wpAnyH_done (by kernel_rfl) ?_ _
    go_wp2
    refine bodyPost_ret (acc_result Tryz.results59 _ (B + 1) _ wh 1 (A0 + p.at_) 0 rfl ?_) rfl ⟨rfl, C6.onObj (.inr (by omega)) _⟩
    simp [go_sem, z6]
  · go_simp
    have hc2 : Ch [] w1 (w1.alloc (.cells (accC 0 0 0 0) 87)) := (Ch.refl [] w1).alloc _
    have g2 : (w1.alloc (.cells (accC 0 0 0 0) 87)).heap[w1.heap.size]? = some (.cells (accC 0 0 0 0) 87 (0, 0)) := by rw [zac, if_pos rfl]
    have s2 := hkeep hc2 s1
    have z2 := hkeep hc2 z1
    have C2 := C1.trans hc2
    have hz := zae z1
    have hGw := C1.size
    refine hK.out _ _ s2 (fun _ => ?_)
    clear hK K hc2 s1 z1 C1
    obtain ⟨w2, hw2⟩ : ∃ W, (w1.alloc (.cells (accC 0 0 0 0) 87)) = W := ⟨_, rfl⟩
    rw [hw2] at s2 z2 C2 g2 ⊢
    clear hw2
    obtain ⟨G, hG⟩ : ∃ G, w1.heap.size = G := ⟨_, rfl⟩
    rw [hG] at g2 hz hGw ⊢
    clear hG
    refine rd (o := ⟨some 8, _, _, _, _, none⟩) 4 rfl (fun K hK => ?_); go_simp
    refine (K1 _).mono ?_
    rintro e w' ⟨rfl, rfl⟩
    refine hK.out _ _ s2 (fun _ => ?_)
    clear hK K
    refine tk 5 9 ?_ rfl s2 ?_ ?_; rotate_left
    · intro _ _; go_simp; try with_reducible rfl
    try go_frame
    refine rd 7 rfl (fun K hK => ?_); go_simp
    have g3 : (World.onObj w2 G (laidAt 0 (accC wh 2 A0 0))).heap[G]? = some (.cells (accC wh 2 A0 0) 87 (0, 0)) := by rw [zab, if_pos rfl, g2, Option.map_some, zak]
    have s3 : (World.onObj w2 G (laidAt 0 (accC wh 2 A0 0))).heap[B]? = some (.cells cp 72 (0, 0)) := by rw [zab, if_neg (by omega)]; exact s2
    have z3 : (World.onObj w2 G (laidAt 0 (accC wh 2 A0 0))).heap[B + 1]? = some (.cells (accC 0 0 0 0) 87 (0, 0)) := by rw [zab, if_neg (by omega)]; exact z2
    have C3 : Ch [] w (World.onObj w2 G (laidAt 0 (accC wh 2 A0 0))) := C2.onObj (.inr hGw) _
    refine hK.out _ _ s3 (fun _ => ?_)
    clear hK K s2 z2 C2 g2
    generalize (World.onObj w2 G (laidAt 0 (accC wh 2 A0 0))) = w3 at *
    refine wpAnyH_done (by kernel_rfl) ?_ _
    have hBG : ¬ B = G := by omega
    have hGB : ¬ G = B := by omega
    have hZG : ¬ B + 1 = G := by omega
    have hGZ : ¬ G = B + 1 := by omega
    clear hz
    go_upto_region 8 with (fail)
    have s4 : (fun W' : World => W'.heap[B]? = some (.cells cp 72 (0, 0))) w3.drew := s3
    have z4 : w3.drew.heap[B + 1]? = _ := z3
    have g4 : w3.drew.heap[G]? = _ := g3
    have C4 : Ch [] w w3.drew := C3.drew
    refine wp_region_held_drew (S := fun W' => W'.heap[B]? = some (.cells cp 72 (0, 0))) (by kernel_rfl) s4 ?_
    intro _
    simp only [List.size_toArray, List.length_cons, List.length_nil, Nat.reduceAdd]
    clear s3 z3 g3 C3
    generalize w3.drew = w4 at *
    refine tk 0 23 ?_ rfl s4 ?_ ?_; rotate_left
    · intro _ _; go_simp; try with_reducible rfl
    try go_frame
    refine tk 2 25 ?_ rfl s4 ?_ ?_; rotate_left
    · intro _ _; go_simp; try with_reducible rfl
    try go_frame
    refine tk 3 26 ?_ rfl s4 ?_ ?_; rotate_left
    · intro _ _; go_simp; try with_reducible rfl
    try go_frame
    refine rd (o := ⟨some 24, _, _, _, _, none⟩) 1 rfl (fun K hK => ?_); go_simp
    refine hK.out _ _ s4 (fun _ => ?_)
    clear hK K
    refine tk 4 27 ?_ rfl s4 ?_ ?_; rotate_left
    · intro _ _; go_simp; try with_reducible rfl
    try go_frame
    refine tk 5 28 ?_ rfl s4 ?_ ?_; rotate_left
    · intro _ _; go_simp; try with_reducible rfl
    try go_frame
    refine rd 6 rfl (fun K hK => ?_); go_simp
    have g5 : (w4.setCell ⟨G, 1, none⟩ (I 1)).heap[G]? = some (.cells (accC wh 1 A0 0) 87 (0, 0)) := by rw [zaa, if_pos rfl, g4, Option.map_some, zad, acc_s1]
    have s5 : (w4.setCell ⟨G, 1, none⟩ (I 1)).heap[B]? = some (.cells cp 72 (0, 0)) := by rw [zaa, if_neg hBG]; exact s4
    have z5 : (w4.setCell ⟨G, 1, none⟩ (I 1)).heap[B + 1]? = some (.cells (accC 0 0 0 0) 87 (0, 0)) := by rw [zaa, if_neg hZG]; exact z4
    have C5 : Ch [] w (w4.setCell ⟨G, 1, none⟩ (I 1)) := C4.setCell (.inr hGw) _
    refine hK.out _ _ s5 (fun _ => ?_)
    clear hK K s4 z4 C4 g4
    generalize (w4.setCell ⟨G, 1, none⟩ (I 1)) = w5 at *
    refine tk 7 29 ?_ rfl s5 ?_ ?_; rotate_left
    · intro _ _; go_simp; try with_reducible rfl
    try go_frame
    refine rd 8 rfl (fun K hK => ?_); go_simp
    have g6 : (w5.setCell ⟨G, 2, none⟩ (I (A0 + p.at_))).heap[G]? = some (.cells (accC wh 1 (A0 + p.at_) 0) 87 (0, 0)) := by rw [zaa, if_pos rfl, g5, Option.map_some, zad, acc_s2]
    have s6 : (w5.setCell ⟨G, 2, none⟩ (I (A0 + p.at_))).heap[B]? = some (.cells cp 72 (0, 0)) := by rw [zaa, if_neg hBG]; exact s5
    have z6 : (w5.setCell ⟨G, 2, none⟩ (I (A0 + p.at_))).heap[B + 1]? = some (.cells (accC 0 0 0 0) 87 (0, 0)) := by rw [zaa, if_neg hZG]; exact z5
    have C6 : Ch [] w (w5.setCell ⟨G, 2, none⟩ (I (A0 + p.at_))) := C5.setCell (.inr hGw) _
    refine hK.out _ _ s6 (fun _ => ?_)
    clear hK K s5 z5 C5 g5
    generalize (w5.setCell ⟨G, 2, none⟩ (I (A0 + p.at_))) = w6 at *
    refine wpAnyH_done (by kernel_rfl) ?_ _
    go_wp2
    refine bodyPost_ret (acc_result Tryz.results59 _ (B + 1) _ wh 1 (A0 + p.at_) 0 rfl ?_) rfl ⟨rfl, C6.onObj (.inr (by omega)) _⟩
    simp [go_sem, z6]
theorem r20Need_3 (p : LayT) (hp : p.ph = 3) (s0 : 0 ≤ p.sl) (s1 : p.sl < 128) (j : Nat) (hj : j < 40) (hat : p.at_ = (j : Int)) (w : World) : Calls Tryz.prog 59 #[.agg (layC p)] w fun e w' => e = .returned (.agg (accC p.who 2 (16 + 40 * p.sl + (j : Int)) (N (p.ws j)))) ∧ Ch [] w w' := by
  have K1 := fun w => rCell_any p.sl 0 s0 s1 (by decide) (by decide) w
  have ea : (16 : Int) + 40 * p.sl + 0 = 16 + 40 * p.sl := by omega
  rw [ea] at K1
  clear ea
  have e0 : (layC p)[0]? = some (I 3) := by rw [lay_g0, hp]
  have e1 : (layC p)[1]? = some (I p.who) := lay_g1 p
  have e2 : (layC p)[2]? = some (I p.sl) := lay_g2 p
  have e4 : (layC p)[4]? = some (U p.count) := lay_g4 p
  have e5 : (layC p)[5]? = some (I (j : Int)) := by rw [lay_g5, hat]
  have e6 : (layC p)[6 + j]? = some (U (p.ws j)) := lay_gw p j hj
  have hjI : (j : Int) < 40 := by omega
  have hj0 : (0 : Int) ≤ j := by omega
  obtain ⟨x, hx⟩ : ∃ x, p.ws j = x := ⟨_, rfl⟩
  rw [hx] at e6 ⊢
  clear hx hat
  obtain ⟨A0, hA0⟩ : ∃ a, 16 + 40 * p.sl = a := ⟨_, rfl⟩
  have hA1 : 16 ≤ A0 := by omega
  have hA2 : A0 ≤ 5200 := by omega
  rw [hA0] at K1 ⊢
  clear hA0 s0 s1 hp
  have hwA : IntKind.i64.wrap (A0 + (j : Int)) = A0 + (j : Int) := by rw [IntKind.wrap_i64]; omega
  obtain ⟨wh, hwh⟩ : ∃ x, p.who = x := ⟨_, rfl⟩
  rw [hwh] at e1 ⊢
  obtain ⟨sl, hsl⟩ : ∃ x, p.sl = x := ⟨_, rfl⟩
  rw [hsl] at e2 K1
  obtain ⟨cn, hcn⟩ : ∃ x, p.count = x := ⟨_, rfl⟩
  rw [hcn] at e4
  try rw [hcn]
  clear hwh hsl hcn
  go_enter Tryz.func59, Tryz.ntmps59
  go_upto_region 1 with (fail)
  have hC0 : Ch [] w ((w.alloc (.cells (layC p) 72)).alloc (.cells (accC 0 0 0 0) 87)) := ((Ch.refl [] w).alloc _).alloc _
  have b0 := lnew_lay p w
  have z0 := lnew_layz p w
  generalize (w.alloc (.cells (layC p) 72)).alloc (.cells (accC 0 0 0 0) 87) = W0 at *
  obtain ⟨cp, hcp⟩ : ∃ c, layC p = c := ⟨_, rfl⟩
  rw [hcp] at b0 e0 e1 e2 e4
  rw [hcp] at e5 e6
  clear hcp
  obtain ⟨B, hB⟩ : ∃ B, w.heap.size = B := ⟨_, rfl⟩
  rw [hB] at b0 z0 ⊢
  have hBw : w.heap.size ≤ B := by omega
  clear hB
  have s1 : (fun W' : World => W'.heap[B]? = some (.cells cp 72 (0, 0))) W0.drew := b0
  have z1 : W0.drew.heap[B + 1]? = some (.cells (accC 0 0 0 0) 87 (0, 0)) := z0
  have C1 : Ch [] w W0.drew := hC0.drew
  refine wp_region_held_drew (S := fun W' => W'.heap[B]? = some (.cells cp 72 (0, 0))) (by kernel_rfl) s1 ?_
  intro _
  simp only [List.size_toArray, List.length_cons, List.length_nil, Nat.reduceAdd]
  clear b0 z0 hC0
  generalize W0.drew = w1 at *
  refine tk 0 4 ?_ rfl s1 ?_ ?_; rotate_left
  · intro _ _; go_simp; try with_reducible rfl
  try go_frame
  refine tk 1 5 ?_ rfl s1 ?_ ?_; rotate_left
  · intro _ _; go_simp; try with_reducible rfl
  try go_frame
  refine tk 2 6 ?_ rfl s1 ?_ ?_; rotate_left
  · intro _ _; go_simp; try with_reducible rfl
  try go_frame
  refine tk 3 7 ?_ rfl s1 ?_ ?_; rotate_left
  · intro _ _; go_simp; try with_reducible rfl
  try go_frame
  refine wpAnyH_ready (rs := [4, 6]) (by kernel_rfl) (by simp) ?_
  refine AllReadyH.cons rfl (fun K hK => ?_) (AllReadyH.cons (o := ⟨some 3, _, _, _, _, none⟩) rfl (fun K hK => ?_) AllReadyH.nil)
  · go_simp
    refine (K1 _).mono ?_
    rintro e w' ⟨rfl, rfl⟩
    refine hK.out _ _ s1 (fun _ => ?_)
    clear hK K
    refine tk 5 9 ?_ rfl s1 ?_ ?_; rotate_left
    · intro _ _; go_simp; try with_reducible rfl
    try go_frame
    refine rd (o := ⟨some 3, _, _, _, _, none⟩) 6 rfl (fun K hK => ?_); go_simp
    have hc2 : Ch [] w1 (w1.alloc (.cells (accC 0 0 0 0) 87)) := (Ch.refl [] w1).alloc _
    have g2 : (w1.alloc (.cells (accC 0 0 0 0) 87)).heap[w1.heap.size]? = some (.cells (accC 0 0 0 0) 87 (0, 0)) := by rw [zac, if_pos rfl]
    have s2 := hkeep hc2 s1
    have z2 := hkeep hc2 z1
    have C2 := C1.trans hc2
    have hz := zae z1
    have hGw := C1.size
    refine hK.out _ _ s2 (fun _ => ?_)
    clear hK K hc2 s1 z1 C1
    obtain ⟨w2, hw2⟩ : ∃ W, (w1.alloc (.cells (accC 0 0 0 0) 87)) = W := ⟨_, rfl⟩
    rw [hw2] at s2 z2 C2 g2 ⊢
    clear hw2
    obtain ⟨G, hG⟩ : ∃ G, w1.heap.size = G := ⟨_, rfl⟩
    rw [hG] at g2 hz hGw ⊢
    clear hG
    refine rd 7 rfl (fun K hK => ?_); go_simp
    have g3 : (World.onObj w2 G (laidAt 0 (accC wh 2 A0 0))).heap[G]? = some (.cells (accC wh 2 A0 0) 87 (0, 0)) := by rw [zab, if_pos rfl, g2, Option.map_some, zak]
    have s3 : (World.onObj w2 G (laidAt 0 (accC wh 2 A0 0))).heap[B]? = some (.cells cp 72 (0, 0)) := by rw [zab, if_neg (by omega)]; exact s2
    have z3 : (World.onObj w2 G (laidAt 0 (accC wh 2 A0 0))).heap[B + 1]? = some (.cells (accC 0 0 0 0) 87 (0, 0)) := by rw [zab, if_neg (by omega)]; exact z2
    have C3 : Ch [] w (World.onObj w2 G (laidAt 0 (accC wh 2 A0 0))) := C2.onObj (.inr hGw) _
    refine hK.out _ _ s3 (fun _ => ?_)
    clear hK K s2 z2 C2 g2
    generalize (World.onObj w2 G (laidAt 0 (accC wh 2 A0 0))) = w3 at *
    refine wpAnyH_done (by kernel_rfl) ?_ _
    have hBG : ¬ B = G := by omega
    have hGB : ¬ G = B := by omega
    have hZG : ¬ B + 1 = G := by omega
    have hGZ : ¬ G = B + 1 := by omega
    clear hz
    go_upto_region 10 with (fail)
    have s4 : (fun W' : World => W'.heap[B]? = some (.cells cp 72 (0, 0))) w3.drew := s3
    have z4 : w3.drew.heap[B + 1]? = _ := z3
    have g4 : w3.drew.heap[G]? = _ := g3
    have C4 : Ch [] w w3.drew := C3.drew
    refine wp_region_held_drew (S := fun W' => W'.heap[B]? = some (.cells cp 72 (0, 0))) (by kernel_rfl) s4 ?_
    intro _
    simp only [List.size_toArray, List.length_cons, List.length_nil, Nat.reduceAdd]
    clear s3 z3 g3 C3
    generalize w3.drew = w4 at *
    refine tk 0 32 ?_ rfl s4 ?_ ?_; rotate_left
    · intro _ _; go_simp; try with_reducible rfl
    try go_frame
    refine tk 2 34 ?_ rfl s4 ?_ ?_; rotate_left
    · intro _ _; go_simp; try with_reducible rfl
    try go_frame
    refine tk 3 35 ?_ rfl s4 ?_ ?_; rotate_left
    · intro _ _; go_simp; try with_reducible rfl
    try go_frame
    refine tk 5 37 ?_ rfl s4 ?_ ?_; rotate_left
    · intro _ _; go_simp; try with_reducible rfl
    try go_frame
    refine tk 6 38 ?_ rfl s4 ?_ ?_; rotate_left
    · intro _ _; go_simp; try with_reducible rfl
    try go_frame
    refine tk 7 39 ?_ rfl s4 ?_ ?_; rotate_left
    · intro _ _; go_simp; try with_reducible rfl
    try go_frame
    refine tk 8 40 ?_ rfl s4 ?_ ?_; rotate_left
    · intro _ _; go_simp; try with_reducible rfl
    try go_frame
    refine tk 9 41 ?_ rfl s4 ?_ ?_; rotate_left
    · intro _ _; go_simp; try with_reducible rfl
    try go_frame
    refine rd (o := ⟨some 33, _, _, _, _, none⟩) 1 rfl (fun K hK => ?_); go_simp
    refine hK.out _ _ s4 (fun _ => ?_)
    clear hK K
    refine tk 4 36 ?_ rfl s4 ?_ ?_; rotate_left
    · intro _ _; go_simp; try with_reducible rfl
    try go_frame
    refine tk 10 42 ?_ rfl s4 ?_ ?_; rotate_left
    · intro _ _; go_simp; try with_reducible rfl
    try go_frame
    refine rd 11 rfl (fun K hK => ?_); go_simp
    have g5 : (w4.setCell ⟨G, 2, none⟩ (I (A0 + (j : Int)))).heap[G]? = some (.cells (accC wh 2 (A0 + (j : Int)) 0) 87 (0, 0)) := by rw [zaa, if_pos rfl, g4, Option.map_some, zad, acc_s2]
    have s5 : (w4.setCell ⟨G, 2, none⟩ (I (A0 + (j : Int)))).heap[B]? = some (.cells cp 72 (0, 0)) := by rw [zaa, if_neg hBG]; exact s4
    have z5 : (w4.setCell ⟨G, 2, none⟩ (I (A0 + (j : Int)))).heap[B + 1]? = some (.cells (accC 0 0 0 0) 87 (0, 0)) := by rw [zaa, if_neg hZG]; exact z4
    have C5 : Ch [] w (w4.setCell ⟨G, 2, none⟩ (I (A0 + (j : Int)))) := C4.setCell (.inr hGw) _
    refine hK.out _ _ s5 (fun _ => ?_)
    clear hK K s4 z4 C4 g4
    generalize (w4.setCell ⟨G, 2, none⟩ (I (A0 + (j : Int)))) = w5 at *
    refine tk 12 43 ?_ rfl s5 ?_ ?_; rotate_left
    · intro _ _; go_simp; try with_reducible rfl
    try go_frame
    refine rd 13 rfl (fun K hK => ?_); go_simp
    have g6 : (w5.setCell ⟨G, 4, none⟩ (U x)).heap[G]? = some (.cells (accC wh 2 (A0 + (j : Int)) (N x)) 87 (0, 0)) := by rw [zaa, if_pos rfl, g5, Option.map_some, zad, acc_s4]
    have s6 : (w5.setCell ⟨G, 4, none⟩ (U x)).heap[B]? = some (.cells cp 72 (0, 0)) := by rw [zaa, if_neg hBG]; exact s5
    have z6 : (w5.setCell ⟨G, 4, none⟩ (U x)).heap[B + 1]? = some (.cells (accC 0 0 0 0) 87 (0, 0)) := by rw [zaa, if_neg hZG]; exact z5
    have C6 : Ch [] w (w5.setCell ⟨G, 4, none⟩ (U x)) := C5.setCell (.inr hGw) _
    refine hK.out _ _ s6 (fun _ => ?_)
    clear hK K s5 z5 C5 g5
    generalize (w5.setCell ⟨G, 4, none⟩ (U x)) = w6 at *
    refine wpAnyH_done (by kernel_rfl) ?_ _
    go_wp2
    refine bodyPost_ret (acc_result Tryz.results59 _ (B + 1) _ wh 2 (A0 + (j : Int)) (N x) rfl ?_) rfl ⟨rfl, C6.onObj (.inr (by omega)) _⟩
    simp [go_sem, z6]
  · go_simp
    have hc2 : Ch [] w1 (w1.alloc (.cells (accC 0 0 0 0) 87)) := (Ch.refl [] w1).alloc _
    have g2 : (w1.alloc (.cells (accC 0 0 0 0) 87)).heap[w1.heap.size]? = some (.cells (accC 0 0 0 0) 87 (0, 0)) := by rw [zac, if_pos rfl]
    have s2 := hkeep hc2 s1
    have z2 := hkeep hc2 z1
    have C2 := C1.trans hc2
    have hz := zae z1
    have hGw := C1.size
    refine hK.out _ _ s2 (fun _ => ?_)
    clear hK K hc2 s1 z1 C1
    obtain ⟨w2, hw2⟩ : ∃ W, (w1.alloc (.cells (accC 0 0 0 0) 87)) = W := ⟨_, rfl⟩
    rw [hw2] at s2 z2 C2 g2 ⊢
    clear hw2
    obtain ⟨G, hG⟩ : ∃ G, w1.heap.size = G := ⟨_, rfl⟩
    rw [hG] at g2 hz hGw ⊢
    clear hG
    refine rd (o := ⟨some 8, _, _, _, _, none⟩) 4 rfl (fun K hK => ?_); go_simp
    refine (K1 _).mono ?_
    rintro e w' ⟨rfl, rfl⟩
    refine hK.out _ _ s2 (fun _ => ?_)
    clear hK K
    refine tk 5 9 ?_ rfl s2 ?_ ?_; rotate_left
    · intro _ _; go_simp; try with_reducible rfl
    try go_frame
    refine rd 7 rfl (fun K hK => ?_); go_simp
    have g3 : (World.onObj w2 G (laidAt 0 (accC wh 2 A0 0))).heap[G]? = some (.cells (accC wh 2 A0 0) 87 (0, 0)) := by rw [zab, if_pos rfl, g2, Option.map_some, zak]
    have s3 : (World.onObj w2 G (laidAt 0 (accC wh 2 A0 0))).heap[B]? = some (.cells cp 72 (0, 0)) := by rw [zab, if_neg (by omega)]; exact s2
    have z3 : (World.onObj w2 G (laidAt 0 (accC wh 2 A0 0))).heap[B + 1]? = some (.cells (accC 0 0 0 0) 87 (0, 0)) := by rw [zab, if_neg (by omega)]; exact z2
    have C3 : Ch [] w (World.onObj w2 G (laidAt 0 (accC wh 2 A0 0))) := C2.onObj (.inr hGw) _
    refine hK.out _ _ s3 (fun _ => ?_)
    clear hK K s2 z2 C2 g2
    generalize (World.onObj w2 G (laidAt 0 (accC wh 2 A0 0))) = w3 at *
    refine wpAnyH_done (by kernel_rfl) ?_ _
    have hBG : ¬ B = G := by omega
    have hGB : ¬ G = B := by omega
    have hZG : ¬ B + 1 = G := by omega
    have hGZ : ¬ G = B + 1 := by omega
    clear hz
    go_upto_region 10 with (fail)
    have s4 : (fun W' : World => W'.heap[B]? = some (.cells cp 72 (0, 0))) w3.drew := s3
    have z4 : w3.drew.heap[B + 1]? = _ := z3
    have g4 : w3.drew.heap[G]? = _ := g3
    have C4 : Ch [] w w3.drew := C3.drew
    refine wp_region_held_drew (S := fun W' => W'.heap[B]? = some (.cells cp 72 (0, 0))) (by kernel_rfl) s4 ?_
    intro _
    simp only [List.size_toArray, List.length_cons, List.length_nil, Nat.reduceAdd]
    clear s3 z3 g3 C3
    generalize w3.drew = w4 at *
    refine tk 0 32 ?_ rfl s4 ?_ ?_; rotate_left
    · intro _ _; go_simp; try with_reducible rfl
    try go_frame
    refine tk 2 34 ?_ rfl s4 ?_ ?_; rotate_left
    · intro _ _; go_simp; try with_reducible rfl
    try go_frame
    refine tk 3 35 ?_ rfl s4 ?_ ?_; rotate_left
    · intro _ _; go_simp; try with_reducible rfl
    try go_frame
    refine tk 5 37 ?_ rfl s4 ?_ ?_; rotate_left
    · intro _ _; go_simp; try with_reducible rfl
    try go_frame
    refine tk 6 38 ?_ rfl s4 ?_ ?_; rotate_left
    · intro _ _; go_simp; try with_reducible rfl
    try go_frame
    refine tk 7 39 ?_ rfl s4 ?_ ?_; rotate_left
    · intro _ _; go_simp; try with_reducible rfl
    try go_frame
    refine tk 8 40 ?_ rfl s4 ?_ ?_; rotate_left
    · intro _ _; go_simp; try with_reducible rfl
    try go_frame
    refine tk 9 41 ?_ rfl s4 ?_ ?_; rotate_left
    · intro _ _; go_simp; try with_reducible rfl
    try go_frame
    refine rd (o := ⟨some 33, _, _, _, _, none⟩) 1 rfl (fun K hK => ?_); go_simp
    refine hK.out _ _ s4 (fun _ => ?_)
    clear hK K
    refine tk 4 36 ?_ rfl s4 ?_ ?_; rotate_left
    · intro _ _; go_simp; try with_reducible rfl
    try go_frame
    refine tk 10 42 ?_ rfl s4 ?_ ?_; rotate_left
    · intro _ _; go_simp; try with_reducible rfl
    try go_frame
    refine rd 11 rfl (fun K hK => ?_); go_simp
    have g5 : (w4.setCell ⟨G, 2, none⟩ (I (A0 + (j : Int)))).heap[G]? = some (.cells (accC wh 2 (A0 + (j : Int)) 0) 87 (0, 0)) := by rw [zaa, if_pos rfl, g4, Option.map_some, zad, acc_s2]
    have s5 : (w4.setCell ⟨G, 2, none⟩ (I (A0 + (j : Int)))).heap[B]? = some (.cells cp 72 (0, 0)) := by rw [zaa, if_neg hBG]; exact s4
    have z5 : (w4.setCell ⟨G, 2, none⟩ (I (A0 + (j : Int)))).heap[B + 1]? = some (.cells (accC 0 0 0 0) 87 (0, 0)) := by rw [zaa, if_neg hZG]; exact z4
    have C5 : Ch [] w (w4.setCell ⟨G, 2, none⟩ (I (A0 + (j : Int)))) := C4.setCell (.inr hGw) _
    refine hK.out _ _ s5 (fun _ => ?_)
    clear hK K s4 z4 C4 g4
    generalize (w4.setCell ⟨G, 2, none⟩ (I (A0 + (j : Int)))) = w5 at *
    refine tk 12 43 ?_ rfl s5 ?_ ?_; rotate_left
    · intro _ _; go_simp; try with_reducible rfl
    try go_frame
    refine rd 13 rfl (fun K hK => ?_); go_simp
    have g6 : (w5.setCell ⟨G, 4, none⟩ (U x)).heap[G]? = some (.cells (accC wh 2 (A0 + (j : Int)) (N x)) 87 (0, 0)) := by rw [zaa, if_pos rfl, g5, Option.map_some, zad, acc_s4]
    have s6 : (w5.setCell ⟨G, 4, none⟩ (U x)).heap[B]? = some (.cells cp 72 (0, 0)) := by rw [zaa, if_neg hBG]; exact s5
    have z6 : (w5.setCell ⟨G, 4, none⟩ (U x)).heap[B + 1]? = some (.cells (accC 0 0 0 0) 87 (0, 0)) := by rw [zaa, if_neg hZG]; exact z5
    have C6 : Ch [] w (w5.setCell ⟨G, 4, none⟩ (U x)) := C5.setCell (.inr hGw) _
    refine hK.out _ _ s6 (fun _ => ?_)
    clear hK K s5 z5 C5 g5
    generalize (w5.setCell ⟨G, 4, none⟩ (U x)) = w6 at *
    refine wpAnyH_done (by kernel_rfl) ?_ _
    go_wp2
    refine bodyPost_ret (acc_result Tryz.results59 _ (B + 1) _ wh 2 (A0 + (j : Int)) (N x) rfl ?_) rfl ⟨rfl, C6.onObj (.inr (by omega)) _⟩
    simp [go_sem, z6]
theorem r20Need_4 (p : LayT) (hp : p.ph = 4) (s0 : 0 ≤ p.sl) (s1 : p.sl < 128) (w : World) : Calls Tryz.prog 59 #[.agg (layC p)] w fun e w' => e = .returned (.agg (accC p.who 2 (16 + 40 * p.sl) (N (p.count + 2#64)))) ∧ Ch [] w w' := by
  have K1 := fun w => rCell_any p.sl 0 s0 s1 (by decide) (by decide) w
  have ea : (16 : Int) + 40 * p.sl + 0 = 16 + 40 * p.sl := by omega
  rw [ea] at K1
  clear ea
  have e0 : (layC p)[0]? = some (I 4) := by rw [lay_g0, hp]
  have e1 : (layC p)[1]? = some (I p.who) := lay_g1 p
  have e2 : (layC p)[2]? = some (I p.sl) := lay_g2 p
  have e4 : (layC p)[4]? = some (U p.count) := lay_g4 p
  obtain ⟨A0, hA0⟩ : ∃ a, 16 + 40 * p.sl = a := ⟨_, rfl⟩
  have hA1 : 16 ≤ A0 := by omega
  have hA2 : A0 ≤ 5200 := by omega
  rw [hA0] at K1 ⊢
  clear hA0 s0 s1 hp
  obtain ⟨wh, hwh⟩ : ∃ x, p.who = x := ⟨_, rfl⟩
  rw [hwh] at e1 ⊢
  obtain ⟨sl, hsl⟩ : ∃ x, p.sl = x := ⟨_, rfl⟩
  rw [hsl] at e2 K1
  obtain ⟨cn, hcn⟩ : ∃ x, p.count = x := ⟨_, rfl⟩
  rw [hcn] at e4
  try rw [hcn]
  clear hwh hsl hcn
  go_enter Tryz.func59, Tryz.ntmps59
  go_upto_region 1 with (fail)
  have hC0 : Ch [] w ((w.alloc (.cells (layC p) 72)).alloc (.cells (accC 0 0 0 0) 87)) := ((Ch.refl [] w).alloc _).alloc _
  have b0 := lnew_lay p w
  have z0 := lnew_layz p w
  generalize (w.alloc (.cells (layC p) 72)).alloc (.cells (accC 0 0 0 0) 87) = W0 at *
  obtain ⟨cp, hcp⟩ : ∃ c, layC p = c := ⟨_, rfl⟩
  rw [hcp] at b0 e0 e1 e2 e4
  skip
  clear hcp
  obtain ⟨B, hB⟩ : ∃ B, w.heap.size = B := ⟨_, rfl⟩
  rw [hB] at b0 z0 ⊢
  have hBw : w.heap.size ≤ B := by omega
  clear hB
  have s1 : (fun W' : World => W'.heap[B]? = some (.cells cp 72 (0, 0))) W0.drew := b0
  have z1 : W0.drew.heap[B + 1]? = some (.cells (accC 0 0 0 0) 87 (0, 0)) := z0
  have C1 : Ch [] w W0.drew := hC0.drew
  refine wp_region_held_drew (S := fun W' => W'.heap[B]? = some (.cells cp 72 (0, 0))) (by kernel_rfl) s1 ?_
  intro _
  simp only [List.size_toArray, List.length_cons, List.length_nil, Nat.reduceAdd]
  clear b0 z0 hC0
  generalize W0.drew = w1 at *
  refine tk 0 4 ?_ rfl s1 ?_ ?_; rotate_left
  · intro _ _; go_simp; try with_reducible rfl
  try go_frame
  refine tk 1 5 ?_ rfl s1 ?_ ?_; rotate_left
  · intro _ _; go_simp; try with_reducible rfl
  try go_frame
  refine tk 2 6 ?_ rfl s1 ?_ ?_; rotate_left
  · intro _ _; go_simp; try with_reducible rfl
  try go_frame
  refine tk 3 7 ?_ rfl s1 ?_ ?_; rotate_left
  · intro _ _; go_simp; try with_reducible rfl
  try go_frame
  refine wpAnyH_ready (rs := [4, 6]) (by kernel_rfl) (by simp) ?_
  refine AllReadyH.cons rfl (fun K hK => ?_) (AllReadyH.cons (o := ⟨some 3, _, _, _, _, none⟩) rfl (fun K hK => ?_) AllReadyH.nil)
  · go_simp
    refine (K1 _).mono ?_
    rintro e w' ⟨rfl, rfl⟩
    refine hK.out _ _ s1 (fun _ => ?_)
    clear hK K
    refine tk 5 9 ?_ rfl s1 ?_ ?_; rotate_left
    · intro _ _; go_simp; try with_reducible rfl
    try go_frame
    refine rd (o := ⟨some 3, _, _, _, _, none⟩) 6 rfl (fun K hK => ?_); go_simp
    have hc2 : Ch [] w1 (w1.alloc (.cells (accC 0 0 0 0) 87)) := (Ch.refl [] w1).alloc _
    have g2 : (w1.alloc (.cells (accC 0 0 0 0) 87)).heap[w1.heap.size]? = some (.cells (accC 0 0 0 0) 87 (0, 0)) := by rw [zac, if_pos rfl]
    have s2 := hkeep hc2 s1
    have z2 := hkeep hc2 z1
    have C2 := C1.trans hc2
    have hz := zae z1
    have hGw := C1.size
    refine hK.out _ _ s2 (fun _ => ?_)
    clear hK K hc2 s1 z1 C1
    obtain ⟨w2, hw2⟩ : ∃ W, (w1.alloc (.cells (accC 0 0 0 0) 87)) = W := ⟨_, rfl⟩
    rw [hw2] at s2 z2 C2 g2 ⊢
    clear hw2
    obtain ⟨G, hG⟩ : ∃ G, w1.heap.size = G := ⟨_, rfl⟩
    rw [hG] at g2 hz hGw ⊢
    clear hG
    refine rd 7 rfl (fun K hK => ?_); go_simp
    have g3 : (World.onObj w2 G (laidAt 0 (accC wh 2 A0 0))).heap[G]? = some (.cells (accC wh 2 A0 0) 87 (0, 0)) := by rw [zab, if_pos rfl, g2, Option.map_some, zak]
    have s3 : (World.onObj w2 G (laidAt 0 (accC wh 2 A0 0))).heap[B]? = some (.cells cp 72 (0, 0)) := by rw [zab, if_neg (by omega)]; exact s2
    have z3 : (World.onObj w2 G (laidAt 0 (accC wh 2 A0 0))).heap[B + 1]? = some (.cells (accC 0 0 0 0) 87 (0, 0)) := by rw [zab, if_neg (by omega)]; exact z2
    have C3 : Ch [] w (World.onObj w2 G (laidAt 0 (accC wh 2 A0 0))) := C2.onObj (.inr hGw) _
    refine hK.out _ _ s3 (fun _ => ?_)
    clear hK K s2 z2 C2 g2
    generalize (World.onObj w2 G (laidAt 0 (accC wh 2 A0 0))) = w3 at *
    refine wpAnyH_done (by kernel_rfl) ?_ _
    have hBG : ¬ B = G := by omega
    have hGB : ¬ G = B := by omega
    have hZG : ¬ B + 1 = G := by omega
    have hGZ : ¬ G = B + 1 := by omega
    clear hz
    go_wp2
    refine bodyPost_ret (acc_result Tryz.results59 _ (B + 1) _ wh 2 A0 (N (cn + 2#64)) rfl ?_) rfl ⟨rfl, (C3.setCell (p := ⟨G, 4, none⟩) (.inr hGw) _).onObj (.inr (by omega)) _⟩
    simp [go_sem, z3, hZG]
  · go_simp
    have hc2 : Ch [] w1 (w1.alloc (.cells (accC 0 0 0 0) 87)) := (Ch.refl [] w1).alloc _
    have g2 : (w1.alloc (.cells (accC 0 0 0 0) 87)).heap[w1.heap.size]? = some (.cells (accC 0 0 0 0) 87 (0, 0)) := by rw [zac, if_pos rfl]
    have s2 := hkeep hc2 s1
    have z2 := hkeep hc2 z1
    have C2 := C1.trans hc2
    have hz := zae z1
    have hGw := C1.size
    refine hK.out _ _ s2 (fun _ => ?_)
    clear hK K hc2 s1 z1 C1
    obtain ⟨w2, hw2⟩ : ∃ W, (w1.alloc (.cells (accC 0 0 0 0) 87)) = W := ⟨_, rfl⟩
    rw [hw2] at s2 z2 C2 g2 ⊢
    clear hw2
    obtain ⟨G, hG⟩ : ∃ G, w1.heap.size = G := ⟨_, rfl⟩
    rw [hG] at g2 hz hGw ⊢
    clear hG
    refine rd (o := ⟨some 8, _, _, _, _, none⟩) 4 rfl (fun K hK => ?_); go_simp
    refine (K1 _).mono ?_
    rintro e w' ⟨rfl, rfl⟩
    refine hK.out _ _ s2 (fun _ => ?_)
    clear hK K
    refine tk 5 9 ?_ rfl s2 ?_ ?_; rotate_left
    · intro _ _; go_simp; try with_reducible rfl
    try go_frame
    refine rd 7 rfl (fun K hK => ?_); go_simp
    have g3 : (World.onObj w2 G (laidAt 0 (accC wh 2 A0 0))).heap[G]? = some (.cells (accC wh 2 A0 0) 87 (0, 0)) := by rw [zab, if_pos rfl, g2, Option.map_some, zak]
    have s3 : (World.onObj w2 G (laidAt 0 (accC wh 2 A0 0))).heap[B]? = some (.cells cp 72 (0, 0)) := by rw [zab, if_neg (by omega)]; exact s2
    have z3 : (World.onObj w2 G (laidAt 0 (accC wh 2 A0 0))).heap[B + 1]? = some (.cells (accC 0 0 0 0) 87 (0, 0)) := by rw [zab, if_neg (by omega)]; exact z2
    have C3 : Ch [] w (World.onObj w2 G (laidAt 0 (accC wh 2 A0 0))) := C2.onObj (.inr hGw) _
    refine hK.out _ _ s3 (fun _ => ?_)
    clear hK K s2 z2 C2 g2
    generalize (World.onObj w2 G (laidAt 0 (accC wh 2 A0 0))) = w3 at *
    refine wpAnyH_done (by kernel_rfl) ?_ _
    have hBG : ¬ B = G := by omega
    have hGB : ¬ G = B := by omega
    have hZG : ¬ B + 1 = G := by omega
    have hGZ : ¬ G = B + 1 := by omega
    clear hz
    go_wp2
    refine bodyPost_ret (acc_result Tryz.results59 _ (B + 1) _ wh 2 A0 (N (cn + 2#64)) rfl ?_) rfl ⟨rfl, (C3.setCell (p := ⟨G, 4, none⟩) (.inr hGw) _).onObj (.inr (by omega)) _⟩
    simp [go_sem, z3, hZG]
theorem r20Need_any (p : LayT) (a : AccT) (h : needL p = some a) (w : World) : Calls Tryz.prog 59 #[.agg (layC p)] w fun e w' => e = .returned (.agg (accC p.who a.kind a.at_ (N a.new))) ∧ Ch [] w w' := by
  obtain ⟨hr, h4⟩ := needL_some h
  have R := (zdc p).1 hr
  have h0 := R.ph0
  have hat := R.at_
  unfold needL at h
  rw [if_pos (by simp [hr, h4])] at h
  have h := Option.some.inj h
  subst h
  rcases (show p.ph = 0 ∨ p.ph = 1 ∨ p.ph = 2 ∨ p.ph = 3 ∨ p.ph = 4 by omega) with h | h | h | h | h
  · have := r20Need_0 p h R.sl0 R.sl1 w
    rw [h]
    simpa [show N 0#64 = 0 from rfl] using this
  · have := r20Need_1 p h R.sl0 R.sl1 w
    rw [h]
    simpa using this
  · have := r20Need_2 p h R.sl0 R.sl1 (by omega) (by omega) w
    rw [h]
    simpa [show N 0#64 = 0 from rfl] using this
  · have := r20Need_3 p h R.sl0 R.sl1 p.at_.toNat (by omega) (by omega) w
    rw [show ((p.at_.toNat : Nat) : Int) = p.at_ by omega] at this
    rw [h]
    simpa using this
  · have := r20Need_4 p h R.sl0 R.sl1 w
    rw [h]
    simpa using this
end
end Go.Proofs.Hc
