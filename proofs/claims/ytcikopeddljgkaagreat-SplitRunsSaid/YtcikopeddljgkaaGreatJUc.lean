/- The reference of layer 22: Need (printed by gen_rneed22.py). -/
import Derived.Test.YtcikopeddljgkaaGreatJVb
import Derived.Test.YtcikopeddljgkaaGreatJ0
set_option linter.unusedSimpArgs false
set_option linter.unusedVariables false
set_option maxHeartbeats 4000000
set_option maxRecDepth 100000
namespace Go.Proofs.Hc
open Go.RowKit
attribute [local go_sem] zbu zcc zax zbf zbo zbd zbn zbp zbw signed64 signed8 zap BitVec.ofInt_add BitVec.ofInt_mul ofInt_sub' zbb zbc wide8 eqN neN zca shr1 shr7 shr56
attribute [local go_sem high] zbe zbv
attribute [local go_sem] zaw zby zaj zas zaf zaz zar zak zbm zal zay zba
attribute [local go_sem] load26 load73 load23 store26 build73
attribute [local go_sem ↓] lrow26 lrow73 lrow23 srow26 zero26 brow73 zae zbk zbg zaa zab
attribute [local go_sem] zai zav zat zbj zbl zbr zaq zau zbs zbi zbh
attribute [local go_sem] nn2 nm2 nn3 nm3 nn4 nm4 nn5 nm5 nn6 nm6 nn7 nm7 nn8 nm8
section
attribute [local go_sem] acc_g0 acc_g1 acc_g2 acc_g4 acc_s0 acc_s1 acc_s2 acc_s4 accC_size accC_one accC_all loadAcc storeAcc bacc0 bacc2 bacc3 bacc3u bacc4
attribute [local go_sem ↓] lrowAcc srowAcc browAcc zeroAcc_run
attribute [local go_sem high] zah
attribute [local go_sem] zap zbq
attribute [local go_sem] Oper.semAt_some zao
attribute [local go_sem] zcj pacell0 pacell1 pacell2 pacell3 pacell4 pacell5 pacell6 pacell7 pacell42
attribute [local go_sem] zcs zcx zcp zcw zcv zdg zcu zdf zce zcr zdj zdc zch zbt zci zck boxPart loadPart storePart zcf zct buildPart0 buildPart4
attribute [local go_sem ↓] lrowPart srowPart browPart zcl zbz
attribute [local go_sem high] zag
attribute [local irreducible] partC
attribute [local irreducible] accC
theorem accS_0 {p : PartT} (h : p.ph = 0) : accS p = ⟨1, 16 + 40 * p.sl, 0#64⟩ := by
  simp [accS, whereS, h]
theorem accS_1 {p : PartT} (h : p.ph = 1) : accS p = ⟨1, 17 + 40 * p.sl, 0#64⟩ := by
  simp [accS, whereS, h]
theorem accS_2 {p : PartT} (h : p.ph = 2) : accS p = ⟨1, 20 + 40 * p.sl + p.at_, 0#64⟩ := by
  simp [accS, whereS, h]
theorem accS_3 {p : PartT} (h : p.ph = 3) : accS p = ⟨1, 22 + 40 * p.sl + p.at_, 0#64⟩ := by
  simp [accS, whereS, h]
theorem accS_4 {p : PartT} (h : p.ph = 4) : accS p = ⟨1, 38 + 40 * p.sl + p.at_, 0#64⟩ := by
  simp [accS, whereS, h]
theorem accS_5 {p : PartT} (h : p.ph = 5) : accS p = ⟨2, 16 + 40 * p.sl, p.count + 1#64⟩ := by
  simp [accS, whereS, h]
theorem accS_6 {p : PartT} (h : p.ph = 6) : accS p = ⟨2, 16 + 40 * (if p.at_ < 40 then p.t0 else p.t1) + p.at_ % 40, p.ws p.at_.toNat⟩ := by
  simp [accS, whereS, h]
theorem rneed_b (p : PartT) (w : World) : ((w.alloc (.cells (partC p) 51)).alloc (.cells (accC 0 0 0 0) 87)).heap[w.heap.size]? = some (.cells (partC p) 51 (0, 0)) := by
  rw [zae, if_neg (by simp), zae, if_pos rfl]
theorem rneed_z (p : PartT) (w : World) : ((w.alloc (.cells (partC p) 51)).alloc (.cells (accC 0 0 0 0) 87)).heap[w.heap.size + 1]? = some (.cells (accC 0 0 0 0) 87 (0, 0)) := by
  rw [zae, if_pos (by simp)]
theorem r22Need_0 (p : PartT) (hp : p.ph = 0) (s0 : 0 ≤ p.sl) (s1 : p.sl < 128) (w : World) : Calls Tryz.prog 48 #[.agg (partC p)] w fun e w' => e = .returned (.agg (accC p.who 1 (16 + 40 * p.sl) 0)) ∧ Ch [] w w' := by
  have K1 := fun w => rCell_any p.sl 0 s0 s1 (by decide) (by decide) w
  have ea : (16 : Int) + 40 * p.sl + 0 = 16 + 40 * p.sl := by omega
  rw [ea] at K1
  clear ea
  have e0 : (partC p)[0]? = some (I 0) := by rw [zcs, hp]
  have e1 : (partC p)[1]? = some (I p.who) := zcx p
  have e2 : (partC p)[2]? = some (I p.sl) := zcp p
  have e6 : (partC p)[6]? = some (U p.count) := zcu p
  obtain ⟨A0, hA0⟩ : ∃ a, 16 + 40 * p.sl = a := ⟨_, rfl⟩
  have hA1 : 16 ≤ A0 := by omega
  have hA2 : A0 ≤ 5200 := by omega
  rw [hA0] at K1 ⊢
  clear hA0 s0 s1 hp
  obtain ⟨wh, hwh⟩ : ∃ x, p.who = x := ⟨_, rfl⟩
  rw [hwh] at e1 ⊢
  obtain ⟨sl, hsl⟩ : ∃ x, p.sl = x := ⟨_, rfl⟩
  rw [hsl] at e2 K1
  obtain ⟨cn, hcn⟩ : ∃ x, p.count = x := ⟨_, rfl⟩
  rw [hcn] at e6
  try rw [hcn]
  clear hwh hsl hcn
  have C0 : Ch [] w ((w.alloc (.cells (partC p) 51)).alloc (.cells (accC 0 0 0 0) 87)) := ((Ch.refl [] w).alloc _).alloc _
  have b0 := rneed_b p w
  have z0 := rneed_z p w
  go_enter Tryz.func48, Tryz.ntmps48
  go_upto_region 1 with (fail)
  obtain ⟨w0, hw0⟩ : ∃ W, (w.alloc (.cells (partC p) 51)).alloc (.cells (accC 0 0 0 0) 87) = W := ⟨_, rfl⟩
  rw [hw0] at b0 z0 C0 ⊢
  clear hw0
  obtain ⟨B, hB⟩ : ∃ B, w.heap.size = B := ⟨_, rfl⟩
  rw [hB] at b0 z0 ⊢
  have hBw : w.heap.size ≤ B := by omega
  clear hB
  obtain ⟨cp, hcp⟩ : ∃ c, partC p = c := ⟨_, rfl⟩
  rw [hcp] at b0 e0 e1 e2 e6
  try rw [hcp]
  clear hcp
  refine sp_region_cut (fun a a' w' => ∃ (G : Nat), a' = (((((((a.put (some 4) (.pointer (some ⟨B, 1, none⟩))).put (some 5) (I wh)).put (some 6) (.pointer (some ⟨B, 2, none⟩))).put (some 7) (I sl)).put (some 8) (I A0)).put (some 9) (.agg (accC wh 1 A0 0))).put (some 3) (.pointer (some ⟨G, 0, none⟩))) ∧ w'.heap[B]? = some (.cells cp 51 (0, 0)) ∧ w'.heap[B + 1]? = some (.cells (accC 0 0 0 0) 87 (0, 0)) ∧ w'.heap[G]? = some (.cells (accC wh 1 A0 0) 87 (0, 0)) ∧ B + 1 < G ∧ Ch [] w w') ?_ ?_
  · have s : (fun W' : World => W'.heap[B]? = some (.cells cp 51 (0, 0))) w0.drew := b0
    have zd : w0.drew.heap[B + 1]? = some (.cells (accC 0 0 0 0) 87 (0, 0)) := z0
    have Cd : Ch [] w w0.drew := C0.drew
    refine wp_region_held_drew (S := fun W' => W'.heap[B]? = some (.cells cp 51 (0, 0))) (by kernel_rfl) s ?_
    intro _
    simp only [List.size_toArray, List.length_cons, List.length_nil, Nat.reduceAdd]
    obtain ⟨wd, hwd⟩ : ∃ W, w0.drew = W := ⟨_, rfl⟩
    rw [hwd] at s zd Cd ⊢
    clear hwd b0 z0 C0
    refine wpAnyH_take (i := 0) (oi := ⟨some 4, _, _, _, _, none⟩) (v := ?_) rfl (by kernel_rfl) (by kernel_rfl) (by kernel_rfl) (fun _ _ _ h => by cases h.1) (Or.inl ⟨by rfl, ?_⟩) s ?_
    rotate_left
    · intro wq hSq
      first | (go_simp; done) | (go_simp; with_reducible rfl)
    try simp only [Act.put, List.setIfInBounds_toArray, List.set_cons_zero, List.set_cons_succ]
    refine wpAnyH_take (i := 1) (oi := ⟨some 5, _, _, _, _, none⟩) (v := ?_) rfl (by kernel_rfl) (by kernel_rfl) (by kernel_rfl) (fun _ _ _ h => by cases h.1) (Or.inl ⟨by rfl, ?_⟩) s ?_
    rotate_left
    · intro wq hSq
      first | (go_simp; done) | (go_simp; with_reducible rfl)
    try simp only [Act.put, List.setIfInBounds_toArray, List.set_cons_zero, List.set_cons_succ]
    refine wpAnyH_take (i := 2) (oi := ⟨some 6, _, _, _, _, none⟩) (v := ?_) rfl (by kernel_rfl) (by kernel_rfl) (by kernel_rfl) (fun _ _ _ h => by cases h.1) (Or.inl ⟨by rfl, ?_⟩) s ?_
    rotate_left
    · intro wq hSq
      first | (go_simp; done) | (go_simp; with_reducible rfl)
    try simp only [Act.put, List.setIfInBounds_toArray, List.set_cons_zero, List.set_cons_succ]
    refine wpAnyH_take (i := 3) (oi := ⟨some 7, _, _, _, _, none⟩) (v := ?_) rfl (by kernel_rfl) (by kernel_rfl) (by kernel_rfl) (fun _ _ _ h => by cases h.1) (Or.inl ⟨by rfl, ?_⟩) s ?_
    rotate_left
    · intro wq hSq
      first | (go_simp; done) | (go_simp; with_reducible rfl)
    try simp only [Act.put, List.setIfInBounds_toArray, List.set_cons_zero, List.set_cons_succ]
    refine wpAnyH_ready (rs := [4, 6]) (by kernel_rfl) (by simp) ?_
    refine AllReadyH.cons rfl (fun K hK => ?_) (AllReadyH.cons (o := ⟨some 3, _, _, _, _, none⟩) rfl (fun K hK => ?_) AllReadyH.nil)
    · go_simp
      refine (K1 _).mono ?_
      rintro e w' ⟨rfl, rfl⟩
      refine hK.out _ _ s (fun _ => ?_)
      clear hK K
      refine wpAnyH_take (i := 5) (oi := ⟨some 9, _, _, _, _, none⟩) (v := ?_) rfl (by kernel_rfl) (by kernel_rfl) (by kernel_rfl) (fun _ _ _ h => by cases h.1) (Or.inl ⟨by rfl, ?_⟩) s ?_
      rotate_left
      · intro wq hSq
        first | (go_simp; done) | (go_simp; with_reducible rfl)
      try simp only [Act.put, List.setIfInBounds_toArray, List.set_cons_zero, List.set_cons_succ]
      refine rd (o := ⟨some 3, _, _, _, _, none⟩) 6 rfl (fun K hK => ?_); go_simp
      have hx : Ch [] wd (wd.alloc (.cells (accC 0 0 0 0) 87)) := (Ch.refl [] wd).alloc _
      have gd : (wd.alloc (.cells (accC 0 0 0 0) 87)).heap[wd.heap.size]? = some (.cells (accC 0 0 0 0) 87 (0, 0)) := by rw [zae, if_pos rfl]
      have hz := zad zd
      have hGw := Cd.size
      obtain ⟨wx, hwx⟩ : ∃ W, wd.alloc (.cells (accC 0 0 0 0) 87) = W := ⟨_, rfl⟩
      rw [hwx] at hx gd ⊢
      clear hwx
      obtain ⟨G, hG⟩ : ∃ X, wd.heap.size = X := ⟨_, rfl⟩
      rw [hG] at gd hz hGw ⊢
      clear hG
      have s' := hkeep hx s
      have zd' := hkeep hx zd
      have Cd' := Cd.trans hx
      refine hK.out _ _ s' (fun _ => ?_)
      clear hK K s zd Cd hx
      refine rd 7 rfl (fun K hK => ?_); go_simp
      have ge : (World.onObj wx G (laidAt 0 (accC wh 1 A0 0))).heap[G]? = some (.cells (accC wh 1 A0 0) 87 (0, 0)) := by rw [zab, if_pos rfl, gd, Option.map_some, zah]
      have se : (World.onObj wx G (laidAt 0 (accC wh 1 A0 0))).heap[B]? = some (.cells cp 51 (0, 0)) := by rw [zab, if_neg (by omega)]; exact s'
      have ze : (World.onObj wx G (laidAt 0 (accC wh 1 A0 0))).heap[B + 1]? = some (.cells (accC 0 0 0 0) 87 (0, 0)) := by rw [zab, if_neg (by omega)]; exact zd'
      have Ce : Ch [] w (World.onObj wx G (laidAt 0 (accC wh 1 A0 0))) := Cd'.onObj (.inr hGw) _
      refine hK.out _ _ se (fun _ => ?_)
      clear hK K
      refine wpAnyH_done (by kernel_rfl) ?_ _
      exact ⟨rfl, G, rfl, se, ze, ge, by omega, Ce⟩
    · go_simp
      have hx : Ch [] wd (wd.alloc (.cells (accC 0 0 0 0) 87)) := (Ch.refl [] wd).alloc _
      have gd : (wd.alloc (.cells (accC 0 0 0 0) 87)).heap[wd.heap.size]? = some (.cells (accC 0 0 0 0) 87 (0, 0)) := by rw [zae, if_pos rfl]
      have hz := zad zd
      have hGw := Cd.size
      obtain ⟨wx, hwx⟩ : ∃ W, wd.alloc (.cells (accC 0 0 0 0) 87) = W := ⟨_, rfl⟩
      rw [hwx] at hx gd ⊢
      clear hwx
      obtain ⟨G, hG⟩ : ∃ X, wd.heap.size = X := ⟨_, rfl⟩
      rw [hG] at gd hz hGw ⊢
      clear hG
      have s' := hkeep hx s
      have zd' := hkeep hx zd
      have Cd' := Cd.trans hx
      refine hK.out _ _ s' (fun _ => ?_)
      clear hK K s zd Cd hx
      refine rd (o := ⟨some 8, _, _, _, _, none⟩) 4 rfl (fun K hK => ?_); go_simp
      refine (K1 _).mono ?_
      rintro e w' ⟨rfl, rfl⟩
      refine hK.out _ _ s' (fun _ => ?_)
      clear hK K
      refine wpAnyH_take (i := 5) (oi := ⟨some 9, _, _, _, _, none⟩) (v := ?_) rfl (by kernel_rfl) (by kernel_rfl) (by kernel_rfl) (fun _ _ _ h => by cases h.1) (Or.inl ⟨by rfl, ?_⟩) s' ?_
      rotate_left
      · intro wq hSq
        first | (go_simp; done) | (go_simp; with_reducible rfl)
      try simp only [Act.put, List.setIfInBounds_toArray, List.set_cons_zero, List.set_cons_succ]
      refine rd 7 rfl (fun K hK => ?_); go_simp
      have ge : (World.onObj wx G (laidAt 0 (accC wh 1 A0 0))).heap[G]? = some (.cells (accC wh 1 A0 0) 87 (0, 0)) := by rw [zab, if_pos rfl, gd, Option.map_some, zah]
      have se : (World.onObj wx G (laidAt 0 (accC wh 1 A0 0))).heap[B]? = some (.cells cp 51 (0, 0)) := by rw [zab, if_neg (by omega)]; exact s'
      have ze : (World.onObj wx G (laidAt 0 (accC wh 1 A0 0))).heap[B + 1]? = some (.cells (accC 0 0 0 0) 87 (0, 0)) := by rw [zab, if_neg (by omega)]; exact zd'
      have Ce : Ch [] w (World.onObj wx G (laidAt 0 (accC wh 1 A0 0))) := Cd'.onObj (.inr hGw) _
      refine hK.out _ _ se (fun _ => ?_)
      clear hK K
      refine wpAnyH_done (by kernel_rfl) ?_ _
      exact ⟨rfl, G, rfl, se, ze, ge, by omega, Ce⟩
  rintro a' w1 ⟨G, rfl, b1, z1, g1, hG, C1⟩
  try simp only [Act.put, List.setIfInBounds_toArray, List.set_cons_zero, List.set_cons_succ]
  clear b0 z0 C0 K1
  have hGn : ¬ G = B := by omega
  have hGn1 : ¬ G = B + 1 := by omega
  have hGb : ¬ B = G := by omega
  have hGb1 : ¬ B + 1 = G := by omega
  go_upto_region 15 with (fail)
  go_wp2
  refine bodyPost_ret (acc_result Tryz.results48 _ (B + 1) _ wh 1 A0 0 rfl ?_) rfl ⟨rfl, C1.onObj (p := B + 1) (.inr (by omega)) _⟩
  rw [zab, if_pos rfl, z1, Option.map_some, zah]
theorem r22Need_1 (p : PartT) (hp : p.ph = 1) (s0 : 0 ≤ p.sl) (s1 : p.sl < 128) (w : World) : Calls Tryz.prog 48 #[.agg (partC p)] w fun e w' => e = .returned (.agg (accC p.who 1 (17 + 40 * p.sl) 0)) ∧ Ch [] w w' := by
  have K1 := fun w => rCell_any p.sl 0 s0 s1 (by decide) (by decide) w
  have ea : (16 : Int) + 40 * p.sl + 0 = 16 + 40 * p.sl := by omega
  rw [ea] at K1
  clear ea
  have e0 : (partC p)[0]? = some (I 1) := by rw [zcs, hp]
  have e1 : (partC p)[1]? = some (I p.who) := zcx p
  have e2 : (partC p)[2]? = some (I p.sl) := zcp p
  have e6 : (partC p)[6]? = some (U p.count) := zcu p
  obtain ⟨A0, hA0⟩ : ∃ a, 16 + 40 * p.sl = a := ⟨_, rfl⟩
  have hA1 : 16 ≤ A0 := by omega
  have hA2 : A0 ≤ 5200 := by omega
  have hs : 17 + 40 * p.sl = A0 + 1 := by omega
  rw [hs]
  clear hs
  have hwA : IntKind.i64.wrap (A0 + 1) = A0 + 1 := by rw [IntKind.wrap_i64]; omega
  rw [hA0] at K1
  clear hA0 s0 s1 hp
  obtain ⟨wh, hwh⟩ : ∃ x, p.who = x := ⟨_, rfl⟩
  rw [hwh] at e1 ⊢
  obtain ⟨sl, hsl⟩ : ∃ x, p.sl = x := ⟨_, rfl⟩
  rw [hsl] at e2 K1
  obtain ⟨cn, hcn⟩ : ∃ x, p.count = x := ⟨_, rfl⟩
  rw [hcn] at e6
  try rw [hcn]
  clear hwh hsl hcn
  have C0 : Ch [] w ((w.alloc (.cells (partC p) 51)).alloc (.cells (accC 0 0 0 0) 87)) := ((Ch.refl [] w).alloc _).alloc _
  have b0 := rneed_b p w
  have z0 := rneed_z p w
  go_enter Tryz.func48, Tryz.ntmps48
  go_upto_region 1 with (fail)
  obtain ⟨w0, hw0⟩ : ∃ W, (w.alloc (.cells (partC p) 51)).alloc (.cells (accC 0 0 0 0) 87) = W := ⟨_, rfl⟩
  rw [hw0] at b0 z0 C0 ⊢
  clear hw0
  obtain ⟨B, hB⟩ : ∃ B, w.heap.size = B := ⟨_, rfl⟩
  rw [hB] at b0 z0 ⊢
  have hBw : w.heap.size ≤ B := by omega
  clear hB
  obtain ⟨cp, hcp⟩ : ∃ c, partC p = c := ⟨_, rfl⟩
  rw [hcp] at b0 e0 e1 e2 e6
  try rw [hcp]
  clear hcp
  refine sp_region_cut (fun a a' w' => ∃ (G : Nat), a' = (((((((a.put (some 4) (.pointer (some ⟨B, 1, none⟩))).put (some 5) (I wh)).put (some 6) (.pointer (some ⟨B, 2, none⟩))).put (some 7) (I sl)).put (some 8) (I A0)).put (some 9) (.agg (accC wh 1 A0 0))).put (some 3) (.pointer (some ⟨G, 0, none⟩))) ∧ w'.heap[B]? = some (.cells cp 51 (0, 0)) ∧ w'.heap[B + 1]? = some (.cells (accC 0 0 0 0) 87 (0, 0)) ∧ w'.heap[G]? = some (.cells (accC wh 1 A0 0) 87 (0, 0)) ∧ B + 1 < G ∧ Ch [] w w') ?_ ?_
  · have s : (fun W' : World => W'.heap[B]? = some (.cells cp 51 (0, 0))) w0.drew := b0
    have zd : w0.drew.heap[B + 1]? = some (.cells (accC 0 0 0 0) 87 (0, 0)) := z0
    have Cd : Ch [] w w0.drew := C0.drew
    refine wp_region_held_drew (S := fun W' => W'.heap[B]? = some (.cells cp 51 (0, 0))) (by kernel_rfl) s ?_
    intro _
    simp only [List.size_toArray, List.length_cons, List.length_nil, Nat.reduceAdd]
    obtain ⟨wd, hwd⟩ : ∃ W, w0.drew = W := ⟨_, rfl⟩
    rw [hwd] at s zd Cd ⊢
    clear hwd b0 z0 C0
    refine wpAnyH_take (i := 0) (oi := ⟨some 4, _, _, _, _, none⟩) (v := ?_) rfl (by kernel_rfl) (by kernel_rfl) (by kernel_rfl) (fun _ _ _ h => by cases h.1) (Or.inl ⟨by rfl, ?_⟩) s ?_
    rotate_left
    · intro wq hSq
      first | (go_simp; done) | (go_simp; with_reducible rfl)
    try simp only [Act.put, List.setIfInBounds_toArray, List.set_cons_zero, List.set_cons_succ]
    refine wpAnyH_take (i := 1) (oi := ⟨some 5, _, _, _, _, none⟩) (v := ?_) rfl (by kernel_rfl) (by kernel_rfl) (by kernel_rfl) (fun _ _ _ h => by cases h.1) (Or.inl ⟨by rfl, ?_⟩) s ?_
    rotate_left
    · intro wq hSq
      first | (go_simp; done) | (go_simp; with_reducible rfl)
    try simp only [Act.put, List.setIfInBounds_toArray, List.set_cons_zero, List.set_cons_succ]
    refine wpAnyH_take (i := 2) (oi := ⟨some 6, _, _, _, _, none⟩) (v := ?_) rfl (by kernel_rfl) (by kernel_rfl) (by kernel_rfl) (fun _ _ _ h => by cases h.1) (Or.inl ⟨by rfl, ?_⟩) s ?_
    rotate_left
    · intro wq hSq
      first | (go_simp; done) | (go_simp; with_reducible rfl)
    try simp only [Act.put, List.setIfInBounds_toArray, List.set_cons_zero, List.set_cons_succ]
    refine wpAnyH_take (i := 3) (oi := ⟨some 7, _, _, _, _, none⟩) (v := ?_) rfl (by kernel_rfl) (by kernel_rfl) (by kernel_rfl) (fun _ _ _ h => by cases h.1) (Or.inl ⟨by rfl, ?_⟩) s ?_
    rotate_left
    · intro wq hSq
      first | (go_simp; done) | (go_simp; with_reducible rfl)
    try simp only [Act.put, List.setIfInBounds_toArray, List.set_cons_zero, List.set_cons_succ]
    refine wpAnyH_ready (rs := [4, 6]) (by kernel_rfl) (by simp) ?_
    refine AllReadyH.cons rfl (fun K hK => ?_) (AllReadyH.cons (o := ⟨some 3, _, _, _, _, none⟩) rfl (fun K hK => ?_) AllReadyH.nil)
    · go_simp
      refine (K1 _).mono ?_
      rintro e w' ⟨rfl, rfl⟩
      refine hK.out _ _ s (fun _ => ?_)
      clear hK K
      refine wpAnyH_take (i := 5) (oi := ⟨some 9, _, _, _, _, none⟩) (v := ?_) rfl (by kernel_rfl) (by kernel_rfl) (by kernel_rfl) (fun _ _ _ h => by cases h.1) (Or.inl ⟨by rfl, ?_⟩) s ?_
      rotate_left
      · intro wq hSq
        first | (go_simp; done) | (go_simp; with_reducible rfl)
      try simp only [Act.put, List.setIfInBounds_toArray, List.set_cons_zero, List.set_cons_succ]
      refine rd (o := ⟨some 3, _, _, _, _, none⟩) 6 rfl (fun K hK => ?_); go_simp
      have hx : Ch [] wd (wd.alloc (.cells (accC 0 0 0 0) 87)) := (Ch.refl [] wd).alloc _
      have gd : (wd.alloc (.cells (accC 0 0 0 0) 87)).heap[wd.heap.size]? = some (.cells (accC 0 0 0 0) 87 (0, 0)) := by rw [zae, if_pos rfl]
      have hz := zad zd
      have hGw := Cd.size
      obtain ⟨wx, hwx⟩ : ∃ W, wd.alloc (.cells (accC 0 0 0 0) 87) = W := ⟨_, rfl⟩
      rw [hwx] at hx gd ⊢
      clear hwx
      obtain ⟨G, hG⟩ : ∃ X, wd.heap.size = X := ⟨_, rfl⟩
      rw [hG] at gd hz hGw ⊢
      clear hG
      have s' := hkeep hx s
      have zd' := hkeep hx zd
      have Cd' := Cd.trans hx
      refine hK.out _ _ s' (fun _ => ?_)
      clear hK K s zd Cd hx
      refine rd 7 rfl (fun K hK => ?_); go_simp
      have ge : (World.onObj wx G (laidAt 0 (accC wh 1 A0 0))).heap[G]? = some (.cells (accC wh 1 A0 0) 87 (0, 0)) := by rw [zab, if_pos rfl, gd, Option.map_some, zah]
      have se : (World.onObj wx G (laidAt 0 (accC wh 1 A0 0))).heap[B]? = some (.cells cp 51 (0, 0)) := by rw [zab, if_neg (by omega)]; exact s'
      have ze : (World.onObj wx G (laidAt 0 (accC wh 1 A0 0))).heap[B + 1]? = some (.cells (accC 0 0 0 0) 87 (0, 0)) := by rw [zab, if_neg (by omega)]; exact zd'
      have Ce : Ch [] w (World.onObj wx G (laidAt 0 (accC wh 1 A0 0))) := Cd'.onObj (.inr hGw) _
      refine hK.out _ _ se (fun _ => ?_)
      clear hK K
      refine wpAnyH_done (by kernel_rfl) ?_ _
      exact ⟨rfl, G, rfl, se, ze, ge, by omega, Ce⟩
    · go_simp
      have hx : Ch [] wd (wd.alloc (.cells (accC 0 0 0 0) 87)) := (Ch.refl [] wd).alloc _
      have gd : (wd.alloc (.cells (accC 0 0 0 0) 87)).heap[wd.heap.size]? = some (.cells (accC 0 0 0 0) 87 (0, 0)) := by rw [zae, if_pos rfl]
      have hz := zad zd
      have hGw := Cd.size
      obtain ⟨wx, hwx⟩ : ∃ W, wd.alloc (.cells (accC 0 0 0 0) 87) = W := ⟨_, rfl⟩
      rw [hwx] at hx gd ⊢
      clear hwx
      obtain ⟨G, hG⟩ : ∃ X, wd.heap.size = X := ⟨_, rfl⟩
      rw [hG] at gd hz hGw ⊢
      clear hG
      have s' := hkeep hx s
      have zd' := hkeep hx zd
      have Cd' := Cd.trans hx
      refine hK.out _ _ s' (fun _ => ?_)
      clear hK K s zd Cd hx
      refine rd (o := ⟨some 8, _, _, _, _, none⟩) 4 rfl (fun K hK => ?_); go_simp
      refine (K1 _).mono ?_
      rintro e w' ⟨rfl, rfl⟩
      refine hK.out _ _ s' (fun _ => ?_)
      clear hK K
      refine wpAnyH_take (i := 5) (oi := ⟨some 9, _, _, _, _, none⟩) (v := ?_) rfl (by kernel_rfl) (by kernel_rfl) (by kernel_rfl) (fun _ _ _ h => by cases h.1) (Or.inl ⟨by rfl, ?_⟩) s' ?_
      rotate_left
      · intro wq hSq
        first | (go_simp; done) | (go_simp; with_reducible rfl)
      try simp only [Act.put, List.setIfInBounds_toArray, List.set_cons_zero, List.set_cons_succ]
      refine rd 7 rfl (fun K hK => ?_); go_simp
      have ge : (World.onObj wx G (laidAt 0 (accC wh 1 A0 0))).heap[G]? = some (.cells (accC wh 1 A0 0) 87 (0, 0)) := by rw [zab, if_pos rfl, gd, Option.map_some, zah]
      have se : (World.onObj wx G (laidAt 0 (accC wh 1 A0 0))).heap[B]? = some (.cells cp 51 (0, 0)) := by rw [zab, if_neg (by omega)]; exact s'
      have ze : (World.onObj wx G (laidAt 0 (accC wh 1 A0 0))).heap[B + 1]? = some (.cells (accC 0 0 0 0) 87 (0, 0)) := by rw [zab, if_neg (by omega)]; exact zd'
      have Ce : Ch [] w (World.onObj wx G (laidAt 0 (accC wh 1 A0 0))) := Cd'.onObj (.inr hGw) _
      refine hK.out _ _ se (fun _ => ?_)
      clear hK K
      refine wpAnyH_done (by kernel_rfl) ?_ _
      exact ⟨rfl, G, rfl, se, ze, ge, by omega, Ce⟩
  rintro a' w1 ⟨G, rfl, b1, z1, g1, hG, C1⟩
  try simp only [Act.put, List.setIfInBounds_toArray, List.set_cons_zero, List.set_cons_succ]
  clear b0 z0 C0 K1
  have hGn : ¬ G = B := by omega
  have hGn1 : ¬ G = B + 1 := by omega
  have hGb : ¬ B = G := by omega
  have hGb1 : ¬ B + 1 = G := by omega
  go_upto_region 15 with (fail)
  have g2 : (w1.setCell ⟨G, 2, none⟩ (I (A0 + 1))).heap[G]? = some (.cells (accC wh 1 (A0 + 1) 0) 87 (0, 0)) := by rw [zaa, if_pos rfl, g1, Option.map_some, zaf, acc_s2]
  have b2 : (w1.setCell ⟨G, 2, none⟩ (I (A0 + 1))).heap[B]? = some (.cells cp 51 (0, 0)) := by rw [zaa, if_neg (by omega)]; exact b1
  have z2 : (w1.setCell ⟨G, 2, none⟩ (I (A0 + 1))).heap[B + 1]? = some (.cells (accC 0 0 0 0) 87 (0, 0)) := by rw [zaa, if_neg (by omega)]; exact z1
  have C2 : Ch [] w (w1.setCell ⟨G, 2, none⟩ (I (A0 + 1))) := C1.setCell (.inr (by show w.heap.size ≤ G; omega)) _
  clear g1 b1 z1 C1
  obtain ⟨w2, hw2⟩ : ∃ W, (w1.setCell ⟨G, 2, none⟩ (I (A0 + 1))) = W := ⟨_, rfl⟩
  rw [hw2] at g2 b2 z2 C2 ⊢
  clear hw2
  go_wp2
  refine bodyPost_ret (acc_result Tryz.results48 _ (B + 1) _ wh 1 (A0 + 1) 0 rfl ?_) rfl ⟨rfl, C2.onObj (p := B + 1) (.inr (by omega)) _⟩
  rw [zab, if_pos rfl, z2, Option.map_some, zah]
theorem r22Need_2 (p : PartT) (hp : p.ph = 2) (s0 : 0 ≤ p.sl) (s1 : p.sl < 128) (a0 : 0 ≤ p.at_) (a1 : p.at_ < 100) (w : World) : Calls Tryz.prog 48 #[.agg (partC p)] w fun e w' => e = .returned (.agg (accC p.who 1 (20 + 40 * p.sl + p.at_) 0)) ∧ Ch [] w w' := by
  have K1 := fun w => rCell_any p.sl 0 s0 s1 (by decide) (by decide) w
  have ea : (16 : Int) + 40 * p.sl + 0 = 16 + 40 * p.sl := by omega
  rw [ea] at K1
  clear ea
  have e0 : (partC p)[0]? = some (I 2) := by rw [zcs, hp]
  have e1 : (partC p)[1]? = some (I p.who) := zcx p
  have e2 : (partC p)[2]? = some (I p.sl) := zcp p
  have e6 : (partC p)[6]? = some (U p.count) := zcu p
  have e42 : (partC p)[42]? = some (I p.at_) := zce p
  obtain ⟨A0, hA0⟩ : ∃ a, 16 + 40 * p.sl = a := ⟨_, rfl⟩
  have hA1 : 16 ≤ A0 := by omega
  have hA2 : A0 ≤ 5200 := by omega
  have hs : 20 + 40 * p.sl + p.at_ = A0 + 4 + p.at_ := by omega
  rw [hs]
  clear hs
  have hwA : IntKind.i64.wrap (A0 + 4) = A0 + 4 := by rw [IntKind.wrap_i64]; omega
  have hwB : IntKind.i64.wrap (A0 + 4 + p.at_) = A0 + 4 + p.at_ := by rw [IntKind.wrap_i64]; omega
  rw [hA0] at K1
  clear hA0 s0 s1 hp
  obtain ⟨wh, hwh⟩ : ∃ x, p.who = x := ⟨_, rfl⟩
  rw [hwh] at e1 ⊢
  obtain ⟨sl, hsl⟩ : ∃ x, p.sl = x := ⟨_, rfl⟩
  rw [hsl] at e2 K1
  obtain ⟨cn, hcn⟩ : ∃ x, p.count = x := ⟨_, rfl⟩
  rw [hcn] at e6
  try rw [hcn]
  obtain ⟨a, ha⟩ : ∃ x, p.at_ = x := ⟨_, rfl⟩
  rw [ha] at e42 hwB ⊢
  clear ha a0 a1
  clear hwh hsl hcn
  have C0 : Ch [] w ((w.alloc (.cells (partC p) 51)).alloc (.cells (accC 0 0 0 0) 87)) := ((Ch.refl [] w).alloc _).alloc _
  have b0 := rneed_b p w
  have z0 := rneed_z p w
  go_enter Tryz.func48, Tryz.ntmps48
  go_upto_region 1 with (fail)
  obtain ⟨w0, hw0⟩ : ∃ W, (w.alloc (.cells (partC p) 51)).alloc (.cells (accC 0 0 0 0) 87) = W := ⟨_, rfl⟩
  rw [hw0] at b0 z0 C0 ⊢
  clear hw0
  obtain ⟨B, hB⟩ : ∃ B, w.heap.size = B := ⟨_, rfl⟩
  rw [hB] at b0 z0 ⊢
  have hBw : w.heap.size ≤ B := by omega
  clear hB
  obtain ⟨cp, hcp⟩ : ∃ c, partC p = c := ⟨_, rfl⟩
  rw [hcp] at b0 e0 e1 e2 e6 e42
  try rw [hcp]
  clear hcp
  refine sp_region_cut (fun a a' w' => ∃ (G : Nat), a' = (((((((a.put (some 4) (.pointer (some ⟨B, 1, none⟩))).put (some 5) (I wh)).put (some 6) (.pointer (some ⟨B, 2, none⟩))).put (some 7) (I sl)).put (some 8) (I A0)).put (some 9) (.agg (accC wh 1 A0 0))).put (some 3) (.pointer (some ⟨G, 0, none⟩))) ∧ w'.heap[B]? = some (.cells cp 51 (0, 0)) ∧ w'.heap[B + 1]? = some (.cells (accC 0 0 0 0) 87 (0, 0)) ∧ w'.heap[G]? = some (.cells (accC wh 1 A0 0) 87 (0, 0)) ∧ B + 1 < G ∧ Ch [] w w') ?_ ?_
  · have s : (fun W' : World => W'.heap[B]? = some (.cells cp 51 (0, 0))) w0.drew := b0
    have zd : w0.drew.heap[B + 1]? = some (.cells (accC 0 0 0 0) 87 (0, 0)) := z0
    have Cd : Ch [] w w0.drew := C0.drew
    refine wp_region_held_drew (S := fun W' => W'.heap[B]? = some (.cells cp 51 (0, 0))) (by kernel_rfl) s ?_
    intro _
    simp only [List.size_toArray, List.length_cons, List.length_nil, Nat.reduceAdd]
    obtain ⟨wd, hwd⟩ : ∃ W, w0.drew = W := ⟨_, rfl⟩
    rw [hwd] at s zd Cd ⊢
    clear hwd b0 z0 C0
    refine wpAnyH_take (i := 0) (oi := ⟨some 4, _, _, _, _, none⟩) (v := ?_) rfl (by kernel_rfl) (by kernel_rfl) (by kernel_rfl) (fun _ _ _ h => by cases h.1) (Or.inl ⟨by rfl, ?_⟩) s ?_
    rotate_left
    · intro wq hSq
      first | (go_simp; done) | (go_simp; with_reducible rfl)
    try simp only [Act.put, List.setIfInBounds_toArray, List.set_cons_zero, List.set_cons_succ]
    refine wpAnyH_take (i := 1) (oi := ⟨some 5, _, _, _, _, none⟩) (v := ?_) rfl (by kernel_rfl) (by kernel_rfl) (by kernel_rfl) (fun _ _ _ h => by cases h.1) (Or.inl ⟨by rfl, ?_⟩) s ?_
    rotate_left
    · intro wq hSq
      first | (go_simp; done) | (go_simp; with_reducible rfl)
    try simp only [Act.put, List.setIfInBounds_toArray, List.set_cons_zero, List.set_cons_succ]
    refine wpAnyH_take (i := 2) (oi := ⟨some 6, _, _, _, _, none⟩) (v := ?_) rfl (by kernel_rfl) (by kernel_rfl) (by kernel_rfl) (fun _ _ _ h => by cases h.1) (Or.inl ⟨by rfl, ?_⟩) s ?_
    rotate_left
    · intro wq hSq
      first | (go_simp; done) | (go_simp; with_reducible rfl)
    try simp only [Act.put, List.setIfInBounds_toArray, List.set_cons_zero, List.set_cons_succ]
    refine wpAnyH_take (i := 3) (oi := ⟨some 7, _, _, _, _, none⟩) (v := ?_) rfl (by kernel_rfl) (by kernel_rfl) (by kernel_rfl) (fun _ _ _ h => by cases h.1) (Or.inl ⟨by rfl, ?_⟩) s ?_
    rotate_left
    · intro wq hSq
      first | (go_simp; done) | (go_simp; with_reducible rfl)
    try simp only [Act.put, List.setIfInBounds_toArray, List.set_cons_zero, List.set_cons_succ]
    refine wpAnyH_ready (rs := [4, 6]) (by kernel_rfl) (by simp) ?_
    refine AllReadyH.cons rfl (fun K hK => ?_) (AllReadyH.cons (o := ⟨some 3, _, _, _, _, none⟩) rfl (fun K hK => ?_) AllReadyH.nil)
    · go_simp
      refine (K1 _).mono ?_
      rintro e w' ⟨rfl, rfl⟩
      refine hK.out _ _ s (fun _ => ?_)
      clear hK K
      refine wpAnyH_take (i := 5) (oi := ⟨some 9, _, _, _, _, none⟩) (v := ?_) rfl (by kernel_rfl) (by kernel_rfl) (by kernel_rfl) (fun _ _ _ h => by cases h.1) (Or.inl ⟨by rfl, ?_⟩) s ?_
      rotate_left
      · intro wq hSq
        first | (go_simp; done) | (go_simp; with_reducible rfl)
      try simp only [Act.put, List.setIfInBounds_toArray, List.set_cons_zero, List.set_cons_succ]
      refine rd (o := ⟨some 3, _, _, _, _, none⟩) 6 rfl (fun K hK => ?_); go_simp
      have hx : Ch [] wd (wd.alloc (.cells (accC 0 0 0 0) 87)) := (Ch.refl [] wd).alloc _
      have gd : (wd.alloc (.cells (accC 0 0 0 0) 87)).heap[wd.heap.size]? = some (.cells (accC 0 0 0 0) 87 (0, 0)) := by rw [zae, if_pos rfl]
      have hz := zad zd
      have hGw := Cd.size
      obtain ⟨wx, hwx⟩ : ∃ W, wd.alloc (.cells (accC 0 0 0 0) 87) = W := ⟨_, rfl⟩
      rw [hwx] at hx gd ⊢
      clear hwx
      obtain ⟨G, hG⟩ : ∃ X, wd.heap.size = X := ⟨_, rfl⟩
      rw [hG] at gd hz hGw ⊢
      clear hG
      have s' := hkeep hx s
      have zd' := hkeep hx zd
      have Cd' := Cd.trans hx
      refine hK.out _ _ s' (fun _ => ?_)
      clear hK K s zd Cd hx
      refine rd 7 rfl (fun K hK => ?_); go_simp
      have ge : (World.onObj wx G (laidAt 0 (accC wh 1 A0 0))).heap[G]? = some (.cells (accC wh 1 A0 0) 87 (0, 0)) := by rw [zab, if_pos rfl, gd, Option.map_some, zah]
      have se : (World.onObj wx G (laidAt 0 (accC wh 1 A0 0))).heap[B]? = some (.cells cp 51 (0, 0)) := by rw [zab, if_neg (by omega)]; exact s'
      have ze : (World.onObj wx G (laidAt 0 (accC wh 1 A0 0))).heap[B + 1]? = some (.cells (accC 0 0 0 0) 87 (0, 0)) := by rw [zab, if_neg (by omega)]; exact zd'
      have Ce : Ch [] w (World.onObj wx G (laidAt 0 (accC wh 1 A0 0))) := Cd'.onObj (.inr hGw) _
      refine hK.out _ _ se (fun _ => ?_)
      clear hK K
      refine wpAnyH_done (by kernel_rfl) ?_ _
      exact ⟨rfl, G, rfl, se, ze, ge, by omega, Ce⟩
    · go_simp
      have hx : Ch [] wd (wd.alloc (.cells (accC 0 0 0 0) 87)) := (Ch.refl [] wd).alloc _
      have gd : (wd.alloc (.cells (accC 0 0 0 0) 87)).heap[wd.heap.size]? = some (.cells (accC 0 0 0 0) 87 (0, 0)) := by rw [zae, if_pos rfl]
      have hz := zad zd
      have hGw := Cd.size
      obtain ⟨wx, hwx⟩ : ∃ W, wd.alloc (.cells (accC 0 0 0 0) 87) = W := ⟨_, rfl⟩
      rw [hwx] at hx gd ⊢
      clear hwx
      obtain ⟨G, hG⟩ : ∃ X, wd.heap.size = X := ⟨_, rfl⟩
      rw [hG] at gd hz hGw ⊢
      clear hG
      have s' := hkeep hx s
      have zd' := hkeep hx zd
      have Cd' := Cd.trans hx
      refine hK.out _ _ s' (fun _ => ?_)
      clear hK K s zd Cd hx
      refine rd (o := ⟨some 8, _, _, _, _, none⟩) 4 rfl (fun K hK => ?_); go_simp
      refine (K1 _).mono ?_
      rintro e w' ⟨rfl, rfl⟩
      refine hK.out _ _ s' (fun _ => ?_)
      clear hK K
      refine wpAnyH_take (i := 5) (oi := ⟨some 9, _, _, _, _, none⟩) (v := ?_) rfl (by kernel_rfl) (by kernel_rfl) (by kernel_rfl) (fun _ _ _ h => by cases h.1) (Or.inl ⟨by rfl, ?_⟩) s' ?_
      rotate_left
      · intro wq hSq
        first | (go_simp; done) | (go_simp; with_reducible rfl)
      try simp only [Act.put, List.setIfInBounds_toArray, List.set_cons_zero, List.set_cons_succ]
      refine rd 7 rfl (fun K hK => ?_); go_simp
      have ge : (World.onObj wx G (laidAt 0 (accC wh 1 A0 0))).heap[G]? = some (.cells (accC wh 1 A0 0) 87 (0, 0)) := by rw [zab, if_pos rfl, gd, Option.map_some, zah]
      have se : (World.onObj wx G (laidAt 0 (accC wh 1 A0 0))).heap[B]? = some (.cells cp 51 (0, 0)) := by rw [zab, if_neg (by omega)]; exact s'
      have ze : (World.onObj wx G (laidAt 0 (accC wh 1 A0 0))).heap[B + 1]? = some (.cells (accC 0 0 0 0) 87 (0, 0)) := by rw [zab, if_neg (by omega)]; exact zd'
      have Ce : Ch [] w (World.onObj wx G (laidAt 0 (accC wh 1 A0 0))) := Cd'.onObj (.inr hGw) _
      refine hK.out _ _ se (fun _ => ?_)
      clear hK K
      refine wpAnyH_done (by kernel_rfl) ?_ _
      exact ⟨rfl, G, rfl, se, ze, ge, by omega, Ce⟩
  rintro a' w1 ⟨G, rfl, b1, z1, g1, hG, C1⟩
  try simp only [Act.put, List.setIfInBounds_toArray, List.set_cons_zero, List.set_cons_succ]
  clear b0 z0 C0 K1
  have hGn : ¬ G = B := by omega
  have hGn1 : ¬ G = B + 1 := by omega
  have hGb : ¬ B = G := by omega
  have hGb1 : ¬ B + 1 = G := by omega
  go_upto_region 15 with (fail)
  have g2 : (w1.setCell ⟨G, 2, none⟩ (I (A0 + 4 + a))).heap[G]? = some (.cells (accC wh 1 (A0 + 4 + a) 0) 87 (0, 0)) := by rw [zaa, if_pos rfl, g1, Option.map_some, zaf, acc_s2]
  have b2 : (w1.setCell ⟨G, 2, none⟩ (I (A0 + 4 + a))).heap[B]? = some (.cells cp 51 (0, 0)) := by rw [zaa, if_neg (by omega)]; exact b1
  have z2 : (w1.setCell ⟨G, 2, none⟩ (I (A0 + 4 + a))).heap[B + 1]? = some (.cells (accC 0 0 0 0) 87 (0, 0)) := by rw [zaa, if_neg (by omega)]; exact z1
  have C2 : Ch [] w (w1.setCell ⟨G, 2, none⟩ (I (A0 + 4 + a))) := C1.setCell (.inr (by show w.heap.size ≤ G; omega)) _
  clear g1 b1 z1 C1
  obtain ⟨w2, hw2⟩ : ∃ W, (w1.setCell ⟨G, 2, none⟩ (I (A0 + 4 + a))) = W := ⟨_, rfl⟩
  rw [hw2] at g2 b2 z2 C2 ⊢
  clear hw2
  go_wp2
  refine bodyPost_ret (acc_result Tryz.results48 _ (B + 1) _ wh 1 (A0 + 4 + a) 0 rfl ?_) rfl ⟨rfl, C2.onObj (p := B + 1) (.inr (by omega)) _⟩
  rw [zab, if_pos rfl, z2, Option.map_some, zah]
theorem r22Need_3 (p : PartT) (hp : p.ph = 3) (s0 : 0 ≤ p.sl) (s1 : p.sl < 128) (a0 : 0 ≤ p.at_) (a1 : p.at_ < 100) (w : World) : Calls Tryz.prog 48 #[.agg (partC p)] w fun e w' => e = .returned (.agg (accC p.who 1 (22 + 40 * p.sl + p.at_) 0)) ∧ Ch [] w w' := by
  have K1 := fun w => rCell_any p.sl 0 s0 s1 (by decide) (by decide) w
  have ea : (16 : Int) + 40 * p.sl + 0 = 16 + 40 * p.sl := by omega
  rw [ea] at K1
  clear ea
  have e0 : (partC p)[0]? = some (I 3) := by rw [zcs, hp]
  have e1 : (partC p)[1]? = some (I p.who) := zcx p
  have e2 : (partC p)[2]? = some (I p.sl) := zcp p
  have e6 : (partC p)[6]? = some (U p.count) := zcu p
  have e42 : (partC p)[42]? = some (I p.at_) := zce p
  obtain ⟨A0, hA0⟩ : ∃ a, 16 + 40 * p.sl = a := ⟨_, rfl⟩
  have hA1 : 16 ≤ A0 := by omega
  have hA2 : A0 ≤ 5200 := by omega
  have hs : 22 + 40 * p.sl + p.at_ = A0 + 6 + p.at_ := by omega
  rw [hs]
  clear hs
  have hwA : IntKind.i64.wrap (A0 + 6) = A0 + 6 := by rw [IntKind.wrap_i64]; omega
  have hwB : IntKind.i64.wrap (A0 + 6 + p.at_) = A0 + 6 + p.at_ := by rw [IntKind.wrap_i64]; omega
  rw [hA0] at K1
  clear hA0 s0 s1 hp
  obtain ⟨wh, hwh⟩ : ∃ x, p.who = x := ⟨_, rfl⟩
  rw [hwh] at e1 ⊢
  obtain ⟨sl, hsl⟩ : ∃ x, p.sl = x := ⟨_, rfl⟩
  rw [hsl] at e2 K1
  obtain ⟨cn, hcn⟩ : ∃ x, p.count = x := ⟨_, rfl⟩
  rw [hcn] at e6
  try rw [hcn]
  obtain ⟨a, ha⟩ : ∃ x, p.at_ = x := ⟨_, rfl⟩
  rw [ha] at e42 hwB ⊢
  clear ha a0 a1
  clear hwh hsl hcn
  have C0 : Ch [] w ((w.alloc (.cells (partC p) 51)).alloc (.cells (accC 0 0 0 0) 87)) := ((Ch.refl [] w).alloc _).alloc _
  have b0 := rneed_b p w
  have z0 := rneed_z p w
  go_enter Tryz.func48, Tryz.ntmps48
  go_upto_region 1 with (fail)
  obtain ⟨w0, hw0⟩ : ∃ W, (w.alloc (.cells (partC p) 51)).alloc (.cells (accC 0 0 0 0) 87) = W := ⟨_, rfl⟩
  rw [hw0] at b0 z0 C0 ⊢
  clear hw0
  obtain ⟨B, hB⟩ : ∃ B, w.heap.size = B := ⟨_, rfl⟩
  rw [hB] at b0 z0 ⊢
  have hBw : w.heap.size ≤ B := by omega
  clear hB
  obtain ⟨cp, hcp⟩ : ∃ c, partC p = c := ⟨_, rfl⟩
  rw [hcp] at b0 e0 e1 e2 e6 e42
  try rw [hcp]
  clear hcp
  refine sp_region_cut (fun a a' w' => ∃ (G : Nat), a' = (((((((a.put (some 4) (.pointer (some ⟨B, 1, none⟩))).put (some 5) (I wh)).put (some 6) (.pointer (some ⟨B, 2, none⟩))).put (some 7) (I sl)).put (some 8) (I A0)).put (some 9) (.agg (accC wh 1 A0 0))).put (some 3) (.pointer (some ⟨G, 0, none⟩))) ∧ w'.heap[B]? = some (.cells cp 51 (0, 0)) ∧ w'.heap[B + 1]? = some (.cells (accC 0 0 0 0) 87 (0, 0)) ∧ w'.heap[G]? = some (.cells (accC wh 1 A0 0) 87 (0, 0)) ∧ B + 1 < G ∧ Ch [] w w') ?_ ?_
  · have s : (fun W' : World => W'.heap[B]? = some (.cells cp 51 (0, 0))) w0.drew := b0
    have zd : w0.drew.heap[B + 1]? = some (.cells (accC 0 0 0 0) 87 (0, 0)) := z0
    have Cd : Ch [] w w0.drew := C0.drew
    refine wp_region_held_drew (S := fun W' => W'.heap[B]? = some (.cells cp 51 (0, 0))) (by kernel_rfl) s ?_
    intro _
    simp only [List.size_toArray, List.length_cons, List.length_nil, Nat.reduceAdd]
    obtain ⟨wd, hwd⟩ : ∃ W, w0.drew = W := ⟨_, rfl⟩
    rw [hwd] at s zd Cd ⊢
    clear hwd b0 z0 C0
    refine wpAnyH_take (i := 0) (oi := ⟨some 4, _, _, _, _, none⟩) (v := ?_) rfl (by kernel_rfl) (by kernel_rfl) (by kernel_rfl) (fun _ _ _ h => by cases h.1) (Or.inl ⟨by rfl, ?_⟩) s ?_
    rotate_left
    · intro wq hSq
      first | (go_simp; done) | (go_simp; with_reducible rfl)
    try simp only [Act.put, List.setIfInBounds_toArray, List.set_cons_zero, List.set_cons_succ]
    refine wpAnyH_take (i := 1) (oi := ⟨some 5, _, _, _, _, none⟩) (v := ?_) rfl (by kernel_rfl) (by kernel_rfl) (by kernel_rfl) (fun _ _ _ h => by cases h.1) (Or.inl ⟨by rfl, ?_⟩) s ?_
    rotate_left
    · intro wq hSq
      first | (go_simp; done) | (go_simp; with_reducible rfl)
    try simp only [Act.put, List.setIfInBounds_toArray, List.set_cons_zero, List.set_cons_succ]
    refine wpAnyH_take (i := 2) (oi := ⟨some 6, _, _, _, _, none⟩) (v := ?_) rfl (by kernel_rfl) (by kernel_rfl) (by kernel_rfl) (fun _ _ _ h => by cases h.1) (Or.inl ⟨by rfl, ?_⟩) s ?_
    rotate_left
    · intro wq hSq
      first | (go_simp; done) | (go_simp; with_reducible rfl)
    try simp only [Act.put, List.setIfInBounds_toArray, List.set_cons_zero, List.set_cons_succ]
    refine wpAnyH_take (i := 3) (oi := ⟨some 7, _, _, _, _, none⟩) (v := ?_) rfl (by kernel_rfl) (by kernel_rfl) (by kernel_rfl) (fun _ _ _ h => by cases h.1) (Or.inl ⟨by rfl, ?_⟩) s ?_
    rotate_left
    · intro wq hSq
      first | (go_simp; done) | (go_simp; with_reducible rfl)
    try simp only [Act.put, List.setIfInBounds_toArray, List.set_cons_zero, List.set_cons_succ]
    refine wpAnyH_ready (rs := [4, 6]) (by kernel_rfl) (by simp) ?_
    refine AllReadyH.cons rfl (fun K hK => ?_) (AllReadyH.cons (o := ⟨some 3, _, _, _, _, none⟩) rfl (fun K hK => ?_) AllReadyH.nil)
    · go_simp
      refine (K1 _).mono ?_
      rintro e w' ⟨rfl, rfl⟩
      refine hK.out _ _ s (fun _ => ?_)
      clear hK K
      refine wpAnyH_take (i := 5) (oi := ⟨some 9, _, _, _, _, none⟩) (v := ?_) rfl (by kernel_rfl) (by kernel_rfl) (by kernel_rfl) (fun _ _ _ h => by cases h.1) (Or.inl ⟨by rfl, ?_⟩) s ?_
      rotate_left
      · intro wq hSq
        first | (go_simp; done) | (go_simp; with_reducible rfl)
      try simp only [Act.put, List.setIfInBounds_toArray, List.set_cons_zero, List.set_cons_succ]
      refine rd (o := ⟨some 3, _, _, _, _, none⟩) 6 rfl (fun K hK => ?_); go_simp
      have hx : Ch [] wd (wd.alloc (.cells (accC 0 0 0 0) 87)) := (Ch.refl [] wd).alloc _
      have gd : (wd.alloc (.cells (accC 0 0 0 0) 87)).heap[wd.heap.size]? = some (.cells (accC 0 0 0 0) 87 (0, 0)) := by rw [zae, if_pos rfl]
      have hz := zad zd
      have hGw := Cd.size
      obtain ⟨wx, hwx⟩ : ∃ W, wd.alloc (.cells (accC 0 0 0 0) 87) = W := ⟨_, rfl⟩
      rw [hwx] at hx gd ⊢
      clear hwx
      obtain ⟨G, hG⟩ : ∃ X, wd.heap.size = X := ⟨_, rfl⟩
      rw [hG] at gd hz hGw ⊢
      clear hG
      have s' := hkeep hx s
      have zd' := hkeep hx zd
      have Cd' := Cd.trans hx
      refine hK.out _ _ s' (fun _ => ?_)
      clear hK K s zd Cd hx
      refine rd 7 rfl (fun K hK => ?_); go_simp
      have ge : (World.onObj wx G (laidAt 0 (accC wh 1 A0 0))).heap[G]? = some (.cells (accC wh 1 A0 0) 87 (0, 0)) := by rw [zab, if_pos rfl, gd, Option.map_some, zah]
      have se : (World.onObj wx G (laidAt 0 (accC wh 1 A0 0))).heap[B]? = some (.cells cp 51 (0, 0)) := by rw [zab, if_neg (by omega)]; exact s'
      have ze : (World.onObj wx G (laidAt 0 (accC wh 1 A0 0))).heap[B + 1]? = some (.cells (accC 0 0 0 0) 87 (0, 0)) := by rw [zab, if_neg (by omega)]; exact zd'
      have Ce : Ch [] w (World.onObj wx G (laidAt 0 (accC wh 1 A0 0))) := Cd'.onObj (.inr hGw) _
      refine hK.out _ _ se (fun _ => ?_)
      clear hK K
      refine wpAnyH_done (by kernel_rfl) ?_ _
      exact ⟨rfl, G, rfl, se, ze, ge, by omega, Ce⟩
    · go_simp
      have hx : Ch [] wd (wd.alloc (.cells (accC 0 0 0 0) 87)) := (Ch.refl [] wd).alloc _
      have gd : (wd.alloc (.cells (accC 0 0 0 0) 87)).heap[wd.heap.size]? = some (.cells (accC 0 0 0 0) 87 (0, 0)) := by rw [zae, if_pos rfl]
      have hz := zad zd
      have hGw := Cd.size
      obtain ⟨wx, hwx⟩ : ∃ W, wd.alloc (.cells (accC 0 0 0 0) 87) = W := ⟨_, rfl⟩
      rw [hwx] at hx gd ⊢
      clear hwx
      obtain ⟨G, hG⟩ : ∃ X, wd.heap.size = X := ⟨_, rfl⟩
      rw [hG] at gd hz hGw ⊢
      clear hG
      have s' := hkeep hx s
      have zd' := hkeep hx zd
      have Cd' := Cd.trans hx
      refine hK.out _ _ s' (fun _ => ?_)
      clear hK K s zd Cd hx
      refine rd (o := ⟨some 8, _, _, _, _, none⟩) 4 rfl (fun K hK => ?_); go_simp
      refine (K1 _).mono ?_
      rintro e w' ⟨rfl, rfl⟩
      refine hK.out _ _ s' (fun _ => ?_)
      clear hK K
      refine wpAnyH_take (i := 5) (oi := ⟨some 9, _, _, _, _, none⟩) (v := ?_) rfl (by kernel_rfl) (by kernel_rfl) (by kernel_rfl) (fun _ _ _ h => by cases h.1) (Or.inl ⟨by rfl, ?_⟩) s' ?_
      rotate_left
      · intro wq hSq
        first | (go_simp; done) | (go_simp; with_reducible rfl)
      try simp only [Act.put, List.setIfInBounds_toArray, List.set_cons_zero, List.set_cons_succ]
      refine rd 7 rfl (fun K hK => ?_); go_simp
      have ge : (World.onObj wx G (laidAt 0 (accC wh 1 A0 0))).heap[G]? = some (.cells (accC wh 1 A0 0) 87 (0, 0)) := by rw [zab, if_pos rfl, gd, Option.map_some, zah]
      have se : (World.onObj wx G (laidAt 0 (accC wh 1 A0 0))).heap[B]? = some (.cells cp 51 (0, 0)) := by rw [zab, if_neg (by omega)]; exact s'
      have ze : (World.onObj wx G (laidAt 0 (accC wh 1 A0 0))).heap[B + 1]? = some (.cells (accC 0 0 0 0) 87 (0, 0)) := by rw [zab, if_neg (by omega)]; exact zd'
      have Ce : Ch [] w (World.onObj wx G (laidAt 0 (accC wh 1 A0 0))) := Cd'.onObj (.inr hGw) _
      refine hK.out _ _ se (fun _ => ?_)
      clear hK K
      refine wpAnyH_done (by kernel_rfl) ?_ _
      exact ⟨rfl, G, rfl, se, ze, ge, by omega, Ce⟩
  rintro a' w1 ⟨G, rfl, b1, z1, g1, hG, C1⟩
  try simp only [Act.put, List.setIfInBounds_toArray, List.set_cons_zero, List.set_cons_succ]
  clear b0 z0 C0 K1
  have hGn : ¬ G = B := by omega
  have hGn1 : ¬ G = B + 1 := by omega
  have hGb : ¬ B = G := by omega
  have hGb1 : ¬ B + 1 = G := by omega
  go_upto_region 15 with (fail)
  have g2 : (w1.setCell ⟨G, 2, none⟩ (I (A0 + 6 + a))).heap[G]? = some (.cells (accC wh 1 (A0 + 6 + a) 0) 87 (0, 0)) := by rw [zaa, if_pos rfl, g1, Option.map_some, zaf, acc_s2]
  have b2 : (w1.setCell ⟨G, 2, none⟩ (I (A0 + 6 + a))).heap[B]? = some (.cells cp 51 (0, 0)) := by rw [zaa, if_neg (by omega)]; exact b1
  have z2 : (w1.setCell ⟨G, 2, none⟩ (I (A0 + 6 + a))).heap[B + 1]? = some (.cells (accC 0 0 0 0) 87 (0, 0)) := by rw [zaa, if_neg (by omega)]; exact z1
  have C2 : Ch [] w (w1.setCell ⟨G, 2, none⟩ (I (A0 + 6 + a))) := C1.setCell (.inr (by show w.heap.size ≤ G; omega)) _
  clear g1 b1 z1 C1
  obtain ⟨w2, hw2⟩ : ∃ W, (w1.setCell ⟨G, 2, none⟩ (I (A0 + 6 + a))) = W := ⟨_, rfl⟩
  rw [hw2] at g2 b2 z2 C2 ⊢
  clear hw2
  go_wp2
  refine bodyPost_ret (acc_result Tryz.results48 _ (B + 1) _ wh 1 (A0 + 6 + a) 0 rfl ?_) rfl ⟨rfl, C2.onObj (p := B + 1) (.inr (by omega)) _⟩
  rw [zab, if_pos rfl, z2, Option.map_some, zah]
theorem r22Need_4 (p : PartT) (hp : p.ph = 4) (s0 : 0 ≤ p.sl) (s1 : p.sl < 128) (a0 : 0 ≤ p.at_) (a1 : p.at_ < 100) (w : World) : Calls Tryz.prog 48 #[.agg (partC p)] w fun e w' => e = .returned (.agg (accC p.who 1 (38 + 40 * p.sl + p.at_) 0)) ∧ Ch [] w w' := by
  have K1 := fun w => rCell_any p.sl 0 s0 s1 (by decide) (by decide) w
  have ea : (16 : Int) + 40 * p.sl + 0 = 16 + 40 * p.sl := by omega
  rw [ea] at K1
  clear ea
  have e0 : (partC p)[0]? = some (I 4) := by rw [zcs, hp]
  have e1 : (partC p)[1]? = some (I p.who) := zcx p
  have e2 : (partC p)[2]? = some (I p.sl) := zcp p
  have e6 : (partC p)[6]? = some (U p.count) := zcu p
  have e42 : (partC p)[42]? = some (I p.at_) := zce p
  obtain ⟨A0, hA0⟩ : ∃ a, 16 + 40 * p.sl = a := ⟨_, rfl⟩
  have hA1 : 16 ≤ A0 := by omega
  have hA2 : A0 ≤ 5200 := by omega
  have hs : 38 + 40 * p.sl + p.at_ = A0 + 22 + p.at_ := by omega
  rw [hs]
  clear hs
  have hwA : IntKind.i64.wrap (A0 + 22) = A0 + 22 := by rw [IntKind.wrap_i64]; omega
  have hwB : IntKind.i64.wrap (A0 + 22 + p.at_) = A0 + 22 + p.at_ := by rw [IntKind.wrap_i64]; omega
  rw [hA0] at K1
  clear hA0 s0 s1 hp
  obtain ⟨wh, hwh⟩ : ∃ x, p.who = x := ⟨_, rfl⟩
  rw [hwh] at e1 ⊢
  obtain ⟨sl, hsl⟩ : ∃ x, p.sl = x := ⟨_, rfl⟩
  rw [hsl] at e2 K1
  obtain ⟨cn, hcn⟩ : ∃ x, p.count = x := ⟨_, rfl⟩
  rw [hcn] at e6
  try rw [hcn]
  obtain ⟨a, ha⟩ : ∃ x, p.at_ = x := ⟨_, rfl⟩
  rw [ha] at e42 hwB ⊢
  clear ha a0 a1
  clear hwh hsl hcn
  have C0 : Ch [] w ((w.alloc (.cells (partC p) 51)).alloc (.cells (accC 0 0 0 0) 87)) := ((Ch.refl [] w).alloc _).alloc _
  have b0 := rneed_b p w
  have z0 := rneed_z p w
  go_enter Tryz.func48, Tryz.ntmps48
  go_upto_region 1 with (fail)
  obtain ⟨w0, hw0⟩ : ∃ W, (w.alloc (.cells (partC p) 51)).alloc (.cells (accC 0 0 0 0) 87) = W := ⟨_, rfl⟩
  rw [hw0] at b0 z0 C0 ⊢
  clear hw0
  obtain ⟨B, hB⟩ : ∃ B, w.heap.size = B := ⟨_, rfl⟩
  rw [hB] at b0 z0 ⊢
  have hBw : w.heap.size ≤ B := by omega
  clear hB
  obtain ⟨cp, hcp⟩ : ∃ c, partC p = c := ⟨_, rfl⟩
  rw [hcp] at b0 e0 e1 e2 e6 e42
  try rw [hcp]
  clear hcp
  refine sp_region_cut (fun a a' w' => ∃ (G : Nat), a' = (((((((a.put (some 4) (.pointer (some ⟨B, 1, none⟩))).put (some 5) (I wh)).put (some 6) (.pointer (some ⟨B, 2, none⟩))).put (some 7) (I sl)).put (some 8) (I A0)).put (some 9) (.agg (accC wh 1 A0 0))).put (some 3) (.pointer (some ⟨G, 0, none⟩))) ∧ w'.heap[B]? = some (.cells cp 51 (0, 0)) ∧ w'.heap[B + 1]? = some (.cells (accC 0 0 0 0) 87 (0, 0)) ∧ w'.heap[G]? = some (.cells (accC wh 1 A0 0) 87 (0, 0)) ∧ B + 1 < G ∧ Ch [] w w') ?_ ?_
  · have s : (fun W' : World => W'.heap[B]? = some (.cells cp 51 (0, 0))) w0.drew := b0
    have zd : w0.drew.heap[B + 1]? = some (.cells (accC 0 0 0 0) 87 (0, 0)) := z0
    have Cd : Ch [] w w0.drew := C0.drew
    refine wp_region_held_drew (S := fun W' => W'.heap[B]? = some (.cells cp 51 (0, 0))) (by kernel_rfl) s ?_
    intro _
    simp only [List.size_toArray, List.length_cons, List.length_nil, Nat.reduceAdd]
    obtain ⟨wd, hwd⟩ : ∃ W, w0.drew = W := ⟨_, rfl⟩
    rw [hwd] at s zd Cd ⊢
    clear hwd b0 z0 C0
    refine wpAnyH_take (i := 0) (oi := ⟨some 4, _, _, _, _, none⟩) (v := ?_) rfl (by kernel_rfl) (by kernel_rfl) (by kernel_rfl) (fun _ _ _ h => by cases h.1) (Or.inl ⟨by rfl, ?_⟩) s ?_
    rotate_left
    · intro wq hSq
      first | (go_simp; done) | (go_simp; with_reducible rfl)
    try simp only [Act.put, List.setIfInBounds_toArray, List.set_cons_zero, List.set_cons_succ]
    refine wpAnyH_take (i := 1) (oi := ⟨some 5, _, _, _, _, none⟩) (v := ?_) rfl (by kernel_rfl) (by kernel_rfl) (by kernel_rfl) (fun _ _ _ h => by cases h.1) (Or.inl ⟨by rfl, ?_⟩) s ?_
    rotate_left
    · intro wq hSq
      first | (go_simp; done) | (go_simp; with_reducible rfl)
    try simp only [Act.put, List.setIfInBounds_toArray, List.set_cons_zero, List.set_cons_succ]
    refine wpAnyH_take (i := 2) (oi := ⟨some 6, _, _, _, _, none⟩) (v := ?_) rfl (by kernel_rfl) (by kernel_rfl) (by kernel_rfl) (fun _ _ _ h => by cases h.1) (Or.inl ⟨by rfl, ?_⟩) s ?_
    rotate_left
    · intro wq hSq
      first | (go_simp; done) | (go_simp; with_reducible rfl)
    try simp only [Act.put, List.setIfInBounds_toArray, List.set_cons_zero, List.set_cons_succ]
    refine wpAnyH_take (i := 3) (oi := ⟨some 7, _, _, _, _, none⟩) (v := ?_) rfl (by kernel_rfl) (by kernel_rfl) (by kernel_rfl) (fun _ _ _ h => by cases h.1) (Or.inl ⟨by rfl, ?_⟩) s ?_
    rotate_left
    · intro wq hSq
      first | (go_simp; done) | (go_simp; with_reducible rfl)
    try simp only [Act.put, List.setIfInBounds_toArray, List.set_cons_zero, List.set_cons_succ]
    refine wpAnyH_ready (rs := [4, 6]) (by kernel_rfl) (by simp) ?_
    refine AllReadyH.cons rfl (fun K hK => ?_) (AllReadyH.cons (o := ⟨some 3, _, _, _, _, none⟩) rfl (fun K hK => ?_) AllReadyH.nil)
    · go_simp
      refine (K1 _).mono ?_
      rintro e w' ⟨rfl, rfl⟩
      refine hK.out _ _ s (fun _ => ?_)
      clear hK K
      refine wpAnyH_take (i := 5) (oi := ⟨some 9, _, _, _, _, none⟩) (v := ?_) rfl (by kernel_rfl) (by kernel_rfl) (by kernel_rfl) (fun _ _ _ h => by cases h.1) (Or.inl ⟨by rfl, ?_⟩) s ?_
      rotate_left
      · intro wq hSq
        first | (go_simp; done) | (go_simp; with_reducible rfl)
      try simp only [Act.put, List.setIfInBounds_toArray, List.set_cons_zero, List.set_cons_succ]
      refine rd (o := ⟨some 3, _, _, _, _, none⟩) 6 rfl (fun K hK => ?_); go_simp
      have hx : Ch [] wd (wd.alloc (.cells (accC 0 0 0 0) 87)) := (Ch.refl [] wd).alloc _
      have gd : (wd.alloc (.cells (accC 0 0 0 0) 87)).heap[wd.heap.size]? = some (.cells (accC 0 0 0 0) 87 (0, 0)) := by rw [zae, if_pos rfl]
      have hz := zad zd
      have hGw := Cd.size
      obtain ⟨wx, hwx⟩ : ∃ W, wd.alloc (.cells (accC 0 0 0 0) 87) = W := ⟨_, rfl⟩
      rw [hwx] at hx gd ⊢
      clear hwx
      obtain ⟨G, hG⟩ : ∃ X, wd.heap.size = X := ⟨_, rfl⟩
      rw [hG] at gd hz hGw ⊢
      clear hG
      have s' := hkeep hx s
      have zd' := hkeep hx zd
      have Cd' := Cd.trans hx
      refine hK.out _ _ s' (fun _ => ?_)
      clear hK K s zd Cd hx
      refine rd 7 rfl (fun K hK => ?_); go_simp
      have ge : (World.onObj wx G (laidAt 0 (accC wh 1 A0 0))).heap[G]? = some (.cells (accC wh 1 A0 0) 87 (0, 0)) := by rw [zab, if_pos rfl, gd, Option.map_some, zah]
      have se : (World.onObj wx G (laidAt 0 (accC wh 1 A0 0))).heap[B]? = some (.cells cp 51 (0, 0)) := by rw [zab, if_neg (by omega)]; exact s'
      have ze : (World.onObj wx G (laidAt 0 (accC wh 1 A0 0))).heap[B + 1]? = some (.cells (accC 0 0 0 0) 87 (0, 0)) := by rw [zab, if_neg (by omega)]; exact zd'
      have Ce : Ch [] w (World.onObj wx G (laidAt 0 (accC wh 1 A0 0))) := Cd'.onObj (.inr hGw) _
      refine hK.out _ _ se (fun _ => ?_)
      clear hK K
      refine wpAnyH_done (by kernel_rfl) ?_ _
      exact ⟨rfl, G, rfl, se, ze, ge, by omega, Ce⟩
    · go_simp
      have hx : Ch [] wd (wd.alloc (.cells (accC 0 0 0 0) 87)) := (Ch.refl [] wd).alloc _
      have gd : (wd.alloc (.cells (accC 0 0 0 0) 87)).heap[wd.heap.size]? = some (.cells (accC 0 0 0 0) 87 (0, 0)) := by rw [zae, if_pos rfl]
      have hz := zad zd
      have hGw := Cd.size
      obtain ⟨wx, hwx⟩ : ∃ W, wd.alloc (.cells (accC 0 0 0 0) 87) = W := ⟨_, rfl⟩
      rw [hwx] at hx gd ⊢
      clear hwx
      obtain ⟨G, hG⟩ : ∃ X, wd.heap.size = X := ⟨_, rfl⟩
      rw [hG] at gd hz hGw ⊢
      clear hG
      have s' := hkeep hx s
      have zd' := hkeep hx zd
      have Cd' := Cd.trans hx
      refine hK.out _ _ s' (fun _ => ?_)
      clear hK K s zd Cd hx
      refine rd (o := ⟨some 8, _, _, _, _, none⟩) 4 rfl (fun K hK => ?_); go_simp
      refine (K1 _).mono ?_
      rintro e w' ⟨rfl, rfl⟩
      refine hK.out _ _ s' (fun _ => ?_)
      clear hK K
      refine wpAnyH_take (i := 5) (oi := ⟨some 9, _, _, _, _, none⟩) (v := ?_) rfl (by kernel_rfl) (by kernel_rfl) (by kernel_rfl) (fun _ _ _ h => by cases h.1) (Or.inl ⟨by rfl, ?_⟩) s' ?_
      rotate_left
      · intro wq hSq
        first | (go_simp; done) | (go_simp; with_reducible rfl)
      try simp only [Act.put, List.setIfInBounds_toArray, List.set_cons_zero, List.set_cons_succ]
      refine rd 7 rfl (fun K hK => ?_); go_simp
      have ge : (World.onObj wx G (laidAt 0 (accC wh 1 A0 0))).heap[G]? = some (.cells (accC wh 1 A0 0) 87 (0, 0)) := by rw [zab, if_pos rfl, gd, Option.map_some, zah]
      have se : (World.onObj wx G (laidAt 0 (accC wh 1 A0 0))).heap[B]? = some (.cells cp 51 (0, 0)) := by rw [zab, if_neg (by omega)]; exact s'
      have ze : (World.onObj wx G (laidAt 0 (accC wh 1 A0 0))).heap[B + 1]? = some (.cells (accC 0 0 0 0) 87 (0, 0)) := by rw [zab, if_neg (by omega)]; exact zd'
      have Ce : Ch [] w (World.onObj wx G (laidAt 0 (accC wh 1 A0 0))) := Cd'.onObj (.inr hGw) _
      refine hK.out _ _ se (fun _ => ?_)
      clear hK K
      refine wpAnyH_done (by kernel_rfl) ?_ _
      exact ⟨rfl, G, rfl, se, ze, ge, by omega, Ce⟩
  rintro a' w1 ⟨G, rfl, b1, z1, g1, hG, C1⟩
  try simp only [Act.put, List.setIfInBounds_toArray, List.set_cons_zero, List.set_cons_succ]
  clear b0 z0 C0 K1
  have hGn : ¬ G = B := by omega
  have hGn1 : ¬ G = B + 1 := by omega
  have hGb : ¬ B = G := by omega
  have hGb1 : ¬ B + 1 = G := by omega
  go_upto_region 15 with (fail)
  have g2 : (w1.setCell ⟨G, 2, none⟩ (I (A0 + 22 + a))).heap[G]? = some (.cells (accC wh 1 (A0 + 22 + a) 0) 87 (0, 0)) := by rw [zaa, if_pos rfl, g1, Option.map_some, zaf, acc_s2]
  have b2 : (w1.setCell ⟨G, 2, none⟩ (I (A0 + 22 + a))).heap[B]? = some (.cells cp 51 (0, 0)) := by rw [zaa, if_neg (by omega)]; exact b1
  have z2 : (w1.setCell ⟨G, 2, none⟩ (I (A0 + 22 + a))).heap[B + 1]? = some (.cells (accC 0 0 0 0) 87 (0, 0)) := by rw [zaa, if_neg (by omega)]; exact z1
  have C2 : Ch [] w (w1.setCell ⟨G, 2, none⟩ (I (A0 + 22 + a))) := C1.setCell (.inr (by show w.heap.size ≤ G; omega)) _
  clear g1 b1 z1 C1
  obtain ⟨w2, hw2⟩ : ∃ W, (w1.setCell ⟨G, 2, none⟩ (I (A0 + 22 + a))) = W := ⟨_, rfl⟩
  rw [hw2] at g2 b2 z2 C2 ⊢
  clear hw2
  go_wp2
  refine bodyPost_ret (acc_result Tryz.results48 _ (B + 1) _ wh 1 (A0 + 22 + a) 0 rfl ?_) rfl ⟨rfl, C2.onObj (p := B + 1) (.inr (by omega)) _⟩
  rw [zab, if_pos rfl, z2, Option.map_some, zah]
theorem r22Need_5 (p : PartT) (hp : p.ph = 5) (s0 : 0 ≤ p.sl) (s1 : p.sl < 128) (w : World) : Calls Tryz.prog 48 #[.agg (partC p)] w fun e w' => e = .returned (.agg (accC p.who 2 (16 + 40 * p.sl) (N (p.count + 1#64)))) ∧ Ch [] w w' := by
  have K1 := fun w => rCell_any p.sl 0 s0 s1 (by decide) (by decide) w
  have ea : (16 : Int) + 40 * p.sl + 0 = 16 + 40 * p.sl := by omega
  rw [ea] at K1
  clear ea
  have e0 : (partC p)[0]? = some (I 5) := by rw [zcs, hp]
  have e1 : (partC p)[1]? = some (I p.who) := zcx p
  have e2 : (partC p)[2]? = some (I p.sl) := zcp p
  have e6 : (partC p)[6]? = some (U p.count) := zcu p
  obtain ⟨A0, hA0⟩ : ∃ a, 16 + 40 * p.sl = a := ⟨_, rfl⟩
  have hA1 : 16 ≤ A0 := by omega
  have hA2 : A0 ≤ 5200 := by omega
  rw [hA0] at K1 ⊢
  clear hA0 s0 s1 hp
  obtain ⟨wh, hwh⟩ : ∃ x, p.who = x := ⟨_, rfl⟩
  rw [hwh] at e1 ⊢
  obtain ⟨sl, hsl⟩ : ∃ x, p.sl = x := ⟨_, rfl⟩
  rw [hsl] at e2 K1
  obtain ⟨cn, hcn⟩ : ∃ x, p.count = x := ⟨_, rfl⟩
  rw [hcn] at e6
  try rw [hcn]
  clear hwh hsl hcn
  have C0 : Ch [] w ((w.alloc (.cells (partC p) 51)).alloc (.cells (accC 0 0 0 0) 87)) := ((Ch.refl [] w).alloc _).alloc _
  have b0 := rneed_b p w
  have z0 := rneed_z p w
  go_enter Tryz.func48, Tryz.ntmps48
  go_upto_region 1 with (fail)
  obtain ⟨w0, hw0⟩ : ∃ W, (w.alloc (.cells (partC p) 51)).alloc (.cells (accC 0 0 0 0) 87) = W := ⟨_, rfl⟩
  rw [hw0] at b0 z0 C0 ⊢
  clear hw0
  obtain ⟨B, hB⟩ : ∃ B, w.heap.size = B := ⟨_, rfl⟩
  rw [hB] at b0 z0 ⊢
  have hBw : w.heap.size ≤ B := by omega
  clear hB
  obtain ⟨cp, hcp⟩ : ∃ c, partC p = c := ⟨_, rfl⟩
  rw [hcp] at b0 e0 e1 e2 e6
  try rw [hcp]
  clear hcp
  refine sp_region_cut (fun a a' w' => ∃ (G : Nat), a' = (((((((a.put (some 4) (.pointer (some ⟨B, 1, none⟩))).put (some 5) (I wh)).put (some 6) (.pointer (some ⟨B, 2, none⟩))).put (some 7) (I sl)).put (some 8) (I A0)).put (some 9) (.agg (accC wh 1 A0 0))).put (some 3) (.pointer (some ⟨G, 0, none⟩))) ∧ w'.heap[B]? = some (.cells cp 51 (0, 0)) ∧ w'.heap[B + 1]? = some (.cells (accC 0 0 0 0) 87 (0, 0)) ∧ w'.heap[G]? = some (.cells (accC wh 1 A0 0) 87 (0, 0)) ∧ B + 1 < G ∧ Ch [] w w') ?_ ?_
  · have s : (fun W' : World => W'.heap[B]? = some (.cells cp 51 (0, 0))) w0.drew := b0
    have zd : w0.drew.heap[B + 1]? = some (.cells (accC 0 0 0 0) 87 (0, 0)) := z0
    have Cd : Ch [] w w0.drew := C0.drew
    refine wp_region_held_drew (S := fun W' => W'.heap[B]? = some (.cells cp 51 (0, 0))) (by kernel_rfl) s ?_
    intro _
    simp only [List.size_toArray, List.length_cons, List.length_nil, Nat.reduceAdd]
    obtain ⟨wd, hwd⟩ : ∃ W, w0.drew = W := ⟨_, rfl⟩
    rw [hwd] at s zd Cd ⊢
    clear hwd b0 z0 C0
    refine wpAnyH_take (i := 0) (oi := ⟨some 4, _, _, _, _, none⟩) (v := ?_) rfl (by kernel_rfl) (by kernel_rfl) (by kernel_rfl) (fun _ _ _ h => by cases h.1) (Or.inl ⟨by rfl, ?_⟩) s ?_
    rotate_left
    · intro wq hSq
      first | (go_simp; done) | (go_simp; with_reducible rfl)
    try simp only [Act.put, List.setIfInBounds_toArray, List.set_cons_zero, List.set_cons_succ]
    refine wpAnyH_take (i := 1) (oi := ⟨some 5, _, _, _, _, none⟩) (v := ?_) rfl (by kernel_rfl) (by kernel_rfl) (by kernel_rfl) (fun _ _ _ h => by cases h.1) (Or.inl ⟨by rfl, ?_⟩) s ?_
    rotate_left
    · intro wq hSq
      first | (go_simp; done) | (go_simp; with_reducible rfl)
    try simp only [Act.put, List.setIfInBounds_toArray, List.set_cons_zero, List.set_cons_succ]
    refine wpAnyH_take (i := 2) (oi := ⟨some 6, _, _, _, _, none⟩) (v := ?_) rfl (by kernel_rfl) (by kernel_rfl) (by kernel_rfl) (fun _ _ _ h => by cases h.1) (Or.inl ⟨by rfl, ?_⟩) s ?_
    rotate_left
    · intro wq hSq
      first | (go_simp; done) | (go_simp; with_reducible rfl)
    try simp only [Act.put, List.setIfInBounds_toArray, List.set_cons_zero, List.set_cons_succ]
    refine wpAnyH_take (i := 3) (oi := ⟨some 7, _, _, _, _, none⟩) (v := ?_) rfl (by kernel_rfl) (by kernel_rfl) (by kernel_rfl) (fun _ _ _ h => by cases h.1) (Or.inl ⟨by rfl, ?_⟩) s ?_
    rotate_left
    · intro wq hSq
      first | (go_simp; done) | (go_simp; with_reducible rfl)
    try simp only [Act.put, List.setIfInBounds_toArray, List.set_cons_zero, List.set_cons_succ]
    refine wpAnyH_ready (rs := [4, 6]) (by kernel_rfl) (by simp) ?_
    refine AllReadyH.cons rfl (fun K hK => ?_) (AllReadyH.cons (o := ⟨some 3, _, _, _, _, none⟩) rfl (fun K hK => ?_) AllReadyH.nil)
    · go_simp
      refine (K1 _).mono ?_
      rintro e w' ⟨rfl, rfl⟩
      refine hK.out _ _ s (fun _ => ?_)
      clear hK K
      refine wpAnyH_take (i := 5) (oi := ⟨some 9, _, _, _, _, none⟩) (v := ?_) rfl (by kernel_rfl) (by kernel_rfl) (by kernel_rfl) (fun _ _ _ h => by cases h.1) (Or.inl ⟨by rfl, ?_⟩) s ?_
      rotate_left
      · intro wq hSq
        first | (go_simp; done) | (go_simp; with_reducible rfl)
      try simp only [Act.put, List.setIfInBounds_toArray, List.set_cons_zero, List.set_cons_succ]
      refine rd (o := ⟨some 3, _, _, _, _, none⟩) 6 rfl (fun K hK => ?_); go_simp
      have hx : Ch [] wd (wd.alloc (.cells (accC 0 0 0 0) 87)) := (Ch.refl [] wd).alloc _
      have gd : (wd.alloc (.cells (accC 0 0 0 0) 87)).heap[wd.heap.size]? = some (.cells (accC 0 0 0 0) 87 (0, 0)) := by rw [zae, if_pos rfl]
      have hz := zad zd
      have hGw := Cd.size
      obtain ⟨wx, hwx⟩ : ∃ W, wd.alloc (.cells (accC 0 0 0 0) 87) = W := ⟨_, rfl⟩
      rw [hwx] at hx gd ⊢
      clear hwx
      obtain ⟨G, hG⟩ : ∃ X, wd.heap.size = X := ⟨_, rfl⟩
      rw [hG] at gd hz hGw ⊢
      clear hG
      have s' := hkeep hx s
      have zd' := hkeep hx zd
      have Cd' := Cd.trans hx
      refine hK.out _ _ s' (fun _ => ?_)
      clear hK K s zd Cd hx
      refine rd 7 rfl (fun K hK => ?_); go_simp
      have ge : (World.onObj wx G (laidAt 0 (accC wh 1 A0 0))).heap[G]? = some (.cells (accC wh 1 A0 0) 87 (0, 0)) := by rw [zab, if_pos rfl, gd, Option.map_some, zah]
      have se : (World.onObj wx G (laidAt 0 (accC wh 1 A0 0))).heap[B]? = some (.cells cp 51 (0, 0)) := by rw [zab, if_neg (by omega)]; exact s'
      have ze : (World.onObj wx G (laidAt 0 (accC wh 1 A0 0))).heap[B + 1]? = some (.cells (accC 0 0 0 0) 87 (0, 0)) := by rw [zab, if_neg (by omega)]; exact zd'
      have Ce : Ch [] w (World.onObj wx G (laidAt 0 (accC wh 1 A0 0))) := Cd'.onObj (.inr hGw) _
      refine hK.out _ _ se (fun _ => ?_)
      clear hK K
      refine wpAnyH_done (by kernel_rfl) ?_ _
      exact ⟨rfl, G, rfl, se, ze, ge, by omega, Ce⟩
    · go_simp
      have hx : Ch [] wd (wd.alloc (.cells (accC 0 0 0 0) 87)) := (Ch.refl [] wd).alloc _
      have gd : (wd.alloc (.cells (accC 0 0 0 0) 87)).heap[wd.heap.size]? = some (.cells (accC 0 0 0 0) 87 (0, 0)) := by rw [zae, if_pos rfl]
      have hz := zad zd
      have hGw := Cd.size
      obtain ⟨wx, hwx⟩ : ∃ W, wd.alloc (.cells (accC 0 0 0 0) 87) = W := ⟨_, rfl⟩
      rw [hwx] at hx gd ⊢
      clear hwx
      obtain ⟨G, hG⟩ : ∃ X, wd.heap.size = X := ⟨_, rfl⟩
      rw [hG] at gd hz hGw ⊢
      clear hG
      have s' := hkeep hx s
      have zd' := hkeep hx zd
      have Cd' := Cd.trans hx
      refine hK.out _ _ s' (fun _ => ?_)
      clear hK K s zd Cd hx
      refine rd (o := ⟨some 8, _, _, _, _, none⟩) 4 rfl (fun K hK => ?_); go_simp
      refine (K1 _).mono ?_
      rintro e w' ⟨rfl, rfl⟩
      refine hK.out _ _ s' (fun _ => ?_)
      clear hK K
      refine wpAnyH_take (i := 5) (oi := ⟨some 9, _, _, _, _, none⟩) (v := ?_) rfl (by kernel_rfl) (by kernel_rfl) (by kernel_rfl) (fun _ _ _ h => by cases h.1) (Or.inl ⟨by rfl, ?_⟩) s' ?_
      rotate_left
      · intro wq hSq
        first | (go_simp; done) | (go_simp; with_reducible rfl)
      try simp only [Act.put, List.setIfInBounds_toArray, List.set_cons_zero, List.set_cons_succ]
      refine rd 7 rfl (fun K hK => ?_); go_simp
      have ge : (World.onObj wx G (laidAt 0 (accC wh 1 A0 0))).heap[G]? = some (.cells (accC wh 1 A0 0) 87 (0, 0)) := by rw [zab, if_pos rfl, gd, Option.map_some, zah]
      have se : (World.onObj wx G (laidAt 0 (accC wh 1 A0 0))).heap[B]? = some (.cells cp 51 (0, 0)) := by rw [zab, if_neg (by omega)]; exact s'
      have ze : (World.onObj wx G (laidAt 0 (accC wh 1 A0 0))).heap[B + 1]? = some (.cells (accC 0 0 0 0) 87 (0, 0)) := by rw [zab, if_neg (by omega)]; exact zd'
      have Ce : Ch [] w (World.onObj wx G (laidAt 0 (accC wh 1 A0 0))) := Cd'.onObj (.inr hGw) _
      refine hK.out _ _ se (fun _ => ?_)
      clear hK K
      refine wpAnyH_done (by kernel_rfl) ?_ _
      exact ⟨rfl, G, rfl, se, ze, ge, by omega, Ce⟩
  rintro a' w1 ⟨G, rfl, b1, z1, g1, hG, C1⟩
  try simp only [Act.put, List.setIfInBounds_toArray, List.set_cons_zero, List.set_cons_succ]
  clear b0 z0 C0 K1
  have hGn : ¬ G = B := by omega
  have hGn1 : ¬ G = B + 1 := by omega
  have hGb : ¬ B = G := by omega
  have hGb1 : ¬ B + 1 = G := by omega
  go_upto_region 12 with (fail)
  have s : (fun W' : World => W'.heap[B]? = some (.cells cp 51 (0, 0))) w1.drew := b1
  have g2 : w1.drew.heap[G]? = _ := g1
  have z2 : w1.drew.heap[B + 1]? = _ := z1
  have b2 := s
  have C2 : Ch [] w w1.drew := C1.drew
  refine wp_region_held_drew (S := fun W' => W'.heap[B]? = some (.cells cp 51 (0, 0))) (by kernel_rfl) s ?_
  intro _
  simp only [List.size_toArray, List.length_cons, List.length_nil, Nat.reduceAdd]
  clear g1 b1 z1 C1
  obtain ⟨w2, hw2⟩ : ∃ W, w1.drew = W := ⟨_, rfl⟩
  rw [hw2] at s g2 z2 b2 C2 ⊢
  clear hw2
  clear s
  refine tk 0 47 ?_ rfl b2 ?_ ?_; rotate_left
  · intro _ _; go_simp; try with_reducible rfl
  try go_frame
  refine tk 1 48 ?_ rfl b2 ?_ ?_; rotate_left
  · intro _ _; go_simp; try with_reducible rfl
  try go_frame
  refine tk 2 49 ?_ rfl b2 ?_ ?_; rotate_left
  · intro _ _; go_simp; try with_reducible rfl
  try go_frame
  refine tk 3 50 ?_ rfl b2 ?_ ?_; rotate_left
  · intro _ _; go_simp; try with_reducible rfl
  try go_frame
  refine rd 4 rfl (fun K hK => ?_); go_simp
  have g3 : (w2.setCell ⟨G, 1, none⟩ (I 2)).heap[G]? = some (.cells (accC wh 2 A0 0) 87 (0, 0)) := by rw [zaa, if_pos rfl, g2, Option.map_some, zaf, acc_s1]
  have b3 : (w2.setCell ⟨G, 1, none⟩ (I 2)).heap[B]? = some (.cells cp 51 (0, 0)) := by rw [zaa, if_neg (by omega)]; exact b2
  have z3 : (w2.setCell ⟨G, 1, none⟩ (I 2)).heap[B + 1]? = some (.cells (accC 0 0 0 0) 87 (0, 0)) := by rw [zaa, if_neg (by omega)]; exact z2
  have C3 : Ch [] w (w2.setCell ⟨G, 1, none⟩ (I 2)) := C2.setCell (.inr (by show w.heap.size ≤ G; omega)) _
  refine hK.out _ _ b3 (fun _ => ?_)
  clear hK K g2 b2 z2 C2
  obtain ⟨w3, hw⟩ : ∃ W, (w2.setCell ⟨G, 1, none⟩ (I 2)) = W := ⟨_, rfl⟩
  rw [hw] at g3 b3 z3 C3 ⊢
  clear hw
  refine tk 5 51 ?_ rfl b3 ?_ ?_; rotate_left
  · intro _ _; go_simp; try with_reducible rfl
  try go_frame
  refine rd 6 rfl (fun K hK => ?_); go_simp
  have g4 : (w3.setCell ⟨G, 4, none⟩ (U (cn + 1#64))).heap[G]? = some (.cells (accC wh 2 A0 (N (cn + 1#64))) 87 (0, 0)) := by rw [zaa, if_pos rfl, g3, Option.map_some, zaf, acc_s4]
  have b4 : (w3.setCell ⟨G, 4, none⟩ (U (cn + 1#64))).heap[B]? = some (.cells cp 51 (0, 0)) := by rw [zaa, if_neg (by omega)]; exact b3
  have z4 : (w3.setCell ⟨G, 4, none⟩ (U (cn + 1#64))).heap[B + 1]? = some (.cells (accC 0 0 0 0) 87 (0, 0)) := by rw [zaa, if_neg (by omega)]; exact z3
  have C4 : Ch [] w (w3.setCell ⟨G, 4, none⟩ (U (cn + 1#64))) := C3.setCell (.inr (by show w.heap.size ≤ G; omega)) _
  refine hK.out _ _ b4 (fun _ => ?_)
  clear hK K g3 b3 z3 C3
  obtain ⟨w4, hw⟩ : ∃ W, (w3.setCell ⟨G, 4, none⟩ (U (cn + 1#64))) = W := ⟨_, rfl⟩
  rw [hw] at g4 b4 z4 C4 ⊢
  clear hw
  refine wpAnyH_done (by kernel_rfl) ?_ _
  go_wp2
  refine bodyPost_ret (acc_result Tryz.results48 _ (B + 1) _ wh 2 A0 (N (cn + 1#64)) rfl ?_) rfl ⟨rfl, C4.onObj (p := B + 1) (.inr (by omega)) _⟩
  rw [zab, if_pos rfl, z4, Option.map_some, zah]
theorem r22Need_6 (p : PartT) (hp : p.ph = 6) (s0 : 0 ≤ p.sl) (s1 : p.sl < 128) (j q r : Nat) (hat : p.at_ = (j : Int)) (hj : j < 80) (hq : j / 40 = q) (hr : j % 40 = r) (to : Int) (hto : (if j < 40 then p.t0 else p.t1) = to) (t0 : 0 ≤ to) (t1 : to < 128) (w : World) : Calls Tryz.prog 48 #[.agg (partC p)] w fun e w' => e = .returned (.agg (accC p.who 2 (16 + 40 * to + (r : Int)) (N (p.ws j)))) ∧ Ch [] w w' := by
  have K1 := fun w => rCell_any p.sl 0 s0 s1 (by decide) (by decide) w
  have ea : (16 : Int) + 40 * p.sl + 0 = 16 + 40 * p.sl := by omega
  rw [ea] at K1
  clear ea
  have e0 : (partC p)[0]? = some (I 6) := by rw [zcs, hp]
  have e1 : (partC p)[1]? = some (I p.who) := zcx p
  have e2 : (partC p)[2]? = some (I p.sl) := zcp p
  have e6 : (partC p)[6]? = some (U p.count) := zcu p
  have e42 : (partC p)[42]? = some (I (j : Int)) := by rw [zce, hat]
  have e3 : (partC p)[3 + q]? = some (I to) := by
    by_cases h : j < 40
    · rw [show q = 0 by omega, zcw, ← hto, if_pos h]
    · rw [show q = 1 by omega, zcv, ← hto, if_neg h]
  have e43 : (partC p)[43 + q * 40 + r]? = some (U (p.ws j)) := by rw [show 43 + q * 40 + r = 43 + j by omega]; exact part_gw p j hj
  have d4 : (j : Int).tdiv 40 = (q : Int) := by rw [Int.tdiv_eq_ediv_of_nonneg (by omega)]; omega
  have d5 : (j : Int).tmod 40 = (r : Int) := by rw [Int.tmod_eq_emod_of_nonneg (by omega)]; omega
  have d3 : IntKind.i64.wrap (q : Int) = (q : Int) := by rw [IntKind.wrap_i64]; omega
  have q0 : (0 : Int) ≤ q := by omega
  have q1 : (q : Int) < 2 := by omega
  have r0 : (0 : Int) ≤ r := by omega
  have r1 : (r : Int) < 40 := by omega
  have j0 : (0 : Int) ≤ j := by omega
  have K2 := fun w => rCell_any to (r : Int) t0 t1 (by omega) (by omega) w
  obtain ⟨x, hx⟩ : ∃ x, p.ws j = x := ⟨_, rfl⟩
  rw [hx] at e43 ⊢
  obtain ⟨A6, hA6⟩ : ∃ x, (16 : Int) + 40 * to + (r : Int) = x := ⟨_, rfl⟩
  rw [hA6] at K2 ⊢
  clear hx hat hto hq hr hj t0 t1 hA6
  obtain ⟨A0, hA0⟩ : ∃ a, 16 + 40 * p.sl = a := ⟨_, rfl⟩
  have hA1 : 16 ≤ A0 := by omega
  have hA2 : A0 ≤ 5200 := by omega
  rw [hA0] at K1
  clear hA0 s0 s1 hp
  obtain ⟨wh, hwh⟩ : ∃ x, p.who = x := ⟨_, rfl⟩
  rw [hwh] at e1 ⊢
  obtain ⟨sl, hsl⟩ : ∃ x, p.sl = x := ⟨_, rfl⟩
  rw [hsl] at e2 K1
  obtain ⟨cn, hcn⟩ : ∃ x, p.count = x := ⟨_, rfl⟩
  rw [hcn] at e6
  try rw [hcn]
  clear hwh hsl hcn
  have C0 : Ch [] w ((w.alloc (.cells (partC p) 51)).alloc (.cells (accC 0 0 0 0) 87)) := ((Ch.refl [] w).alloc _).alloc _
  have b0 := rneed_b p w
  have z0 := rneed_z p w
  go_enter Tryz.func48, Tryz.ntmps48
  go_upto_region 1 with (fail)
  obtain ⟨w0, hw0⟩ : ∃ W, (w.alloc (.cells (partC p) 51)).alloc (.cells (accC 0 0 0 0) 87) = W := ⟨_, rfl⟩
  rw [hw0] at b0 z0 C0 ⊢
  clear hw0
  obtain ⟨B, hB⟩ : ∃ B, w.heap.size = B := ⟨_, rfl⟩
  rw [hB] at b0 z0 ⊢
  have hBw : w.heap.size ≤ B := by omega
  clear hB
  obtain ⟨cp, hcp⟩ : ∃ c, partC p = c := ⟨_, rfl⟩
  rw [hcp] at b0 e0 e1 e2 e6 e42 e3 e43
  try rw [hcp]
  clear hcp
  refine sp_region_cut (fun a a' w' => ∃ (G : Nat), a' = (((((((a.put (some 4) (.pointer (some ⟨B, 1, none⟩))).put (some 5) (I wh)).put (some 6) (.pointer (some ⟨B, 2, none⟩))).put (some 7) (I sl)).put (some 8) (I A0)).put (some 9) (.agg (accC wh 1 A0 0))).put (some 3) (.pointer (some ⟨G, 0, none⟩))) ∧ w'.heap[B]? = some (.cells cp 51 (0, 0)) ∧ w'.heap[B + 1]? = some (.cells (accC 0 0 0 0) 87 (0, 0)) ∧ w'.heap[G]? = some (.cells (accC wh 1 A0 0) 87 (0, 0)) ∧ B + 1 < G ∧ Ch [] w w') ?_ ?_
  · have s : (fun W' : World => W'.heap[B]? = some (.cells cp 51 (0, 0))) w0.drew := b0
    have zd : w0.drew.heap[B + 1]? = some (.cells (accC 0 0 0 0) 87 (0, 0)) := z0
    have Cd : Ch [] w w0.drew := C0.drew
    refine wp_region_held_drew (S := fun W' => W'.heap[B]? = some (.cells cp 51 (0, 0))) (by kernel_rfl) s ?_
    intro _
    simp only [List.size_toArray, List.length_cons, List.length_nil, Nat.reduceAdd]
    obtain ⟨wd, hwd⟩ : ∃ W, w0.drew = W := ⟨_, rfl⟩
    rw [hwd] at s zd Cd ⊢
    clear hwd b0 z0 C0
    refine wpAnyH_take (i := 0) (oi := ⟨some 4, _, _, _, _, none⟩) (v := ?_) rfl (by kernel_rfl) (by kernel_rfl) (by kernel_rfl) (fun _ _ _ h => by cases h.1) (Or.inl ⟨by rfl, ?_⟩) s ?_
    rotate_left
    · intro wq hSq
      first | (go_simp; done) | (go_simp; with_reducible rfl)
    try simp only [Act.put, List.setIfInBounds_toArray, List.set_cons_zero, List.set_cons_succ]
    refine wpAnyH_take (i := 1) (oi := ⟨some 5, _, _, _, _, none⟩) (v := ?_) rfl (by kernel_rfl) (by kernel_rfl) (by kernel_rfl) (fun _ _ _ h => by cases h.1) (Or.inl ⟨by rfl, ?_⟩) s ?_
    rotate_left
    · intro wq hSq
      first | (go_simp; done) | (go_simp; with_reducible rfl)
    try simp only [Act.put, List.setIfInBounds_toArray, List.set_cons_zero, List.set_cons_succ]
    refine wpAnyH_take (i := 2) (oi := ⟨some 6, _, _, _, _, none⟩) (v := ?_) rfl (by kernel_rfl) (by kernel_rfl) (by kernel_rfl) (fun _ _ _ h => by cases h.1) (Or.inl ⟨by rfl, ?_⟩) s ?_
    rotate_left
    · intro wq hSq
      first | (go_simp; done) | (go_simp; with_reducible rfl)
    try simp only [Act.put, List.setIfInBounds_toArray, List.set_cons_zero, List.set_cons_succ]
    refine wpAnyH_take (i := 3) (oi := ⟨some 7, _, _, _, _, none⟩) (v := ?_) rfl (by kernel_rfl) (by kernel_rfl) (by kernel_rfl) (fun _ _ _ h => by cases h.1) (Or.inl ⟨by rfl, ?_⟩) s ?_
    rotate_left
    · intro wq hSq
      first | (go_simp; done) | (go_simp; with_reducible rfl)
    try simp only [Act.put, List.setIfInBounds_toArray, List.set_cons_zero, List.set_cons_succ]
    refine wpAnyH_ready (rs := [4, 6]) (by kernel_rfl) (by simp) ?_
    refine AllReadyH.cons rfl (fun K hK => ?_) (AllReadyH.cons (o := ⟨some 3, _, _, _, _, none⟩) rfl (fun K hK => ?_) AllReadyH.nil)
    · go_simp
      refine (K1 _).mono ?_
      rintro e w' ⟨rfl, rfl⟩
      refine hK.out _ _ s (fun _ => ?_)
      clear hK K
      refine wpAnyH_take (i := 5) (oi := ⟨some 9, _, _, _, _, none⟩) (v := ?_) rfl (by kernel_rfl) (by kernel_rfl) (by kernel_rfl) (fun _ _ _ h => by cases h.1) (Or.inl ⟨by rfl, ?_⟩) s ?_
      rotate_left
      · intro wq hSq
        first | (go_simp; done) | (go_simp; with_reducible rfl)
      try simp only [Act.put, List.setIfInBounds_toArray, List.set_cons_zero, List.set_cons_succ]
      refine rd (o := ⟨some 3, _, _, _, _, none⟩) 6 rfl (fun K hK => ?_); go_simp
      have hx : Ch [] wd (wd.alloc (.cells (accC 0 0 0 0) 87)) := (Ch.refl [] wd).alloc _
      have gd : (wd.alloc (.cells (accC 0 0 0 0) 87)).heap[wd.heap.size]? = some (.cells (accC 0 0 0 0) 87 (0, 0)) := by rw [zae, if_pos rfl]
      have hz := zad zd
      have hGw := Cd.size
      obtain ⟨wx, hwx⟩ : ∃ W, wd.alloc (.cells (accC 0 0 0 0) 87) = W := ⟨_, rfl⟩
      rw [hwx] at hx gd ⊢
      clear hwx
      obtain ⟨G, hG⟩ : ∃ X, wd.heap.size = X := ⟨_, rfl⟩
      rw [hG] at gd hz hGw ⊢
      clear hG
      have s' := hkeep hx s
      have zd' := hkeep hx zd
      have Cd' := Cd.trans hx
      refine hK.out _ _ s' (fun _ => ?_)
      clear hK K s zd Cd hx
      refine rd 7 rfl (fun K hK => ?_); go_simp
      have ge : (World.onObj wx G (laidAt 0 (accC wh 1 A0 0))).heap[G]? = some (.cells (accC wh 1 A0 0) 87 (0, 0)) := by rw [zab, if_pos rfl, gd, Option.map_some, zah]
      have se : (World.onObj wx G (laidAt 0 (accC wh 1 A0 0))).heap[B]? = some (.cells cp 51 (0, 0)) := by rw [zab, if_neg (by omega)]; exact s'
      have ze : (World.onObj wx G (laidAt 0 (accC wh 1 A0 0))).heap[B + 1]? = some (.cells (accC 0 0 0 0) 87 (0, 0)) := by rw [zab, if_neg (by omega)]; exact zd'
      have Ce : Ch [] w (World.onObj wx G (laidAt 0 (accC wh 1 A0 0))) := Cd'.onObj (.inr hGw) _
      refine hK.out _ _ se (fun _ => ?_)
      clear hK K
      refine wpAnyH_done (by kernel_rfl) ?_ _
      exact ⟨rfl, G, rfl, se, ze, ge, by omega, Ce⟩
    · go_simp
      have hx : Ch [] wd (wd.alloc (.cells (accC 0 0 0 0) 87)) := (Ch.refl [] wd).alloc _
      have gd : (wd.alloc (.cells (accC 0 0 0 0) 87)).heap[wd.heap.size]? = some (.cells (accC 0 0 0 0) 87 (0, 0)) := by rw [zae, if_pos rfl]
      have hz := zad zd
      have hGw := Cd.size
      obtain ⟨wx, hwx⟩ : ∃ W, wd.alloc (.cells (accC 0 0 0 0) 87) = W := ⟨_, rfl⟩
      rw [hwx] at hx gd ⊢
      clear hwx
      obtain ⟨G, hG⟩ : ∃ X, wd.heap.size = X := ⟨_, rfl⟩
      rw [hG] at gd hz hGw ⊢
      clear hG
      have s' := hkeep hx s
      have zd' := hkeep hx zd
      have Cd' := Cd.trans hx
      refine hK.out _ _ s' (fun _ => ?_)
      clear hK K s zd Cd hx
      refine rd (o := ⟨some 8, _, _, _, _, none⟩) 4 rfl (fun K hK => ?_); go_simp
      refine (K1 _).mono ?_
      rintro e w' ⟨rfl, rfl⟩
      refine hK.out _ _ s' (fun _ => ?_)
      clear hK K
      refine wpAnyH_take (i := 5) (oi := ⟨some 9, _, _, _, _, none⟩) (v := ?_) rfl (by kernel_rfl) (by kernel_rfl) (by kernel_rfl) (fun _ _ _ h => by cases h.1) (Or.inl ⟨by rfl, ?_⟩) s' ?_
      rotate_left
      · intro wq hSq
        first | (go_simp; done) | (go_simp; with_reducible rfl)
      try simp only [Act.put, List.setIfInBounds_toArray, List.set_cons_zero, List.set_cons_succ]
      refine rd 7 rfl (fun K hK => ?_); go_simp
      have ge : (World.onObj wx G (laidAt 0 (accC wh 1 A0 0))).heap[G]? = some (.cells (accC wh 1 A0 0) 87 (0, 0)) := by rw [zab, if_pos rfl, gd, Option.map_some, zah]
      have se : (World.onObj wx G (laidAt 0 (accC wh 1 A0 0))).heap[B]? = some (.cells cp 51 (0, 0)) := by rw [zab, if_neg (by omega)]; exact s'
      have ze : (World.onObj wx G (laidAt 0 (accC wh 1 A0 0))).heap[B + 1]? = some (.cells (accC 0 0 0 0) 87 (0, 0)) := by rw [zab, if_neg (by omega)]; exact zd'
      have Ce : Ch [] w (World.onObj wx G (laidAt 0 (accC wh 1 A0 0))) := Cd'.onObj (.inr hGw) _
      refine hK.out _ _ se (fun _ => ?_)
      clear hK K
      refine wpAnyH_done (by kernel_rfl) ?_ _
      exact ⟨rfl, G, rfl, se, ze, ge, by omega, Ce⟩
  rintro a' w1 ⟨G, rfl, b1, z1, g1, hG, C1⟩
  try simp only [Act.put, List.setIfInBounds_toArray, List.set_cons_zero, List.set_cons_succ]
  clear b0 z0 C0 K1
  have hGn : ¬ G = B := by omega
  have hGn1 : ¬ G = B + 1 := by omega
  have hGb : ¬ B = G := by omega
  have hGb1 : ¬ B + 1 = G := by omega
  go_upto_region 14 with (fail)
  have s : (fun W' : World => W'.heap[B]? = some (.cells cp 51 (0, 0))) w1.drew := b1
  have g2 : w1.drew.heap[G]? = _ := g1
  have z2 : w1.drew.heap[B + 1]? = _ := z1
  have b2 := s
  have C2 : Ch [] w w1.drew := C1.drew
  refine wp_region_held_drew (S := fun W' => W'.heap[B]? = some (.cells cp 51 (0, 0))) (by kernel_rfl) s ?_
  intro _
  simp only [List.size_toArray, List.length_cons, List.length_nil, Nat.reduceAdd]
  clear g1 b1 z1 C1
  obtain ⟨w2, hw2⟩ : ∃ W, w1.drew = W := ⟨_, rfl⟩
  rw [hw2] at s g2 z2 b2 C2 ⊢
  clear hw2
  clear s
  refine tk 0 54 ?_ rfl b2 ?_ ?_; rotate_left
  · intro _ _; go_simp; try with_reducible rfl
  try go_frame
  refine tk 1 55 ?_ rfl b2 ?_ ?_; rotate_left
  · intro _ _; go_simp; try with_reducible rfl
  try go_frame
  refine tk 2 56 ?_ rfl b2 ?_ ?_; rotate_left
  · intro _ _; go_simp; try with_reducible rfl
  try go_frame
  refine tk 3 57 ?_ rfl b2 ?_ ?_; rotate_left
  · intro _ _; go_simp; try with_reducible rfl
  try go_frame
  refine tk 4 58 ?_ rfl b2 ?_ ?_; rotate_left
  · intro _ _; go_simp; try with_reducible rfl
  try go_frame
  refine tk 5 59 ?_ rfl b2 ?_ ?_; rotate_left
  · intro _ _; go_simp; try with_reducible rfl
  try go_frame
  refine tk 6 60 ?_ rfl b2 ?_ ?_; rotate_left
  · intro _ _; go_simp; try with_reducible rfl
  try go_frame
  refine tk 7 61 ?_ rfl b2 ?_ ?_; rotate_left
  · intro _ _; go_simp; try with_reducible rfl
  try go_frame
  refine tk 8 62 ?_ rfl b2 ?_ ?_; rotate_left
  · intro _ _; go_simp; try with_reducible rfl
  try go_frame
  refine tk 10 64 ?_ rfl b2 ?_ ?_; rotate_left
  · intro _ _; go_simp; try with_reducible rfl
  try go_frame
  refine tk 11 65 ?_ rfl b2 ?_ ?_; rotate_left
  · intro _ _; go_simp; try with_reducible rfl
  try go_frame
  refine tk 12 66 ?_ rfl b2 ?_ ?_; rotate_left
  · intro _ _; go_simp; try with_reducible rfl
  try go_frame
  refine tk 13 67 ?_ rfl b2 ?_ ?_; rotate_left
  · intro _ _; go_simp; try with_reducible rfl
  try go_frame
  refine tk 14 68 ?_ rfl b2 ?_ ?_; rotate_left
  · intro _ _; go_simp; try with_reducible rfl
  try go_frame
  refine tk 15 69 ?_ rfl b2 ?_ ?_; rotate_left
  · intro _ _; go_simp; try with_reducible rfl
  try go_frame
  refine tk 16 70 ?_ rfl b2 ?_ ?_; rotate_left
  · intro _ _; go_simp; try with_reducible rfl
  try go_frame
  refine tk 17 71 ?_ rfl b2 ?_ ?_; rotate_left
  · intro _ _; go_simp; try with_reducible rfl
  try go_frame
  refine tk 18 72 ?_ rfl b2 ?_ ?_; rotate_left
  · intro _ _; go_simp; try with_reducible rfl
  try go_frame
  refine tk 19 73 ?_ rfl b2 ?_ ?_; rotate_left
  · intro _ _; go_simp; try with_reducible rfl
  try go_frame
  refine tk 20 74 ?_ rfl b2 ?_ ?_; rotate_left
  · intro _ _; go_simp; try with_reducible rfl
  try go_frame
  refine rd (o := ⟨some 63, _, _, _, _, none⟩) 9 rfl (fun K hK => ?_); go_simp
  refine (K2 _).mono ?_
  rintro e w' ⟨rfl, rfl⟩
  refine hK.out _ _ b2 (fun _ => ?_)
  clear hK K K2
  refine rd 21 rfl (fun K hK => ?_); go_simp
  have g3 : (w2.setCell ⟨G, 1, none⟩ (I 2)).heap[G]? = some (.cells (accC wh 2 A0 0) 87 (0, 0)) := by rw [zaa, if_pos rfl, g2, Option.map_some, zaf, acc_s1]
  have b3 : (w2.setCell ⟨G, 1, none⟩ (I 2)).heap[B]? = some (.cells cp 51 (0, 0)) := by rw [zaa, if_neg (by omega)]; exact b2
  have z3 : (w2.setCell ⟨G, 1, none⟩ (I 2)).heap[B + 1]? = some (.cells (accC 0 0 0 0) 87 (0, 0)) := by rw [zaa, if_neg (by omega)]; exact z2
  have C3 : Ch [] w (w2.setCell ⟨G, 1, none⟩ (I 2)) := C2.setCell (.inr (by show w.heap.size ≤ G; omega)) _
  refine hK.out _ _ b3 (fun _ => ?_)
  clear hK K g2 b2 z2 C2
  obtain ⟨w3, hw⟩ : ∃ W, (w2.setCell ⟨G, 1, none⟩ (I 2)) = W := ⟨_, rfl⟩
  rw [hw] at g3 b3 z3 C3 ⊢
  clear hw
  refine tk 22 75 ?_ rfl b3 ?_ ?_; rotate_left
  · intro _ _; go_simp; try with_reducible rfl
  try go_frame
  refine rd 23 rfl (fun K hK => ?_); go_simp
  have g4 : (w3.setCell ⟨G, 2, none⟩ (I A6)).heap[G]? = some (.cells (accC wh 2 A6 0) 87 (0, 0)) := by rw [zaa, if_pos rfl, g3, Option.map_some, zaf, acc_s2]
  have b4 : (w3.setCell ⟨G, 2, none⟩ (I A6)).heap[B]? = some (.cells cp 51 (0, 0)) := by rw [zaa, if_neg (by omega)]; exact b3
  have z4 : (w3.setCell ⟨G, 2, none⟩ (I A6)).heap[B + 1]? = some (.cells (accC 0 0 0 0) 87 (0, 0)) := by rw [zaa, if_neg (by omega)]; exact z3
  have C4 : Ch [] w (w3.setCell ⟨G, 2, none⟩ (I A6)) := C3.setCell (.inr (by show w.heap.size ≤ G; omega)) _
  refine hK.out _ _ b4 (fun _ => ?_)
  clear hK K g3 b3 z3 C3
  obtain ⟨w4, hw⟩ : ∃ W, (w3.setCell ⟨G, 2, none⟩ (I A6)) = W := ⟨_, rfl⟩
  rw [hw] at g4 b4 z4 C4 ⊢
  clear hw
  refine tk 24 76 ?_ rfl b4 ?_ ?_; rotate_left
  · intro _ _; go_simp; try with_reducible rfl
  try go_frame
  refine rd 25 rfl (fun K hK => ?_); go_simp
  have g5 : (w4.setCell ⟨G, 4, none⟩ (U x)).heap[G]? = some (.cells (accC wh 2 A6 (N x)) 87 (0, 0)) := by rw [zaa, if_pos rfl, g4, Option.map_some, zaf, acc_s4]
  have b5 : (w4.setCell ⟨G, 4, none⟩ (U x)).heap[B]? = some (.cells cp 51 (0, 0)) := by rw [zaa, if_neg (by omega)]; exact b4
  have z5 : (w4.setCell ⟨G, 4, none⟩ (U x)).heap[B + 1]? = some (.cells (accC 0 0 0 0) 87 (0, 0)) := by rw [zaa, if_neg (by omega)]; exact z4
  have C5 : Ch [] w (w4.setCell ⟨G, 4, none⟩ (U x)) := C4.setCell (.inr (by show w.heap.size ≤ G; omega)) _
  refine hK.out _ _ b5 (fun _ => ?_)
  clear hK K g4 b4 z4 C4
  obtain ⟨w5, hw⟩ : ∃ W, (w4.setCell ⟨G, 4, none⟩ (U x)) = W := ⟨_, rfl⟩
  rw [hw] at g5 b5 z5 C5 ⊢
  clear hw
  refine wpAnyH_done (by kernel_rfl) ?_ _
  go_wp2
  refine bodyPost_ret (acc_result Tryz.results48 _ (B + 1) _ wh 2 A6 (N x) rfl ?_) rfl ⟨rfl, C5.onObj (p := B + 1) (.inr (by omega)) _⟩
  rw [zab, if_pos rfl, z5, Option.map_some, zah]
theorem r22Need_any (p : PartT) (hr : rightS p = true) (h6 : p.ph ≤ 6) (w : World) : Calls Tryz.prog 48 #[.agg (partC p)] w fun e w' => e = .returned (.agg (accC p.who (accS p).kind (accS p).at_ (N (accS p).new))) ∧ Ch [] w w' := by
  have R := (zdk p).1 hr
  have h0 := R.ph0
  have a2 := R.at2
  have a3 := R.at3
  have a6 := R.at6
  rcases (show p.ph = 0 ∨ p.ph = 1 ∨ p.ph = 2 ∨ p.ph = 3 ∨ p.ph = 4 ∨ p.ph = 5 ∨ p.ph = 6 by omega) with h | h | h | h | h | h | h
  · rw [accS_0 h]; exact r22Need_0 p h R.sl0 R.sl1 w
  · rw [accS_1 h]; exact r22Need_1 p h R.sl0 R.sl1 w
  · rw [accS_2 h]; exact r22Need_2 p h R.sl0 R.sl1 (by omega) (by omega) w
  · rw [accS_3 h]; exact r22Need_3 p h R.sl0 R.sl1 (by omega) (by omega) w
  · rw [accS_4 h]; exact r22Need_4 p h R.sl0 R.sl1 (by omega) (by omega) w
  · rw [accS_5 h]; exact r22Need_5 p h R.sl0 R.sl1 w
  · have := a6 h
    rw [accS_6 h]
    have e1 : p.at_ = ((p.at_.toNat : Nat) : Int) := by omega
    have ht : (if p.at_ < 40 then p.t0 else p.t1) = if p.at_.toNat < 40 then p.t0 else p.t1 := by
      by_cases h4 : p.at_ < 40
      · rw [if_pos h4, if_pos (by omega)]
      · rw [if_neg h4, if_neg (by omega)]
    have em : p.at_ % 40 = ((p.at_.toNat % 40 : Nat) : Int) := by omega
    dsimp only
    rw [em, ht]
    exact r22Need_6 p h R.sl0 R.sl1 p.at_.toNat _ _ e1 (by omega) rfl rfl _ rfl (by split; exact R.a0; exact R.b0) (by split; exact R.a1; exact R.b1) w
end
end Go.Proofs.Hc
