/- Package rehash: Check, cell, load, store. -/
import Derived.Test.YtcikopeddljgkaaGreatKRz0
import Derived.Test.YtcikopeddljgkaaGreatK0
set_option linter.unusedSimpArgs false
set_option linter.unusedVariables false
set_option maxHeartbeats 4000000
set_option maxRecDepth 100000
namespace Go.Proofs.Hc
open Go.RowKit
attribute [local go_sem] zbs zca zax zbc zbn zba zbm zbo zbu signed64 signed8 zar BitVec.ofInt_add BitVec.ofInt_mul ofInt_sub' zay zaz wide8 eqN neN zbz shr1 shr7 shr56
attribute [local go_sem high] zbb zbt
attribute [local go_sem] zag zbw zah zas zad zbe zaq zal zbl zan zbd zbf
attribute [local go_sem] load26 load73 load23 store26 build73
attribute [local go_sem ↓] lrow26 lrow73 lrow23 srow26 zero26 brow73 zac zaw zbg zaa zab
attribute [local go_sem] zai zav zat zbj zbk zbp zao zau zbq zbi zbh
attribute [local go_sem] nn2 nm2 nn3 nm3 nn4 nm4 nn5 nm5 nn6 nm6 nn7 nm7 nn8 nm8
section
attribute [local go_sem] acc_g0 acc_g1 acc_g2 acc_g4 acc_s0 acc_s1 acc_s2 acc_s4 zcv accC_one accC_all loadAcc storeAcc bacc0 bacc2 bacc3 bacc3u bacc4
attribute [local go_sem ↓] lrowAcc srowAcc browAcc zcn
attribute [local go_sem high] zak
attribute [local go_sem] zar zby
attribute [local go_sem] Oper.semAt_some zap
attribute [local go_sem] layC_idx lcell0 lcell1 lcell2 lcell3 lcell4 lcell5 lcell46
attribute [local go_sem] lay_g0 lay_g1 lay_g2 lay_g3 lay_g4 lay_g5 lay_g46 lay_s0 lay_s4 lay_s5 lay_s46 zck layC_one layC_all layC_ws boxLay loadLay storeLay build_lay box_lay buildLay0 buildLay2 buildLay3
attribute [local go_sem ↓] lrowLay srowLay browLay brow_lay zcs
attribute [local go_sem high] zaj
attribute [local irreducible] layC
attribute [local irreducible] accC
attribute [local go_sem high] tmod2_64w bit64w bit64zw
def checkL (p : LayT) : Int := if rightL p then 0 else 300
theorem checkL_yes {p : LayT} (h : rightL p = true) : checkL p = 0 := by unfold checkL; rw [h]; rfl
theorem checkL_no {p : LayT} (h : rightL p = false) : checkL p = 300 := by unfold checkL; rw [h]; rfl
theorem wrongL {p : LayT} (h : rightL p = false) : p.ph < 0 ∨ 0 ≤ p.ph ∧ (6 < p.ph ∨ p.ph ≤ 6 ∧ (p.who < 0 ∨ 0 ≤ p.who ∧ (8 ≤ p.who ∨ p.who < 8 ∧ (p.sl < 0 ∨ 0 ≤ p.sl ∧ (128 ≤ p.sl ∨ p.sl < 128 ∧ (oddB p.count = true ∨ oddB p.count = false ∧ ((p.ph = 2 ∨ p.ph = 3) ∧ (p.at_ < 1 ∨ 1 ≤ p.at_ ∧ 40 ≤ p.at_)))))))) := by
  have hn : ¬ RightL p := fun R => by rw [(zdc p).2 R] at h; cases h
  by_cases c0 : p.ph < 0
  · exact .inl c0
  refine .inr ⟨by omega, ?_⟩
  by_cases c1 : 6 < p.ph
  · exact .inl c1
  refine .inr ⟨by omega, ?_⟩
  by_cases c2 : p.who < 0
  · exact .inl c2
  refine .inr ⟨by omega, ?_⟩
  by_cases c3 : 8 ≤ p.who
  · exact .inl c3
  refine .inr ⟨by omega, ?_⟩
  by_cases c4 : p.sl < 0
  · exact .inl c4
  refine .inr ⟨by omega, ?_⟩
  by_cases c5 : 128 ≤ p.sl
  · exact .inl c5
  refine .inr ⟨by omega, ?_⟩
  cases c6 : oddB p.count
  · refine .inr ⟨rfl, ?_⟩
    by_cases c7 : (p.ph = 2 ∨ p.ph = 3) ∧ (p.at_ < 1 ∨ 1 ≤ p.at_ ∧ 40 ≤ p.at_)
    · exact c7
    · exact absurd ⟨by omega, by omega, by omega, by omega, by omega, by omega, c6, by omega⟩ hn
  · exact .inl rfl
theorem atL_cases (p : LayT) : (1 ≤ p.at_ ∧ p.at_ < 40) ∨ (p.at_ < 1 ∨ 1 ≤ p.at_ ∧ ¬ p.at_ < 40) ∧ (p.ph = 2 ∨ p.ph = 3 ∧ (p.ph == 2) = false ∨ (p.ph == 2) = false ∧ (p.ph == 3) = false) := by
  by_cases a : 1 ≤ p.at_ ∧ p.at_ < 40
  · exact .inl a
  · refine .inr ⟨by omega, ?_⟩
    by_cases b : p.ph = 2
    · exact .inl b
    · by_cases c : p.ph = 3
      · exact .inr (.inl ⟨c, by simpa using b⟩)
      · exact .inr (.inr ⟨by simpa using b, by simpa using c⟩)
theorem lCheck_yes (p : LayT) (R : RightL p) (w : World) : Calls Tryz.prog 57 #[.agg (layC p)] w fun e w' => e = .returned (I 0) ∧ Ch [] w w' := by
  obtain ⟨h0, h1, h2, h3, h4, h5, h6, h7⟩ := R
  have hd : 1 ≤ p.at_ ∧ p.at_ < 40 ∨ p.at_ < 1 ∧ ((p.ph == 2) = false ∧ (p.ph == 3) = false) ∨ ¬ p.at_ < 40 ∧ 1 ≤ p.at_ ∧ ((p.ph == 2) = false ∧ (p.ph == 3) = false) := by
    rcases atL_cases p with h | ⟨h, h' | ⟨h', _⟩ | h'⟩
    · exact .inl h
    · omega
    · omega
    · rcases h with h | h
      · exact .inr (.inl ⟨h, h'⟩)
      · exact .inr (.inr ⟨h.2, h.1, h'⟩)
  clear h7
  rcases hd with ⟨a1, a2⟩ | ⟨a1, b1, b2⟩ | ⟨a1, a2, b1, b2⟩
  all_goals
    first
    | have c1 : ¬ p.ph = 2 := beq_eq_false_iff_ne.1 b1
      have c2 : ¬ p.ph = 3 := beq_eq_false_iff_ne.1 b2
      have d1 : (p.ph != 2) = true := by rw [bne, b1]; rfl
      have d2 : (p.ph != 3) = true := by rw [bne, b2]; rfl
    | skip
    go_enter Tryz.func57, Tryz.ntmps57
    go_wp2
    go_ret
    exact ⟨rfl, (Ch.refl [] w).alloc _⟩
theorem lCheck_no (p : LayT) (h : rightL p = false) (w : World) : Calls Tryz.prog 57 #[.agg (layC p)] w fun e w' => e = .returned (I 300) ∧ Ch [] w w' := by
  have hw := wrongL h
  clear h
  obtain ⟨W0, hW0⟩ : ∃ W, w.alloc (.cells (layC p) 72) = W := ⟨_, rfl⟩
  have b0 : W0.heap[w.heap.size]? = some (.cells (layC p) 72 (0, 0)) := by rw [← hW0, zac, if_pos rfl]
  have C0 : Ch [] w W0 := by rw [← hW0]; exact (Ch.refl [] w).alloc _
  go_enter Tryz.func57, Tryz.ntmps57
  go_upto_region 1 with (fail)
  clear hW0
  obtain ⟨B, hB⟩ : ∃ b, w.heap.size = b := ⟨_, rfl⟩
  rw [hB] at b0 ⊢
  clear hB
  rcases atL_cases p with ⟨a1, a2⟩ | ⟨a, b⟩
  · go_upto_region 2 with (fail)
    rcases hw with h | ⟨h0, h | ⟨h1, h | ⟨h2, h | ⟨h3, h | ⟨h4, h | ⟨h5, h | ⟨h6, h7⟩⟩⟩⟩⟩⟩⟩
    all_goals
      first
      | (exfalso; omega)
      | (go_wp2
         go_ret
         exact ⟨rfl, C0⟩)
  · rcases a with a | ⟨a, a'⟩ <;> rcases b with b | ⟨b, b'⟩ | ⟨b, b'⟩
    all_goals
      first
      | have c1 : ¬ p.ph = 2 := beq_eq_false_iff_ne.1 b
        have c2 : ¬ p.ph = 3 := beq_eq_false_iff_ne.1 b'
        have d1 : (p.ph != 2) = true := by rw [bne, b]; rfl
        have d2 : (p.ph != 3) = true := by rw [bne, b']; rfl
      | skip
      go_upto_region 2 with (fail)
      rcases hw with h | ⟨h0, h | ⟨h1, h | ⟨h2, h | ⟨h3, h | ⟨h4, h | ⟨h5, h | ⟨h6, h7⟩⟩⟩⟩⟩⟩⟩
      all_goals
        first
        | (exfalso; omega)
        | (exfalso; omega)
        | (go_wp2
           go_ret
           exact ⟨rfl, C0⟩)
theorem lCheck_any (p : LayT) (w : World) : Calls Tryz.prog 57 #[.agg (layC p)] w fun e w' => e = .returned (I (checkL p)) ∧ Ch [] w w' := by
  cases h : rightL p with
  | true => rw [checkL_yes h]; exact lCheck_yes p ((zdc p).1 h) w
  | false => rw [checkL_no h]; exact lCheck_no p h w
theorem lCell_any (p : LayT) (g : Nat) (wd : Int) (s0 : 0 ≤ p.sl) (s1 : p.sl < 128) (h0 : 0 ≤ wd) (h1 : wd < 40) (w : World) (hg : w.heap[g]? = some (.cells (layC p) 163 (0, 0))) :
    Calls Tryz.prog 239 #[.pointer (some ⟨g, 0, none⟩), I wd] w fun e w' => e = .returned (I (16 + 40 * p.sl + wd)) ∧ w = w' := by
  have K1 := fun w => cell_ok p.sl wd s0 s1 h0 h1 w
  go_enter Tryz.func239, Tryz.ntmps239
  go_wp2_with (go_at_call 44; refine (K1 _).mono ?_; rintro e w' ⟨rfl, rfl⟩)
  go_ret
  exact ⟨rfl, rfl⟩
theorem lLoad_any (p : LayT) (g : Nat) (wd : Int) (s0 : 0 ≤ p.sl) (s1 : p.sl < 128) (h0 : 0 ≤ wd) (h1 : wd < 40) (w : World) (hg : w.heap[g]? = some (.cells (layC p) 163 (0, 0))) :
    Calls Tryz.prog 190 #[.pointer (some ⟨g, 0, none⟩), I wd] w fun e w' => e = .returned (.agg (accC p.who 1 (16 + 40 * p.sl + wd) 0)) ∧ Ch [] w w' := by
  have K1 := fun w hg => lCell_any p g wd s0 s1 h0 h1 w hg
  have C0 : Ch [] w (w.alloc (.cells (accC 0 0 0 0) 87)) := (Ch.refl [] w).alloc _
  have z0 : (w.alloc (.cells (accC 0 0 0 0) 87)).heap[w.heap.size]? = some (.cells (accC 0 0 0 0) 87 (0, 0)) := by rw [zac, if_pos rfl]
  have g0 := hkeep C0 hg
  have hgn : ¬ g = w.heap.size := by have := (Array.getElem?_eq_some_iff.1 hg).1; omega
  clear hg
  go_enter Tryz.func190, Tryz.ntmps190
  go_upto_region 1 with (fail)
  generalize w.alloc (.cells (accC 0 0 0 0) 87) = W0 at *
  have s2 : (fun W' : World => W'.heap[g]? = some (.cells (layC p) 163 (0, 0))) W0.drew := g0
  have z2 : W0.drew.heap[w.heap.size]? = some (.cells (accC 0 0 0 0) 87 (0, 0)) := z0
  have C2 : Ch [] w W0.drew := C0.drew
  refine wp_region_held_drew (S := fun W' => W'.heap[g]? = some (.cells (layC p) 163 (0, 0))) (by kernel_rfl) s2 ?_
  intro _
  simp only [List.size_toArray, List.length_cons, List.length_nil, Nat.reduceAdd]
  clear z0 g0 C0
  generalize W0.drew = w2 at *
  refine tk 0 5 ?_ rfl s2 ?_ ?_; rotate_left
  · intro _ _; go_simp; try with_reducible rfl
  try go_frame
  refine tk 1 6 ?_ rfl s2 ?_ ?_; rotate_left
  · intro _ _; go_simp; try with_reducible rfl
  try go_frame
  refine tk 2 7 ?_ rfl s2 ?_ ?_; rotate_left
  · intro _ _; go_simp; try with_reducible rfl
  try go_frame
  refine tk 3 8 ?_ rfl s2 ?_ ?_; rotate_left
  · intro _ _; go_simp; try with_reducible rfl
  try go_frame
  refine tk 4 9 ?_ rfl s2 ?_ ?_; rotate_left
  · intro _ _; go_simp; try with_reducible rfl
  try go_frame
  refine tk 5 10 ?_ rfl s2 ?_ ?_; rotate_left
  · intro _ _; go_simp; try with_reducible rfl
  try go_frame
  refine tk 6 11 ?_ rfl s2 ?_ ?_; rotate_left
  · intro _ _; go_simp; try with_reducible rfl
  try go_frame
  refine rd 7 rfl (fun K hK => ?_); go_simp
  refine (K1 _ s2).mono ?_
  rintro e w' ⟨rfl, rfl⟩
  refine hK.out _ _ s2 (fun _ => ?_)
  clear hK K
  refine tk 8 13 ?_ rfl s2 ?_ ?_; rotate_left
  · intro _ _; go_simp; try with_reducible rfl
  try go_frame
  refine rd 9 rfl (fun K hK => ?_); go_simp
  refine hK.out _ _ ?_ (fun _ => ?_)
  · rw [zab, if_neg hgn]; exact s2
  clear hK K
  refine wpAnyH_done (by kernel_rfl) ?_ _
  go_wp2
  refine bodyPost_ret (acc_result Tryz.results190 _ w.heap.size _ p.who 1 (16 + 40 * p.sl + wd) 0 rfl ?_) rfl ⟨rfl, C2.onObj (.inr (Nat.le_refl _)) _⟩
  rw [zab, if_pos rfl, z2, Option.map_some, zak]
theorem lStore_any (p : LayT) (g : Nat) (wd : Int) (x : BitVec 64) (s0 : 0 ≤ p.sl) (s1 : p.sl < 128) (h0 : 0 ≤ wd) (h1 : wd < 40) (w : World) (hg : w.heap[g]? = some (.cells (layC p) 163 (0, 0))) :
    Calls Tryz.prog 193 #[.pointer (some ⟨g, 0, none⟩), I wd, U x] w fun e w' => e = .returned (.agg (accC p.who 2 (16 + 40 * p.sl + wd) (N x))) ∧ Ch [] w w' := by
  have K1 := fun w hg => lCell_any p g wd s0 s1 h0 h1 w hg
  have C0 : Ch [] w (w.alloc (.cells (accC 0 0 0 0) 87)) := (Ch.refl [] w).alloc _
  have z0 : (w.alloc (.cells (accC 0 0 0 0) 87)).heap[w.heap.size]? = some (.cells (accC 0 0 0 0) 87 (0, 0)) := by rw [zac, if_pos rfl]
  have g0 := hkeep C0 hg
  have hgn : ¬ g = w.heap.size := by have := (Array.getElem?_eq_some_iff.1 hg).1; omega
  clear hg
  go_enter Tryz.func193, Tryz.ntmps193
  go_upto_region 1 with (fail)
  generalize w.alloc (.cells (accC 0 0 0 0) 87) = W0 at *
  have s2 : (fun W' : World => W'.heap[g]? = some (.cells (layC p) 163 (0, 0))) W0.drew := g0
  have z2 : W0.drew.heap[w.heap.size]? = some (.cells (accC 0 0 0 0) 87 (0, 0)) := z0
  have C2 : Ch [] w W0.drew := C0.drew
  refine wp_region_held_drew (S := fun W' => W'.heap[g]? = some (.cells (layC p) 163 (0, 0))) (by kernel_rfl) s2 ?_
  intro _
  simp only [List.size_toArray, List.length_cons, List.length_nil, Nat.reduceAdd]
  clear z0 g0 C0
  generalize W0.drew = w2 at *
  refine tk 0 7 ?_ rfl s2 ?_ ?_; rotate_left
  · intro _ _; go_simp; try with_reducible rfl
  try go_frame
  refine tk 1 8 ?_ rfl s2 ?_ ?_; rotate_left
  · intro _ _; go_simp; try with_reducible rfl
  try go_frame
  refine tk 2 9 ?_ rfl s2 ?_ ?_; rotate_left
  · intro _ _; go_simp; try with_reducible rfl
  try go_frame
  refine tk 3 10 ?_ rfl s2 ?_ ?_; rotate_left
  · intro _ _; go_simp; try with_reducible rfl
  try go_frame
  refine tk 4 11 ?_ rfl s2 ?_ ?_; rotate_left
  · intro _ _; go_simp; try with_reducible rfl
  try go_frame
  refine tk 5 12 ?_ rfl s2 ?_ ?_; rotate_left
  · intro _ _; go_simp; try with_reducible rfl
  try go_frame
  refine tk 6 13 ?_ rfl s2 ?_ ?_; rotate_left
  · intro _ _; go_simp; try with_reducible rfl
  try go_frame
  refine tk 8 15 ?_ rfl s2 ?_ ?_; rotate_left
  · intro _ _; go_simp; try with_reducible rfl
  try go_frame
  refine rd 7 rfl (fun K hK => ?_); go_simp
  refine (K1 _ s2).mono ?_
  rintro e w' ⟨rfl, rfl⟩
  refine hK.out _ _ s2 (fun _ => ?_)
  clear hK K
  refine tk 9 16 ?_ rfl s2 ?_ ?_; rotate_left
  · intro _ _; go_simp; try with_reducible rfl
  try go_frame
  refine rd 10 rfl (fun K hK => ?_); go_simp
  refine hK.out _ _ ?_ (fun _ => ?_)
  · rw [zab, if_neg hgn]; exact s2
  clear hK K
  refine wpAnyH_done (by kernel_rfl) ?_ _
  go_wp2
  refine bodyPost_ret (acc_result Tryz.results193 _ w.heap.size _ p.who 2 (16 + 40 * p.sl + wd) (N x) rfl ?_) rfl ⟨rfl, C2.onObj (.inr (Nat.le_refl _)) _⟩
  rw [zab, if_pos rfl, z2, Option.map_some, zak]
end
end Go.Proofs.Hc
