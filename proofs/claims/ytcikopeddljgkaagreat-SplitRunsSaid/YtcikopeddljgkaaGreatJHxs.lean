/- The reference of layer 17: Put. -/
import Derived.Test.YtcikopeddljgkaaGreatJHxq
import Derived.Test.YtcikopeddljgkaaGreatJ0
set_option linter.unusedSimpArgs false
set_option linter.unusedVariables false
set_option maxHeartbeats 4000000
set_option maxRecDepth 100000
namespace Go.Proofs.Hc
open Go.RowKit
attribute [local go_sem] zbu zcc zax zbf zbo zbd zbn zbp zbw signed64 signed8 zap BitVec.ofInt_add BitVec.ofInt_mul ofInt_sub' zbb zbc wide8 eqN neN zca shr1 shr7 shr56
attribute [local go_sem high] zbe zbv
attribute [local go_sem] zaw zby zaj zas zaf zaz zar zak zbm zal zay zba
attribute [local go_sem] load26 load73 load23 store26 build73
attribute [local go_sem ↓] lrow26 lrow73 lrow23 srow26 zero26 brow73 zae zbk zbg zaa zab
attribute [local go_sem] zai zav zat zbj zbl zbr zaq zau zbs zbi zbh
attribute [local go_sem] nn2 nm2 nn3 nm3 nn4 nm4 nn5 nm5 nn6 nm6 nn7 nm7 nn8 nm8
section
attribute [local go_sem] loadA loadT2 storeA storeT2 buildA_ts buildA_sm zdd make_func zda zcd acells_get zcz acells_one t2cells_one zcy acells_all t2cells_all t2cells_l t2cells_r
attribute [local go_sem ↓] lrowA lrowT2 srowA srowT2 browA zeroA_run zeroT2_run
attribute [local go_sem] box26 zcb cell0 cell1 cell2 cell3 cell4 cell5 cell6
attribute [local go_sem] zap build_zero N_128
attribute [local go_sem high] zco
attribute [local go_sem ↓] brow26
attribute [local irreducible] tcells
theorem rPut_err (t : Tab) (s k v : BitVec 64) (c : Int) (m : May t s) (hP : placeT t s k = .error c) (w : World) : Calls Tryz.prog 96 #[U s, .agg (tcells t), .agg #[U k, U v]] w fun e w' => e = .returned (.tuple #[.agg (tcells zeroT), I 0, I c]) ∧ Ch [] w w' := by
  have P1 := fun w => rPlace_any t s k m w
  have hc0 : (c != 0) = true := by
    rcases place_cases t s k with ⟨_, h⟩ | ⟨_, _, h⟩ | ⟨_, _, h⟩ | ⟨_, _, sl, h⟩
    all_goals
      rw [hP] at h
      first | (cases h; done) | (cases h; decide)
  rw [hP] at P1
  simp only [placeV] at P1
  clear hP m
  obtain ⟨W0, hW0⟩ : ∃ W0, ((w.alloc (.cells (tcells t) 26)).alloc (.cells #[U k, U v] 31)).alloc (.cells (tcells zeroT) 26) = W0 := ⟨_, rfl⟩
  have hC0 : Ch [] w W0 := by rw [← hW0]; exact (((Ch.refl [] w).alloc _).alloc _).alloc _
  have b0 : W0.heap[w.heap.size]? = some (.cells (tcells t) 26 (0, 0)) := by rw [← hW0]; simp [go_sem]
  have b1 : W0.heap[w.heap.size + 1]? = some (.cells #[U k, U v] 31 (0, 0)) := by rw [← hW0]; simp [go_sem]
  have b2 : W0.heap[w.heap.size + 1 + 1]? = some (.cells (tcells zeroT) 26 (0, 0)) := by rw [← hW0]; simp [go_sem]
  go_enter Tryz.func96, Tryz.ntmps96
  go_wp2_with fail
  refine (P1 _).mono ?_
  rintro e w1 ⟨rfl, hc1⟩
  have d2 := hkeep hc1 b2
  have hC1 := hC0.trans hc1
  clear b0 b1 b2 hW0 P1 hc1 hC0
  go_wp2
  refine bodyPost_ret (v := .tuple #[.agg (tcells zeroT), I 0, I c]) (results_c0tt Tryz.results96 _ _ _ rfl rfl rfl (run_loadVar_row _ _ 26 26 (tcells zeroT) (0, 0) _ ?_ Tryz.underlying26 rfl (by rw [zai]; kernel_rfl))) rfl ⟨rfl, ?_⟩
  · simp only [zab, if_true, d2, Option.map_some, zco]
  · exact hC1.onObj (.inr (by omega)) _
theorem fill_eq (t : Tab) (s k v : BitVec 64) (sl : Nat) (c : Int) (h : (fillT t s k v sl).can = c) : fillT t s k v sl = { t with can := c, live := t.live + 1, c := fun i => if i = sl / 8 then withB (t.c (sl / 8)) (sl % 8) (hash2 (hashOf s k)) else t.c i, k := fun i => if i = sl then k else t.k i, v := fun i => if i = sl then v else t.v i } := by
  subst h; rfl
theorem rPut_ok (t : Tab) (s k v : BitVec 64) (sl : Nat) (m : May t s) (hP : placeT t s k = .ok sl) (w : World) : Calls Tryz.prog 96 #[U s, .agg (tcells t), .agg #[U k, U v]] w fun e w' => e = .returned (.tuple #[.agg (tcells (fillT t s k v sl)), I sl, I 0]) ∧ Ch [] w w' := by
  have P1 := fun w => rPlace_any t s k m w
  have hsp := place_spot hP
  rw [hP] at P1
  simp only [placeV] at P1
  obtain ⟨_, _, _, c0, c1, l0, l1⟩ := (flatT_iff t).1 m.flat
  have hj := hsp.lt
  have hj0 : (0 : Int) ≤ (sl : Int) := by omega
  have hj1 : (sl : Int) < 16 := by omega
  have hd : (sl : Int).tdiv 8 = ((sl / 8 : Nat) : Int) := by rw [Int.tdiv_eq_ediv_of_nonneg (by omega)]; rfl
  have hm : (sl : Int).tmod 8 = ((sl % 8 : Nat) : Int) := by rw [Int.tmod_eq_emod_of_nonneg (by omega)]; rfl
  have hd' : (sl : Int) / 8 = ((sl / 8 : Nat) : Int) := rfl
  have hm' : (sl : Int) % 8 = ((sl % 8 : Nat) : Int) := rfl
  have hg : sl / 8 < 2 := by omega
  have hx8 : sl % 8 < 8 := by omega
  have A1 : ∀ w, Calls Tryz.prog 88 #[U (t.c (sl / 8)), I (sl % 8 : Nat)] w fun e w' => e = .returned (Y (bt t sl)) ∧ w = w' := fun w => rAt_any (t.c (sl / 8)) (sl % 8) (by omega) w
  have Y1 := fun w => rh2_any s k w
  have W1 := fun w => rPut_any (t.c (sl / 8)) (hash2 (hashOf s k)) (sl % 8) hx8 w
  have HDR := Lib.hid (fun c (h : (if bt t sl = 128#8 then t.can - 1 else t.can) = c) => fill_eq t s k v sl c ((fill_can v).trans h))
  have hc5 := tcells_ctrl_at t (sl / 8) hg
  clear hP m hsp
  generalize withB (t.c (sl / 8)) (sl % 8) (hash2 (hashOf s k)) = gc at *
  generalize fillT t s k v sl = dt at *
  generalize hash2 (hashOf s k) = y at *
  generalize bt t sl = b at *
  generalize sl / 8 = g at *
  generalize sl % 8 = x at *
  have HM1 := Lib.hid hm'
  have HD1 := Lib.hid hd'
  obtain ⟨W0, hW0⟩ : ∃ W0, ((w.alloc (.cells (tcells t) 26)).alloc (.cells #[U k, U v] 31)).alloc (.cells (tcells zeroT) 26) = W0 := ⟨_, rfl⟩
  have hC0 : Ch [] w W0 := by rw [← hW0]; exact (((Ch.refl [] w).alloc _).alloc _).alloc _
  have b0 : W0.heap[w.heap.size]? = some (.cells (tcells t) 26 (0, 0)) := by rw [← hW0]; simp [go_sem]
  have b1 : W0.heap[w.heap.size + 1]? = some (.cells #[U k, U v] 31 (0, 0)) := by rw [← hW0]; simp [go_sem]
  have b2 : W0.heap[w.heap.size + 1 + 1]? = some (.cells (tcells zeroT) 26 (0, 0)) := by rw [← hW0]; simp [go_sem]
  go_enter Tryz.func96, Tryz.ntmps96
  go_wp2_with fail
  refine (P1 _).mono ?_
  rintro e w1 ⟨rfl, hc1⟩
  have d0 := hkeep hc1 b0
  have d1 := hkeep hc1 b1
  have d2 := hkeep hc1 b2
  have hC1 := hC0.trans hc1
  clear b0 b1 b2 hW0 P1 hc1 hC0
  go_wp2_with fail
  refine (A1 _).mono ?_
  rintro e w' ⟨rfl, rfl⟩
  clear A1
  by_cases hb : b = 128#8
  · subst hb
    go_upto_region 6 with (fail)
    obtain ⟨t1, ht1⟩ : ∃ t1 : Tab, t1 = { t with can := t.can - 1 } := ⟨_, rfl⟩
    have HD2 := Lib.hid (HDR.out (t.can - 1) (if_pos (by first | trivial | rfl)))
    have e0 : (w1.setCell ⟨w.heap.size, 3, none⟩ (I (t.can - 1))).heap[w.heap.size]? = some (.cells (tcells t1) 26 (0, 0)) := by
      rw [zaa, if_pos rfl, d0, Option.map_some, zaf, tset_can, ht1]
    have e1 : (w1.setCell ⟨w.heap.size, 3, none⟩ (I (t.can - 1))).heap[w.heap.size + 1]? = some (.cells #[U k, U v] 31 (0, 0)) := by
      rw [zaa, if_neg (by omega), d1]
    have e2 : (w1.setCell ⟨w.heap.size, 3, none⟩ (I (t.can - 1))).heap[w.heap.size + 1 + 1]? = some (.cells (tcells zeroT) 26 (0, 0)) := by
      rw [zaa, if_neg (by omega), d2]
    have hC2 : Ch [] w (w1.setCell ⟨w.heap.size, 3, none⟩ (I (t.can - 1))) := hC1.setCell (p := ⟨w.heap.size, 3, none⟩) (.inr (Nat.le_refl _)) _
    have HT1 := Lib.hid ht1
    have c5 : (tcells t1)[5 + g]? = some (U (t.c g)) := by rw [ht1]; exact tcells_ctrl_at _ g hg
    have hl1 : t1.live = t.live := by rw [ht1]
    have HL1 := Lib.hid hl1
    clear ht1 hl1 d0 d1 d2 hC1 hc5 HDR
    generalize w1.setCell ⟨w.heap.size, 3, none⟩ (I (t.can - 1)) = W2 at *
    have l5 : 0 ≤ t1.live := by rw [HL1.out]; exact l0
    have l6 : t1.live ≤ 14 := by rw [HL1.out]; exact l1
    have hgb0 : ∀ q : Gar W2, (q.1).heap[w.heap.size]? = some (.cells (tcells t1) 26 (0, 0)) := fun q => hkeep q.2 e0
    have hgb1 : ∀ q : Gar W2, (q.1).heap[w.heap.size + 1]? = some (.cells #[U k, U v] 31 (0, 0)) := fun q => hkeep q.2 e1
    have W3 : ∀ w, Calls Tryz.prog 158 #[U (t.c g), Y y, .int .i64 ((sl : Int) % 8)] w fun e w' => e = .returned (U gc) ∧ Ch [] w w' := fun w => by rw [HM1.out]; exact W1 w
    refine zdb 16 (by kernel_rfl) (by kernel_rfl) ?_
    simp only [List.take_succ_cons, List.take_zero, List.drop_succ_cons, List.drop_zero]
    repeat (go_big_quiet_step ((first | (go_at_call 90; exact garL (Y1 _)) | (go_at_call 158; with_reducible exact garC (W1 _)) | (go_at_call 158; with_reducible exact garC (W3 _)))))
    refine wpQuiet_nil ?_
    rintro W6 ⟨g6, hw6⟩
    have hc6 : Ch [] W2 W6 := by rw [hw6]; exact g6.2
    clear hw6 g6 hgb0 hgb1 Y1 W1 W3
    have f0 := hkeep hc6 e0
    have f1 := hkeep hc6 e1
    have f2 := hkeep hc6 e2
    have hC6 := hC2.trans hc6
    clear e0 e1 e2 hc6 hC2
    go_wp2
    have g0 : (W6.setCell ⟨w.heap.size, 5 + g, none⟩ (U gc)).heap[w.heap.size]? = some (.cells (tcells { t1 with c := fun i => if i = g then gc else t1.c i }) 26 (0, 0)) := by
      rw [zaa, if_pos rfl, f0, Option.map_some, zaf, tset_ctrl t1 g hg]
    have g1 : (W6.setCell ⟨w.heap.size, 5 + g, none⟩ (U gc)).heap[w.heap.size + 1]? = some (.cells #[U k, U v] 31 (0, 0)) := by
      rw [zaa, if_neg (by omega), f1]
    have g2 : (W6.setCell ⟨w.heap.size, 5 + g, none⟩ (U gc)).heap[w.heap.size + 1 + 1]? = some (.cells (tcells zeroT) 26 (0, 0)) := by
      rw [zaa, if_neg (by omega), f2]
    have hC7 : Ch [] w (W6.setCell ⟨w.heap.size, 5 + g, none⟩ (U gc)) := hC6.setCell (p := ⟨w.heap.size, 5 + g, none⟩) (.inr (Nat.le_refl _)) _
    generalize W6.setCell ⟨w.heap.size, 5 + g, none⟩ (U gc) = W7 at *
    obtain ⟨t2, ht2⟩ : ∃ t2 : Tab, t2 = { t1 with c := fun i => if i = g then gc else t1.c i } := ⟨_, rfl⟩
    rw [← ht2] at g0
    have hl2 : t2.live = t1.live := by rw [ht2]
    have l7 : 0 ≤ t2.live := by rw [hl2]; exact l5
    have l8 : t2.live ≤ 14 := by rw [hl2]; exact l6
    have HT2 := Lib.hid ht2
    have HL2 := Lib.hid hl2
    clear ht2 hl2 f0 f1 f2 hC6 c5 hd hm
    have hwr : IntKind.i64.wrap (t2.live + 1) = t2.live + 1 := by simp only [IntKind.wrap_i64]; omega
    have hS : (fun W' : World => W'.heap[w.heap.size + 1]? = some (.cells #[U k, U v] 31 (0, 0))) W7.drew := g1
    have d0 : W7.drew.heap[w.heap.size]? = some (.cells (tcells t2) 26 (0, 0)) := g0
    have d2 : W7.drew.heap[w.heap.size + 1 + 1]? = some (.cells (tcells zeroT) 26 (0, 0)) := g2
    have hC8 : Ch [] w W7.drew := hC7.drew
    refine wp_region_held_drew (S := fun W' => W'.heap[w.heap.size + 1]? = some (.cells #[U k, U v] 31 (0, 0))) (by kernel_rfl) hS ?_
    intro _
    simp only [List.size_toArray, List.length_cons, List.length_nil, Nat.reduceAdd]
    clear g0 g1 g2 hC7
    generalize W7.drew = W8 at *
    refine tk 0 52 ?_ rfl hS ?_ ?_; rotate_left
    · intro _ _; go_simp; try with_reducible rfl
    try go_frame
    refine tk 1 53 ?_ rfl hS ?_ ?_; rotate_left
    · intro _ _; go_simp; try with_reducible rfl
    try go_frame
    refine tk 2 54 ?_ rfl hS ?_ ?_; rotate_left
    · intro _ _; go_simp; try with_reducible rfl
    try go_frame
    refine tk 3 55 ?_ rfl hS ?_ ?_; rotate_left
    · intro _ _; go_simp; try with_reducible rfl
    try go_frame
    refine tk 4 56 ?_ rfl hS ?_ ?_; rotate_left
    · intro _ _; go_simp; try with_reducible rfl
    try go_frame
    refine tk 5 57 ?_ rfl hS ?_ ?_; rotate_left
    · intro _ _; go_simp; try with_reducible rfl
    try go_frame
    refine tk 6 58 ?_ rfl hS ?_ ?_; rotate_left
    · intro _ _; go_simp; try with_reducible rfl
    try go_frame
    refine tk 9 61 ?_ rfl hS ?_ ?_; rotate_left
    · intro _ _; go_simp; try with_reducible rfl
    try go_frame
    refine tk 12 63 ?_ rfl hS ?_ ?_; rotate_left
    · intro _ _; go_simp; try with_reducible rfl
    try go_frame
    refine rd (o := ⟨some 59, _, _, _, _, none⟩) 7 rfl (fun K hK => ?_); go_simp
    refine hK.out _ _ hS (fun _ => ?_)
    clear hK K
    refine tk 8 60 ?_ rfl hS ?_ ?_; rotate_left
    · intro _ _; go_simp; try with_reducible rfl
    try go_frame
    refine tk 10 62 ?_ rfl hS ?_ ?_; rotate_left
    · intro _ _; go_simp; try with_reducible rfl
    try go_frame
    have ck := tcells_key t2 sl hj
    refine rd 11 rfl (fun K hK => ?_); go_simp
    clear ck
    have k0 : (W8.setCell ⟨w.heap.size, 7 + sl, none⟩ (U k)).heap[w.heap.size]? = some (.cells (tcells { t2 with k := fun i => if i = sl then k else t2.k i }) 26 (0, 0)) := by
      rw [zaa, if_pos rfl, d0, Option.map_some, zaf, tset_key t2 sl hj]
    have k1 : (W8.setCell ⟨w.heap.size, 7 + sl, none⟩ (U k)).heap[w.heap.size + 1]? = some (.cells #[U k, U v] 31 (0, 0)) := by
      rw [zaa, if_neg (by omega), hS]
    have k2 : (W8.setCell ⟨w.heap.size, 7 + sl, none⟩ (U k)).heap[w.heap.size + 1 + 1]? = some (.cells (tcells zeroT) 26 (0, 0)) := by
      rw [zaa, if_neg (by omega), d2]
    have hC9 : Ch [] w (W8.setCell ⟨w.heap.size, 7 + sl, none⟩ (U k)) := hC8.setCell (p := ⟨w.heap.size, 7 + sl, none⟩) (.inr (Nat.le_refl _)) _
    refine hK.out _ _ k1 (fun _ => ?_)
    clear hK K
    generalize W8.setCell ⟨w.heap.size, 7 + sl, none⟩ (U k) = W9 at *
    clear d0 d2 hS hC8
    refine tk 13 64 ?_ rfl k1 ?_ ?_; rotate_left
    · intro _ _; go_simp; try with_reducible rfl
    try go_frame
    have cv := tcells_val { t2 with k := fun i => if i = sl then k else t2.k i } sl hj
    refine rd 14 rfl (fun K hK => ?_); go_simp
    clear cv
    have n0 : (W9.setCell ⟨w.heap.size, 23 + sl, none⟩ (U v)).heap[w.heap.size]? = some (.cells (tcells { { t2 with k := fun i => if i = sl then k else t2.k i } with v := fun i => if i = sl then v else t2.v i }) 26 (0, 0)) := by
      rw [zaa, if_pos rfl, k0, Option.map_some, zaf, tset_val _ sl hj]
    have n1 : (W9.setCell ⟨w.heap.size, 23 + sl, none⟩ (U v)).heap[w.heap.size + 1]? = some (.cells #[U k, U v] 31 (0, 0)) := by
      rw [zaa, if_neg (by omega), k1]
    have n2 : (W9.setCell ⟨w.heap.size, 23 + sl, none⟩ (U v)).heap[w.heap.size + 1 + 1]? = some (.cells (tcells zeroT) 26 (0, 0)) := by
      rw [zaa, if_neg (by omega), k2]
    have hC10 : Ch [] w (W9.setCell ⟨w.heap.size, 23 + sl, none⟩ (U v)) := hC9.setCell (p := ⟨w.heap.size, 23 + sl, none⟩) (.inr (Nat.le_refl _)) _
    refine hK.out _ _ n1 (fun _ => ?_)
    clear hK K
    generalize W9.setCell ⟨w.heap.size, 23 + sl, none⟩ (U v) = W10 at *
    clear k0 k1 k2 hC9
    refine tk 15 65 ?_ rfl n1 ?_ ?_; rotate_left
    · intro _ _; go_simp; try with_reducible rfl
    try go_frame
    refine rd 16 rfl (fun K hK => ?_); go_simp
    have q0 : (W10.setCell ⟨w.heap.size, 4, none⟩ (I (t2.live + 1))).heap[w.heap.size]? = some (.cells (tcells dt) 26 (0, 0)) := by
      rw [zaa, if_pos rfl, n0, Option.map_some, zaf, tset_live, HT2.out, HT1.out, HD2.out]
    have q1 : (W10.setCell ⟨w.heap.size, 4, none⟩ (I (t2.live + 1))).heap[w.heap.size + 1]? = some (.cells #[U k, U v] 31 (0, 0)) := by
      rw [zaa, if_neg (by omega), n1]
    have q2 : (W10.setCell ⟨w.heap.size, 4, none⟩ (I (t2.live + 1))).heap[w.heap.size + 1 + 1]? = some (.cells (tcells zeroT) 26 (0, 0)) := by
      rw [zaa, if_neg (by omega), n2]
    have hC11 : Ch [] w (W10.setCell ⟨w.heap.size, 4, none⟩ (I (t2.live + 1))) := hC10.setCell (p := ⟨w.heap.size, 4, none⟩) (.inr (Nat.le_refl _)) _
    refine hK.out _ _ q1 (fun _ => ?_)
    clear hK K
    generalize W10.setCell ⟨w.heap.size, 4, none⟩ (I (t2.live + 1)) = W11 at *
    clear n0 n1 n2 hC10 HT2 HT1 HD2 l5 l6 l7 l8
    refine wpAnyH_done (by kernel_rfl) ?_ _
    go_wp2
    refine bodyPost_ret (v := .tuple #[.agg (tcells dt), I sl, I 0]) (results_c0tt Tryz.results96 _ _ _ rfl rfl rfl (run_loadVar_row _ _ 26 26 (tcells dt) (0, 0) _ ?_ Tryz.underlying26 rfl (by rw [zai]; kernel_rfl))) rfl ⟨rfl, ?_⟩
    · simp only [zab, if_true, q2, Option.map_some, zco]
    · exact hC11.onObj (.inr (by omega)) _
  · have hb6 : (N b == 128) = false := by rw [Y128]; simpa using hb
    go_upto_region 6 with (fail)
    obtain ⟨W2, rfl⟩ : ∃ W2, w1 = W2 := ⟨_, rfl⟩
    obtain ⟨t1, ht1⟩ : ∃ t1 : Tab, t1 = { t with can := t.can } := ⟨_, rfl⟩
    have HD2 := Lib.hid (HDR.out t.can (if_neg hb))
    have e0 : w1.heap[w.heap.size]? = some (.cells (tcells t1) 26 (0, 0)) := by rw [ht1]; exact d0
    have e1 : w1.heap[w.heap.size + 1]? = some (.cells #[U k, U v] 31 (0, 0)) := d1
    have e2 : w1.heap[w.heap.size + 1 + 1]? = some (.cells (tcells zeroT) 26 (0, 0)) := d2
    have hC2 : Ch [] w w1 := hC1
    have HT1 := Lib.hid ht1
    have c5 : (tcells t1)[5 + g]? = some (U (t.c g)) := by rw [ht1]; exact hc5
    have hl1 : t1.live = t.live := by rw [ht1]
    have HL1 := Lib.hid hl1
    clear ht1 hl1 d0 d1 d2 hC1 hc5 HDR hb
    generalize w1 = W2 at *
    have l5 : 0 ≤ t1.live := by rw [HL1.out]; exact l0
    have l6 : t1.live ≤ 14 := by rw [HL1.out]; exact l1
    have hgb0 : ∀ q : Gar W2, (q.1).heap[w.heap.size]? = some (.cells (tcells t1) 26 (0, 0)) := fun q => hkeep q.2 e0
    have hgb1 : ∀ q : Gar W2, (q.1).heap[w.heap.size + 1]? = some (.cells #[U k, U v] 31 (0, 0)) := fun q => hkeep q.2 e1
    have W3 : ∀ w, Calls Tryz.prog 158 #[U (t.c g), Y y, .int .i64 ((sl : Int) % 8)] w fun e w' => e = .returned (U gc) ∧ Ch [] w w' := fun w => by rw [HM1.out]; exact W1 w
    refine zdb 16 (by kernel_rfl) (by kernel_rfl) ?_
    simp only [List.take_succ_cons, List.take_zero, List.drop_succ_cons, List.drop_zero]
    repeat (go_big_quiet_step ((first | (go_at_call 90; exact garL (Y1 _)) | (go_at_call 158; with_reducible exact garC (W1 _)) | (go_at_call 158; with_reducible exact garC (W3 _)))))
    refine wpQuiet_nil ?_
    rintro W6 ⟨g6, hw6⟩
    have hc6 : Ch [] W2 W6 := by rw [hw6]; exact g6.2
    clear hw6 g6 hgb0 hgb1 Y1 W1 W3
    have f0 := hkeep hc6 e0
    have f1 := hkeep hc6 e1
    have f2 := hkeep hc6 e2
    have hC6 := hC2.trans hc6
    clear e0 e1 e2 hc6 hC2
    go_wp2
    have g0 : (W6.setCell ⟨w.heap.size, 5 + g, none⟩ (U gc)).heap[w.heap.size]? = some (.cells (tcells { t1 with c := fun i => if i = g then gc else t1.c i }) 26 (0, 0)) := by
      rw [zaa, if_pos rfl, f0, Option.map_some, zaf, tset_ctrl t1 g hg]
    have g1 : (W6.setCell ⟨w.heap.size, 5 + g, none⟩ (U gc)).heap[w.heap.size + 1]? = some (.cells #[U k, U v] 31 (0, 0)) := by
      rw [zaa, if_neg (by omega), f1]
    have g2 : (W6.setCell ⟨w.heap.size, 5 + g, none⟩ (U gc)).heap[w.heap.size + 1 + 1]? = some (.cells (tcells zeroT) 26 (0, 0)) := by
      rw [zaa, if_neg (by omega), f2]
    have hC7 : Ch [] w (W6.setCell ⟨w.heap.size, 5 + g, none⟩ (U gc)) := hC6.setCell (p := ⟨w.heap.size, 5 + g, none⟩) (.inr (Nat.le_refl _)) _
    generalize W6.setCell ⟨w.heap.size, 5 + g, none⟩ (U gc) = W7 at *
    obtain ⟨t2, ht2⟩ : ∃ t2 : Tab, t2 = { t1 with c := fun i => if i = g then gc else t1.c i } := ⟨_, rfl⟩
    rw [← ht2] at g0
    have hl2 : t2.live = t1.live := by rw [ht2]
    have l7 : 0 ≤ t2.live := by rw [hl2]; exact l5
    have l8 : t2.live ≤ 14 := by rw [hl2]; exact l6
    have HT2 := Lib.hid ht2
    have HL2 := Lib.hid hl2
    clear ht2 hl2 f0 f1 f2 hC6 c5 hd hm
    have hwr : IntKind.i64.wrap (t2.live + 1) = t2.live + 1 := by simp only [IntKind.wrap_i64]; omega
    have hS : (fun W' : World => W'.heap[w.heap.size + 1]? = some (.cells #[U k, U v] 31 (0, 0))) W7.drew := g1
    have d0 : W7.drew.heap[w.heap.size]? = some (.cells (tcells t2) 26 (0, 0)) := g0
    have d2 : W7.drew.heap[w.heap.size + 1 + 1]? = some (.cells (tcells zeroT) 26 (0, 0)) := g2
    have hC8 : Ch [] w W7.drew := hC7.drew
    refine wp_region_held_drew (S := fun W' => W'.heap[w.heap.size + 1]? = some (.cells #[U k, U v] 31 (0, 0))) (by kernel_rfl) hS ?_
    intro _
    simp only [List.size_toArray, List.length_cons, List.length_nil, Nat.reduceAdd]
    clear g0 g1 g2 hC7
    generalize W7.drew = W8 at *
    refine tk 0 52 ?_ rfl hS ?_ ?_; rotate_left
    · intro _ _; go_simp; try with_reducible rfl
    try go_frame
    refine tk 1 53 ?_ rfl hS ?_ ?_; rotate_left
    · intro _ _; go_simp; try with_reducible rfl
    try go_frame
    refine tk 2 54 ?_ rfl hS ?_ ?_; rotate_left
    · intro _ _; go_simp; try with_reducible rfl
    try go_frame
    refine tk 3 55 ?_ rfl hS ?_ ?_; rotate_left
    · intro _ _; go_simp; try with_reducible rfl
    try go_frame
    refine tk 4 56 ?_ rfl hS ?_ ?_; rotate_left
    · intro _ _; go_simp; try with_reducible rfl
    try go_frame
    refine tk 5 57 ?_ rfl hS ?_ ?_; rotate_left
    · intro _ _; go_simp; try with_reducible rfl
    try go_frame
    refine tk 6 58 ?_ rfl hS ?_ ?_; rotate_left
    · intro _ _; go_simp; try with_reducible rfl
    try go_frame
    refine tk 9 61 ?_ rfl hS ?_ ?_; rotate_left
    · intro _ _; go_simp; try with_reducible rfl
    try go_frame
    refine tk 12 63 ?_ rfl hS ?_ ?_; rotate_left
    · intro _ _; go_simp; try with_reducible rfl
    try go_frame
    refine rd (o := ⟨some 59, _, _, _, _, none⟩) 7 rfl (fun K hK => ?_); go_simp
    refine hK.out _ _ hS (fun _ => ?_)
    clear hK K
    refine tk 8 60 ?_ rfl hS ?_ ?_; rotate_left
    · intro _ _; go_simp; try with_reducible rfl
    try go_frame
    refine tk 10 62 ?_ rfl hS ?_ ?_; rotate_left
    · intro _ _; go_simp; try with_reducible rfl
    try go_frame
    have ck := tcells_key t2 sl hj
    refine rd 11 rfl (fun K hK => ?_); go_simp
    clear ck
    have k0 : (W8.setCell ⟨w.heap.size, 7 + sl, none⟩ (U k)).heap[w.heap.size]? = some (.cells (tcells { t2 with k := fun i => if i = sl then k else t2.k i }) 26 (0, 0)) := by
      rw [zaa, if_pos rfl, d0, Option.map_some, zaf, tset_key t2 sl hj]
    have k1 : (W8.setCell ⟨w.heap.size, 7 + sl, none⟩ (U k)).heap[w.heap.size + 1]? = some (.cells #[U k, U v] 31 (0, 0)) := by
      rw [zaa, if_neg (by omega), hS]
    have k2 : (W8.setCell ⟨w.heap.size, 7 + sl, none⟩ (U k)).heap[w.heap.size + 1 + 1]? = some (.cells (tcells zeroT) 26 (0, 0)) := by
      rw [zaa, if_neg (by omega), d2]
    have hC9 : Ch [] w (W8.setCell ⟨w.heap.size, 7 + sl, none⟩ (U k)) := hC8.setCell (p := ⟨w.heap.size, 7 + sl, none⟩) (.inr (Nat.le_refl _)) _
    refine hK.out _ _ k1 (fun _ => ?_)
    clear hK K
    generalize W8.setCell ⟨w.heap.size, 7 + sl, none⟩ (U k) = W9 at *
    clear d0 d2 hS hC8
    refine tk 13 64 ?_ rfl k1 ?_ ?_; rotate_left
    · intro _ _; go_simp; try with_reducible rfl
    try go_frame
    have cv := tcells_val { t2 with k := fun i => if i = sl then k else t2.k i } sl hj
    refine rd 14 rfl (fun K hK => ?_); go_simp
    clear cv
    have n0 : (W9.setCell ⟨w.heap.size, 23 + sl, none⟩ (U v)).heap[w.heap.size]? = some (.cells (tcells { { t2 with k := fun i => if i = sl then k else t2.k i } with v := fun i => if i = sl then v else t2.v i }) 26 (0, 0)) := by
      rw [zaa, if_pos rfl, k0, Option.map_some, zaf, tset_val _ sl hj]
    have n1 : (W9.setCell ⟨w.heap.size, 23 + sl, none⟩ (U v)).heap[w.heap.size + 1]? = some (.cells #[U k, U v] 31 (0, 0)) := by
      rw [zaa, if_neg (by omega), k1]
    have n2 : (W9.setCell ⟨w.heap.size, 23 + sl, none⟩ (U v)).heap[w.heap.size + 1 + 1]? = some (.cells (tcells zeroT) 26 (0, 0)) := by
      rw [zaa, if_neg (by omega), k2]
    have hC10 : Ch [] w (W9.setCell ⟨w.heap.size, 23 + sl, none⟩ (U v)) := hC9.setCell (p := ⟨w.heap.size, 23 + sl, none⟩) (.inr (Nat.le_refl _)) _
    refine hK.out _ _ n1 (fun _ => ?_)
    clear hK K
    generalize W9.setCell ⟨w.heap.size, 23 + sl, none⟩ (U v) = W10 at *
    clear k0 k1 k2 hC9
    refine tk 15 65 ?_ rfl n1 ?_ ?_; rotate_left
    · intro _ _; go_simp; try with_reducible rfl
    try go_frame
    refine rd 16 rfl (fun K hK => ?_); go_simp
    have q0 : (W10.setCell ⟨w.heap.size, 4, none⟩ (I (t2.live + 1))).heap[w.heap.size]? = some (.cells (tcells dt) 26 (0, 0)) := by
      rw [zaa, if_pos rfl, n0, Option.map_some, zaf, tset_live, HT2.out, HT1.out, HD2.out]
    have q1 : (W10.setCell ⟨w.heap.size, 4, none⟩ (I (t2.live + 1))).heap[w.heap.size + 1]? = some (.cells #[U k, U v] 31 (0, 0)) := by
      rw [zaa, if_neg (by omega), n1]
    have q2 : (W10.setCell ⟨w.heap.size, 4, none⟩ (I (t2.live + 1))).heap[w.heap.size + 1 + 1]? = some (.cells (tcells zeroT) 26 (0, 0)) := by
      rw [zaa, if_neg (by omega), n2]
    have hC11 : Ch [] w (W10.setCell ⟨w.heap.size, 4, none⟩ (I (t2.live + 1))) := hC10.setCell (p := ⟨w.heap.size, 4, none⟩) (.inr (Nat.le_refl _)) _
    refine hK.out _ _ q1 (fun _ => ?_)
    clear hK K
    generalize W10.setCell ⟨w.heap.size, 4, none⟩ (I (t2.live + 1)) = W11 at *
    clear n0 n1 n2 hC10 HT2 HT1 HD2 l5 l6 l7 l8
    refine wpAnyH_done (by kernel_rfl) ?_ _
    go_wp2
    refine bodyPost_ret (v := .tuple #[.agg (tcells dt), I sl, I 0]) (results_c0tt Tryz.results96 _ _ _ rfl rfl rfl (run_loadVar_row _ _ 26 26 (tcells dt) (0, 0) _ ?_ Tryz.underlying26 rfl (by rw [zai]; kernel_rfl))) rfl ⟨rfl, ?_⟩
    · simp only [zab, if_true, q2, Option.map_some, zco]
    · exact hC11.onObj (.inr (by omega)) _
theorem rPut17_any (t : Tab) (s k v : BitVec 64) (m : May t s) (w : World) : Calls Tryz.prog 96 #[U s, .agg (tcells t), .agg #[U k, U v]] w fun e w' => e = .returned (putV (putA t s k v)) ∧ Ch [] w w' := by
  cases hP : placeT t s k with
  | error c => rw [putA, hP]; exact rPut_err t s k v c m hP w
  | ok sl => rw [putA, hP]; exact rPut_ok t s k v sl m hP w
end
end Go.Proofs.Hc
