/- Package table: a key that is put in a slot, that was deleted. -/
import Derived.Test.YtcikopeddljgkaaGreatKHxr
import Derived.Test.YtcikopeddljgkaaGreatK0
set_option linter.unusedSimpArgs false
set_option linter.unusedVariables false
set_option maxHeartbeats 400000
set_option maxRecDepth 100000
namespace Go.Proofs.Hc
open Go.RowKit
attribute [local go_sem] zbv zcb zba zbf zbr zbd zbq zbs zbx signed64 signed8 zap BitVec.ofInt_add BitVec.ofInt_mul ofInt_sub' zbb zbc wide8 eqN neN zca shr1 shr7 shr56
attribute [local go_sem high] zbe zbw
attribute [local go_sem] zaw zby zaj zas zae zay zar zak zbn zam zax zaz
attribute [local go_sem] load26 load73 load23 store26 build73
attribute [local go_sem ↓] lrow26 lrow73 lrow23 srow26 zero26 brow73 zac zbk zbg zaa zab
attribute [local go_sem] zai zav zau zbj zbl zbo zaq zat zbp zbi zbh
attribute [local go_sem] nn2 nm2 nn3 nm3 nn4 nm4 nn5 nm5 nn6 nm6 nn7 nm7 nn8 nm8
section
attribute [local go_sem] Oper.semAt_some zao zbt
attribute [local go_sem] box26 zcc cell0 cell1 cell2 cell3 cell4 zcn zcm
attribute [local go_sem] cell5 cell6
theorem put_deleted (t : Tab) (s k v : BitVec 64) (sl g x b : Nat) (w : World) (hok0 : ctrlOk (t.c 0) = true) (hok1 : ctrlOk (t.c 1) = true) (hP : placeT t s k = .ok sl) (hsl : sl = 8 * g + x) (hg : g < 2) (hx : x < 8)
    (hfm : (freeM (t.c g)).getLsbD x = true) (hcan : -1000 ≤ t.can ∧ t.can ≤ 1000) (hlive : -1000 ≤ t.live ∧ t.live ≤ 1000) (he : (emptyM (t.c g) &&& laneM x != 0#8) = false) (hb : w.heap[b]? = some (.cells (hcells t s) 141 (0, 0))) :
    Calls Tryz.prog 134 #[.pointer (some ⟨b, 0, none⟩), U k, U v] w fun e w' => e = .returned (I sl) ∧ Ch [b] w w' ∧ w'.heap[b]? = some (.cells (hcells (fillT t s k v sl) s) 141 (0, 0)) := by
  have P1 := place_any t s k b w hok0 hok1 hb
  rw [hP] at P1
  have hokg := pick_ok t g hg hok0 hok1
  have S1 := fun w => sets_ok (t.c g) hokg w
  obtain ⟨h2, hh2⟩ : ∃ h2, hash2 (hashOf s k) = h2 := ⟨_, rfl⟩
  have hle := hash2_le (hashOf s k)
  rw [hh2] at hle
  have H2 : ∀ (t1 : Tab) (w : World), w.heap[b]? = some (.cells (hcells t1 s) 141 (0, 0)) → Calls Tryz.prog 169 #[.pointer (some ⟨b, 0, none⟩), U k] w fun e w' => e = .returned (Y h2) ∧ w = w' := fun t1 w hb => by rw [← hh2]; exact h2_any b t1 s k w hb
  have HH := Lib.hid hh2
  clear hh2
  have F1 := fun w => fill_ok (t.c g) x h2 hx hle (free_notfull hx hfm) hokg w
  have hc5 := hcells_ctrl_at t s g hg
  have hq : (sl : Int) / 8 = (g : Int) := by omega
  have hr : (sl : Int) % 8 = (x : Int) := by omega
  have hsl0 : (0 : Int) ≤ (sl : Int) := by omega
  have hsl1 : (sl : Int) < 16 := by omega
  have hg0 : (0 : Int) ≤ (g : Int) := by omega
  have hg1 : (g : Int) < 2 := by omega
  have hx0 : (0 : Int) ≤ (x : Int) := by omega
  have hx1 : (x : Int) < 8 := by omega
  have F2 : ∀ w, Calls Tryz.prog 211 #[U (t.c g), .int .i64 ((sl : Int) % 8), Y h2] w fun e w' => e = .returned (.tuple #[U (withB (t.c g) x h2), I 0]) ∧ Ch [] w w' := fun w => by rw [hr]; exact F1 w
  have hnw : (N (emptyM (t.c g) &&& laneM x) != 0) = (emptyM (t.c g) &&& laneM x != 0#8) := by rw [← neN]; rfl
  have HS := Lib.hid hsl
  have HC := Lib.hid hcan
  have HL := Lib.hid hlive
  obtain ⟨hcan0, hcan1⟩ := hcan
  obtain ⟨hl0, hl1⟩ := hlive
  clear hok0 hok1 hP hsl hfm hokg
  rw [he] at hnw
  have HE := Lib.hid he
  clear he
  go_enter Tryz.func134, Tryz.ntmps134
  go_wp2_with (first
    | (go_at_call 210; refine P1.mono ?_; rintro e w1 ⟨rfl, hc1⟩; simp only [retOr]; have d1 := hkeep hc1 hb)
    | (go_at_call 166; refine (S1 _).mono ?_; rintro e w2 ⟨rfl, hc2⟩; have d2 := hkeep hc2 d1))
  obtain ⟨t1, ht1⟩ : ∃ t1 : Tab, t1 = { t with can := t.can } := ⟨_, rfl⟩
  have E1 : w2.heap[b]? = some (.cells (hcells t1 s) 141 (0, 0)) := by rw [ht1]; exact d2
  have C1 : Ch [b] w w2 := (hc1.trans hc2).of_nil
  have c5 : (hcells t1 s)[5 + g]? = some (U (t.c g)) := by rw [ht1]; exact hcells_ctrl_at _ s g hg
  have HT := Lib.hid ht1
  clear ht1 d1 d2 hc1 hc2 hb hc5 P1 S1
  have hgb : ∀ q : Gar w2, (q.1).heap[b]? = some (.cells (hcells t1 s) 141 (0, 0)) := fun q => hkeep q.2 E1
  have HG : ∀ q : Gar w2, Calls Tryz.prog 169 #[.pointer (some ⟨b, 0, none⟩), U k] q.1 fun e w' => e = .returned (Y h2) ∧ q.1 = w' := fun q => H2 t1 q.1 (hgb q)
  clear H2
  refine zdh 14 (by kernel_rfl) (by kernel_rfl) ?_
  simp only [List.take_succ_cons, List.take_zero, List.drop_succ_cons, List.drop_zero]
  repeat (go_big_quiet_step ((first | (go_at_call 169; exact garL (HG _)) | (go_at_call 211; with_reducible exact garC (F2 _)) | (go_at_call 211; with_reducible exact garC (F1 _)) | (go_at_call 137; exact garL (surew_yes _ _)))))
  refine wpQuiet_nil ?_
  rintro W6 ⟨g6, hw6⟩
  have hc6 : Ch [] w2 W6 := by rw [hw6]; exact g6.2
  clear hw6 g6 hgb HG
  have e6 := hkeep hc6 E1
  go_wp2
  have E7 : (W6.setCell ⟨b, 5 + g, none⟩ (U (withB (t.c g) x h2))).heap[b]? = some (.cells (hcells { t1 with c := fun i => if i = g then withB (t.c g) x h2 else t1.c i } s) 141 (0, 0)) := by
    rw [zaa, if_pos rfl, e6, Option.map_some, zae, hset_ctrl t1 s g hg]
  have C7 : Ch [b] w (W6.setCell ⟨b, 5 + g, none⟩ (U (withB (t.c g) x h2))) := (C1.pure hc6).setCell (p := ⟨b, 5 + g, none⟩) (.inl (by simp)) _
  generalize W6.setCell ⟨b, 5 + g, none⟩ (U (withB (t.c g) x h2)) = W7 at *
  have H7 := Lib.hid E7
  obtain ⟨t2, ht2⟩ : ∃ t2 : Tab, t2 = { t1 with c := fun i => if i = g then withB (t.c g) x h2 else t1.c i } := ⟨_, rfl⟩
  rw [← ht2] at E7
  have HT2 := Lib.hid ht2
  clear ht2 H7 e6 hc6 E1
  have k7 := hcells_key t2 s sl (by omega)
  have v7 := hcells_val t2 s sl (by omega)
  refine wp_region_held_drew (S := fun _ => True) (by kernel_rfl) trivial ?_
  intro _
  simp only [List.size_toArray, List.length_cons, List.length_nil, Nat.reduceAdd]
  refine tn 0 ?_ rfl trivial ?_ ?_; rotate_left
  · intro _ _; go_simp; try with_reducible rfl
  try go_frame
  refine tn 1 ?_ rfl trivial ?_ ?_; rotate_left
  · intro _ _; go_simp; try with_reducible rfl
  try go_frame
  refine tn 2 ?_ rfl trivial ?_ ?_; rotate_left
  · intro _ _; go_simp; try with_reducible rfl
  try go_frame
  refine tn 3 ?_ rfl trivial ?_ ?_; rotate_left
  · intro _ _; go_simp; try with_reducible rfl
  try go_frame
  refine tn 4 ?_ rfl trivial ?_ ?_; rotate_left
  · intro _ _; go_simp; try with_reducible rfl
  try go_frame
  refine tn 5 ?_ rfl trivial ?_ ?_; rotate_left
  · intro _ _; go_simp; try with_reducible rfl
  try go_frame
  refine tn 6 ?_ rfl trivial ?_ ?_; rotate_left
  · intro _ _; go_simp; try with_reducible rfl
  try go_frame
  refine tn 7 ?_ rfl trivial ?_ ?_; rotate_left
  · intro _ _; go_simp; try with_reducible rfl
  try go_frame
  refine tn 8 ?_ rfl trivial ?_ ?_; rotate_left
  · intro _ _; go_simp; try with_reducible rfl
  try go_frame
  refine tn 9 ?_ rfl trivial ?_ ?_; rotate_left
  · intro _ _; go_simp; try with_reducible rfl
  try go_frame
  refine tn 11 ?_ rfl trivial ?_ ?_; rotate_left
  · intro _ _; go_simp; try with_reducible rfl
  try go_frame
  refine tn 12 ?_ rfl trivial ?_ ?_; rotate_left
  · intro _ _; go_simp; try with_reducible rfl
  try go_frame
  refine tn 13 ?_ rfl trivial ?_ ?_; rotate_left
  · intro _ _; go_simp; try with_reducible rfl
  try go_frame
  refine rd 10 rfl (fun K hK => ?_); go_simp
  refine hK.out _ _ trivial (fun hS2 => ?_)
  refine tn 14 ?_ rfl trivial ?_ ?_; rotate_left
  · intro _ _; go_simp; try with_reducible rfl
  try go_frame
  refine wpAnyH_ready (rs := [15]) (by kernel_rfl) (by simp) ?_
  refine AllReadyH.cons rfl (fun K2 hK2 => ?_) AllReadyH.nil
  go_simp
  refine hK2.out _ _ trivial (fun hS2 => ?_)
  refine wpAnyH_done (by kernel_rfl) ?_ _
  have E8 : (((W7.setCell ⟨b, 7 + sl, none⟩ (U k)).setCell ⟨b, 23 + sl, none⟩ (U v)).drew).heap[b]? = some (.cells (hcells { { t2 with k := fun i => if i = sl then k else t2.k i } with v := fun i => if i = sl then v else t2.v i } s) 141 (0, 0)) := by
    rw [zbk, zaa, if_pos rfl, zaa, if_pos rfl, E7, Option.map_some, zae, hset_key t2 s sl (by omega) k, Option.map_some, zae, hset_val _ s sl (by omega) v]
  have C8 : Ch [b] w (((W7.setCell ⟨b, 7 + sl, none⟩ (U k)).setCell ⟨b, 23 + sl, none⟩ (U v)).drew) := ((C7.setCell (p := ⟨b, 7 + sl, none⟩) (.inl (by simp)) _).setCell (p := ⟨b, 23 + sl, none⟩) (.inl (by simp)) _).drew
  generalize ((W7.setCell ⟨b, 7 + sl, none⟩ (U k)).setCell ⟨b, 23 + sl, none⟩ (U v)).drew = W8 at *
  obtain ⟨t3, ht3⟩ : ∃ t3 : Tab, t3 = { { t2 with k := fun i => if i = sl then k else t2.k i } with v := fun i => if i = sl then v else t2.v i } := ⟨_, rfl⟩
  rw [← ht3] at E8
  have hl3 : t3.live = t.live := by rw [ht3, HT2.out, HT.out]
  have l5 : -1000 ≤ t3.live := by rw [hl3]; exact hl0
  have l6 : t3.live ≤ 1000 := by rw [hl3]; exact hl1
  have HT3 := Lib.hid ht3
  have HL3 := Lib.hid hl3
  clear ht3 hl3 E7 k7 v7
  go_wp2
  go_ret
  refine ⟨rfl, C8.setCell (p := ⟨b, 4, none⟩) (.inl (by simp)) _, ?_⟩
  rw [zaa, if_pos rfl, E8, Option.map_some, zae, hset_live t3 s (t3.live + 1), HL3.out]
  have hfin : fillT t s k v sl = { t3 with live := t.live + 1 } := by
    rw [HT3.out, HT2.out, HT.out, HS.out]
    unfold fillT
    have h1 : (8 * g + x) / 8 = g := by omega
    have h2' : (8 * g + x) % 8 = x := by omega
    simp only [h1, h2', HE.out, HH.out]
    simp
  rw [hfin]
end
structure OkT (t : Tab) (n : Nat) : Prop where
  c0 : ctrlOk (t.c 0) = true
  c1 : ctrlOk (t.c 1) = true
  can : -(n : Int) ≤ t.can ∧ t.can ≤ 14
  live : 0 ≤ t.live ∧ t.live ≤ 14 + (n : Int)
theorem ctrlOk_fill {c : BitVec 64} (h : ctrlOk c = true) (x : Nat) (hx : x < 8) (b : BitVec 8) (hb : b.toNat < 128) : ctrlOk (withB c x b) = true := by
  rw [ctrlOk_iff] at h ⊢
  intro n hn
  rw [byteAt_withB c x n b hx hn]
  by_cases he : n = x
  · rw [if_pos he]; exact .inl hb
  · rw [if_neg he]; exact h n hn
theorem hash2_lt (h : BitVec 64) : (hash2 h).toNat < 128 := by
  have := hash2_le h
  unfold N at this
  omega
theorem OkT.fill {t : Tab} {n : Nat} (h : OkT t n) (s k v : BitVec 64) (sl : Nat) (hs : sl < 16) : OkT (fillT t s k v sl) (n + 1) := by
  have hw : ∀ g, ctrlOk (t.c g) = true → g < 2 → ctrlOk ((fillT t s k v sl).c g) = true := fun g hg _ => by
    show ctrlOk (if g = sl / 8 then withB (t.c (sl / 8)) (sl % 8) (hash2 (hashOf s k)) else t.c g) = true
    by_cases he : g = sl / 8
    · rw [if_pos he, ← he]; exact ctrlOk_fill hg _ (by omega) _ (hash2_lt _)
    · rw [if_neg he]; exact hg
  refine ⟨hw 0 h.c0 (by omega), hw 1 h.c1 (by omega), ?_, ?_⟩
  · show -((n + 1 : Nat) : Int) ≤ (if emptyM (t.c (sl / 8)) &&& laneM (sl % 8) != 0#8 then t.can - 1 else t.can) ∧ (if emptyM (t.c (sl / 8)) &&& laneM (sl % 8) != 0#8 then t.can - 1 else t.can) ≤ 14
    have := h.can
    split <;> omega
  · show 0 ≤ t.live + 1 ∧ t.live + 1 ≤ 14 + ((n + 1 : Nat) : Int)
    have := h.live
    omega
theorem put_any (t : Tab) (n : Nat) (s k v : BitVec 64) (b : Nat) (w : World) (h : OkT t n) (hn : n ≤ 900) (hb : w.heap[b]? = some (.cells (hcells t s) 141 (0, 0))) :
    Calls Tryz.prog 134 #[.pointer (some ⟨b, 0, none⟩), U k, U v] w fun e w' => e = retOr (fun n : Nat => I n) (placeT t s k) ∧ Ch [b] w w' ∧
      ∀ sl, placeT t s k = .ok sl → w'.heap[b]? = some (.cells (hcells (fillT t s k v sl) s) 141 (0, 0)) := by
  cases hP : placeT t s k with
  | error c => exact (put_no t s k v c b w h.c0 h.c1 hP hb).mono fun e w' ⟨he, hc⟩ => ⟨he, hc.of_nil, fun sl hsl => by cases hsl⟩
  | ok sl =>
    obtain ⟨g, x, hsl, hg, hx, _, _, hfm, _⟩ := place_ok hP
    have h1 := h.can
    have h2 := h.live
    cases he : (emptyM (t.c g) &&& laneM x != 0#8)
    · exact (put_deleted t s k v sl g x b w h.c0 h.c1 hP hsl hg hx hfm (by omega) (by omega) he hb).mono fun e w' ⟨he, hc, hh⟩ => ⟨he, hc, fun sl' hsl' => by cases hsl'; exact hh⟩
    · exact (put_empty t s k v sl g x b w h.c0 h.c1 hP hsl hg hx hfm (by omega) (by omega) he hb).mono fun e w' ⟨he, hc, hh⟩ => ⟨he, hc, fun sl' hsl' => by cases hsl'; exact hh⟩
def foldE {σ α : Type} (f : σ → α → Except Int σ) : σ → List α → Except Int σ
  | t, [] => .ok t
  | t, p :: l => match f t p with
    | .error e => .error e
    | .ok t' => foldE f t' l
theorem foldE_err {σ α : Type} {f : σ → α → Except Int σ} {t : σ} {p : α} {l : List α} {e : Int} (h : f t p = .error e) : foldE f t (p :: l) = .error e := by rw [foldE, h]
theorem foldE_ok {σ α : Type} {f : σ → α → Except Int σ} {t t' : σ} {p : α} {l : List α} (h : f t p = .ok t') : foldE f t (p :: l) = foldE f t' l := by rw [foldE, h]
def stepT (s : BitVec 64) (t : Tab) (p : BitVec 64 × BitVec 64) : Except Int Tab := match placeT t s p.1 with
  | .error e => .error e
  | .ok sl => .ok (fillT t s p.1 p.2 sl)
theorem stepT_err {s : BitVec 64} {t : Tab} {p : BitVec 64 × BitVec 64} {e : Int} (h : placeT t s p.1 = .error e) : stepT s t p = .error e := by rw [stepT, h]
theorem stepT_ok {s : BitVec 64} {t : Tab} {p : BitVec 64 × BitVec 64} {sl : Nat} (h : placeT t s p.1 = .ok sl) : stepT s t p = .ok (fillT t s p.1 p.2 sl) := by rw [stepT, h]
def laidT (s : BitVec 64) (t : Tab) (l : List (BitVec 64 × BitVec 64)) : Except Int Tab := foldE (stepT s) t l
theorem laidT_err {s : BitVec 64} {t : Tab} {p : BitVec 64 × BitVec 64} {l : List (BitVec 64 × BitVec 64)} {e : Int} (h : placeT t s p.1 = .error e) : laidT s t (p :: l) = .error e := foldE_err (stepT_err h)
theorem laidT_ok {s : BitVec 64} {t : Tab} {p : BitVec 64 × BitVec 64} {l : List (BitVec 64 × BitVec 64)} {sl : Nat} (h : placeT t s p.1 = .ok sl) : laidT s t (p :: l) = laidT s (fillT t s p.1 p.2 sl) l := foldE_ok (stepT_ok h)
theorem laidT_nil {s : BitVec 64} {t : Tab} : laidT s t [] = .ok t := rfl
section
attribute [local go_sem] loadA loadT2 storeA storeT2 buildA_ts buildA_sm zdj make_func zdf zcd acells_get zda acells_one t2cells_one zcz acells_all t2cells_all t2cells_l t2cells_r
attribute [local go_sem ↓] lrowA lrowT2 srowA srowT2 browA zeroA_run zeroT2_run
attribute [local go_sem] Oper.semAt_some zao zbt
attribute [local go_sem] box26 zcc cell0 cell1 cell2 cell3 cell4 zcn zcm
attribute [local go_sem] cell5 cell6
theorem may_ok {t : Tab} {s : BitVec 64} (h : mayT t s = true) : ctrlOk (t.c 0) = true ∧ ctrlOk (t.c 1) = true := by
  rw [mayT] at h
  simp only [Bool.and_eq_true] at h
  exact h.1.1.1.2
end
section
attribute [local go_sem] loadA loadT2 storeA storeT2 buildA_ts buildA_sm zdj make_func zdf zcd acells_get zda acells_one t2cells_one zcz acells_all t2cells_all t2cells_l t2cells_r
attribute [local go_sem ↓] lrowA lrowT2 srowA srowT2 browA zeroA_run zeroT2_run
attribute [local go_sem] Oper.semAt_some zao zbt
attribute [local go_sem] box26 zcc cell0 cell1 cell2 cell3 cell4 zcn zcm
attribute [local go_sem] cell5 cell6
def ifMay {α : Type} (t : Tab) (s : BitVec 64) (r : Except Int α) : Except Int α := if mayT t s then r else .error 270
def placeV (r : Except Int Nat) : Value := match r with
  | .ok n => .tuple #[I n, I 0]
  | .error c => .tuple #[I 0, I c]
theorem acells_idx (a : At) (i : Nat) (h : i < (acells a).size) : (acells a)[i] = if i = 39 then I a.slot else if i = 40 then I a.many else a.t.cell i := by simp [acells]
attribute [local go_sem] acells_idx
end
section
attribute [local go_sem] loadA loadT2 storeA storeT2 buildA_ts buildA_sm zdj make_func zdf zcd acells_get zda acells_one t2cells_one zcz acells_all t2cells_all t2cells_l t2cells_r
attribute [local go_sem ↓] lrowA lrowT2 srowA srowT2 browA zeroA_run zeroT2_run
attribute [local go_sem] Oper.semAt_some zao zbt
attribute [local go_sem] box26 zcc cell0 cell1 cell2 cell3 cell4 zcn zcm
attribute [local go_sem] cell5 cell6 acells_idx
attribute [local go_sem high] zco
theorem laidAt_a (a b : At) (T : TypeId) (fr : Nat × Nat) : laidAt 0 (acells b) (.cells (acells a) T fr) = .cells (acells b) T fr := by
  rw [zak, laid_whole _ _ (by rw [zdf, zdf])]
attribute [local go_sem high] laidAt_a
def putA (t : Tab) (s k v : BitVec 64) : Except Int At := (placeT t s k).map fun sl => ⟨fillT t s k v sl, sl, 0⟩
theorem may_okT {t : Tab} {s : BitVec 64} (h : mayT t s = true) : OkT t 0 := by
  obtain ⟨h0, h1⟩ := may_ok h
  rw [mayT] at h
  simp only [Bool.and_eq_true, beq_iff_eq] at h
  obtain ⟨⟨⟨⟨hf, _⟩, _⟩, hl⟩, hc⟩ := h
  have := slots_len t
  refine ⟨h0, h1, ?_, ?_⟩ <;> (rw [flatT] at hf; simp only [Bool.and_eq_true, decide_eq_true_eq] at hf; omega)
end
end Go.Proofs.Hc
namespace Go.Proofs.Hc
open Go.RowKit
theorem mk_depth (a : BitVec 64) (b : Int) (c : BitVec 64) (d e : Int) (f g h : Nat → BitVec 64) : (Tab.mk a b c d e f g h).depth = b := rfl
theorem mk_pre (a : BitVec 64) (b : Int) (c : BitVec 64) (d e : Int) (f g h : Nat → BitVec 64) : (Tab.mk a b c d e f g h).pre = c := rfl
theorem mk_count (a : BitVec 64) (b : Int) (c : BitVec 64) (d e : Int) (f g h : Nat → BitVec 64) : (Tab.mk a b c d e f g h).count = a := rfl
theorem fill_depth (t : Tab) (s k v : BitVec 64) (sl : Nat) : (fillT t s k v sl).depth = t.depth := by unfold fillT; exact mk_depth _ _ _ _ _ _ _ _
theorem fill_pre (t : Tab) (s k v : BitVec 64) (sl : Nat) : (fillT t s k v sl).pre = t.pre := by unfold fillT; exact mk_pre _ _ _ _ _ _ _ _
theorem fill_count (t : Tab) (s k v : BitVec 64) (sl : Nat) : (fillT t s k v sl).count = t.count := by unfold fillT; exact mk_count _ _ _ _ _ _ _ _
theorem bt_with (t t' : Tab) (sl : Nat) (b : BitVec 8) (hc : t'.c = fun i => if i = sl / 8 then withB (t.c (sl / 8)) (sl % 8) b else t.c i) (j : Nat) : bt t' j = if j = sl then b else bt t j := by
  unfold bt
  rw [hc]
  dsimp only
  by_cases h : j / 8 = sl / 8
  · rw [if_pos h, byteAt_withB _ _ _ _ (by omega) (by omega), h]
    by_cases h2 : j % 8 = sl % 8
    · rw [if_pos h2, if_pos (by omega)]
    · rw [if_neg h2, if_neg (by intro e; rw [e] at h2; exact h2 rfl)]
  · rw [if_neg h, if_neg (by intro e; rw [e] at h; exact h rfl)]
theorem bt_fill (t : Tab) (s k v : BitVec 64) (sl j : Nat) : bt (fillT t s k v sl) j = if j = sl then hash2 (hashOf s k) else bt t j := bt_with t _ sl _ rfl j
theorem flatT_iff (t : Tab) : flatT t = true ↔ 0 ≤ t.depth ∧ t.depth ≤ 5 ∧ N (t.pre >>> t.depth.toNat) = 0 ∧ 0 ≤ t.can ∧ t.can ≤ 14 ∧ 0 ≤ t.live ∧ t.live ≤ 14 := by
  rw [flatT]
  simp only [Bool.and_eq_true, decide_eq_true_iff, beq_iff_eq]
  constructor
  · rintro ⟨⟨⟨⟨a, b⟩, c⟩, d, e⟩, f, g⟩; exact ⟨a, b, c, d, e, f, g⟩
  · rintro ⟨a, b, c, d, e, f, g⟩; exact ⟨⟨⟨⟨a, b⟩, c⟩, d, e⟩, f, g⟩
theorem flatT_of {t t' : Tab} (h : flatT t = true) (hd : t'.depth = t.depth) (hp : t'.pre = t.pre) (h1 : 0 ≤ t'.can) (h2 : t'.can ≤ 14) (h3 : 0 ≤ t'.live) (h4 : t'.live ≤ 14) : flatT t' = true := by
  obtain ⟨a, b, c, _⟩ := (flatT_iff t).1 h
  refine (flatT_iff t').2 ⟨?_, ?_, ?_, h1, h2, h3, h4⟩ <;> rw [hd]
  · exact a
  · exact b
  · rw [hp]; exact c
theorem hasT_iff (t : Tab) (h : BitVec 64) : hasT t h = true ↔ flatT t = true ∧ topT h t.depth = t.pre := by rw [hasT, Bool.and_eq_true, beq_iff_eq]
theorem hasT_of {t t' : Tab} {h : BitVec 64} (hh : hasT t h = true) (hf : flatT t' = true) (hd : t'.depth = t.depth) (hp : t'.pre = t.pre) : hasT t' h = true :=
  (hasT_iff t' h).2 ⟨hf, by rw [hd, hp]; exact ((hasT_iff t h).1 hh).2⟩
theorem full_of_h2 {t : Tab} {j : Nat} {h : BitVec 64} (e : bt t j = hash2 h) : fullJ t j = true := by
  rw [fullJ, e]; simpa using hash2_lt h
theorem free_iff (t : Tab) (g x : Nat) (hx : x < 8) : (freeM (t.c g)).getLsbD x = true ↔ bt t (8 * g + x) = 128#8 ∨ bt t (8 * g + x) = 254#8 := by
  rw [free_byte _ _ hx, bt_at t g x hx, Bool.or_eq_true, beq_iff_eq, beq_iff_eq]
structure Spot (t : Tab) (s k : BitVec 64) (sl : Nat) : Prop where
  lt : sl < 16
  free : bt t sl = 128#8 ∨ bt t sl = 254#8
  row : sl / 8 ∈ rowT t s k
  goes : hasT t (hashOf s k) = true
  not : ∀ j, j < 16 → fullJ t j = true → t.k j ≠ k
  can : bt t sl = 128#8 → 0 < t.can
theorem place_spot {t : Tab} {s k : BitVec 64} {sl : Nat} (h : placeT t s k = .ok sl) : Spot t s k sl := by
  obtain ⟨g, x, rfl, hg, hx, hr, -, hf, hgo, hn, hd⟩ := place_ok h
  refine ⟨by omega, (free_iff t g x hx).1 hf, by rw [show (8 * g + x) / 8 = g by omega]; exact hr, hgo, fun j hj hfj hk => ?_, fun he => ?_⟩
  · have := (hasKT_iff t k).2 ⟨j, hj, hfj, hk⟩
    rw [hn] at this; cases this
  · rcases hd with hd | hd
    · exfalso
      rw [bne_iff_ne, ne_eq, and_lane _ x hx, delM_bit _ x hx, ← bt_at t g x hx, he] at hd
      exact hd (by decide)
    · exact hd
theorem Spot.notfull {t : Tab} {s k : BitVec 64} {sl : Nat} (h : Spot t s k sl) : fullJ t sl = false := by
  rw [fullJ]
  rcases h.free with e | e <;> rw [e] <;> decide
theorem fill_full {t : Tab} (s k v : BitVec 64) (sl j : Nat) : fullJ (fillT t s k v sl) j = if j = sl then true else fullJ t j := by
  rw [fullJ, bt_fill]
  by_cases h : j = sl
  · rw [if_pos h, if_pos h]; simpa using hash2_lt (hashOf s k)
  · rw [if_neg h, if_neg h, fullJ]
theorem fill_fill {t : Tab} (s k v : BitVec 64) (sl j : Nat) : fillJ (fillT t s k v sl) j = if j = sl then true else fillJ t j := by
  rw [fillJ, bt_fill]
  by_cases h : j = sl
  · rw [if_pos h, if_pos h, bne_iff_ne]
    intro e
    have := hash2_lt (hashOf s k)
    rw [e] at this; exact absurd this (by decide)
  · rw [if_neg h, if_neg h, fillJ]
theorem fill_nFull {t : Tab} {s k : BitVec 64} {sl : Nat} (v : BitVec 64) (h : Spot t s k sl) : nFull (fillT t s k v sl) = nFull t + 1 := by
  have := countP_upd (fullJ t) (fullJ (fillT t s k v sl)) sl 16 (fun j hj => by rw [fill_full, if_neg hj])
  rw [h.notfull, fill_full, if_pos rfl, if_neg (by simp), if_pos ⟨h.lt, rfl⟩] at this
  unfold nFull
  exact this
theorem fill_nFill {t : Tab} {s k : BitVec 64} {sl : Nat} (v : BitVec 64) (h : Spot t s k sl) : nFill (fillT t s k v sl) = nFill t + if bt t sl = 128#8 then 1 else 0 := by
  have := countP_upd (fillJ t) (fillJ (fillT t s k v sl)) sl 16 (fun j hj => by rw [fill_fill, if_neg hj])
  rw [fill_fill, if_pos rfl, if_pos (show sl < 16 ∧ true = true from ⟨h.lt, rfl⟩)] at this
  have hlt := h.lt
  unfold nFill
  rcases h.free with e | e
  · rw [if_pos e]
    rw [if_neg (by rw [fillJ, e]; simp)] at this
    exact this
  · rw [if_neg (by rw [e]; decide)]
    rw [if_pos (by rw [fillJ, e]; exact ⟨hlt, by decide⟩)] at this
    omega
theorem fill_can {t : Tab} {s k : BitVec 64} {sl : Nat} (v : BitVec 64) : (fillT t s k v sl).can = if bt t sl = 128#8 then t.can - 1 else t.can := by
  show (if emptyM (t.c (sl / 8)) &&& laneM (sl % 8) != 0#8 then t.can - 1 else t.can) = _
  have e : (emptyM (t.c (sl / 8)) &&& laneM (sl % 8) != 0#8) = true ↔ bt t sl = 128#8 := by
    rw [bne_iff_ne, ne_eq, and_lane _ _ (by omega), emptyM_bit _ _ (by omega)]
    show ¬ (bt t sl == 128#8) = false ↔ _
    simp
  by_cases h : bt t sl = 128#8
  · rw [if_pos (e.2 h), if_pos h]
  · rw [if_neg (fun h2 => h (e.1 h2)), if_neg h]
theorem fill_hasE {t : Tab} {s k : BitVec 64} {sl : Nat} (v : BitVec 64) (g : Nat) (h : hasE (fillT t s k v sl) g = true) : hasE t g = true := by
  rw [hasE_iff] at h ⊢
  obtain ⟨x, hx, hb⟩ := h
  rw [bt_fill] at hb
  by_cases he : 8 * g + x = sl
  · rw [if_pos he] at hb
    have := hash2_lt (hashOf s k)
    rw [hb] at this; exact absurd this (by decide)
  · rw [if_neg he] at hb; exact ⟨x, hx, hb⟩
theorem May.fill {t : Tab} {s k : BitVec 64} {sl : Nat} (m : May t s) (v : BitVec 64) (h : Spot t s k sl) : May (fillT t s k v sl) s := by
  have hlt := h.lt
  have hnF := fill_nFull v h
  have hnf := fill_nFill v h
  have hcan := fill_can (t := t) (s := s) (k := k) (sl := sl) v
  have hcan' : (fillT t s k v sl).can = 14 - (nFill (fillT t s k v sl) : Int) := by
    rw [hcan, hnf, m.can]
    split
    · rw [show ((nFill t + 1 : Nat) : Int) = (nFill t : Int) + 1 by omega]; omega
    · rw [Nat.add_zero]
  have hlive' : (fillT t s k v sl).live = (nFull (fillT t s k v sl) : Int) := by
    rw [hnF]; show t.live + 1 = _; rw [m.live]; omega
  have hfl : flatT (fillT t s k v sl) = true := by
    obtain ⟨a, b, c, d, e, f, g⟩ := (flatT_iff t).1 m.flat
    have hle := nFull_le (fillT t s k v sl)
    have hc0 : 0 ≤ (fillT t s k v sl).can := by
      rw [hcan]
      split
      · have := h.can ‹_›; omega
      · exact d
    refine flatT_of m.flat (fill_depth ..) (fill_pre ..) hc0 ?_ ?_ ?_
    · rw [hcan']; clear hcan hcan' hnF hnf hlive' hc0; omega
    · rw [hlive']; clear hcan hcan' hnF hnf hlive' hc0; omega
    · rw [hlive']; rw [hcan'] at hc0; clear hcan hcan' hnF hnf hlive' f g d e; omega
  have hgoes : ∀ x, hasT t x = true → hasT (fillT t s k v sl) x = true := fun x hx => hasT_of hx hfl (fill_depth ..) (fill_pre ..)
  refine ⟨hfl, fun j hj => ?_, fun j hj hf => ?_, fun i j hi hj hfi hfj hk => ?_, hlive', hcan'⟩
  · rw [bt_fill]
    by_cases e : j = sl
    · rw [if_pos e]; exact .inl (hash2_lt _)
    · rw [if_neg e]; exact m.ok j hj
  · by_cases e : j = sl
    · have hk : (fillT t s k v sl).k j = k := by show (if j = sl then k else t.k j) = k; rw [if_pos e]
      rw [hk, bt_fill, if_pos e]
      exact ⟨rfl, hgoes _ h.goes, by rw [e]; exact row_mono (fun i _ => fill_hasE v i) h.row⟩
    · have hk : (fillT t s k v sl).k j = t.k j := by show (if j = sl then k else t.k j) = _; rw [if_neg e]
      rw [fill_full, if_neg e] at hf
      obtain ⟨a, b, c⟩ := m.slot j hj hf
      rw [hk, bt_fill, if_neg e]
      exact ⟨a, hgoes _ b, row_mono (fun i _ => fill_hasE v i) c⟩
  · change (if i = sl then k else t.k i) = (if j = sl then k else t.k j) at hk
    rw [fill_full] at hfi hfj
    by_cases ei : i = sl
    · by_cases ej : j = sl
      · omega
      · rw [if_pos ei, if_neg ej] at hk
        rw [if_neg ej] at hfj
        exact absurd hk.symm (h.not j hj hfj)
    · rw [if_neg ei] at hk hfi
      by_cases ej : j = sl
      · rw [if_pos ej] at hk
        exact absurd hk (h.not i hi hfi)
      · rw [if_neg ej] at hk hfj
        exact m.inj i j hi hj hfi hfj hk
theorem fill_pairs {t : Tab} {s k : BitVec 64} {sl : Nat} (v : BitVec 64) (h : Spot t s k sl) (p : BitVec 64 × BitVec 64) : p ∈ pairsT (fillT t s k v sl) ↔ p = (k, v) ∨ p ∈ pairsT t := by
  rw [mem_pairs, mem_pairs]
  constructor
  · rintro ⟨j, hj, hf, rfl⟩
    rw [fill_full] at hf
    have hk : (fillT t s k v sl).k j = if j = sl then k else t.k j := rfl
    have hv : (fillT t s k v sl).v j = if j = sl then v else t.v j := rfl
    rw [hk, hv]
    by_cases e : j = sl
    · rw [if_pos e, if_pos e]; exact .inl rfl
    · rw [if_neg e] at hf ⊢
      rw [if_neg e]
      exact .inr ⟨j, hj, hf, rfl⟩
  · rintro (rfl | ⟨j, hj, hf, rfl⟩)
    · refine ⟨sl, h.lt, by rw [fill_full, if_pos rfl], ?_⟩
      show _ = ((if sl = sl then k else t.k sl), (if sl = sl then v else t.v sl))
      rw [if_pos rfl, if_pos rfl]
    · have e : j ≠ sl := by rintro rfl; rw [h.notfull] at hf; cases hf
      refine ⟨j, hj, by rw [fill_full, if_neg e]; exact hf, ?_⟩
      show _ = ((if j = sl then k else t.k j), (if j = sl then v else t.v j))
      rw [if_neg e, if_neg e]
theorem scan_some (f : Nat → Bool) : ∀ (l : List Nat) (n x : Nat), x ∈ l → f x = true → ∃ y, scan f n l = some y
  | y :: l, n, x, hx, hf => by
    rw [scan]
    by_cases h : f y = true
    · rw [if_pos h]; exact ⟨_, rfl⟩
    · rw [if_neg h]
      rcases List.mem_cons.1 hx with rfl | hx
      · exact absurd hf h
      · exact scan_some f l (n + 1) x hx hf
theorem mem_cand (t : Tab) (s k : BitVec 64) (j : Nat) : j ∈ (rowT t s k).flatMap (candG t (hash2 (hashOf s k))) ↔ j / 8 ∈ rowT t s k ∧ bt t j = hash2 (hashOf s k) := by
  rw [List.mem_flatMap]
  constructor
  · rintro ⟨g, hg, hj⟩
    unfold candG at hj
    obtain ⟨x, hx, rfl⟩ := List.mem_map.1 hj
    obtain ⟨hx, hb⟩ := (mem_lanes _ _).1 hx
    rw [equalM_bit _ _ _ hx, beq_iff_eq] at hb
    rw [bt_at t g x hx, show (8 * g + x) / 8 = g by omega]
    exact ⟨hg, hb⟩
  · rintro ⟨hg, hb⟩
    refine ⟨j / 8, hg, ?_⟩
    unfold candG
    refine List.mem_map.2 ⟨j % 8, (mem_lanes _ _).2 ⟨by omega, ?_⟩, by omega⟩
    rw [equalM_bit _ _ _ (by omega), beq_iff_eq]; exact hb
theorem found_of {t : Tab} {s k : BitVec 64} {j : Nat} (m : May t s) (hj : j < 16) (hf : fullJ t j = true) (hk : t.k j = k) : ∃ n, foundE t s k = .ok (j, n) := by
  obtain ⟨a, b, c⟩ := m.slot j hj hf
  rw [hk] at a b c
  obtain ⟨y, hy⟩ := scan_some (fun x => t.k x == k) _ 0 j ((mem_cand t s k j).2 ⟨c, a⟩) (by simpa using hk)
  have hy' : foundT t s k = some y := hy
  obtain ⟨h1, h2⟩ := scan_mem _ _ _ _ hy
  obtain ⟨h3, h4⟩ := (mem_cand t s k y.1).1 h1
  have hy16 : y.1 < 16 := foundT_lt hy'
  have : y.1 = j := m.inj _ _ hy16 hj (full_of_h2 h4) hf (by rw [hk]; simpa using h2)
  obtain ⟨y1, y2⟩ := y
  dsimp only at this
  subst this
  exact ⟨y2, foundE_some hy'⟩
theorem found_none {t : Tab} {s k : BitVec 64} (h : ∀ j, j < 16 → fullJ t j = true → t.k j ≠ k) : foundE t s k = .error 4 := by
  apply foundE_none
  apply scan_none
  intro y hy
  obtain ⟨h3, h4⟩ := (mem_cand t s k y).1 hy
  have hy16 : y < 16 := by have := row_bound t s k _ h3; omega
  have := h y hy16 (full_of_h2 h4)
  simpa using this
theorem exists_empty {t : Tab} {s : BitVec 64} (m : May t s) (h : 0 < t.can) : ∃ j, j < 16 ∧ bt t j = 128#8 := by
  apply Classical.byContradiction
  intro hn
  have : nFill t = 16 := by
    unfold nFill
    have h2 : (List.range 16).countP (fillJ t) = (List.range 16).length := List.countP_eq_length.2 fun j hj => by
      rw [fillJ, bne_iff_ne]
      exact fun e => hn ⟨j, by simpa using hj, e⟩
    rw [h2]; rfl
  have h3 := m.can
  omega
theorem findSome_some {α β : Type} (f : α → Option β) : ∀ (l : List α) (g : α), g ∈ l → (f g).isSome = true → ∃ y, l.findSome? f = some y
  | g' :: l, g, hg, hf => by
    rw [List.findSome?_cons]
    cases h : f g' with
    | some y => exact ⟨y, rfl⟩
    | none =>
      rcases List.mem_cons.1 hg with rfl | hg
      · rw [h] at hf; cases hf
      · exact findSome_some f l g hg hf
theorem freeIn_some (t : Tab) (g : Nat) (h : hasE t g = true) : (freeIn t g).isSome = true := by
  obtain ⟨x, hx, hb⟩ := (hasE_iff t g).1 h
  rw [freeIn_eq, Option.isSome_map]
  have : x ∈ lanesOf (freeM (t.c g)) := (mem_lanes _ _).2 ⟨hx, (free_iff t g x hx).2 (.inl hb)⟩
  cases hl : lanesOf (freeM (t.c g)) with
  | nil => rw [hl] at this; cases this
  | cons y l => rfl
theorem place_room {t : Tab} {s k : BitVec 64} (m : May t s) (h : 0 < t.can) (hg : hasT t (hashOf s k) = true) (hk : hasKT t k = false) : ∃ sl, placeT t s k = .ok sl := by
  obtain ⟨j, hj, hb⟩ := exists_empty m h
  have hE : hasE t (j / 8) = true := (hasE_iff t _).2 ⟨j % 8, by omega, by rw [show 8 * (j / 8) + j % 8 = j by omega]; exact hb⟩
  have hex : ∃ g, g ∈ rowT t s k ∧ hasE t g = true := by
    cases hG : hasE t (gOf s k) with
    | true => exact ⟨_, (mem_row t s k _).2 (.inl rfl), hG⟩
    | false =>
      refine ⟨j / 8, (mem_row t s k _).2 (.inr ⟨hG, ?_⟩), hE⟩
      have h1 := gOf_lt s k
      have h2 : j / 8 ≠ gOf s k := by intro e; rw [e, hG] at hE; cases hE
      omega
  obtain ⟨g, hgr, hgE⟩ := hex
  obtain ⟨y, hy⟩ := findSome_some (freeIn t) _ g hgr (freeIn_some t g hgE)
  have hy' : freeAt t (rowT t s k) = some y := hy
  obtain ⟨g', x⟩ := y
  refine ⟨8 * g' + x, ?_⟩
  rw [placeT, if_pos hg, hk, if_neg (by decide), hy']
  dsimp only
  rw [if_pos (by rw [decide_eq_true h, Bool.or_true])]
theorem place_goes_no {t : Tab} {s k : BitVec 64} (h : hasT t (hashOf s k) = false) : placeT t s k = .error 2 := by rw [placeT, h, if_neg (by decide)]
theorem place_has_yes {t : Tab} {s k : BitVec 64} (h : hasT t (hashOf s k) = true) (hk : hasKT t k = true) : placeT t s k = .error 5 := by rw [placeT, if_pos h, if_pos hk]
theorem place_cases (t : Tab) (s k : BitVec 64) : (hasT t (hashOf s k) = false ∧ placeT t s k = .error 2) ∨ (hasT t (hashOf s k) = true ∧ hasKT t k = true ∧ placeT t s k = .error 5) ∨
    (hasT t (hashOf s k) = true ∧ hasKT t k = false ∧ placeT t s k = .error 6) ∨ (hasT t (hashOf s k) = true ∧ hasKT t k = false ∧ ∃ sl, placeT t s k = .ok sl) := by
  cases hg : hasT t (hashOf s k) with
  | false => exact .inl ⟨rfl, place_goes_no hg⟩
  | true =>
    cases hk : hasKT t k with
    | true => exact .inr (.inl ⟨rfl, rfl, place_has_yes hg hk⟩)
    | false =>
      refine .inr (.inr ?_)
      rw [placeT, if_pos hg, hk, if_neg (by decide)]
      cases freeAt t (rowT t s k) with
      | none => exact .inl ⟨rfl, rfl, rfl⟩
      | some y =>
        dsimp only
        split
        · exact .inr ⟨rfl, rfl, _, rfl⟩
        · exact .inl ⟨rfl, rfl, rfl⟩
end Go.Proofs.Hc
