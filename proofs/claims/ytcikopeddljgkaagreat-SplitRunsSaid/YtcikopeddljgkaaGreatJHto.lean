/- Package table: a key that is put in a slot, that was deleted. -/
import Derived.Test.YtcikopeddljgkaaGreatJHxo
import Derived.Test.YtcikopeddljgkaaGreatJ0
set_option linter.unusedSimpArgs false
set_option linter.unusedVariables false
set_option maxHeartbeats 400000
set_option maxRecDepth 100000
namespace Go.Proofs.Hc
open Go.RowKit
attribute [local go_sem] zbu zcc zax zbf zbo zbd zbn zbp zbw signed64 signed8 zap BitVec.ofInt_add BitVec.ofInt_mul ofInt_sub' zbb zbc wide8 eqN neN zca shr1 shr7 shr56
attribute [local go_sem high] zbe zbv
attribute [local go_sem] zaw zby zaj zas zaf zaz zar zak zbm zal zay zba
attribute [local go_sem] load26 load73 load23 store26 build73
attribute [local go_sem ↓] lrow26 lrow73 lrow23 srow26 zero26 brow73 zae zbk zbg zaa zab
attribute [local go_sem] zai zav zat zbj zbl zbr zaq zau zbs zbi zbh
attribute [local go_sem] nn2 nm2 nn3 nm3 nn4 nm4 nn5 nm5 nn6 nm6 nn7 nm7 nn8 nm8
section
attribute [local go_sem] Oper.semAt_some zao zbq
attribute [local go_sem] box26 zcb cell0 cell1 cell2 cell3 cell4 zcn zcm
attribute [local go_sem] cell5 cell6
theorem put_deleted (t : Tab) (s k v : BitVec 64) (sl g x b : Nat) (w : World) (hok0 : ctrlOk (t.c 0) = true) (hok1 : ctrlOk (t.c 1) = true) (hP : placeT t s k = .ok sl) (hsl : sl = 8 * g + x) (hg : g < 2) (hx : x < 8)
    (hfm : (freeM (t.c g)).getLsbD x = true) (hcan : -1000 ≤ t.can ∧ t.can ≤ 1000) (hlive : -1000 ≤ t.live ∧ t.live ≤ 1000) (he : (emptyM (t.c g) &&& laneM x != 0#8) = false) (hb : w.heap[b]? = some (.cells (hcells t s) 141 (0, 0))) :
    Calls Tryz.prog 134 #[.pointer (some ⟨b, 0, none⟩), U k, U v] w fun e w' => e = .returned (I sl) ∧ Ch [b] w w' ∧ w'.heap[b]? = some (.cells (hcells (fillT t s k v sl) s) 141 (0, 0)) := by
  have P1 := place_any t s k b w hok0 hok1 hb
  rw [hP] at P1
  have hokg := pick_ok t g hg hok0 hok1
  have S1 := fun w => sets_ok (t.c g) hokg w
  obtain ⟨h2, hh2⟩ : ∃ h2, hash2 (hashOf s k) = h2 := ⟨_, rfl⟩
  have hle := hash2_le (hashOf s k)
  rw [hh2] at hle
  have H2 : ∀ (t1 : Tab) (w : World), w.heap[b]? = some (.cells (hcells t1 s) 141 (0, 0)) → Calls Tryz.prog 169 #[.pointer (some ⟨b, 0, none⟩), U k] w fun e w' => e = .returned (Y h2) ∧ w = w' := fun t1 w hb => by rw [← hh2]; exact h2_any b t1 s k w hb
  have HH := Lib.hid hh2
  clear hh2
  have F1 := fun w => fill_ok (t.c g) x h2 hx hle (free_notfull hx hfm) hokg w
  have hc5 := hcells_ctrl_at t s g hg
  have hq : (sl : Int) / 8 = (g : Int) := by omega
  have hr : (sl : Int) % 8 = (x : Int) := by omega
  have hsl0 : (0 : Int) ≤ (sl : Int) := by omega
  have hsl1 : (sl : Int) < 16 := by omega
  have hg0 : (0 : Int) ≤ (g : Int) := by omega
  have hg1 : (g : Int) < 2 := by omega
  have hx0 : (0 : Int) ≤ (x : Int) := by omega
  have hx1 : (x : Int) < 8 := by omega
  have F2 : ∀ w, Calls Tryz.prog 211 #[U (t.c g), .int .i64 ((sl : Int) % 8), Y h2] w fun e w' => e = .returned (.tuple #[U (withB (t.c g) x h2), I 0]) ∧ Ch [] w w' := fun w => by rw [hr]; exact F1 w
  have hnw : (N (emptyM (t.c g) &&& laneM x) != 0) = (emptyM (t.c g) &&& laneM x != 0#8) := by rw [← neN]; rfl
  have HS := Lib.hid hsl
  have HC := Lib.hid hcan
  have HL := Lib.hid hlive
  obtain ⟨hcan0, hcan1⟩ := hcan
  obtain ⟨hl0, hl1⟩ := hlive
  clear hok0 hok1 hP hsl hfm hokg
  rw [he] at hnw
  have HE := Lib.hid he
  clear he
  go_enter Tryz.func134, Tryz.ntmps134
  go_wp2_with (first
    | (go_at_call 210; refine P1.mono ?_; rintro e w1 ⟨rfl, hc1⟩; simp only [retOr]; have d1 := hkeep hc1 hb)
    | (go_at_call 166; refine (S1 _).mono ?_; rintro e w2 ⟨rfl, hc2⟩; have d2 := hkeep hc2 d1))
  obtain ⟨t1, ht1⟩ : ∃ t1 : Tab, t1 = { t with can := t.can } := ⟨_, rfl⟩
  have E1 : w2.heap[b]? = some (.cells (hcells t1 s) 141 (0, 0)) := by rw [ht1]; exact d2
  have C1 : Ch [b] w w2 := (hc1.trans hc2).of_nil
  have c5 : (hcells t1 s)[5 + g]? = some (U (t.c g)) := by rw [ht1]; exact hcells_ctrl_at _ s g hg
  have HT := Lib.hid ht1
  clear ht1 d1 d2 hc1 hc2 hb hc5 P1 S1
  have hgb : ∀ q : Gar w2, (q.1).heap[b]? = some (.cells (hcells t1 s) 141 (0, 0)) := fun q => hkeep q.2 E1
  have HG : ∀ q : Gar w2, Calls Tryz.prog 169 #[.pointer (some ⟨b, 0, none⟩), U k] q.1 fun e w' => e = .returned (Y h2) ∧ q.1 = w' := fun q => H2 t1 q.1 (hgb q)
  clear H2
  refine zdb 14 (by kernel_rfl) (by kernel_rfl) ?_
  simp only [List.take_succ_cons, List.take_zero, List.drop_succ_cons, List.drop_zero]
  repeat (go_big_quiet_step ((first | (go_at_call 169; exact garL (HG _)) | (go_at_call 211; with_reducible exact garC (F2 _)) | (go_at_call 211; with_reducible exact garC (F1 _)) | (go_at_call 137; exact garL (surew_yes _ _)))))
  refine wpQuiet_nil ?_
  rintro W6 ⟨g6, hw6⟩
  have hc6 : Ch [] w2 W6 := by rw [hw6]; exact g6.2
  clear hw6 g6 hgb HG
  have e6 := hkeep hc6 E1
  go_wp2
  have E7 : (W6.setCell ⟨b, 5 + g, none⟩ (U (withB (t.c g) x h2))).heap[b]? = some (.cells (hcells { t1 with c := fun i => if i = g then withB (t.c g) x h2 else t1.c i } s) 141 (0, 0)) := by
    rw [zaa, if_pos rfl, e6, Option.map_some, zaf, hset_ctrl t1 s g hg]
  have C7 : Ch [b] w (W6.setCell ⟨b, 5 + g, none⟩ (U (withB (t.c g) x h2))) := (C1.pure hc6).setCell (p := ⟨b, 5 + g, none⟩) (.inl (by simp)) _
  generalize W6.setCell ⟨b, 5 + g, none⟩ (U (withB (t.c g) x h2)) = W7 at *
  have H7 := Lib.hid E7
  obtain ⟨t2, ht2⟩ : ∃ t2 : Tab, t2 = { t1 with c := fun i => if i = g then withB (t.c g) x h2 else t1.c i } := ⟨_, rfl⟩
  rw [← ht2] at E7
  have HT2 := Lib.hid ht2
  clear ht2 H7 e6 hc6 E1
  have k7 := hcells_key t2 s sl (by omega)
  have v7 := hcells_val t2 s sl (by omega)
  refine wp_region_held_drew (S := fun _ => True) (by kernel_rfl) trivial ?_
  intro _
  simp only [List.size_toArray, List.length_cons, List.length_nil, Nat.reduceAdd]
  refine tn 0 ?_ rfl trivial ?_ ?_; rotate_left
  · intro _ _; go_simp; try with_reducible rfl
  try go_frame
  refine tn 1 ?_ rfl trivial ?_ ?_; rotate_left
  · intro _ _; go_simp; try with_reducible rfl
  try go_frame
  refine tn 2 ?_ rfl trivial ?_ ?_; rotate_left
  · intro _ _; go_simp; try with_reducible rfl
  try go_frame
  refine tn 3 ?_ rfl trivial ?_ ?_; rotate_left
  · intro _ _; go_simp; try with_reducible rfl
  try go_frame
  refine tn 4 ?_ rfl trivial ?_ ?_; rotate_left
  · intro _ _; go_simp; try with_reducible rfl
  try go_frame
  refine tn 5 ?_ rfl trivial ?_ ?_; rotate_left
  · intro _ _; go_simp; try with_reducible rfl
  try go_frame
  refine tn 6 ?_ rfl trivial ?_ ?_; rotate_left
  · intro _ _; go_simp; try with_reducible rfl
  try go_frame
  refine tn 7 ?_ rfl trivial ?_ ?_; rotate_left
  · intro _ _; go_simp; try with_reducible rfl
  try go_frame
  refine tn 8 ?_ rfl trivial ?_ ?_; rotate_left
  · intro _ _; go_simp; try with_reducible rfl
  try go_frame
  refine tn 9 ?_ rfl trivial ?_ ?_; rotate_left
  · intro _ _; go_simp; try with_reducible rfl
  try go_frame
  refine tn 11 ?_ rfl trivial ?_ ?_; rotate_left
  · intro _ _; go_simp; try with_reducible rfl
  try go_frame
  refine tn 12 ?_ rfl trivial ?_ ?_; rotate_left
  · intro _ _; go_simp; try with_reducible rfl
  try go_frame
  refine tn 13 ?_ rfl trivial ?_ ?_; rotate_left
  · intro _ _; go_simp; try with_reducible rfl
  try go_frame
  refine rd 10 rfl (fun K hK => ?_); go_simp
  refine hK.out _ _ trivial (fun hS2 => ?_)
  refine tn 14 ?_ rfl trivial ?_ ?_; rotate_left
  · intro _ _; go_simp; try with_reducible rfl
  try go_frame
  refine wpAnyH_ready (rs := [15]) (by kernel_rfl) (by simp) ?_
  refine AllReadyH.cons rfl (fun K2 hK2 => ?_) AllReadyH.nil
  go_simp
  refine hK2.out _ _ trivial (fun hS2 => ?_)
  refine wpAnyH_done (by kernel_rfl) ?_ _
  have E8 : (((W7.setCell ⟨b, 7 + sl, none⟩ (U k)).setCell ⟨b, 23 + sl, none⟩ (U v)).drew).heap[b]? = some (.cells (hcells { { t2 with k := fun i => if i = sl then k else t2.k i } with v := fun i => if i = sl then v else t2.v i } s) 141 (0, 0)) := by
    rw [zbk, zaa, if_pos rfl, zaa, if_pos rfl, E7, Option.map_some, zaf, hset_key t2 s sl (by omega) k, Option.map_some, zaf, hset_val _ s sl (by omega) v]
  have C8 : Ch [b] w (((W7.setCell ⟨b, 7 + sl, none⟩ (U k)).setCell ⟨b, 23 + sl, none⟩ (U v)).drew) := ((C7.setCell (p := ⟨b, 7 + sl, none⟩) (.inl (by simp)) _).setCell (p := ⟨b, 23 + sl, none⟩) (.inl (by simp)) _).drew
  generalize ((W7.setCell ⟨b, 7 + sl, none⟩ (U k)).setCell ⟨b, 23 + sl, none⟩ (U v)).drew = W8 at *
  obtain ⟨t3, ht3⟩ : ∃ t3 : Tab, t3 = { { t2 with k := fun i => if i = sl then k else t2.k i } with v := fun i => if i = sl then v else t2.v i } := ⟨_, rfl⟩
  rw [← ht3] at E8
  have hl3 : t3.live = t.live := by rw [ht3, HT2.out, HT.out]
  have l5 : -1000 ≤ t3.live := by rw [hl3]; exact hl0
  have l6 : t3.live ≤ 1000 := by rw [hl3]; exact hl1
  have HT3 := Lib.hid ht3
  have HL3 := Lib.hid hl3
  clear ht3 hl3 E7 k7 v7
  go_wp2
  go_ret
  refine ⟨rfl, C8.setCell (p := ⟨b, 4, none⟩) (.inl (by simp)) _, ?_⟩
  rw [zaa, if_pos rfl, E8, Option.map_some, zaf, hset_live t3 s (t3.live + 1), HL3.out]
  have hfin : fillT t s k v sl = { t3 with live := t.live + 1 } := by
    rw [HT3.out, HT2.out, HT.out, HS.out]
    unfold fillT
    have h1 : (8 * g + x) / 8 = g := by omega
    have h2' : (8 * g + x) % 8 = x := by omega
    simp only [h1, h2', HE.out, HH.out]
    simp
  rw [hfin]
end
structure OkT (t : Tab) (n : Nat) : Prop where
  c0 : ctrlOk (t.c 0) = true
  c1 : ctrlOk (t.c 1) = true
  can : -(n : Int) ≤ t.can ∧ t.can ≤ 14
  live : 0 ≤ t.live ∧ t.live ≤ 14 + (n : Int)
theorem ctrlOk_fill {c : BitVec 64} (h : ctrlOk c = true) (x : Nat) (hx : x < 8) (b : BitVec 8) (hb : b.toNat < 128) : ctrlOk (withB c x b) = true := by
  rw [ctrlOk_iff] at h ⊢
  intro n hn
  rw [byteAt_withB c x n b hx hn]
  by_cases he : n = x
  · rw [if_pos he]; exact .inl hb
  · rw [if_neg he]; exact h n hn
theorem hash2_lt (h : BitVec 64) : (hash2 h).toNat < 128 := by
  have := hash2_le h
  unfold N at this
  omega
theorem OkT.fill {t : Tab} {n : Nat} (h : OkT t n) (s k v : BitVec 64) (sl : Nat) (hs : sl < 16) : OkT (fillT t s k v sl) (n + 1) := by
  have hw : ∀ g, ctrlOk (t.c g) = true → g < 2 → ctrlOk ((fillT t s k v sl).c g) = true := fun g hg _ => by
    show ctrlOk (if g = sl / 8 then withB (t.c (sl / 8)) (sl % 8) (hash2 (hashOf s k)) else t.c g) = true
    by_cases he : g = sl / 8
    · rw [if_pos he, ← he]; exact ctrlOk_fill hg _ (by omega) _ (hash2_lt _)
    · rw [if_neg he]; exact hg
  refine ⟨hw 0 h.c0 (by omega), hw 1 h.c1 (by omega), ?_, ?_⟩
  · show -((n + 1 : Nat) : Int) ≤ (if emptyM (t.c (sl / 8)) &&& laneM (sl % 8) != 0#8 then t.can - 1 else t.can) ∧ (if emptyM (t.c (sl / 8)) &&& laneM (sl % 8) != 0#8 then t.can - 1 else t.can) ≤ 14
    have := h.can
    split <;> omega
  · show 0 ≤ t.live + 1 ∧ t.live + 1 ≤ 14 + ((n + 1 : Nat) : Int)
    have := h.live
    omega
theorem put_any (t : Tab) (n : Nat) (s k v : BitVec 64) (b : Nat) (w : World) (h : OkT t n) (hn : n ≤ 900) (hb : w.heap[b]? = some (.cells (hcells t s) 141 (0, 0))) :
    Calls Tryz.prog 134 #[.pointer (some ⟨b, 0, none⟩), U k, U v] w fun e w' => e = retOr (fun n : Nat => I n) (placeT t s k) ∧ Ch [b] w w' ∧
      ∀ sl, placeT t s k = .ok sl → w'.heap[b]? = some (.cells (hcells (fillT t s k v sl) s) 141 (0, 0)) := by
  cases hP : placeT t s k with
  | error c => exact (put_no t s k v c b w h.c0 h.c1 hP hb).mono fun e w' ⟨he, hc⟩ => ⟨he, hc.of_nil, fun sl hsl => by cases hsl⟩
  | ok sl =>
    obtain ⟨g, x, hsl, hg, hx, _, _, hfm, _⟩ := place_ok hP
    have h1 := h.can
    have h2 := h.live
    cases he : (emptyM (t.c g) &&& laneM x != 0#8)
    · exact (put_deleted t s k v sl g x b w h.c0 h.c1 hP hsl hg hx hfm (by omega) (by omega) he hb).mono fun e w' ⟨he, hc, hh⟩ => ⟨he, hc, fun sl' hsl' => by cases hsl'; exact hh⟩
    · exact (put_empty t s k v sl g x b w h.c0 h.c1 hP hsl hg hx hfm (by omega) (by omega) he hb).mono fun e w' ⟨he, hc, hh⟩ => ⟨he, hc, fun sl' hsl' => by cases hsl'; exact hh⟩
def foldE {σ α : Type} (f : σ → α → Except Int σ) : σ → List α → Except Int σ
  | t, [] => .ok t
  | t, p :: l => match f t p with
    | .error e => .error e
    | .ok t' => foldE f t' l
theorem foldE_err {σ α : Type} {f : σ → α → Except Int σ} {t : σ} {p : α} {l : List α} {e : Int} (h : f t p = .error e) : foldE f t (p :: l) = .error e := by rw [foldE, h]
theorem foldE_ok {σ α : Type} {f : σ → α → Except Int σ} {t t' : σ} {p : α} {l : List α} (h : f t p = .ok t') : foldE f t (p :: l) = foldE f t' l := by rw [foldE, h]
def stepT (s : BitVec 64) (t : Tab) (p : BitVec 64 × BitVec 64) : Except Int Tab := match placeT t s p.1 with
  | .error e => .error e
  | .ok sl => .ok (fillT t s p.1 p.2 sl)
theorem stepT_err {s : BitVec 64} {t : Tab} {p : BitVec 64 × BitVec 64} {e : Int} (h : placeT t s p.1 = .error e) : stepT s t p = .error e := by rw [stepT, h]
theorem stepT_ok {s : BitVec 64} {t : Tab} {p : BitVec 64 × BitVec 64} {sl : Nat} (h : placeT t s p.1 = .ok sl) : stepT s t p = .ok (fillT t s p.1 p.2 sl) := by rw [stepT, h]
def laidT (s : BitVec 64) (t : Tab) (l : List (BitVec 64 × BitVec 64)) : Except Int Tab := foldE (stepT s) t l
theorem laidT_err {s : BitVec 64} {t : Tab} {p : BitVec 64 × BitVec 64} {l : List (BitVec 64 × BitVec 64)} {e : Int} (h : placeT t s p.1 = .error e) : laidT s t (p :: l) = .error e := foldE_err (stepT_err h)
theorem laidT_ok {s : BitVec 64} {t : Tab} {p : BitVec 64 × BitVec 64} {l : List (BitVec 64 × BitVec 64)} {sl : Nat} (h : placeT t s p.1 = .ok sl) : laidT s t (p :: l) = laidT s (fillT t s p.1 p.2 sl) l := foldE_ok (stepT_ok h)
theorem laidT_nil {s : BitVec 64} {t : Tab} : laidT s t [] = .ok t := rfl
section
attribute [local go_sem] loadA loadT2 storeA storeT2 buildA_ts buildA_sm zdd make_func zda zcd acells_get zcz acells_one t2cells_one zcy acells_all t2cells_all t2cells_l t2cells_r
attribute [local go_sem ↓] lrowA lrowT2 srowA srowT2 browA zeroA_run zeroT2_run
attribute [local go_sem] Oper.semAt_some zao zbq
attribute [local go_sem] box26 zcb cell0 cell1 cell2 cell3 cell4 zcn zcm
attribute [local go_sem] cell5 cell6
theorem may_ok {t : Tab} {s : BitVec 64} (h : mayT t s = true) : ctrlOk (t.c 0) = true ∧ ctrlOk (t.c 1) = true := by
  rw [mayT] at h
  simp only [Bool.and_eq_true] at h
  exact h.1.1.1.2
end
section
attribute [local go_sem] loadA loadT2 storeA storeT2 buildA_ts buildA_sm zdd make_func zda zcd acells_get zcz acells_one t2cells_one zcy acells_all t2cells_all t2cells_l t2cells_r
attribute [local go_sem ↓] lrowA lrowT2 srowA srowT2 browA zeroA_run zeroT2_run
attribute [local go_sem] Oper.semAt_some zao zbq
attribute [local go_sem] box26 zcb cell0 cell1 cell2 cell3 cell4 zcn zcm
attribute [local go_sem] cell5 cell6
def ifMay {α : Type} (t : Tab) (s : BitVec 64) (r : Except Int α) : Except Int α := if mayT t s then r else .error 270
def placeV (r : Except Int Nat) : Value := match r with
  | .ok n => .tuple #[I n, I 0]
  | .error c => .tuple #[I 0, I c]
theorem acells_idx (a : At) (i : Nat) (h : i < (acells a).size) : (acells a)[i] = if i = 39 then I a.slot else if i = 40 then I a.many else a.t.cell i := by simp [acells]
attribute [local go_sem] acells_idx
end
section
attribute [local go_sem] loadA loadT2 storeA storeT2 buildA_ts buildA_sm zdd make_func zda zcd acells_get zcz acells_one t2cells_one zcy acells_all t2cells_all t2cells_l t2cells_r
attribute [local go_sem ↓] lrowA lrowT2 srowA srowT2 browA zeroA_run zeroT2_run
attribute [local go_sem] Oper.semAt_some zao zbq
attribute [local go_sem] box26 zcb cell0 cell1 cell2 cell3 cell4 zcn zcm
attribute [local go_sem] cell5 cell6 acells_idx
attribute [local go_sem high] zco
theorem laidAt_a (a b : At) (T : TypeId) (fr : Nat × Nat) : laidAt 0 (acells b) (.cells (acells a) T fr) = .cells (acells b) T fr := by
  rw [zak, laid_whole _ _ (by rw [zda, zda])]
attribute [local go_sem high] laidAt_a
def putA (t : Tab) (s k v : BitVec 64) : Except Int At := (placeT t s k).map fun sl => ⟨fillT t s k v sl, sl, 0⟩
theorem may_okT {t : Tab} {s : BitVec 64} (h : mayT t s = true) : OkT t 0 := by
  obtain ⟨h0, h1⟩ := may_ok h
  rw [mayT] at h
  simp only [Bool.and_eq_true, beq_iff_eq] at h
  obtain ⟨⟨⟨⟨hf, _⟩, _⟩, hl⟩, hc⟩ := h
  have := slots_len t
  refine ⟨h0, h1, ?_, ?_⟩ <;> (rw [flatT] at hf; simp only [Bool.and_eq_true, decide_eq_true_eq] at hf; omega)
end
end Go.Proofs.Hc
