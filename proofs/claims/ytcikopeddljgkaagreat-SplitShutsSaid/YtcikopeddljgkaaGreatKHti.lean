/- Package table: a key that is put in a slot, that was empty. -/
import Derived.Test.YtcikopeddljgkaaGreatKHtf
import Derived.Test.YtcikopeddljgkaaGreatKHtv
import Derived.Test.YtcikopeddljgkaaGreatK0
set_option linter.unusedSimpArgs false
set_option linter.unusedVariables false
set_option maxHeartbeats 2000000
set_option maxRecDepth 100000
namespace Go.Proofs.Hc
open Go.RowKit
attribute [local go_sem] zbr zby zau zba zbl zay zbk zbm zbu signed64 signed8 zas BitVec.ofInt_add BitVec.ofInt_mul ofInt_sub' zaw zax wide8 eqN neN zbx shr1 shr7 shr56
attribute [local go_sem high] zaz zbt
attribute [local go_sem] zan zbv zae zal zad zbd zao zag zbj zaj zbc zbe
attribute [local go_sem] load26 load73 load23 store26 build73
attribute [local go_sem ↓] lrow26 lrow73 lrow23 srow26 zero26 brow73 zab zav zbb zaa zac
attribute [local go_sem] zah zaq zat zbf zbg zbp zam zar zbq zbi zbh
attribute [local go_sem] nn2 nm2 nn3 nm3 nn4 nm4 nn5 nm5 nn6 nm6 nn7 nm7 nn8 nm8
section
attribute [local go_sem] Oper.semAt_some zak zbo
attribute [local go_sem] box26 zbz cell0 cell1 cell2 cell3 cell4 zcb zca
attribute [local go_sem] cell5 cell6
theorem put_empty (t : Tab) (s k v : BitVec 64) (sl g x b : Nat) (w : World) (hok0 : ctrlOk (t.c 0) = true) (hok1 : ctrlOk (t.c 1) = true) (hP : placeT t s k = .ok sl) (hsl : sl = 8 * g + x) (hg : g < 2) (hx : x < 8)
    (hfm : (freeM (t.c g)).getLsbD x = true) (hcan : -1000 ≤ t.can ∧ t.can ≤ 1000) (hlive : -1000 ≤ t.live ∧ t.live ≤ 1000) (he : (emptyM (t.c g) &&& laneM x != 0#8) = true) (hb : w.heap[b]? = some (.cells (hcells t s) 141 (0, 0))) :
    Calls Tryz.prog 134 #[.pointer (some ⟨b, 0, none⟩), U k, U v] w fun e w' => e = .returned (I sl) ∧ Ch [b] w w' ∧ w'.heap[b]? = some (.cells (hcells (fillT t s k v sl) s) 141 (0, 0)) := by
  have P1 := place_any t s k b w hok0 hok1 hb
  rw [hP] at P1
  have hokg := pick_ok t g hg hok0 hok1
  have S1 := fun w => sets_ok (t.c g) hokg w
  obtain ⟨h2, hh2⟩ : ∃ h2, hash2 (hashOf s k) = h2 := ⟨_, rfl⟩
  have hle := hash2_le (hashOf s k)
  rw [hh2] at hle
  have H2 : ∀ (t1 : Tab) (w : World), w.heap[b]? = some (.cells (hcells t1 s) 141 (0, 0)) → Calls Tryz.prog 169 #[.pointer (some ⟨b, 0, none⟩), U k] w fun e w' => e = .returned (Y h2) ∧ w = w' := fun t1 w hb => by rw [← hh2]; exact h2_any b t1 s k w hb
  have HH := Lib.hid hh2
  clear hh2
  have F1 := fun w => fill_ok (t.c g) x h2 hx hle (free_notfull hx hfm) hokg w
  have hc5 := hcells_ctrl_at t s g hg
  have hq : (sl : Int) / 8 = (g : Int) := by omega
  have hr : (sl : Int) % 8 = (x : Int) := by omega
  have hsl0 : (0 : Int) ≤ (sl : Int) := by omega
  have hsl1 : (sl : Int) < 16 := by omega
  have hg0 : (0 : Int) ≤ (g : Int) := by omega
  have hg1 : (g : Int) < 2 := by omega
  have hx0 : (0 : Int) ≤ (x : Int) := by omega
  have hx1 : (x : Int) < 8 := by omega
  have F2 : ∀ w, Calls Tryz.prog 211 #[U (t.c g), .int .i64 ((sl : Int) % 8), Y h2] w fun e w' => e = .returned (.tuple #[U (withB (t.c g) x h2), I 0]) ∧ Ch [] w w' := fun w => by rw [hr]; exact F1 w
  have hnw : (N (emptyM (t.c g) &&& laneM x) != 0) = (emptyM (t.c g) &&& laneM x != 0#8) := by rw [← neN]; rfl
  have HS := Lib.hid hsl
  have HC := Lib.hid hcan
  have HL := Lib.hid hlive
  obtain ⟨hcan0, hcan1⟩ := hcan
  obtain ⟨hl0, hl1⟩ := hlive
  clear hok0 hok1 hP hsl hfm hokg
  rw [he] at hnw
  have HE := Lib.hid he
  clear he
  go_enter Tryz.func134, Tryz.ntmps134
  go_wp2_with (first
    | (go_at_call 210; refine P1.mono ?_; rintro e w1 ⟨rfl, hc1⟩; simp only [retOr]; have d1 := hkeep hc1 hb)
    | (go_at_call 166; refine (S1 _).mono ?_; rintro e w2 ⟨rfl, hc2⟩; have d2 := hkeep hc2 d1))
  obtain ⟨t1, ht1⟩ : ∃ t1 : Tab, t1 = { t with can := t.can - 1 } := ⟨_, rfl⟩
  have E1 : (w2.setCell ⟨b, 3, none⟩ (.int .i64 (t.can - 1))).heap[b]? = some (.cells (hcells t1 s) 141 (0, 0)) := by
    rw [zaa, if_pos rfl, d2, Option.map_some, zad, ht1]
    exact congrArg (fun c => some (Obj.cells c 141 (0, 0))) (hset_can t s (t.can - 1))
  have C1 : Ch [b] w (w2.setCell ⟨b, 3, none⟩ (.int .i64 (t.can - 1))) := ((hc1.trans hc2).of_nil).setCell (p := ⟨b, 3, none⟩) (.inl (by simp)) _
  have c5 : (hcells t1 s)[5 + g]? = some (U (t.c g)) := by rw [ht1]; exact hcells_ctrl_at _ s g hg
  have HT := Lib.hid ht1
  clear ht1 d1 d2 hc1 hc2 hb hc5 P1 S1
  generalize w2.setCell ⟨b, 3, none⟩ (.int .i64 (t.can - 1)) = W3 at *
  have hgb : ∀ q : Gar W3, (q.1).heap[b]? = some (.cells (hcells t1 s) 141 (0, 0)) := fun q => hkeep q.2 E1
  have HG : ∀ q : Gar W3, Calls Tryz.prog 169 #[.pointer (some ⟨b, 0, none⟩), U k] q.1 fun e w' => e = .returned (Y h2) ∧ q.1 = w' := fun q => H2 t1 q.1 (hgb q)
  clear H2
  refine zcn 14 (by kernel_rfl) (by kernel_rfl) ?_
  simp only [List.take_succ_cons, List.take_zero, List.drop_succ_cons, List.drop_zero]
  repeat (go_big_quiet_step ((first | (go_at_call 169; exact garL (HG _)) | (go_at_call 211; with_reducible exact garC (F2 _)) | (go_at_call 211; with_reducible exact garC (F1 _)) | (go_at_call 137; exact garL (surew_yes _ _)))))
  refine wpQuiet_nil ?_
  rintro W6 ⟨g6, hw6⟩
  have hc6 : Ch [] W3 W6 := by rw [hw6]; exact g6.2
  clear hw6 g6 hgb HG
  have e6 := hkeep hc6 E1
  go_wp2
  have E7 : (W6.setCell ⟨b, 5 + g, none⟩ (U (withB (t.c g) x h2))).heap[b]? = some (.cells (hcells { t1 with c := fun i => if i = g then withB (t.c g) x h2 else t1.c i } s) 141 (0, 0)) := by
    rw [zaa, if_pos rfl, e6, Option.map_some, zad, hset_ctrl t1 s g hg]
  have C7 : Ch [b] w (W6.setCell ⟨b, 5 + g, none⟩ (U (withB (t.c g) x h2))) := (C1.pure hc6).setCell (p := ⟨b, 5 + g, none⟩) (.inl (by simp)) _
  generalize W6.setCell ⟨b, 5 + g, none⟩ (U (withB (t.c g) x h2)) = W7 at *
  have H7 := Lib.hid E7
  obtain ⟨t2, ht2⟩ : ∃ t2 : Tab, t2 = { t1 with c := fun i => if i = g then withB (t.c g) x h2 else t1.c i } := ⟨_, rfl⟩
  rw [← ht2] at E7
  have HT2 := Lib.hid ht2
  clear ht2 H7 e6 hc6 E1
  have k7 := hcells_key t2 s sl (by omega)
  have v7 := hcells_val t2 s sl (by omega)
  refine wp_region_held_drew (S := fun _ => True) (by kernel_rfl) trivial ?_
  intro _
  simp only [List.size_toArray, List.length_cons, List.length_nil, Nat.reduceAdd]
  refine tn 0 ?_ rfl trivial ?_ ?_; rotate_left
  · intro _ _; go_simp; try with_reducible rfl
  try go_frame
  refine tn 1 ?_ rfl trivial ?_ ?_; rotate_left
  · intro _ _; go_simp; try with_reducible rfl
  try go_frame
  refine tn 2 ?_ rfl trivial ?_ ?_; rotate_left
  · intro _ _; go_simp; try with_reducible rfl
  try go_frame
  refine tn 3 ?_ rfl trivial ?_ ?_; rotate_left
  · intro _ _; go_simp; try with_reducible rfl
  try go_frame
  refine tn 4 ?_ rfl trivial ?_ ?_; rotate_left
  · intro _ _; go_simp; try with_reducible rfl
  try go_frame
  refine tn 5 ?_ rfl trivial ?_ ?_; rotate_left
  · intro _ _; go_simp; try with_reducible rfl
  try go_frame
  refine tn 6 ?_ rfl trivial ?_ ?_; rotate_left
  · intro _ _; go_simp; try with_reducible rfl
  try go_frame
  refine tn 7 ?_ rfl trivial ?_ ?_; rotate_left
  · intro _ _; go_simp; try with_reducible rfl
  try go_frame
  refine tn 8 ?_ rfl trivial ?_ ?_; rotate_left
  · intro _ _; go_simp; try with_reducible rfl
  try go_frame
  refine tn 9 ?_ rfl trivial ?_ ?_; rotate_left
  · intro _ _; go_simp; try with_reducible rfl
  try go_frame
  refine tn 11 ?_ rfl trivial ?_ ?_; rotate_left
  · intro _ _; go_simp; try with_reducible rfl
  try go_frame
  refine tn 12 ?_ rfl trivial ?_ ?_; rotate_left
  · intro _ _; go_simp; try with_reducible rfl
  try go_frame
  refine tn 13 ?_ rfl trivial ?_ ?_; rotate_left
  · intro _ _; go_simp; try with_reducible rfl
  try go_frame
  refine rd 10 rfl (fun K hK => ?_); go_simp
  refine hK.out _ _ trivial (fun hS2 => ?_)
  refine tn 14 ?_ rfl trivial ?_ ?_; rotate_left
  · intro _ _; go_simp; try with_reducible rfl
  try go_frame
  refine wpAnyH_ready (rs := [15]) (by kernel_rfl) (by simp) ?_
  refine AllReadyH.cons rfl (fun K2 hK2 => ?_) AllReadyH.nil
  go_simp
  refine hK2.out _ _ trivial (fun hS2 => ?_)
  refine wpAnyH_done (by kernel_rfl) ?_ _
  have E8 : (((W7.setCell ⟨b, 7 + sl, none⟩ (U k)).setCell ⟨b, 23 + sl, none⟩ (U v)).drew).heap[b]? = some (.cells (hcells { { t2 with k := fun i => if i = sl then k else t2.k i } with v := fun i => if i = sl then v else t2.v i } s) 141 (0, 0)) := by
    rw [zav, zaa, if_pos rfl, zaa, if_pos rfl, E7, Option.map_some, zad, hset_key t2 s sl (by omega) k, Option.map_some, zad, hset_val _ s sl (by omega) v]
  have C8 : Ch [b] w (((W7.setCell ⟨b, 7 + sl, none⟩ (U k)).setCell ⟨b, 23 + sl, none⟩ (U v)).drew) := ((C7.setCell (p := ⟨b, 7 + sl, none⟩) (.inl (by simp)) _).setCell (p := ⟨b, 23 + sl, none⟩) (.inl (by simp)) _).drew
  generalize ((W7.setCell ⟨b, 7 + sl, none⟩ (U k)).setCell ⟨b, 23 + sl, none⟩ (U v)).drew = W8 at *
  obtain ⟨t3, ht3⟩ : ∃ t3 : Tab, t3 = { { t2 with k := fun i => if i = sl then k else t2.k i } with v := fun i => if i = sl then v else t2.v i } := ⟨_, rfl⟩
  rw [← ht3] at E8
  have hl3 : t3.live = t.live := by rw [ht3, HT2.out, HT.out]
  have l5 : -1000 ≤ t3.live := by rw [hl3]; exact hl0
  have l6 : t3.live ≤ 1000 := by rw [hl3]; exact hl1
  have HT3 := Lib.hid ht3
  have HL3 := Lib.hid hl3
  clear ht3 hl3 E7 k7 v7
  go_wp2
  go_ret
  refine ⟨rfl, C8.setCell (p := ⟨b, 4, none⟩) (.inl (by simp)) _, ?_⟩
  rw [zaa, if_pos rfl, E8, Option.map_some, zad, hset_live t3 s (t3.live + 1), HL3.out]
  have hfin : fillT t s k v sl = { t3 with live := t.live + 1 } := by
    rw [HT3.out, HT2.out, HT.out, HS.out]
    unfold fillT
    have h1 : (8 * g + x) / 8 = g := by omega
    have h2' : (8 * g + x) % 8 = x := by omega
    simp only [h1, h2', HE.out, HH.out]
    simp
  rw [hfin]
end
structure OkT (t : Tab) (n : Nat) : Prop where
  c0 : ctrlOk (t.c 0) = true
  c1 : ctrlOk (t.c 1) = true
  can : -(n : Int) ≤ t.can ∧ t.can ≤ 14
  live : 0 ≤ t.live ∧ t.live ≤ 14 + (n : Int)
theorem ctrlOk_fill {c : BitVec 64} (h : ctrlOk c = true) (x : Nat) (hx : x < 8) (b : BitVec 8) (hb : b.toNat < 128) : ctrlOk (withB c x b) = true := by
  rw [ctrlOk_iff] at h ⊢
  intro n hn
  rw [byteAt_withB c x n b hx hn]
  by_cases he : n = x
  · rw [if_pos he]; exact .inl hb
  · rw [if_neg he]; exact h n hn
theorem hash2_lt (h : BitVec 64) : (hash2 h).toNat < 128 := by
  have := hash2_le h
  unfold N at this
  omega
theorem OkT.fill {t : Tab} {n : Nat} (h : OkT t n) (s k v : BitVec 64) (sl : Nat) (hs : sl < 16) : OkT (fillT t s k v sl) (n + 1) := by
  have hw : ∀ g, ctrlOk (t.c g) = true → g < 2 → ctrlOk ((fillT t s k v sl).c g) = true := fun g hg _ => by
    show ctrlOk (if g = sl / 8 then withB (t.c (sl / 8)) (sl % 8) (hash2 (hashOf s k)) else t.c g) = true
    by_cases he : g = sl / 8
    · rw [if_pos he, ← he]; exact ctrlOk_fill hg _ (by omega) _ (hash2_lt _)
    · rw [if_neg he]; exact hg
  refine ⟨hw 0 h.c0 (by omega), hw 1 h.c1 (by omega), ?_, ?_⟩
  · show -((n + 1 : Nat) : Int) ≤ (if emptyM (t.c (sl / 8)) &&& laneM (sl % 8) != 0#8 then t.can - 1 else t.can) ∧ (if emptyM (t.c (sl / 8)) &&& laneM (sl % 8) != 0#8 then t.can - 1 else t.can) ≤ 14
    have := h.can
    split <;> omega
  · show 0 ≤ t.live + 1 ∧ t.live + 1 ≤ 14 + ((n + 1 : Nat) : Int)
    have := h.live
    omega
theorem put_any (t : Tab) (n : Nat) (s k v : BitVec 64) (b : Nat) (w : World) (h : OkT t n) (hn : n ≤ 900) (hb : w.heap[b]? = some (.cells (hcells t s) 141 (0, 0))) :
    Calls Tryz.prog 134 #[.pointer (some ⟨b, 0, none⟩), U k, U v] w fun e w' => e = retOr (fun n : Nat => I n) (placeT t s k) ∧ Ch [b] w w' ∧
      ∀ sl, placeT t s k = .ok sl → w'.heap[b]? = some (.cells (hcells (fillT t s k v sl) s) 141 (0, 0)) := by
  cases hP : placeT t s k with
  | error c => exact (put_no t s k v c b w h.c0 h.c1 hP hb).mono fun e w' ⟨he, hc⟩ => ⟨he, hc.of_nil, fun sl hsl => by cases hsl⟩
  | ok sl =>
    obtain ⟨g, x, hsl, hg, hx, _, _, hfm, _⟩ := place_ok hP
    have h1 := h.can
    have h2 := h.live
    cases he : (emptyM (t.c g) &&& laneM x != 0#8)
    · exact (put_deleted t s k v sl g x b w h.c0 h.c1 hP hsl hg hx hfm (by omega) (by omega) he hb).mono fun e w' ⟨he, hc, hh⟩ => ⟨he, hc, fun sl' hsl' => by cases hsl'; exact hh⟩
    · exact (put_empty t s k v sl g x b w h.c0 h.c1 hP hsl hg hx hfm (by omega) (by omega) he hb).mono fun e w' ⟨he, hc, hh⟩ => ⟨he, hc, fun sl' hsl' => by cases hsl'; exact hh⟩
def foldE {σ α : Type} (f : σ → α → Except Int σ) : σ → List α → Except Int σ
  | t, [] => .ok t
  | t, p :: l => match f t p with
    | .error e => .error e
    | .ok t' => foldE f t' l
theorem foldE_err {σ α : Type} {f : σ → α → Except Int σ} {t : σ} {p : α} {l : List α} {e : Int} (h : f t p = .error e) : foldE f t (p :: l) = .error e := by rw [foldE, h]
theorem foldE_ok {σ α : Type} {f : σ → α → Except Int σ} {t t' : σ} {p : α} {l : List α} (h : f t p = .ok t') : foldE f t (p :: l) = foldE f t' l := by rw [foldE, h]
def stepT (s : BitVec 64) (t : Tab) (p : BitVec 64 × BitVec 64) : Except Int Tab := match placeT t s p.1 with
  | .error e => .error e
  | .ok sl => .ok (fillT t s p.1 p.2 sl)
theorem stepT_err {s : BitVec 64} {t : Tab} {p : BitVec 64 × BitVec 64} {e : Int} (h : placeT t s p.1 = .error e) : stepT s t p = .error e := by rw [stepT, h]
theorem stepT_ok {s : BitVec 64} {t : Tab} {p : BitVec 64 × BitVec 64} {sl : Nat} (h : placeT t s p.1 = .ok sl) : stepT s t p = .ok (fillT t s p.1 p.2 sl) := by rw [stepT, h]
def laidT (s : BitVec 64) (t : Tab) (l : List (BitVec 64 × BitVec 64)) : Except Int Tab := foldE (stepT s) t l
theorem laidT_err {s : BitVec 64} {t : Tab} {p : BitVec 64 × BitVec 64} {l : List (BitVec 64 × BitVec 64)} {e : Int} (h : placeT t s p.1 = .error e) : laidT s t (p :: l) = .error e := foldE_err (stepT_err h)
theorem laidT_ok {s : BitVec 64} {t : Tab} {p : BitVec 64 × BitVec 64} {l : List (BitVec 64 × BitVec 64)} {sl : Nat} (h : placeT t s p.1 = .ok sl) : laidT s t (p :: l) = laidT s (fillT t s p.1 p.2 sl) l := foldE_ok (stepT_ok h)
theorem laidT_nil {s : BitVec 64} {t : Tab} : laidT s t [] = .ok t := rfl
section
attribute [local go_sem] Oper.semAt_some zak zbo
attribute [local go_sem] box26 zbz cell0 cell1 cell2 cell3 cell4 zcb zca
attribute [local go_sem] cell5 cell6
theorem loadP (g o : Nat) (w : World) : (loadRow 31 ⟨g, o, none⟩).run Tryz.prog w = rowRes Tryz.prog 31 g o w ((w.heap[g]?).bind (rowAt o 2)) :=
  run_row Tryz.underlying31 rfl (by kernel_rfl) g o w
theorem storeP (g o : Nat) (vs : Array Value) (w : World) : (storeRow 31 ⟨g, o, none⟩ (.agg vs)).run Tryz.prog w = layRes Tryz.prog 31 g o vs w (((w.heap[g]?).map (canLay o 2 vs)).getD false) :=
  run_lay (by kernel_rfl) g o vs w
theorem lrowP (a : Addr) : loadVar 31 a = loadRow 31 a := rfl
theorem srowP (a : Addr) (v : Value) : storeVar 31 a v = storeRow 31 a v := rfl
theorem zeroP (w : World) : (zeroValue 31).run Tryz.prog w = .ok (.agg #[U 0#64, U 0#64]) w := by kernel_rfl
def PairsAt (cur : Array Value) (l : List (BitVec 64 × BitVec 64)) : Prop := ∀ (i : Nat) (p : BitVec 64 × BitVec 64), l[i]? = some p → rowAt (2 * i) 2 (.cells cur 31 (0, 0)) = some #[U p.1, U p.2]
theorem pcells_at : ∀ (l : List (BitVec 64 × BitVec 64)) (i : Nat) (p : BitVec 64 × BitVec 64), l[i]? = some p → (pcells l)[2 * i]? = some (U p.1) ∧ (pcells l)[2 * i + 1]? = some (U p.2)
  | [], i, p, h => by cases h
  | q :: l, 0, p, h => by
    have : q = p := by simpa using h
    subst this; exact ⟨rfl, rfl⟩
  | q :: l, i + 1, p, h => by
    have := pcells_at l i p (by simpa using h)
    have e : pcells (q :: l) = U q.1 :: U q.2 :: pcells l := rfl
    rw [e, show 2 * (i + 1) = 2 * i + 1 + 1 by omega]
    simpa using this
theorem pairs_at {W : World} {base n : Nat} {a : Option Addr} {c : Nat} {l : List (BitVec 64 × BitVec 64)} (hn : n = l.length) (h : W.ownsRow base 31 2 (.slice a n c) n (pcells l)) :
    ∃ cur, PairsAt cur l ∧ (0 < l.length → ∃ r, a = some ⟨r, 0, none⟩) ∧ ∀ r, a = some ⟨r, 0, none⟩ → base ≤ r ∧ W.heap[r]? = some (.cells cur 31 (0, 0)) := by
  subst hn
  obtain ⟨_, ⟨hv, h0⟩ | ⟨g, cap, cur, hv, hg, hW, hle, _, hsz, hx⟩⟩ := h
  · refine ⟨#[], fun i p hp => ?_, fun hl => by omega, fun r hr => by rw [hr] at hv; simp at hv⟩
    have := (List.getElem?_eq_some_iff.1 hp).1
    omega
  · refine ⟨cur, fun i p hp => ?_, fun _ => ⟨g, by simp only [Value.slice.injEq] at hv; exact hv.1⟩, fun r hr => ?_⟩
    · have hi := (List.getElem?_eq_some_iff.1 hp).1
      obtain ⟨h1, h2⟩ := pcells_at l i p hp
      rw [← hx, List.getElem?_take] at h1 h2
      rw [if_pos (by omega)] at h1 h2
      have h1' : cur[2 * i]? = some (U p.1) := by simpa using h1
      have h2' : cur[2 * i + 1]? = some (U p.2) := by simpa using h2
      rw [zbd, if_pos (by omega)]
      congr 1
      apply Array.ext_getElem?
      intro j
      rw [Array.getElem?_extract]
      match j with
      | 0 => rw [if_pos (by omega)]; simpa using h1'
      | 1 => rw [if_pos (by omega)]; simpa using h2'
      | j + 2 => rw [if_neg (by omega)]; simp
    · rw [hr] at hv
      simp only [Value.slice.injEq] at hv
      have hrg : r = g := by simpa using hv.1
      subst hrg
      exact ⟨hg, hW⟩
theorem allOne_pair (x y : BitVec 64) : allOne #[U x, U y] = true := by simp [allOne, Value.oneCell']
theorem laidAt_p (a b c d : Value) (T : TypeId) (fr : Nat × Nat) : laidAt 0 #[a, b] (.cells #[c, d] T fr) = .cells #[a, b] T fr := by
  have h := zdf (#[a, b] : Array Value) #[c, d] rfl
  show Obj.cells (((#[c, d] : Array Value).extract 0 0 ++ #[a, b]) ++ (#[c, d] : Array Value).extract (0 + (#[a, b] : Array Value).size) (#[c, d] : Array Value).size) T fr = _
  rw [h]
attribute [local go_sem] loadP storeP allOne_pair
attribute [local go_sem high] laidAt_p
attribute [local go_sem high] laidAt_t
attribute [local go_sem ↓] lrowP srowP zeroP
theorem drop_one {α : Type} {l : List α} {m : Nat} (h : m < l.length) : ∃ p, l[m]? = some p ∧ l.drop m = p :: l.drop (m + 1) :=
  ⟨l[m]'h, List.getElem?_eq_getElem h, List.drop_eq_getElem_cons h⟩
theorem laid_walk (t t0 : Tab) (s : BitVec 64) (l : List (BitVec 64 × BitVec 64)) (n : Nat) (a : Option Addr) (c : Nat) (cur : Array Value) (b : Nat) (w : World) (hok : OkT t0 n) (hn : n + l.length ≤ 900)
    (hb : w.heap[b]? = some (.cells (hcells t s) 141 (0, 0))) (hp : PairsAt cur l) (ha : 0 < l.length → ∃ r, a = some ⟨r, 0, none⟩) (hr : ∀ r, a = some ⟨r, 0, none⟩ → w.heap[r]? = some (.cells cur 31 (0, 0))) :
    Calls Tryz.prog 78 #[.pointer (some ⟨b, 0, none⟩), .agg (tcells t0), .slice a l.length c] w fun e w' => e = retOr (fun x => .agg (tcells x)) (laidT s t0 l) ∧ Ch [] w w' := by
  have hbl := (Array.getElem?_eq_some_iff.1 hb).1
  have hs39 : (hcells t s)[39]? = some (U s) := by rw [zbf]; rfl
  obtain ⟨W0, hW0⟩ : ∃ W0, (w.alloc (.cells (tcells t0) 26)).alloc (.cells (tcells zeroT) 26) = W0 := ⟨_, rfl⟩
  have hC0 : Ch [] w W0 := by rw [← hW0]; exact ((Ch.refl [] w).alloc _).alloc _
  have hs0 : W0.heap.size = w.heap.size + 1 + 1 := by rw [← hW0]; simp
  have b0 : W0.heap[w.heap.size]? = some (.cells (tcells t0) 26 (0, 0)) := by rw [← hW0]; simp [go_sem]
  have b1 : W0.heap[w.heap.size + 1]? = some (.cells (tcells zeroT) 26 (0, 0)) := by rw [← hW0]; simp [go_sem]
  have bb := hkeep hC0 hb
  have hg0 : ∀ q : Gar W0, (q.1).heap[w.heap.size]? = some (.cells (tcells t0) 26 (0, 0)) := fun q => hkeep q.2 b0
  have hg1 : ∀ q : Gar W0, (q.1).heap[b]? = some (.cells (hcells t s) 141 (0, 0)) := fun q => hkeep q.2 bb
  have HR := Lib.hid hr
  have HA := Lib.hid ha
  have HP := Lib.hid hp
  clear hr ha hp hb
  go_enter Tryz.func78, Tryz.ntmps78
  go_wp2
  refine zcn 6 (by kernel_rfl) (by kernel_rfl) ?_
  simp only [List.take_succ_cons, List.take_zero, List.drop_succ_cons, List.drop_zero]
  repeat (go_big_quiet_step (fail))
  refine wpQuiet_nil ?_
  rintro W6 ⟨g6, hw6⟩
  have hc6 : Ch [] W0 W6 := by rw [hw6]; exact g6.2
  clear hw6 g6 hg0 hg1
  have d1 := hkeep hc6 b1
  go_wp2
  have hX : w.heap.size + 1 < W6.heap.size := by have := hc6.size; omega
  have hbX : b < W6.heap.size := by omega
  obtain ⟨X, hXe⟩ : ∃ X, W6.heap.size = X := ⟨_, rfl⟩
  obtain ⟨Wb, hWb⟩ : ∃ Wb, W6.alloc (.cells (hcells t0 s) 141) = Wb := ⟨_, rfl⟩
  have eX : Wb.heap[X]? = some (.cells (hcells t0 s) 141 (0, 0)) := by rw [← hWb, zab, if_pos hXe.symm]
  have hCb : Ch [] W6 Wb := by rw [← hWb]; exact (Ch.refl [] W6).alloc _
  have e1 := hkeep hCb d1
  have hCw : Ch [] w Wb := (hC0.trans hc6).trans hCb
  rw [hWb, hXe]
  rw [hXe] at hX hbX
  have HX := Lib.hid hXe
  clear hWb hXe d1 hCb b0 b1 bb hs0 hs39 hW0
  go_loopw [22] (fun i wr => ∃ (m : Nat) (tm : Tab), i = .int .i64 m ∧ m ≤ l.length ∧ OkT tm (n + m) ∧ laidT s t0 l = laidT s tm (l.drop m) ∧ wr.heap[X]? = some (.cells (hcells tm s) 141 (0, 0)) ∧ Ch [X] Wb wr) (fun i _ => l.length - (intOf i).toNat)
  case atStart => exact ⟨0, t0, rfl, Nat.zero_le _, hok, rfl, eX, Ch.refl _ _⟩
  case round =>
    obtain ⟨m, tm, hm, hml, hokm, hlaid, hxm, hcm⟩ := hrel
    subst hm
    have HL := Lib.hid hlaid
    clear hlaid eX
    rcases Nat.lt_or_ge m l.length with hlt | hge
    · obtain ⟨r, hra⟩ := HA.out (by omega)
      obtain ⟨p, hpm, hdrop⟩ := drop_one hlt
      have hrow := HP.out m p hpm
      have hrow' : rowAt (m * 2) 2 (.cells cur 31 (0, 0)) = some #[U p.1, U p.2] := by rw [Nat.mul_comm]; exact hrow
      subst hra
      have hrr : wr.heap[r]? = some (.cells cur 31 (0, 0)) := by
        have h1 := HR.out r rfl
        have h2 := hkeep hCw h1
        exact hkeepS hcm (by have := (Array.getElem?_eq_some_iff.1 h1).1; simp; omega) h2
      have hdec : decide (m < l.length) = true := by simpa using hlt
      have hne : ¬ X = wr.heap.size := by have := (Array.getElem?_eq_some_iff.1 hxm).1; omega
      have hne2 : ¬ r = wr.heap.size := by have := (Array.getElem?_eq_some_iff.1 hrr).1; omega
      have HXM := Lib.hid hxm
      have HD := Lib.hid hdrop
      clear hdrop hpm
      have P1 := fun (w : World) hb => put_any tm (n + m) s p.1 p.2 X w hokm (by omega) hb
      go_wp2_with fail
      cases hP : placeT tm s p.1 with
      | error e0 =>
        have HPP := Lib.hid hP
        rw [hP] at P1
        clear hP
        refine (P1 _ ?_).mono ?_
        · simp [go_sem, hne, HXM.out]
        · rintro e w2 ⟨rfl, hc2, _⟩
          simp only [retOr]
          have hc2' : Ch [X] Wb w2 := ((hcm.alloc (.cells #[U 0#64, U 0#64] 31)).onObj (.inr (by have := hcm.size; exact this)) _).trans hc2
          exact ⟨rfl, by rw [HL.out, HD.out, laidT_err HPP.out]; rfl, hCw.trans2 hc2' (by simp; omega)⟩
      | ok sl =>
        have HPP := Lib.hid hP
        have hfill := hokm.fill s p.1 p.2 sl (by obtain ⟨g, x, hsl, hg, hx, _⟩ := place_ok hP; omega)
        rw [hP] at P1
        clear hP
        refine (P1 _ ?_).mono ?_
        · simp [go_sem, hne, HXM.out]
        · rintro e w2 ⟨rfl, hc2, hh⟩
          have hx2 := hh sl rfl
          clear hh
          simp only [retOr]
          go_wp2
          go_roundw
          case rel => exact ⟨m + 1, _, by go_num, hlt, by rw [← Nat.add_assoc]; exact hfill, by rw [HL.out, HD.out, laidT_ok HPP.out], hx2, ((hcm.alloc (.cells #[U 0#64, U 0#64] 31)).onObj (.inr (by have := hcm.size; exact this)) _).trans hc2⟩
          case measure => simp [intOf]; omega
    · have hme : m = l.length := Nat.le_antisymm hml hge
      have hdec : decide (m < l.length) = false := by simpa using hge
      have HM := Lib.hid hme
      have e1' := hkeepS hcm (by simp; omega) e1
      clear hme hge
      go_wp2
      refine bodyPost_ret (v := .agg (tcells tm)) (zcl Tryz.results78 _ _ _ rfl (run_loadVar_row _ _ 26 26 (tcells tm) (0, 0) _ ?_ Tryz.underlying26 rfl (by rw [zah]; kernel_rfl))) rfl ⟨?_, ?_⟩
      · rw [zac, if_pos rfl, e1', Option.map_some, laidAt_t]
      · rw [HL.out, HM.out, List.drop_length, laidT_nil]; rfl
      · exact (hCw.trans2 hcm (by simp; omega)).onObj (.inr (by show w.heap.size ≤ w.heap.size + 1; omega)) _
end
end Go.Proofs.Hc
