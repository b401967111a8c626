/- Package table: a key that is put. -/
import Derived.Test.YtcikopeddljgkaaGreatKHtd
import Derived.Test.YtcikopeddljgkaaGreatK0
set_option linter.unusedSimpArgs false
set_option linter.unusedVariables false
set_option maxHeartbeats 1000000
set_option maxRecDepth 100000
namespace Go.Proofs.Hc
open Go.RowKit
attribute [local go_sem] zbr zcd zat zaz zbn zax zbm zbo zbw signed64 signed8 zar BitVec.ofInt_add BitVec.ofInt_mul ofInt_sub' zav zaw wide8 eqN neN zcc shr1 shr7 shr56
attribute [local go_sem high] zay zbv
attribute [local go_sem] zau zbx zai zal zac zbd zan zah zbk zaj zbc zbe
attribute [local go_sem] load26 load73 load23 store26 build73
attribute [local go_sem ↓] lrow26 lrow73 lrow23 srow26 zero26 brow73 zab zba zbb zaa zae
attribute [local go_sem] zag zap zaf zbf zbi zbp zam zaq zbq zbh zbg
attribute [local go_sem] nn2 nm2 nn3 nm3 nn4 nm4 nn5 nm5 nn6 nm6 nn7 nm7 nn8 nm8
section
attribute [local go_sem] Oper.semAt_some zak zbj
attribute [local go_sem] box26 zbz cell0 cell1 cell2 cell3 cell4 zcb zca
attribute [local go_sem] cell5 cell6
theorem and_lane : ∀ (m : BitVec 8) (x : Nat), x < 8 → ((m &&& laneM x = 0#8) ↔ m.getLsbD x = false) := by
  have h : ∀ (m : BitVec 8) (x : Fin 8), ((m &&& laneM x.1 = 0#8) ↔ m.getLsbD x.1 = false) := by decide +kernel
  exact fun m x hx => h m ⟨x, hx⟩
theorem mem_lanes (m : BitVec 8) (x : Nat) : x ∈ lanesOf m ↔ x < 8 ∧ m.getLsbD x = true := by
  unfold lanesOf; simp
theorem head_mem {m : BitVec 8} {x : Nat} (h : (lanesOf m).head? = some x) : x < 8 ∧ m.getLsbD x = true := by
  rw [← mem_lanes]
  generalize lanesOf m = l at *
  cases l with
  | nil => cases h
  | cons y l => simp at h; subst h; simp
theorem free_byte (c : BitVec 64) (x : Nat) (hx : x < 8) : (freeM c).getLsbD x = (byteAt c x == 128#8 || byteAt c x == 254#8) := by
  rw [freeM, BitVec.getLsbD_or, emptyM_bit c x hx, delM_bit c x hx]
theorem findSome_mem {α β : Type} (f : α → Option β) : ∀ (l : List α) (y : β), l.findSome? f = some y → ∃ g ∈ l, f g = some y
  | [], y, h => by cases h
  | g :: l, y, h => by
    rw [List.findSome?_cons] at h
    cases hg : f g with
    | none => rw [hg] at h; obtain ⟨g', h1, h2⟩ := findSome_mem f l y h; exact ⟨g', by simp [h1], h2⟩
    | some z => rw [hg] at h; exact ⟨g, by simp, by rw [hg]; exact h⟩
theorem place_ok {t : Tab} {s k : BitVec 64} {sl : Nat} (h : placeT t s k = .ok sl) :
    ∃ g x : Nat, sl = 8 * g + x ∧ g < 2 ∧ x < 8 ∧ g ∈ rowT t s k ∧ freeAt t (rowT t s k) = some (g, x) ∧ (freeM (t.c g)).getLsbD x = true ∧ hasT t (hashOf s k) = true ∧ hasKT t k = false ∧
      ((delM (t.c g) &&& laneM x != 0#8) = true ∨ 0 < t.can) := by
  have hr := row_bound t s k
  rw [placeT] at h
  generalize hT : hasT t (hashOf s k) = a at *
  generalize hK : hasKT t k = b at *
  generalize hF : freeAt t (rowT t s k) = f at *
  cases a with
  | false => simp at h
  | true =>
    cases b with
    | true => simp at h
    | false =>
      cases f with
      | none => simp at h
      | some y =>
        obtain ⟨g, x⟩ := y
        simp only [if_true, Bool.false_eq_true, if_false] at h
        generalize hD : (delM (t.c g) &&& laneM x != 0#8) = d at *
        split at h
        · rename_i hd
          rw [freeAt] at hF
          obtain ⟨g', hg', hf⟩ := findSome_mem _ _ _ hF
          rw [freeIn_eq] at hf
          generalize hH : (lanesOf (freeM (t.c g'))).head? = y at *
          cases y with
          | none => cases hf
          | some x' =>
            have hh := head_mem hH
            obtain ⟨rfl, rfl⟩ : g' = g ∧ x' = x := by simpa using hf
            refine ⟨g', x', by simpa using h.symm, hr g' hg', hh.1, hg', rfl, hh.2, rfl, rfl, by simpa [hD] using hd⟩
        · cases h
theorem free_notfull {c : BitVec 64} {x : Nat} (hx : x < 8) (h : (freeM c).getLsbD x = true) : fullM c &&& laneM x = 0#8 := by
  rw [and_lane _ x hx, fullM_bit c x hx]
  rw [free_byte c x hx] at h
  simp only [Bool.or_eq_true, beq_iff_eq] at h
  rcases h with h | h <;> rw [h] <;> decide
theorem hash2_le (h : BitVec 64) : N (hash2 h) ≤ 127 := by
  unfold hash2 N
  have h1 : (h.setWidth 8 &&& 127#8).toNat ≤ 127 := by
    rw [BitVec.toNat_and]
    exact Nat.and_le_right
  omega
def fillT (t : Tab) (s k v : BitVec 64) (sl : Nat) : Tab :=
  { t with
    can := if emptyM (t.c (sl / 8)) &&& laneM (sl % 8) != 0#8 then t.can - 1 else t.can
    live := t.live + 1
    c := fun i => if i = sl / 8 then withB (t.c (sl / 8)) (sl % 8) (hash2 (hashOf s k)) else t.c i
    k := fun i => if i = sl then k else t.k i
    v := fun i => if i = sl then v else t.v i }
theorem put_no (t : Tab) (s k v : BitVec 64) (c : Int) (b : Nat) (w : World) (hok0 : ctrlOk (t.c 0) = true) (hok1 : ctrlOk (t.c 1) = true) (hP : placeT t s k = .error c) (hb : w.heap[b]? = some (.cells (hcells t s) 141 (0, 0))) :
    Calls Tryz.prog 134 #[.pointer (some ⟨b, 0, none⟩), U k, U v] w fun e w' => e = .panicked [{ v := .iface 32 (I c), recovered := false }] ∧ Ch [] w w' := by
  have P1 := place_any t s k b w hok0 hok1 hb
  rw [hP] at P1
  clear hok0 hok1 hP
  go_enter Tryz.func134, Tryz.ntmps134
  go_wp2_with (go_at_call 210; refine P1.mono ?_; rintro e w1 ⟨rfl, hc1⟩; simp only [retOr])
  exact ⟨rfl, rfl, hc1⟩
end
section
attribute [local go_sem] Oper.semAt_some zak zbj
attribute [local go_sem] box26 zbz cell0 cell1 cell2 cell3 cell4 zcb zca
attribute [local go_sem] cell5 cell6
theorem put_deleted (t : Tab) (s k v : BitVec 64) (sl g x b : Nat) (w : World) (hok0 : ctrlOk (t.c 0) = true) (hok1 : ctrlOk (t.c 1) = true) (hP : placeT t s k = .ok sl) (hsl : sl = 8 * g + x) (hg : g < 2) (hx : x < 8)
    (hfm : (freeM (t.c g)).getLsbD x = true) (hcan : -1000 ≤ t.can ∧ t.can ≤ 1000) (hlive : -1000 ≤ t.live ∧ t.live ≤ 1000) (he : (emptyM (t.c g) &&& laneM x != 0#8) = false) (hb : w.heap[b]? = some (.cells (hcells t s) 141 (0, 0))) :
    Calls Tryz.prog 134 #[.pointer (some ⟨b, 0, none⟩), U k, U v] w fun e w' => e = .returned (I sl) ∧ Ch [b] w w' ∧ w'.heap[b]? = some (.cells (hcells (fillT t s k v sl) s) 141 (0, 0)) := by
  have P1 := place_any t s k b w hok0 hok1 hb
  rw [hP] at P1
  have hokg := pick_ok t g hg hok0 hok1
  have S1 := fun w => sets_ok (t.c g) hokg w
  obtain ⟨h2, hh2⟩ : ∃ h2, hash2 (hashOf s k) = h2 := ⟨_, rfl⟩
  have hle := hash2_le (hashOf s k)
  rw [hh2] at hle
  have H2 : ∀ (t1 : Tab) (w : World), w.heap[b]? = some (.cells (hcells t1 s) 141 (0, 0)) → Calls Tryz.prog 169 #[.pointer (some ⟨b, 0, none⟩), U k] w fun e w' => e = .returned (Y h2) ∧ w = w' := fun t1 w hb => by rw [← hh2]; exact h2_any b t1 s k w hb
  have HH := Lib.hid hh2
  clear hh2
  have F1 := fun w => fill_ok (t.c g) x h2 hx hle (free_notfull hx hfm) hokg w
  have hc5 := hcells_ctrl_at t s g hg
  have hq : (sl : Int) / 8 = (g : Int) := by omega
  have hr : (sl : Int) % 8 = (x : Int) := by omega
  have hsl0 : (0 : Int) ≤ (sl : Int) := by omega
  have hsl1 : (sl : Int) < 16 := by omega
  have hg0 : (0 : Int) ≤ (g : Int) := by omega
  have hg1 : (g : Int) < 2 := by omega
  have hx0 : (0 : Int) ≤ (x : Int) := by omega
  have hx1 : (x : Int) < 8 := by omega
  have F2 : ∀ w, Calls Tryz.prog 211 #[U (t.c g), .int .i64 ((sl : Int) % 8), Y h2] w fun e w' => e = .returned (.tuple #[U (withB (t.c g) x h2), I 0]) ∧ Ch [] w w' := fun w => by rw [hr]; exact F1 w
  have hnw : (N (emptyM (t.c g) &&& laneM x) != 0) = (emptyM (t.c g) &&& laneM x != 0#8) := by rw [← neN]; rfl
  have HS := Lib.hid hsl
  have HC := Lib.hid hcan
  have HL := Lib.hid hlive
  obtain ⟨hcan0, hcan1⟩ := hcan
  obtain ⟨hl0, hl1⟩ := hlive
  clear hok0 hok1 hP hsl hfm hokg
  rw [he] at hnw
  have HE := Lib.hid he
  clear he
  go_enter Tryz.func134, Tryz.ntmps134
  go_wp2_with (first
    | (go_at_call 210; refine P1.mono ?_; rintro e w1 ⟨rfl, hc1⟩; simp only [retOr]; have d1 := hkeep hc1 hb)
    | (go_at_call 166; refine (S1 _).mono ?_; rintro e w2 ⟨rfl, hc2⟩; have d2 := hkeep hc2 d1))
  obtain ⟨t1, ht1⟩ : ∃ t1 : Tab, t1 = { t with can := t.can } := ⟨_, rfl⟩
  have E1 : w2.heap[b]? = some (.cells (hcells t1 s) 141 (0, 0)) := by rw [ht1]; exact d2
  have C1 : Ch [b] w w2 := (hc1.trans hc2).of_nil
  have c5 : (hcells t1 s)[5 + g]? = some (U (t.c g)) := by rw [ht1]; exact hcells_ctrl_at _ s g hg
  have HT := Lib.hid ht1
  clear ht1 d1 d2 hc1 hc2 hb hc5 P1 S1
  have hgb : ∀ q : Gar w2, (q.1).heap[b]? = some (.cells (hcells t1 s) 141 (0, 0)) := fun q => hkeep q.2 E1
  have HG : ∀ q : Gar w2, Calls Tryz.prog 169 #[.pointer (some ⟨b, 0, none⟩), U k] q.1 fun e w' => e = .returned (Y h2) ∧ q.1 = w' := fun q => H2 t1 q.1 (hgb q)
  clear H2
  refine zdj 14 (by kernel_rfl) (by kernel_rfl) ?_
  simp only [List.take_succ_cons, List.take_zero, List.drop_succ_cons, List.drop_zero]
  repeat (go_big_quiet_step ((first | (go_at_call 169; exact garL (HG _)) | (go_at_call 211; with_reducible exact garC (F2 _)) | (go_at_call 211; with_reducible exact garC (F1 _)) | (go_at_call 137; exact garL (surew_yes _ _)))))
  refine wpQuiet_nil ?_
  rintro W6 ⟨g6, hw6⟩
  have hc6 : Ch [] w2 W6 := by rw [hw6]; exact g6.2
  clear hw6 g6 hgb HG
  have e6 := hkeep hc6 E1
  go_wp2
  have E7 : (W6.setCell ⟨b, 5 + g, none⟩ (U (withB (t.c g) x h2))).heap[b]? = some (.cells (hcells { t1 with c := fun i => if i = g then withB (t.c g) x h2 else t1.c i } s) 141 (0, 0)) := by
    rw [zaa, if_pos rfl, e6, Option.map_some, zac, hset_ctrl t1 s g hg]
  have C7 : Ch [b] w (W6.setCell ⟨b, 5 + g, none⟩ (U (withB (t.c g) x h2))) := (C1.pure hc6).setCell (p := ⟨b, 5 + g, none⟩) (.inl (by simp)) _
  generalize W6.setCell ⟨b, 5 + g, none⟩ (U (withB (t.c g) x h2)) = W7 at *
  have H7 := Lib.hid E7
  obtain ⟨t2, ht2⟩ : ∃ t2 : Tab, t2 = { t1 with c := fun i => if i = g then withB (t.c g) x h2 else t1.c i } := ⟨_, rfl⟩
  rw [← ht2] at E7
  have HT2 := Lib.hid ht2
  clear ht2 H7 e6 hc6 E1
  have k7 := hcells_key t2 s sl (by omega)
  have v7 := hcells_val t2 s sl (by omega)
  refine wp_region_held_drew (S := fun _ => True) (by kernel_rfl) trivial ?_
  intro _
  simp only [List.size_toArray, List.length_cons, List.length_nil, Nat.reduceAdd]
  refine tn 0 ?_ rfl trivial ?_ ?_; rotate_left
  · intro _ _; go_simp; try with_reducible rfl
  try go_frame
  refine tn 1 ?_ rfl trivial ?_ ?_; rotate_left
  · intro _ _; go_simp; try with_reducible rfl
  try go_frame
  refine tn 2 ?_ rfl trivial ?_ ?_; rotate_left
  · intro _ _; go_simp; try with_reducible rfl
  try go_frame
  refine tn 3 ?_ rfl trivial ?_ ?_; rotate_left
  · intro _ _; go_simp; try with_reducible rfl
  try go_frame
  refine tn 4 ?_ rfl trivial ?_ ?_; rotate_left
  · intro _ _; go_simp; try with_reducible rfl
  try go_frame
  refine tn 5 ?_ rfl trivial ?_ ?_; rotate_left
  · intro _ _; go_simp; try with_reducible rfl
  try go_frame
  refine tn 6 ?_ rfl trivial ?_ ?_; rotate_left
  · intro _ _; go_simp; try with_reducible rfl
  try go_frame
  refine tn 7 ?_ rfl trivial ?_ ?_; rotate_left
  · intro _ _; go_simp; try with_reducible rfl
  try go_frame
  refine tn 8 ?_ rfl trivial ?_ ?_; rotate_left
  · intro _ _; go_simp; try with_reducible rfl
  try go_frame
  refine tn 9 ?_ rfl trivial ?_ ?_; rotate_left
  · intro _ _; go_simp; try with_reducible rfl
  try go_frame
  refine tn 11 ?_ rfl trivial ?_ ?_; rotate_left
  · intro _ _; go_simp; try with_reducible rfl
  try go_frame
  refine tn 12 ?_ rfl trivial ?_ ?_; rotate_left
  · intro _ _; go_simp; try with_reducible rfl
  try go_frame
  refine tn 13 ?_ rfl trivial ?_ ?_; rotate_left
  · intro _ _; go_simp; try with_reducible rfl
  try go_frame
  refine rd 10 rfl (fun K hK => ?_); go_simp
  refine hK.out _ _ trivial (fun hS2 => ?_)
  refine tn 14 ?_ rfl trivial ?_ ?_; rotate_left
  · intro _ _; go_simp; try with_reducible rfl
  try go_frame
  refine wpAnyH_ready (rs := [15]) (by kernel_rfl) (by simp) ?_
  refine AllReadyH.cons rfl (fun K2 hK2 => ?_) AllReadyH.nil
  go_simp
  refine hK2.out _ _ trivial (fun hS2 => ?_)
  refine wpAnyH_done (by kernel_rfl) ?_ _
  have E8 : (((W7.setCell ⟨b, 7 + sl, none⟩ (U k)).setCell ⟨b, 23 + sl, none⟩ (U v)).drew).heap[b]? = some (.cells (hcells { { t2 with k := fun i => if i = sl then k else t2.k i } with v := fun i => if i = sl then v else t2.v i } s) 141 (0, 0)) := by
    rw [zba, zaa, if_pos rfl, zaa, if_pos rfl, E7, Option.map_some, zac, hset_key t2 s sl (by omega) k, Option.map_some, zac, hset_val _ s sl (by omega) v]
  have C8 : Ch [b] w (((W7.setCell ⟨b, 7 + sl, none⟩ (U k)).setCell ⟨b, 23 + sl, none⟩ (U v)).drew) := ((C7.setCell (p := ⟨b, 7 + sl, none⟩) (.inl (by simp)) _).setCell (p := ⟨b, 23 + sl, none⟩) (.inl (by simp)) _).drew
  generalize ((W7.setCell ⟨b, 7 + sl, none⟩ (U k)).setCell ⟨b, 23 + sl, none⟩ (U v)).drew = W8 at *
  obtain ⟨t3, ht3⟩ : ∃ t3 : Tab, t3 = { { t2 with k := fun i => if i = sl then k else t2.k i } with v := fun i => if i = sl then v else t2.v i } := ⟨_, rfl⟩
  rw [← ht3] at E8
  have hl3 : t3.live = t.live := by rw [ht3, HT2.out, HT.out]
  have l5 : -1000 ≤ t3.live := by rw [hl3]; exact hl0
  have l6 : t3.live ≤ 1000 := by rw [hl3]; exact hl1
  have HT3 := Lib.hid ht3
  have HL3 := Lib.hid hl3
  clear ht3 hl3 E7 k7 v7
  go_wp2
  go_ret
  refine ⟨rfl, C8.setCell (p := ⟨b, 4, none⟩) (.inl (by simp)) _, ?_⟩
  rw [zaa, if_pos rfl, E8, Option.map_some, zac, hset_live t3 s (t3.live + 1), HL3.out]
  have hfin : fillT t s k v sl = { t3 with live := t.live + 1 } := by
    rw [HT3.out, HT2.out, HT.out, HS.out]
    unfold fillT
    have h1 : (8 * g + x) / 8 = g := by omega
    have h2' : (8 * g + x) % 8 = x := by omega
    simp only [h1, h2', HE.out, HH.out]
    simp
  rw [hfin]
end
section
attribute [local go_sem] Oper.semAt_some zak
theorem readC_at (t : Tab) (v : Value) (h : 39 < (readC t v).size) : (readC t v)[39] = v := by simp [readC]
attribute [local irreducible] readC
attribute [local go_sem] readC_at readC_39 readC_one readC_table readC_size rset_rest zdl zdk rset_pre rset_can rset_live
theorem next_any (t : Tab) (r g o n c m : Nat) (hm : m ≤ n) (hnc : n ≤ c) (hmc : m < c) (hc : c ≤ 9223372036854775807) (w : World) (hr : w.heap[r]? = some (.cells (readC t (.slice (some ⟨g, o, none⟩) n c)) 170 (0, 0))) :
    Calls Tryz.prog 106 #[.pointer (some ⟨r, 0, none⟩), I (m : Nat)] w fun e w' => e = .returned (.slice (some ⟨g, o, none⟩) m m) ∧ w'.heap[r]? = some (.cells (readC t (.slice (some ⟨g, o + m, none⟩) (n - m) (c - m))) 170 (0, 0)) ∧ Ch [r] w w' := by
  have h1 : (m : Int) ≤ n := by omega
  have h2 : (n : Int) ≤ c := by omega
  have h3 : (c : Int) ≤ 9223372036854775807 := by omega
  have h4 : ¬ c - m = 0 := by omega
  go_enter Tryz.func106, Tryz.ntmps106
  go_wp2_with (go_at_call 107; refine (lneed_yes _).mono ?_; rintro e w' ⟨rfl, rfl⟩)
  go_ret
  refine ⟨rfl, ?_, (Ch.refl [r] w).setCell (p := ⟨r, 39, none⟩) (.inl (by simp)) _⟩
  simp [go_sem, hr]
theorem nz_any (x : BitVec 64) (w : World) : Calls Tryz.prog 111 #[U x] w fun e w' => e = .returned (.bool (x != 0#64)) ∧ w = w' := by
  have h : (N x != 0) = (x != 0#64) := neN x 0#64
  go_enter Tryz.func111, Tryz.ntmps111
  go_wp2
  go_ret
  exact ⟨by first | rfl | rw [h], rfl⟩
theorem indexNz_any (g o c : Nat) (cur : Array Value) (T : TypeId) (x y : BitVec 64) (w : World) (hb : w.heap[g]? = some (.cells cur T (0, 0))) (h0 : cur[o]? = some (U x)) (h1 : cur[o + 1]? = some (U y)) :
    Calls Tryz.prog 164 #[.slice (some ⟨g, o, none⟩) 2 c, .func (.func 111) #[] #[]] w fun e w' => ∃ n : Int, e = .returned (I n) ∧ decide (0 ≤ n) = (x != 0#64 || y != 0#64) ∧ w = w' := by
  have X := fun w => nz_any x w
  have Y := fun w => nz_any y w
  generalize (x != 0#64) = p at *
  generalize (y != 0#64) = q at *
  cases p with
  | true =>
    go_enter Tryz.func164, Tryz.ntmps164
    go_wp2
    refine wp_loop_rounds 1 ?_
    rw [rounds_succ]
    go_wp2_with fail
    refine (X _).mono ?_
    rintro e w' ⟨rfl, rfl⟩
    go_wp2
    go_ret
    exact ⟨0, rfl, rfl, rfl⟩
  | false =>
    cases q with
    | true =>
      go_enter Tryz.func164, Tryz.ntmps164
      go_wp2
      refine wp_loop_rounds 2 ?_
      rw [rounds_succ]
      go_wp2_with fail
      refine (X _).mono ?_
      rintro e w' ⟨rfl, rfl⟩
      go_wp2
      rw [rounds_succ]
      go_wp2_with fail
      refine (Y _).mono ?_
      rintro e w' ⟨rfl, rfl⟩
      go_wp2
      go_ret
      exact ⟨1, rfl, rfl, rfl⟩
    | false =>
      go_enter Tryz.func164, Tryz.ntmps164
      go_wp2
      refine wp_loop_rounds 3 ?_
      rw [rounds_succ]
      go_wp2_with fail
      refine (X _).mono ?_
      rintro e w' ⟨rfl, rfl⟩
      go_wp2
      rw [rounds_succ]
      go_wp2_with fail
      refine (Y _).mono ?_
      rintro e w' ⟨rfl, rfl⟩
      go_wp2
      rw [rounds_succ]
      go_wp2
      go_ret
      exact ⟨-1, rfl, rfl, rfl⟩
theorem containsNz_any (g o c : Nat) (cur : Array Value) (T : TypeId) (x y : BitVec 64) (w : World) (hb : w.heap[g]? = some (.cells cur T (0, 0))) (h0 : cur[o]? = some (U x)) (h1 : cur[o + 1]? = some (U y)) :
    Calls Tryz.prog 110 #[.slice (some ⟨g, o, none⟩) 2 c, .func (.func 111) #[] #[]] w fun e w' => e = .returned (.bool (x != 0#64 || y != 0#64)) ∧ w = w' := by
  have I1 := indexNz_any g o c cur T x y w hb h0 h1
  generalize (x != 0#64 || y != 0#64) = r at *
  go_enter Tryz.func110, Tryz.ntmps110
  go_wp2_with fail
  refine I1.mono ?_
  rintro e w1 ⟨n, rfl, hn, rfl⟩
  have HN := Lib.hid hn
  clear hn
  go_wp2
  all_goals
    go_ret
    refine ⟨?_, rfl⟩
    rw [← HN.out]
    first | rfl | (simp; done) | (simp; omega)
end
end Go.Proofs.Hc
