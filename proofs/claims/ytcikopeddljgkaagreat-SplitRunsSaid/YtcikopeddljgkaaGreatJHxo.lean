/- Package table: bare tables, and the pairs of full slots. -/
import Derived.Test.YtcikopeddljgkaaGreatJHtd
import Derived.Test.YtcikopeddljgkaaGreatJ0
set_option linter.unusedSimpArgs false
set_option linter.unusedVariables false
set_option maxHeartbeats 1000000
set_option maxRecDepth 100000
namespace Go.Proofs.Hc
open Go.RowKit
attribute [local go_sem] zbu zcc zax zbf zbo zbd zbn zbp zbw signed64 signed8 zap BitVec.ofInt_add BitVec.ofInt_mul ofInt_sub' zbb zbc wide8 eqN neN zca shr1 shr7 shr56
attribute [local go_sem high] zbe zbv
attribute [local go_sem] zaw zby zaj zas zaf zaz zar zak zbm zal zay zba
attribute [local go_sem] load26 load73 load23 store26 build73
attribute [local go_sem ↓] lrow26 lrow73 lrow23 srow26 zero26 brow73 zae zbk zbg zaa zab
attribute [local go_sem] zai zav zat zbj zbl zbr zaq zau zbs zbi zbh
attribute [local go_sem] nn2 nm2 nn3 nm3 nn4 nm4 nn5 nm5 nn6 nm6 nn7 nm7 nn8 nm8
section
attribute [local go_sem] Oper.semAt_some zao
attribute [local go_sem] box26 zcb cell0 cell1 cell2 cell3 cell4 zcn zcm
attribute [local go_sem] cell5 cell6
theorem tset_ctrl (t : Tab) (g : Nat) (hg : g < 2) (x : BitVec 64) : (tcells t).setIfInBounds (5 + g) (U x) = tcells { t with c := fun i => if i = g then x else t.c i } := by
  have h := hset_ctrl t 0#64 g hg x
  have h2 := congrArg (fun a => a.extract 0 39) h
  simp only [zaq] at h2
  rw [← h2, ← zaq t 0#64]
  apply Array.ext_getElem?; intro i
  by_cases hi : i = 5 + g
  · subst hi
    simp [zav, show 5 + g < 39 by omega]
  · rw [Array.getElem?_setIfInBounds_ne (fun e => hi e.symm), Array.getElem?_extract, Array.getElem?_extract]
    simp only [Array.size_setIfInBounds]
    split
    · rw [Array.getElem?_setIfInBounds_ne (by omega)]
    · rfl
theorem tset5 (t : Tab) (x : BitVec 64) : (tcells t).setIfInBounds 5 (U x) = tcells { t with c := fun i => if i = 0 then x else t.c i } := tset_ctrl t 0 (by omega) x
theorem tset6 (t : Tab) (x : BitVec 64) : (tcells t).setIfInBounds 6 (U x) = tcells { t with c := fun i => if i = 1 then x else t.c i } := tset_ctrl t 1 (by omega) x
theorem zco (a b : Tab) (T : TypeId) (fr : Nat × Nat) : laidAt 0 (tcells b) (.cells (tcells a) T fr) = .cells (tcells b) T fr := by
  rw [zak, laid_whole _ _ (by rw [zai, zai])]
theorem brow26 (ps : Array (Nat × Value)) : Instr.build 26 ps = buildRow 26 ps := rfl
theorem build_bare (c : BitVec 64) (d : Int) (p : BitVec 64) (w : World) : (buildRow 26 #[(0, U c), (1, I d), (2, U p), (3, .int .i64 14)]).run Tryz.prog w = .ok (.agg (tcells ⟨c, d, p, 14, 0, fun _ => 0#64, fun _ => 0#64, fun _ => 0#64⟩)) w := by kernel_rfl
attribute [local go_sem] tset5 tset6 build_bare
attribute [local go_sem high] zco
attribute [local go_sem ↓] brow26
theorem tcells_congr {t t' : Tab} (h : ∀ i, i < 39 → t.cell i = t'.cell i) : tcells t = tcells t' := by
  apply Array.ext_getElem?; intro i
  rw [zat, zat]
  by_cases hi : i < 39
  · rw [if_pos hi, if_pos hi, h i hi]
  · rw [if_neg hi, if_neg hi]
theorem bare_cells (c : BitVec 64) (d : Int) (p : BitVec 64) : tcells ⟨c, d, p, 14, 0, fun i => if i = 1 then tops else if i = 0 then tops else 0#64, fun _ => 0#64, fun _ => 0#64⟩ = tcells (bareT c d p) := by
  apply tcells_congr
  intro i _
  unfold Tab.cell bareT
  split <;> first | rfl | skip
theorem bare_any (c : BitVec 64) (d : Int) (p : BitVec 64) (w : World) :
    Calls Tryz.prog 79 #[U c, I d, U p] w fun e w' => e = .returned (.agg (tcells (bareT c d p))) ∧ Ch [] w w' := by
  go_enter Tryz.func79, Tryz.ntmps79
  go_wp2
  refine wp_loop_rounds 3 ?_
  rw [rounds_succ]
  go_wp2_with (go_at_call 143; refine (cnew_any _).mono ?_; rintro e w' ⟨rfl, rfl⟩)
  rw [rounds_succ]
  go_wp2_with (go_at_call 143; refine (cnew_any _).mono ?_; rintro e w' ⟨rfl, rfl⟩)
  rw [rounds_succ]
  go_wp2
  refine bodyPost_ret (v := .agg (tcells (bareT c d p))) (zdi Tryz.results79 _ _ _ rfl (run_loadVar_row _ _ 26 26 (tcells (bareT c d p)) (0, 0) _ ?_ Tryz.underlying26 rfl (by rw [zai]; kernel_rfl))) rfl ⟨rfl, ?_⟩
  · rw [← bare_cells]
    simp [go_sem]
  · exact ((((((Ch.refl [] w).alloc _).alloc _).onObj (.inr (by simp)) _).setCell (p := ⟨w.heap.size + 1, 5, none⟩) (.inr (by simp)) _).setCell (p := ⟨w.heap.size + 1, 6, none⟩) (.inr (by simp)) _).onObj (.inr (by simp)) _
end
section
attribute [local go_sem] Oper.semAt_some zao zbq
attribute [local go_sem] box26 zcb cell0 cell1 cell2 cell3 cell4 zcn zcm
attribute [local go_sem] cell5 cell6
theorem and_lane : ∀ (m : BitVec 8) (x : Nat), x < 8 → ((m &&& laneM x = 0#8) ↔ m.getLsbD x = false) := by
  have h : ∀ (m : BitVec 8) (x : Fin 8), ((m &&& laneM x.1 = 0#8) ↔ m.getLsbD x.1 = false) := by decide +kernel
  exact fun m x hx => h m ⟨x, hx⟩
theorem mem_lanes (m : BitVec 8) (x : Nat) : x ∈ lanesOf m ↔ x < 8 ∧ m.getLsbD x = true := by
  unfold lanesOf; simp
theorem head_mem {m : BitVec 8} {x : Nat} (h : (lanesOf m).head? = some x) : x < 8 ∧ m.getLsbD x = true := by
  rw [← mem_lanes]
  generalize lanesOf m = l at *
  cases l with
  | nil => cases h
  | cons y l => simp at h; subst h; simp
theorem free_byte (c : BitVec 64) (x : Nat) (hx : x < 8) : (freeM c).getLsbD x = (byteAt c x == 128#8 || byteAt c x == 254#8) := by
  rw [freeM, BitVec.getLsbD_or, emptyM_bit c x hx, delM_bit c x hx]
theorem findSome_mem {α β : Type} (f : α → Option β) : ∀ (l : List α) (y : β), l.findSome? f = some y → ∃ g ∈ l, f g = some y
  | [], y, h => by cases h
  | g :: l, y, h => by
    rw [List.findSome?_cons] at h
    cases hg : f g with
    | none => rw [hg] at h; obtain ⟨g', h1, h2⟩ := findSome_mem f l y h; exact ⟨g', by simp [h1], h2⟩
    | some z => rw [hg] at h; exact ⟨g, by simp, by rw [hg]; exact h⟩
theorem place_ok {t : Tab} {s k : BitVec 64} {sl : Nat} (h : placeT t s k = .ok sl) :
    ∃ g x : Nat, sl = 8 * g + x ∧ g < 2 ∧ x < 8 ∧ g ∈ rowT t s k ∧ freeAt t (rowT t s k) = some (g, x) ∧ (freeM (t.c g)).getLsbD x = true ∧ hasT t (hashOf s k) = true ∧ hasKT t k = false ∧
      ((delM (t.c g) &&& laneM x != 0#8) = true ∨ 0 < t.can) := by
  have hr := row_bound t s k
  rw [placeT] at h
  generalize hT : hasT t (hashOf s k) = a at *
  generalize hK : hasKT t k = b at *
  generalize hF : freeAt t (rowT t s k) = f at *
  cases a with
  | false => simp at h
  | true =>
    cases b with
    | true => simp at h
    | false =>
      cases f with
      | none => simp at h
      | some y =>
        obtain ⟨g, x⟩ := y
        simp only [if_true, Bool.false_eq_true, if_false] at h
        generalize hD : (delM (t.c g) &&& laneM x != 0#8) = d at *
        split at h
        · rename_i hd
          rw [freeAt] at hF
          obtain ⟨g', hg', hf⟩ := findSome_mem _ _ _ hF
          rw [freeIn_eq] at hf
          generalize hH : (lanesOf (freeM (t.c g'))).head? = y at *
          cases y with
          | none => cases hf
          | some x' =>
            have hh := head_mem hH
            obtain ⟨rfl, rfl⟩ : g' = g ∧ x' = x := by simpa using hf
            refine ⟨g', x', by simpa using h.symm, hr g' hg', hh.1, hg', rfl, hh.2, rfl, rfl, by simpa [hD] using hd⟩
        · cases h
theorem free_notfull {c : BitVec 64} {x : Nat} (hx : x < 8) (h : (freeM c).getLsbD x = true) : fullM c &&& laneM x = 0#8 := by
  rw [and_lane _ x hx, fullM_bit c x hx]
  rw [free_byte c x hx] at h
  simp only [Bool.or_eq_true, beq_iff_eq] at h
  rcases h with h | h <;> rw [h] <;> decide
theorem hash2_le (h : BitVec 64) : N (hash2 h) ≤ 127 := by
  unfold hash2 N
  have h1 : (h.setWidth 8 &&& 127#8).toNat ≤ 127 := by
    rw [BitVec.toNat_and]
    exact Nat.and_le_right
  omega
def fillT (t : Tab) (s k v : BitVec 64) (sl : Nat) : Tab :=
  { t with
    can := if emptyM (t.c (sl / 8)) &&& laneM (sl % 8) != 0#8 then t.can - 1 else t.can
    live := t.live + 1
    c := fun i => if i = sl / 8 then withB (t.c (sl / 8)) (sl % 8) (hash2 (hashOf s k)) else t.c i
    k := fun i => if i = sl then k else t.k i
    v := fun i => if i = sl then v else t.v i }
theorem put_no (t : Tab) (s k v : BitVec 64) (c : Int) (b : Nat) (w : World) (hok0 : ctrlOk (t.c 0) = true) (hok1 : ctrlOk (t.c 1) = true) (hP : placeT t s k = .error c) (hb : w.heap[b]? = some (.cells (hcells t s) 141 (0, 0))) :
    Calls Tryz.prog 134 #[.pointer (some ⟨b, 0, none⟩), U k, U v] w fun e w' => e = .panicked [{ v := .iface 32 (I c), recovered := false }] ∧ Ch [] w w' := by
  have P1 := place_any t s k b w hok0 hok1 hb
  rw [hP] at P1
  clear hok0 hok1 hP
  go_enter Tryz.func134, Tryz.ntmps134
  go_wp2_with (go_at_call 210; refine P1.mono ?_; rintro e w1 ⟨rfl, hc1⟩; simp only [retOr])
  exact ⟨rfl, rfl, hc1⟩
end
section
attribute [local go_sem] Oper.semAt_some zao zbq
attribute [local go_sem] box26 zcb cell0 cell1 cell2 cell3 cell4 zcn zcm
attribute [local go_sem] cell5 cell6
theorem put_empty (t : Tab) (s k v : BitVec 64) (sl g x b : Nat) (w : World) (hok0 : ctrlOk (t.c 0) = true) (hok1 : ctrlOk (t.c 1) = true) (hP : placeT t s k = .ok sl) (hsl : sl = 8 * g + x) (hg : g < 2) (hx : x < 8)
    (hfm : (freeM (t.c g)).getLsbD x = true) (hcan : -1000 ≤ t.can ∧ t.can ≤ 1000) (hlive : -1000 ≤ t.live ∧ t.live ≤ 1000) (he : (emptyM (t.c g) &&& laneM x != 0#8) = true) (hb : w.heap[b]? = some (.cells (hcells t s) 141 (0, 0))) :
    Calls Tryz.prog 134 #[.pointer (some ⟨b, 0, none⟩), U k, U v] w fun e w' => e = .returned (I sl) ∧ Ch [b] w w' ∧ w'.heap[b]? = some (.cells (hcells (fillT t s k v sl) s) 141 (0, 0)) := by
  have P1 := place_any t s k b w hok0 hok1 hb
  rw [hP] at P1
  have hokg := pick_ok t g hg hok0 hok1
  have S1 := fun w => sets_ok (t.c g) hokg w
  obtain ⟨h2, hh2⟩ : ∃ h2, hash2 (hashOf s k) = h2 := ⟨_, rfl⟩
  have hle := hash2_le (hashOf s k)
  rw [hh2] at hle
  have H2 : ∀ (t1 : Tab) (w : World), w.heap[b]? = some (.cells (hcells t1 s) 141 (0, 0)) → Calls Tryz.prog 169 #[.pointer (some ⟨b, 0, none⟩), U k] w fun e w' => e = .returned (Y h2) ∧ w = w' := fun t1 w hb => by rw [← hh2]; exact h2_any b t1 s k w hb
  have HH := Lib.hid hh2
  clear hh2
  have F1 := fun w => fill_ok (t.c g) x h2 hx hle (free_notfull hx hfm) hokg w
  have hc5 := hcells_ctrl_at t s g hg
  have hq : (sl : Int) / 8 = (g : Int) := by omega
  have hr : (sl : Int) % 8 = (x : Int) := by omega
  have hsl0 : (0 : Int) ≤ (sl : Int) := by omega
  have hsl1 : (sl : Int) < 16 := by omega
  have hg0 : (0 : Int) ≤ (g : Int) := by omega
  have hg1 : (g : Int) < 2 := by omega
  have hx0 : (0 : Int) ≤ (x : Int) := by omega
  have hx1 : (x : Int) < 8 := by omega
  have F2 : ∀ w, Calls Tryz.prog 211 #[U (t.c g), .int .i64 ((sl : Int) % 8), Y h2] w fun e w' => e = .returned (.tuple #[U (withB (t.c g) x h2), I 0]) ∧ Ch [] w w' := fun w => by rw [hr]; exact F1 w
  have hnw : (N (emptyM (t.c g) &&& laneM x) != 0) = (emptyM (t.c g) &&& laneM x != 0#8) := by rw [← neN]; rfl
  have HS := Lib.hid hsl
  have HC := Lib.hid hcan
  have HL := Lib.hid hlive
  obtain ⟨hcan0, hcan1⟩ := hcan
  obtain ⟨hl0, hl1⟩ := hlive
  clear hok0 hok1 hP hsl hfm hokg
  rw [he] at hnw
  have HE := Lib.hid he
  clear he
  go_enter Tryz.func134, Tryz.ntmps134
  go_wp2_with (first
    | (go_at_call 210; refine P1.mono ?_; rintro e w1 ⟨rfl, hc1⟩; simp only [retOr]; have d1 := hkeep hc1 hb)
    | (go_at_call 166; refine (S1 _).mono ?_; rintro e w2 ⟨rfl, hc2⟩; have d2 := hkeep hc2 d1))
  obtain ⟨t1, ht1⟩ : ∃ t1 : Tab, t1 = { t with can := t.can - 1 } := ⟨_, rfl⟩
  have E1 : (w2.setCell ⟨b, 3, none⟩ (.int .i64 (t.can - 1))).heap[b]? = some (.cells (hcells t1 s) 141 (0, 0)) := by
    rw [zaa, if_pos rfl, d2, Option.map_some, zaf, ht1]
    exact congrArg (fun c => some (Obj.cells c 141 (0, 0))) (hset_can t s (t.can - 1))
  have C1 : Ch [b] w (w2.setCell ⟨b, 3, none⟩ (.int .i64 (t.can - 1))) := ((hc1.trans hc2).of_nil).setCell (p := ⟨b, 3, none⟩) (.inl (by simp)) _
  have c5 : (hcells t1 s)[5 + g]? = some (U (t.c g)) := by rw [ht1]; exact hcells_ctrl_at _ s g hg
  have HT := Lib.hid ht1
  clear ht1 d1 d2 hc1 hc2 hb hc5 P1 S1
  generalize w2.setCell ⟨b, 3, none⟩ (.int .i64 (t.can - 1)) = W3 at *
  have hgb : ∀ q : Gar W3, (q.1).heap[b]? = some (.cells (hcells t1 s) 141 (0, 0)) := fun q => hkeep q.2 E1
  have HG : ∀ q : Gar W3, Calls Tryz.prog 169 #[.pointer (some ⟨b, 0, none⟩), U k] q.1 fun e w' => e = .returned (Y h2) ∧ q.1 = w' := fun q => H2 t1 q.1 (hgb q)
  clear H2
  refine zdb 14 (by kernel_rfl) (by kernel_rfl) ?_
  simp only [List.take_succ_cons, List.take_zero, List.drop_succ_cons, List.drop_zero]
  repeat (go_big_quiet_step ((first | (go_at_call 169; exact garL (HG _)) | (go_at_call 211; with_reducible exact garC (F2 _)) | (go_at_call 211; with_reducible exact garC (F1 _)) | (go_at_call 137; exact garL (surew_yes _ _)))))
  refine wpQuiet_nil ?_
  rintro W6 ⟨g6, hw6⟩
  have hc6 : Ch [] W3 W6 := by rw [hw6]; exact g6.2
  clear hw6 g6 hgb HG
  have e6 := hkeep hc6 E1
  go_wp2
  have E7 : (W6.setCell ⟨b, 5 + g, none⟩ (U (withB (t.c g) x h2))).heap[b]? = some (.cells (hcells { t1 with c := fun i => if i = g then withB (t.c g) x h2 else t1.c i } s) 141 (0, 0)) := by
    rw [zaa, if_pos rfl, e6, Option.map_some, zaf, hset_ctrl t1 s g hg]
  have C7 : Ch [b] w (W6.setCell ⟨b, 5 + g, none⟩ (U (withB (t.c g) x h2))) := (C1.pure hc6).setCell (p := ⟨b, 5 + g, none⟩) (.inl (by simp)) _
  generalize W6.setCell ⟨b, 5 + g, none⟩ (U (withB (t.c g) x h2)) = W7 at *
  have H7 := Lib.hid E7
  obtain ⟨t2, ht2⟩ : ∃ t2 : Tab, t2 = { t1 with c := fun i => if i = g then withB (t.c g) x h2 else t1.c i } := ⟨_, rfl⟩
  rw [← ht2] at E7
  have HT2 := Lib.hid ht2
  clear ht2 H7 e6 hc6 E1
  have k7 := hcells_key t2 s sl (by omega)
  have v7 := hcells_val t2 s sl (by omega)
  refine wp_region_held_drew (S := fun _ => True) (by kernel_rfl) trivial ?_
  intro _
  simp only [List.size_toArray, List.length_cons, List.length_nil, Nat.reduceAdd]
  refine tn 0 ?_ rfl trivial ?_ ?_; rotate_left
  · intro _ _; go_simp; try with_reducible rfl
  try go_frame
  refine tn 1 ?_ rfl trivial ?_ ?_; rotate_left
  · intro _ _; go_simp; try with_reducible rfl
  try go_frame
  refine tn 2 ?_ rfl trivial ?_ ?_; rotate_left
  · intro _ _; go_simp; try with_reducible rfl
  try go_frame
  refine tn 3 ?_ rfl trivial ?_ ?_; rotate_left
  · intro _ _; go_simp; try with_reducible rfl
  try go_frame
  refine tn 4 ?_ rfl trivial ?_ ?_; rotate_left
  · intro _ _; go_simp; try with_reducible rfl
  try go_frame
  refine tn 5 ?_ rfl trivial ?_ ?_; rotate_left
  · intro _ _; go_simp; try with_reducible rfl
  try go_frame
  refine tn 6 ?_ rfl trivial ?_ ?_; rotate_left
  · intro _ _; go_simp; try with_reducible rfl
  try go_frame
  refine tn 7 ?_ rfl trivial ?_ ?_; rotate_left
  · intro _ _; go_simp; try with_reducible rfl
  try go_frame
  refine tn 8 ?_ rfl trivial ?_ ?_; rotate_left
  · intro _ _; go_simp; try with_reducible rfl
  try go_frame
  refine tn 9 ?_ rfl trivial ?_ ?_; rotate_left
  · intro _ _; go_simp; try with_reducible rfl
  try go_frame
  refine tn 11 ?_ rfl trivial ?_ ?_; rotate_left
  · intro _ _; go_simp; try with_reducible rfl
  try go_frame
  refine tn 12 ?_ rfl trivial ?_ ?_; rotate_left
  · intro _ _; go_simp; try with_reducible rfl
  try go_frame
  refine tn 13 ?_ rfl trivial ?_ ?_; rotate_left
  · intro _ _; go_simp; try with_reducible rfl
  try go_frame
  refine rd 10 rfl (fun K hK => ?_); go_simp
  refine hK.out _ _ trivial (fun hS2 => ?_)
  refine tn 14 ?_ rfl trivial ?_ ?_; rotate_left
  · intro _ _; go_simp; try with_reducible rfl
  try go_frame
  refine wpAnyH_ready (rs := [15]) (by kernel_rfl) (by simp) ?_
  refine AllReadyH.cons rfl (fun K2 hK2 => ?_) AllReadyH.nil
  go_simp
  refine hK2.out _ _ trivial (fun hS2 => ?_)
  refine wpAnyH_done (by kernel_rfl) ?_ _
  have E8 : (((W7.setCell ⟨b, 7 + sl, none⟩ (U k)).setCell ⟨b, 23 + sl, none⟩ (U v)).drew).heap[b]? = some (.cells (hcells { { t2 with k := fun i => if i = sl then k else t2.k i } with v := fun i => if i = sl then v else t2.v i } s) 141 (0, 0)) := by
    rw [zbk, zaa, if_pos rfl, zaa, if_pos rfl, E7, Option.map_some, zaf, hset_key t2 s sl (by omega) k, Option.map_some, zaf, hset_val _ s sl (by omega) v]
  have C8 : Ch [b] w (((W7.setCell ⟨b, 7 + sl, none⟩ (U k)).setCell ⟨b, 23 + sl, none⟩ (U v)).drew) := ((C7.setCell (p := ⟨b, 7 + sl, none⟩) (.inl (by simp)) _).setCell (p := ⟨b, 23 + sl, none⟩) (.inl (by simp)) _).drew
  generalize ((W7.setCell ⟨b, 7 + sl, none⟩ (U k)).setCell ⟨b, 23 + sl, none⟩ (U v)).drew = W8 at *
  obtain ⟨t3, ht3⟩ : ∃ t3 : Tab, t3 = { { t2 with k := fun i => if i = sl then k else t2.k i } with v := fun i => if i = sl then v else t2.v i } := ⟨_, rfl⟩
  rw [← ht3] at E8
  have hl3 : t3.live = t.live := by rw [ht3, HT2.out, HT.out]
  have l5 : -1000 ≤ t3.live := by rw [hl3]; exact hl0
  have l6 : t3.live ≤ 1000 := by rw [hl3]; exact hl1
  have HT3 := Lib.hid ht3
  have HL3 := Lib.hid hl3
  clear ht3 hl3 E7 k7 v7
  go_wp2
  go_ret
  refine ⟨rfl, C8.setCell (p := ⟨b, 4, none⟩) (.inl (by simp)) _, ?_⟩
  rw [zaa, if_pos rfl, E8, Option.map_some, zaf, hset_live t3 s (t3.live + 1), HL3.out]
  have hfin : fillT t s k v sl = { t3 with live := t.live + 1 } := by
    rw [HT3.out, HT2.out, HT.out, HS.out]
    unfold fillT
    have h1 : (8 * g + x) / 8 = g := by omega
    have h2' : (8 * g + x) % 8 = x := by omega
    simp only [h1, h2', HE.out, HH.out]
    simp
  rw [hfin]
end
section
attribute [local go_sem] Oper.semAt_some zao zbq
attribute [local go_sem] box26 zcb cell0 cell1 cell2 cell3 cell4 zcn zcm
attribute [local go_sem] cell5 cell6
def scan (f : Nat → Bool) : Nat → List Nat → Option (Nat × Nat)
  | _, [] => none
  | n, x :: l => if f x then some (x, n + 1) else scan f (n + 1) l
theorem scan_skip (f : Nat → Bool) (post : List Nat) : ∀ (l : List Nat) (n : Nat), (∀ x ∈ l, f x = false) → scan f n (l ++ post) = scan f (n + l.length) post
  | [], n, _ => rfl
  | x :: l, n, h => by
    rw [List.cons_append, scan, if_neg (by rw [h x (by simp)]; decide), scan_skip f post l (n + 1) (fun y hy => h y (by simp [hy])), List.length_cons]
    congr 1; omega
def candG (t : Tab) (h2 : BitVec 8) (g : Nat) : List Nat := (lanesOf (equalM (t.c g) h2)).map fun x => 8 * g + x
def foundT (t : Tab) (s k : BitVec 64) : Option (Nat × Nat) := scan (fun x => t.k x == k) 0 ((rowT t s k).flatMap (candG t (hash2 (hashOf s k))))
def orErr {α : Type} (c : Int) : Option α → Except Int α
  | none => .error c
  | some y => .ok y
def foundE (t : Tab) (s k : BitVec 64) : Except Int (Nat × Nat) := orErr 4 (foundT t s k)
theorem foundE_eq (t : Tab) (s k : BitVec 64) : foundE t s k = orErr 4 (foundT t s k) := by rw [foundE]
theorem foundE_none {t : Tab} {s k : BitVec 64} (h : foundT t s k = none) : foundE t s k = .error 4 := by rw [foundE_eq, h, orErr]
theorem foundE_some {t : Tab} {s k : BitVec 64} {y : Nat × Nat} (h : foundT t s k = some y) : foundE t s k = .ok y := by rw [foundE_eq, h, orErr]
theorem row_len (t : Tab) (s k : BitVec 64) : (rowT t s k).length ≤ 2 := by
  unfold rowT
  split <;> simp
theorem scan_none (f : Nat → Bool) (l : List Nat) (h : ∀ y ∈ l, f y = false) : scan f 0 l = none := by
  have := scan_skip f [] l 0 h
  rw [List.append_nil] at this
  rw [this]; rfl
end
section
attribute [local go_sem] loadA loadT2 storeA storeT2 buildA_ts buildA_sm zdd make_func zda zcd acells_get zcz acells_one t2cells_one zcy acells_all t2cells_all t2cells_l t2cells_r
attribute [local go_sem ↓] lrowA lrowT2 srowA srowT2 browA zeroA_run zeroT2_run
attribute [local go_sem] Oper.semAt_some zao zbq
attribute [local go_sem] box26 zcb cell0 cell1 cell2 cell3 cell4 zcn zcm
attribute [local go_sem] cell5 cell6
attribute [local go_sem high] zco
theorem scan_mem (f : Nat → Bool) : ∀ (l : List Nat) (n : Nat) (y : Nat × Nat), scan f n l = some y → y.1 ∈ l ∧ f y.1 = true
  | [], n, y, h => by cases h
  | x :: l, n, y, h => by
    rw [scan] at h
    by_cases hf : f x = true
    · rw [if_pos hf] at h
      cases h
      exact ⟨by simp, hf⟩
    · rw [if_neg hf] at h
      obtain ⟨h1, h2⟩ := scan_mem f l (n + 1) y h
      exact ⟨by simp [h1], h2⟩
theorem cand_lt {t : Tab} {s k : BitVec 64} {h2 : BitVec 8} {j : Nat} (h : j ∈ (rowT t s k).flatMap (candG t h2)) : j < 16 := by
  obtain ⟨g, hg, hj⟩ := List.mem_flatMap.1 h
  have := row_bound t s k g hg
  unfold candG at hj
  obtain ⟨x, hx, rfl⟩ := List.mem_map.1 hj
  have := ((mem_lanes _ _).1 hx).1
  omega
theorem foundT_lt {t : Tab} {s k : BitVec 64} {y : Nat × Nat} (h : foundT t s k = some y) : y.1 < 16 := cand_lt (scan_mem _ _ _ _ h).1
theorem tup26 (r : Except Int Tab) : ∃ (y : Tab) (c : Int), tupOr (fun v => Value.agg (tcells v)) (.agg (tcells zeroT)) r = .tuple #[.agg (tcells y), I c] := by
  cases r with
  | error c => exact ⟨zeroT, c, rfl⟩
  | ok y => exact ⟨y, 0, rfl⟩
theorem results_c0t {P : Program} {fn : Func} {p q : Tmp} {T1 : TypeId} (h : fn.results = #[.cell p T1, .tmp q]) (tmps : Array Value) (a : Addr) (w : World) {x y : Value}
    (hp : tmps.getD p undef = .pointer (some a)) (hq : tmps.getD q undef = y) (h1 : (loadVar T1 a).run P w = .ok x w) :
    (results fn tmps).run P w = .ok (.tuple #[x, y]) w := by
  have hp' : tmps[p]?.getD undef = .pointer (some a) := by simpa using hp
  have hq' : tmps[q]?.getD undef = y := by simpa using hq
  simp [results, h, hp', hq', asAddr, h1]
end
section
attribute [local go_sem] zap
attribute [local go_sem] box26 zcb cell0 cell1 cell2 cell3 cell4 cell5 cell6
attribute [local go_sem high] zco
attribute [local irreducible] tcells
theorem build_slice8 (w : World) : (Instr.buildSlice 228 8 #[(0, .int .u8 128), (1, .int .u8 128), (2, .int .u8 128), (3, .int .u8 128), (4, .int .u8 128), (5, .int .u8 128), (6, .int .u8 128), (7, .int .u8 128)]).run Tryz.prog w = .ok (.slice (some ⟨w.heap.size, 0, none⟩) 8 8) (w.alloc (.cells (#[.int .u8 128, .int .u8 128, .int .u8 128, .int .u8 128, .int .u8 128, .int .u8 128, .int .u8 128, .int .u8 128]) 5)) := by kernel_rfl
theorem build_ctrl (x y : BitVec 64) (w : World) : (Instr.build 23 #[(0, U x), (1, U y)]).run Tryz.prog w = .ok (.agg #[U x, U y]) w := by kernel_rfl
theorem build_new (c : BitVec 64) (d : Int) (p x : BitVec 64) (w : World) : (buildRow 26 #[(0, U c), (1, I d), (2, U p), (3, .int .i64 14), (5, .agg #[U x, U x])]).run Tryz.prog w = .ok (.agg (tcells ⟨c, d, p, 14, 0, fun _ => x, fun _ => 0#64, fun _ => 0#64⟩)) w := by kernel_rfl
attribute [local go_sem] build_slice8 build_new
attribute [local go_sem high] build_ctrl
attribute [local go_sem ↓] brow26
theorem acc_tops : accB (List.replicate 8 128#8) = tops := by decide +kernel
theorem rNew_any (c : BitVec 64) (d : Int) (p : BitVec 64) (w : World) : Calls Tryz.prog 94 #[U c, I d, U p] w fun e w' => e = .returned (.agg (tcells (bareT c d p))) ∧ Ch [] w w' := by
  have O1 : ∀ (w : World) (g : Nat), w.heap[g]? = some (.cells (#[.int .u8 128, .int .u8 128, .int .u8 128, .int .u8 128, .int .u8 128, .int .u8 128, .int .u8 128, .int .u8 128]) 5 (0, 0)) → Calls Tryz.prog 156 #[.slice (some ⟨g, 0, none⟩) 8 8] w fun e w' => e = .returned (U tops) ∧ w = w' := fun w g hg => by
    have h := rOf_any (List.replicate 8 128#8) (by simp) g 8 (#[.int .u8 128, .int .u8 128, .int .u8 128, .int .u8 128, .int .u8 128, .int .u8 128, .int .u8 128, .int .u8 128]) w hg (fun j b hj => by
      rw [List.getElem?_replicate] at hj
      rw [show (#[.int .u8 128, .int .u8 128, .int .u8 128, .int .u8 128, .int .u8 128, .int .u8 128, .int .u8 128, .int .u8 128] : Array Value) = Array.replicate 8 (.int .u8 128) from rfl, Array.getElem?_replicate]
      split at hj
      · rename_i h; rw [if_pos h]; cases hj; rfl
      · cases hj)
    rwa [acc_tops] at h
  have HB : bareT c d p = ⟨c, d, p, 14, 0, fun _ => tops, fun _ => 0#64, fun _ => 0#64⟩ := rfl
  rw [HB]
  clear HB
  generalize tops = x at *
  obtain ⟨W0, hW0⟩ : ∃ W0, w.alloc (.cells (tcells zeroT) 26) = W0 := ⟨_, rfl⟩
  have hC0 : Ch [] w W0 := by rw [← hW0]; exact (Ch.refl [] w).alloc _
  have b0 : W0.heap[w.heap.size]? = some (.cells (tcells zeroT) 26 (0, 0)) := by rw [← hW0]; simp [go_sem]
  obtain ⟨W1, hW1⟩ : ∃ W1, W0.alloc (.cells (#[.int .u8 128, .int .u8 128, .int .u8 128, .int .u8 128, .int .u8 128, .int .u8 128, .int .u8 128, .int .u8 128]) 5) = W1 := ⟨_, rfl⟩
  have hC1 : Ch [] W0 W1 := by rw [← hW1]; exact (Ch.refl [] W0).alloc _
  have y1 : W1.heap[W0.heap.size]? = some (.cells (#[.int .u8 128, .int .u8 128, .int .u8 128, .int .u8 128, .int .u8 128, .int .u8 128, .int .u8 128, .int .u8 128]) 5 (0, 0)) := by rw [← hW1]; simp [go_sem]
  have b1 := hkeep hC1 b0
  go_enter Tryz.func94, Tryz.ntmps94
  go_wp2_with fail
  refine (O1 _ _ y1).mono ?_
  rintro e w' ⟨rfl, rfl⟩
  clear O1
  go_wp2
  refine bodyPost_ret (v := .agg (tcells ⟨c, d, p, 14, 0, fun _ => x, fun _ => 0#64, fun _ => 0#64⟩)) (zdi Tryz.results94 _ _ _ rfl (run_loadVar_row _ _ 26 26 (tcells _) (0, 0) _ ?_ Tryz.underlying26 rfl (by rw [zai]; kernel_rfl))) rfl ⟨rfl, ?_⟩
  · simp only [zab, if_true, b1, Option.map_some, zco]
  · exact (hC0.trans hC1).onObj (.inr (Nat.le_refl _)) _
end
end Go.Proofs.Hc
