/- The reference of layer 17: Full, h2, Goes. -/
import Derived.Test.YtcikopeddljgkaaGreatJWa
set_option linter.unusedSimpArgs false
set_option linter.unusedVariables false
set_option maxHeartbeats 4000000
set_option maxRecDepth 100000
namespace Go.Proofs.Hc
open Go.RowKit
attribute [local go_sem] zbu zcc zax zbf zbo zbd zbn zbp zbw signed64 signed8 zap BitVec.ofInt_add BitVec.ofInt_mul ofInt_sub' zbb zbc wide8 eqN neN zca shr1 shr7 shr56
attribute [local go_sem high] zbe zbv
attribute [local go_sem] zaw zby zaj zas zaf zaz zar zak zbm zal zay zba
attribute [local go_sem] load26 load73 load23 store26 build73
attribute [local go_sem ↓] lrow26 lrow73 lrow23 srow26 zero26 brow73 zae zbk zbg zaa zab
attribute [local go_sem] zai zav zat zbj zbl zbr zaq zau zbs zbi zbh
attribute [local go_sem] nn2 nm2 nn3 nm3 nn4 nm4 nn5 nm5 nn6 nm6 nn7 nm7 nn8 nm8
section
attribute [local go_sem] zap
attribute [local go_sem] box26 zcb cell0 cell1 cell2 cell3 cell4
theorem tcells_ctrl_at (t : Tab) (g : Nat) (h : g < 2) : (tcells t)[5 + g]? = some (U (t.c g)) := by
  rw [zat, if_pos (by omega)]
  match g, h with
  | 0, _ => rfl
  | 1, _ => rfl
theorem rFull_any (t : Tab) (n : Nat) (hn : n < 16) (w : World) : Calls Tryz.prog 149 #[.agg (tcells t), I n] w fun e w' => e = .returned (.bool (fullJ t n)) ∧ Ch [] w w' := by
  have F1 := fun w => rFull9_any (t.c (n / 8)) (n % 8) (by omega) w
  have HJ : Hid (decide ((byteAt (t.c (n / 8)) (n % 8)).toNat < 128) = fullJ t n) := Lib.hid rfl
  have hd : (n : Int).tdiv 8 = ((n / 8 : Nat) : Int) := by rw [Int.tdiv_eq_ediv_of_nonneg (by omega)]; rfl
  have hm : (n : Int).tmod 8 = ((n % 8 : Nat) : Int) := by rw [Int.tmod_eq_emod_of_nonneg (by omega)]; rfl
  have hg : n / 8 < 2 := by omega
  have hc5 := tcells_ctrl_at t (n / 8) hg
  generalize fullJ t n = r at *
  rw [HJ.out] at F1
  generalize n / 8 = g at *
  generalize n % 8 = x at *
  go_enter Tryz.func149, Tryz.ntmps149
  go_wp2_with (go_at_call 218; refine (F1 _).mono ?_; rintro e w' ⟨rfl, rfl⟩)
  go_ret
  exact ⟨rfl, (Ch.refl [] w).alloc _⟩
theorem rh2_any (s k : BitVec 64) (w : World) : Calls Tryz.prog 90 #[U s, U k] w fun e w' => e = .returned (Y (hash2 (hashOf s k))) ∧ w = w' := by
  have H1 := fun w => rHash_any s k w
  have H2 := fun w => rH2_any (hashOf s k) w
  generalize hash2 (hashOf s k) = r at *
  generalize hashOf s k = h at *
  go_enter Tryz.func90, Tryz.ntmps90
  go_wp2_with (first
    | (go_at_call 151; refine (H1 _).mono ?_; rintro e w' ⟨rfl, rfl⟩)
    | (go_at_call 150; refine (H2 _).mono ?_; rintro e w' ⟨rfl, rfl⟩))
  go_ret
  exact ⟨rfl, rfl⟩
theorem rTop_int (h : BitVec 64) (d : Int) (h0 : 0 ≤ d) (h5 : d ≤ 5) (w : World) : Calls Tryz.prog 152 #[U h, I d] w fun e w' => e = .returned (U (topT h d)) ∧ w = w' := by
  have h := rTop_any h d.toNat (by omega) w
  rwa [show ((d.toNat : Nat) : Int) = d by omega] at h
theorem rGoes_any (t : Tab) (s k : BitVec 64) (hf : flatT t = true) (w : World) : Calls Tryz.prog 91 #[U s, .agg (tcells t), U k] w fun e w' => e = .returned (.bool (hasT t (hashOf s k))) ∧ Ch [] w w' := by
  have H1 := fun w => rHash_any s k w
  have T1 := fun w => rTop_int (hashOf s k) t.depth (flat_depth t hf).1 (flat_depth t hf).2 w
  have HJ : Hid ((topT (hashOf s k) t.depth == t.pre) = hasT t (hashOf s k)) := Lib.hid (by rw [hasT, hf, Bool.true_and])
  clear hf
  generalize hasT t (hashOf s k) = r at *
  generalize topT (hashOf s k) t.depth = x at *
  generalize hashOf s k = h at *
  go_enter Tryz.func91, Tryz.ntmps91
  go_wp2
  obtain ⟨W0, hW0⟩ : ∃ W0, w.alloc (.cells (tcells t) 26) = W0 := ⟨_, rfl⟩
  have hC0 : Ch [] w W0 := by rw [← hW0]; exact (Ch.refl [] w).alloc _
  have hg : ∀ g : Gar W0, (g.1).heap[w.heap.size]? = some (.cells (tcells t) 26 (0, 0)) := fun g => (g.2.block w.heap.size (by rw [← hW0]; simp) (by simp)).trans (by rw [← hW0]; simp [go_sem])
  rw [hW0]
  clear hW0
  refine wp_region_gar (by kernel_rfl) (by kernel_rfl) ?_
  repeat (go_big_quiet_step ((first | (go_at_call 151; exact garL (H1 _)) | (go_at_call 152; exact garL (T1 _)))))
  refine wpQuiet_nil ?_
  rintro w1 ⟨g1, hw1⟩
  have hc1 : Ch [] W0 w1 := by rw [hw1]; exact g1.2
  clear hw1 g1 hg
  go_wp2
  go_ret
  refine ⟨?_, hC0.trans hc1⟩
  rw [← HJ.out, ← eqN]
  rfl
end
section
attribute [local go_sem] zap
attribute [local go_sem] box26 zcb cell0 cell1 cell2 cell3 cell4
attribute [local irreducible] tcells
def IntsAt (w0 w : World) (v : Value) (l : List Nat) : Prop :=
  ∃ r c cur, v = .slice (some ⟨r, 0, none⟩) l.length c ∧ w0.heap.size ≤ r ∧ w.heap[r]? = some (.cells cur 3 (0, 0)) ∧ ∀ i x : Nat, l[i]? = some x → cur[i]? = some (I (x : Int))
theorem ints_own {w0 w : World} {B : Nat} {v : Value} {l : List Nat} (hB : w0.heap.size ≤ B) (hl : 0 < l.length) (h : w.ownsRow B 3 1 v l.length (icells l)) : IntsAt w0 w v l := by
  obtain ⟨_, ⟨hx, hn⟩ | ⟨r', cap', cur, hv, hrW, hr, hc2', hcm, hsz, hcur⟩⟩ := h
  · omega
  refine ⟨r', cap', cur, hv, by omega, hr, ?_⟩
  intro i x hi
  have hlt : i < l.length := (List.getElem?_eq_some_iff.1 hi).1
  have h1 : (cur.toList.take (l.length * 1))[i]? = some (I (x : Int)) := by
    rw [hcur]; unfold icells; rw [List.getElem?_map, hi]; rfl
  rw [List.getElem?_take, if_pos (by omega)] at h1
  simpa using h1
theorem rRow8_at (h : BitVec 64) (w : World) : Calls Tryz.prog 153 #[.int .i64 2, U h] w fun e w' => ∃ r c cur, e = .returned (.slice (some ⟨r, 0, none⟩) 2 c) ∧ w.heap.size ≤ r ∧ w'.heap[r]? = some (.cells cur 3 (0, 0)) ∧ (∀ j : Nat, j < 2 → cur[j]? = some (I (((g0 h + j) % 2 : Nat) : Int))) ∧ Ch [] w w' := by
  refine (rRow8_any h w).mono ?_
  rintro e w' ⟨a, c, rfl, hown, hc⟩
  obtain ⟨r, c', cur, hv, hr, hb, hi⟩ := ints_own (w0 := w) (l := grp (g0 h) 2) (Nat.le_refl _) (by simp [grp]) hown
  have hl : (grp (g0 h) 2).length = 2 := by simp [grp]
  rw [hl] at hv
  refine ⟨r, c', cur, by rw [hv], hr, hb, ?_, hc⟩
  intro j hj
  refine hi j _ ?_
  simp [grp, hj]
theorem row_stop (e : Nat → Bool) (g j : Nat) (hj : j < 2) (hg : g < 2) (h1 : 0 < j → e g = false) (h2 : e ((g + j) % 2) = true) : (if e g = true then [g] else [g, 1 - g]) = grp g (j + 1) := by
  rcases (show j = 0 ∨ j = 1 by omega) with rfl | rfl
  · rw [Nat.add_zero, Nat.mod_eq_of_lt hg] at h2
    rw [if_pos h2]
    unfold grp
    simp [Nat.mod_eq_of_lt hg]
  · rw [h1 (by omega), if_neg (by simp)]
    exact (grp_two _ hg).symm
theorem rowT_stop {t : Tab} {s k : BitVec 64} {j : Nat} (hj : j < 2) (h1 : 0 < j → (emptyM (t.c (gOf s k)) != 0#8) = false) (h2 : (emptyM (t.c ((gOf s k + j) % 2)) != 0#8) = true) : rowT t s k = grp (gOf s k) (j + 1) := by
  have hg := gOf_lt s k
  unfold rowT
  generalize gOf s k = g at *
  obtain ⟨f, hf⟩ : ∃ f : Nat → Bool, ∀ i, (emptyM (t.c i) != 0#8) = f i := ⟨fun i => emptyM (t.c i) != 0#8, fun _ => rfl⟩
  rw [hf] at h1 h2 ⊢
  exact row_stop f g j hj hg h1 h2
theorem rowT_all {t : Tab} {s k : BitVec 64} (h1 : (emptyM (t.c (gOf s k)) != 0#8) = false) : rowT t s k = grp (gOf s k) 2 := by
  have hg := gOf_lt s k
  unfold rowT
  generalize gOf s k = g at *
  rw [h1, if_neg (by simp)]
  exact (grp_two _ hg).symm
theorem rRow_any (t : Tab) (s k : BitVec 64) (w : World) : Calls Tryz.prog 93 #[U s, .agg (tcells t), U k] w fun e w' => ∃ v, e = .returned v ∧ IntsAt w w' v (rowT t s k) ∧ Ch [] w w' := by
  obtain ⟨i0, hi, hz0, hz1, hz2⟩ := info_parts infoInt
  have H1 := fun w => rHash_any s k w
  have H2 := fun w => rH1_any (hashOf s k) w
  have R1 := fun w => rRow8_at (hash1 (hashOf s k)) w
  have hstop := fun j (hj : j < 2) => @rowT_stop t s k j hj
  have hall := @rowT_all t s k
  have hg2 := gOf_lt s k
  have eg : g0 (hash1 (hashOf s k)) = gOf s k := rfl
  rw [eg] at R1
  clear eg
  generalize gOf s k = g at *
  generalize rowT t s k = rwT at *
  generalize hash1 (hashOf s k) = h1 at *
  generalize hashOf s k = h at *
  go_enter Tryz.func93, Tryz.ntmps93
  go_wp2_with (first
    | (go_at_call 151; refine (H1 _).mono ?_; rintro e w' ⟨rfl, rfl⟩)
    | (go_at_call 154; refine (H2 _).mono ?_; rintro e w' ⟨rfl, rfl⟩)
    | (go_at_call 153; refine (R1 _).mono ?_; rintro e W2 ⟨r, rc, cur, rfl, hr, hcur, hel, hc2⟩))
  have hcB : W2.heap[w.heap.size]? = some (.cells (tcells t) 26 (0, 0)) := (hc2.block w.heap.size (by simp) (by simp)).trans (by simp [go_sem])
  have hCC : Ch [] w W2 := ((Ch.refl [] w).alloc _).trans hc2
  have hz2' := hCC.size
  clear hc2
  go_loopw [7, 16] (fun v i wr => ∃ j : Nat, i = .int .i64 j ∧ j ≤ 2 ∧ wr.ownsRow W2.heap.size 3 1 v j (icells (grp g j)) ∧ Ch [] W2 wr ∧ (0 < j → (emptyM (t.c g) != 0#8) = false)) (fun _ i _ => 2 - (intOf i).toNat)
  case atStart => exact ⟨0, rfl, by omega, World.ownsRow_nil _ _ _ _, Ch.refl _ _, fun h => absurd h (Nat.lt_irrefl 0)⟩
  case round =>
    obtain ⟨j, hj, hj8, hown, hcr, hst⟩ := hrel
    subst hj
    have hz := hcr.size
    have hcB' : wr.heap[w.heap.size]? = some (.cells (tcells t) 26 (0, 0)) := (hcr.block _ (Array.getElem?_eq_some_iff.1 hcB).1 (by simp)).trans hcB
    have hcur' : wr.heap[r]? = some (.cells cur 3 (0, 0)) := (hcr.block _ (Array.getElem?_eq_some_iff.1 hcur).1 (by simp)).trans hcur
    have HB := Lib.hid hcB
    have HR := Lib.hid hcur
    clear hcB hcur
    by_cases hlt : j < 2
    · have helj := hel j hlt
      have HS := Lib.hid (grp_succ g j)
      have hob := own_block hown
      have S1 := fun w => rStops_any (t.c ((g + j) % 2)) w
      have hstj := Lib.hid (hstop j hlt hst)
      have hne : ((g + j) % 2 < 2) := Nat.mod_lt _ (by decide)
      have hltB : w.heap.size < wr.heap.size := (Array.getElem?_eq_some_iff.1 hcB').1
      have hneB : w.heap.size ∉ u7.ownBlock.toList := fun h => by
        have h1 := hob w.heap.size (by simpa using h)
        have h2 := (Array.getElem?_eq_some_iff.1 HB.out).1
        omega
      have hbl : Hid (∀ w1, Ch (u7.ownBlock.toList) wr w1 → w1.heap[w.heap.size]? = some (.cells (tcells t) 26 (0, 0))) := Lib.hid (fun w1 c => (c.block _ hltB hneB).trans hcB')
      have hSS : Hid (∀ s ∈ u7.ownBlock.toList, W2.heap.size ≤ s) := Lib.hid (fun s hs => hob s (by simpa using hs))
      have HF : Hid ((emptyM (t.c ((g + j) % 2)) != 0#8) = false → (emptyM (t.c g) != 0#8) = false) := Lib.hid fun he => by
        by_cases h0 : j = 0
        · rw [h0, Nat.add_zero, Nat.mod_eq_of_lt hg2] at he; exact he
        · exact hst (by omega)
      clear hltB hneB hob hst hel hstop hall
      have hln : (grp g (j + 1)).length = j + 1 := by simp [grp]
      have hc5 := tcells_ctrl_at t ((g + j) % 2) hne
      generalize tcells t = tc at *
      generalize icells (grp g j) = ys at *
      generalize (g + j) % 2 = gj at *
      generalize (emptyM (t.c gj) != 0#8) = st at *
      cases st
      all_goals
        go_upto_region 6 with (at_builtin; refine wpList_append_own _ rfl _ _ 154 rfl W2.heap.size 3 i0 (.int .i64 0) 1 8 Tryz.underlying154 hi hz0 hz1 hz2 rfl (by decide) _ _ _ rfl (hown.alloc _) ⟨wr.heap.size, 0, none⟩ 1 1 [I (gj : Int)] rfl rfl (cell_one_new _ _ _) (by simp [Value.oneCell']) (by unfold maxLen; omega) (by omega) (by simp; omega) ?_; intro v' w1 hown' hgrow hnil; clear hnil; have hgr : (wr.alloc (.cells #[I (gj : Int)] 3)).grownBy w1 u7.ownBlock := hgrow; have hW1 : Ch (u7.ownBlock.toList) wr w1 := (((Ch.refl [] wr).alloc (.cells #[I (gj : Int)] 3)).of_nil).trans2 (Ch.of_grown (S := u7.ownBlock.toList) hgr (fun k hk => by simp [hk])) (fun t ht => .inl ht); have hB1 := hbl.out w1 hW1; clear helj hcur' hcB'; have HW1 := Lib.hid hW1; have HO := Lib.hid hown'; have HG := Lib.hid hgrow; clear hown' hgrow hgr hW1)
        generalize t.c gj = x at *
        rcases (show gj = 0 ∨ gj = 1 by omega) with rfl | rfl
      all_goals
        obtain ⟨va, vc, rfl⟩ := own_form HO.out
        go_wp2_with (go_at_call 155; refine (S1 _).mono ?_; rintro e w' ⟨rfl, rfl⟩)
        first
          | (go_roundw
             case rel => exact ⟨j + 1, by go_num, hlt, by rw [HS.out]; exact HO.out, hcr.trans2 HW1.out (fun t ht => .inr (hSS.out t ht)), fun _ => HF.out (by first | trivial | rfl)⟩
             case measure => simp [intOf]; omega)
          | (go_ret
             refine ⟨_, rfl, ?_, hCC.trans (hcr.trans2 HW1.out (fun t ht => .inr (hSS.out t ht)))⟩
             rw [hstj.out (by first | trivial | rfl)]
             refine ints_own hz2' (by rw [hln]; omega) ?_
             rw [hln, HS.out]
             exact HO.out)
    · have hj8 : j = 2 := by omega
      subst hj8
      have HO := Lib.hid hown
      have hr2 := Lib.hid (hall (hst (by decide)))
      obtain ⟨a, c, rfl⟩ := own_form hown
      clear hown
      go_wp2
      go_ret
      refine ⟨_, rfl, ?_, hCC.trans hcr⟩
      rw [hr2.out]
      exact ints_own hz2' (by simp [grp]) (by simpa [grp] using HO.out)
end
end Go.Proofs.Hc
namespace Go.Proofs.Hc
open Go.RowKit
def slotR (t : Tab) (k : BitVec 64) : Option Nat := (List.range 16).find? fun j => fullJ t j && t.k j == k
def slotI : Option Nat → Int
  | none => -1
  | some j => j
theorem slotR_some {t : Tab} {k : BitVec 64} {j : Nat} (hj : j < 16) (h : (fullJ t j && t.k j == k) = true) (h0 : ∀ i, i < j → (fullJ t i && t.k i == k) = false) : slotR t k = some j := by
  rw [slotR, List.find?_range_eq_some]
  exact ⟨h, by simpa using hj, fun i hi => by rw [h0 i hi]; rfl⟩
theorem slotR_none {t : Tab} {k : BitVec 64} (h0 : ∀ i, i < 16 → (fullJ t i && t.k i == k) = false) : slotR t k = none := by
  rw [slotR, List.find?_range_eq_none]
  exact fun i hi => by rw [h0 i hi]; rfl
theorem slotR_is {t : Tab} {k : BitVec 64} {j : Nat} (h : slotR t k = some j) : j < 16 ∧ fullJ t j = true ∧ t.k j = k ∧ ∀ i, i < j → fullJ t i = true → t.k i ≠ k := by
  rw [slotR, List.find?_range_eq_some] at h
  obtain ⟨h1, h2, h3⟩ := h
  rw [Bool.and_eq_true, beq_iff_eq] at h1
  refine ⟨by simpa using h2, h1.1, h1.2, fun i hi hf hk => ?_⟩
  have := h3 i hi
  rw [hf, hk] at this
  simp at this
theorem slotR_no {t : Tab} {k : BitVec 64} (h : slotR t k = none) : ∀ i, i < 16 → fullJ t i = true → t.k i ≠ k := by
  rw [slotR, List.find?_range_eq_none] at h
  intro i hi hf hk
  have := h i hi
  rw [hf, hk] at this
  simp at this
theorem slotR_cases {t : Tab} {s : BitVec 64} (m : May t s) (k : BitVec 64) : (slotR t k = none ∧ foundE t s k = .error 4 ∧ hasKT t k = false) ∨
    ∃ j n, slotR t k = some j ∧ j < 16 ∧ fullJ t j = true ∧ t.k j = k ∧ foundE t s k = .ok (j, n) ∧ hasKT t k = true := by
  cases h : slotR t k with
  | none =>
    have h1 := slotR_no h
    refine .inl ⟨rfl, found_none h1, ?_⟩
    cases hk : hasKT t k with
    | false => rfl
    | true => obtain ⟨j, hj, hf, he⟩ := (hasKT_iff t k).1 hk; exact absurd he (h1 j hj hf)
  | some j =>
    obtain ⟨h1, h2, h3, _⟩ := slotR_is h
    obtain ⟨n, hn⟩ := found_of m h1 h2 h3
    exact .inr ⟨j, n, rfl, h1, h2, h3, hn, (hasKT_iff t k).2 ⟨j, h1, h2, h3⟩⟩
end Go.Proofs.Hc
namespace Go.Proofs.Hc
open Go.RowKit
attribute [local go_sem] zbu zcc zax zbf zbo zbd zbn zbp zbw signed64 signed8 zap BitVec.ofInt_add BitVec.ofInt_mul ofInt_sub' zbb zbc wide8 eqN neN zca shr1 shr7 shr56
attribute [local go_sem high] zbe zbv
attribute [local go_sem] zaw zby zaj zas zaf zaz zar zak zbm zal zay zba
attribute [local go_sem] load26 load73 load23 store26 build73
attribute [local go_sem ↓] lrow26 lrow73 lrow23 srow26 zero26 brow73 zae zbk zbg zaa zab
attribute [local go_sem] zai zav zat zbj zbl zbr zaq zau zbs zbi zbh
attribute [local go_sem] nn2 nm2 nn3 nm3 nn4 nm4 nn5 nm5 nn6 nm6 nn7 nm7 nn8 nm8
section
attribute [local go_sem] zap
attribute [local go_sem] box26 zcb cell0 cell1 cell2 cell3 cell4
attribute [local irreducible] tcells
theorem rSlot_any (t : Tab) (k : BitVec 64) (w : World) : Calls Tryz.prog 89 #[.agg (tcells t), U k] w fun e w' => e = .returned (I (slotI (slotR t k))) ∧ Ch [] w w' := by
  have HS := Lib.hid (fun j (h1 : j < 16) h2 h3 => @slotR_some t k j h1 h2 h3)
  have HN := Lib.hid (@slotR_none t k)
  generalize slotR t k = r at *
  go_enter Tryz.func89, Tryz.ntmps89
  go_wp2
  obtain ⟨W0, hW0⟩ : ∃ W0, w.alloc (.cells (tcells t) 26) = W0 := ⟨_, rfl⟩
  have hC0 : Ch [] w W0 := by rw [← hW0]; exact (Ch.refl [] w).alloc _
  have hB0 : W0.heap[w.heap.size]? = some (.cells (tcells t) 26 (0, 0)) := by rw [← hW0]; simp [go_sem]
  rw [hW0]
  clear hW0
  go_loopw [6] (fun i wr => ∃ j : Nat, i = .int .i64 j ∧ j ≤ 16 ∧ Ch [] W0 wr ∧ ∀ i, i < j → (fullJ t i && t.k i == k) = false) (fun i _ => 16 - (intOf i).toNat)
  case atStart => exact ⟨0, rfl, by omega, Ch.refl _ _, fun i hi => by omega⟩
  case round =>
    obtain ⟨j, hj, hj8, hcr, hno⟩ := hrel
    subst hj
    have hB := hkeep hcr hB0
    have HO := Lib.hid hno
    clear hno
    by_cases hlt : j < 16
    · have F1 := fun w => rFull_any t j hlt w
      have hkey := tcells_key t j hlt
      have HJ : Hid (fullJ t j = true → (t.k j == k) = true → r = some j) := Lib.hid fun h1 h2 => HS.out j hlt (by rw [h1, h2]; rfl) HO.out
      have HJ2 : Hid ((fullJ t j && t.k j == k) = false → ∀ i, i < j + 1 → (fullJ t i && t.k i == k) = false) := Lib.hid fun h i hi => by
        by_cases he : i = j
        · rw [he]; exact h
        · exact HO.out i (by omega)
      generalize t.k j = kj at *
      generalize fullJ t j = f at *
      clear hB0
      have hbl : (kj == k) = true ∨ (kj == k) = false := by cases (kj == k) <;> simp
      rcases hbl with he | he
      all_goals cases f
      all_goals
        go_wp2_with (go_at_call 149; refine (F1 _).mono ?_; rintro e w' ⟨rfl, hcf⟩; have hB' := hkeep hcf hB; have HCF := Lib.hid hcf; clear hB hcf)
        first
          | (go_roundw
             case rel => exact ⟨j + 1, by go_num, hlt, hcr.trans HCF.out, HJ2.out (by simp [he])⟩
             case measure => simp [intOf]; omega)
          | (go_ret
             refine ⟨?_, (hC0.trans hcr).trans HCF.out⟩
             rw [HJ.out (by first | trivial | rfl) he]
             rfl)
    · have hj8 : j = 16 := by omega
      subst hj8
      have hr := Lib.hid (HN.out HO.out)
      go_wp2
      go_ret
      exact ⟨by rw [hr.out]; rfl, hC0.trans hcr⟩
end
end Go.Proofs.Hc
namespace Go.Proofs.Hc
open Go.RowKit
def posG (l : List Nat) : List Nat := l.flatMap fun g => (List.range 8).map fun x => 8 * g + x
theorem posG_nil : posG [] = [] := rfl
theorem posG_cons (g : Nat) (l : List Nat) : posG (g :: l) = ((List.range 8).map fun x => 8 * g + x) ++ posG l := by rw [posG, List.flatMap_cons, posG]
def restP (g j : Nat) (l : List Nat) : List Nat := ((List.range' j (8 - j)).map fun x => 8 * g + x) ++ posG l
theorem restP_zero (g : Nat) (l : List Nat) : restP g 0 l = posG (g :: l) := by rw [posG_cons, restP, List.range_eq_range']
theorem restP_succ {g j : Nat} {l : List Nat} (hj : j < 8) : restP g j l = (8 * g + j) :: restP g (j + 1) l := by
  rw [restP, restP, show 8 - j = (8 - (j + 1)) + 1 by omega, List.range'_succ]; rfl
theorem restP_end (g : Nat) (l : List Nat) : restP g 8 l = posG l := by rw [restP]; rfl
theorem drop_cons {l : List Nat} {i g : Nat} (h : l[i]? = some g) : l.drop i = g :: l.drop (i + 1) := by
  obtain ⟨hi, he⟩ := List.getElem?_eq_some_iff.1 h
  rw [List.drop_eq_getElem_cons hi, he]
def placeO (t : Tab) : Option Nat → Except Int Nat
  | none => .error 6
  | some y => if bt t y == 128#8 && t.can == 0 then .error 6 else .ok y
def freeR (t : Tab) (l : List Nat) : Option Nat := l.find? fun y => !fullJ t y
theorem freeR_nil (t : Tab) : freeR t [] = none := rfl
theorem freeR_skip {t : Tab} {y : Nat} {l : List Nat} (h : fullJ t y = true) : freeR t (y :: l) = freeR t l := by
  rw [freeR, List.find?_cons, h]; rfl
theorem freeR_hit {t : Tab} {y : Nat} {l : List Nat} (h : fullJ t y = false) : freeR t (y :: l) = some y := by
  rw [freeR, List.find?_cons, h]; rfl
def placeR (t : Tab) (s k : BitVec 64) : Except Int Nat :=
  if hasT t (hashOf s k) then (if (slotR t k).isSome then .error 5 else placeO t (freeR t (posG (rowT t s k)))) else .error 2
theorem free_full {t : Tab} (hok : ∀ j, j < 16 → (bt t j).toNat < 128 ∨ bt t j = 128#8 ∨ bt t j = 254#8) (g x : Nat) (hg : g < 2) (hx : x < 8) : (freeM (t.c g)).getLsbD x = !fullJ t (8 * g + x) := by
  have h := hok (8 * g + x) (by omega)
  have hi := free_iff t g x hx
  rw [Bool.eq_iff_iff, hi, fullJ]
  generalize bt t (8 * g + x) = b at *
  rcases h with h | h | h
  · have e1 : b ≠ 128#8 := by intro e; rw [e] at h; exact absurd h (by decide)
    have e2 : b ≠ 254#8 := by intro e; rw [e] at h; exact absurd h (by decide)
    simp [e1, e2]; omega
  · rw [h]; decide
  · rw [h]; decide
theorem find_congr {α : Type} {p q : α → Bool} : ∀ {l : List α}, (∀ x ∈ l, p x = q x) → l.find? p = l.find? q
  | [], _ => rfl
  | x :: l, h => by rw [List.find?_cons, List.find?_cons, h x (by simp), find_congr fun y hy => h y (by simp [hy])]
theorem freeIn_pos {t : Tab} (hok : ∀ j, j < 16 → (bt t j).toNat < 128 ∨ bt t j = 128#8 ∨ bt t j = 254#8) (g : Nat) (hg : g < 2) :
    freeIn t g = (freeR t ((List.range 8).map fun x => 8 * g + x)).map fun y => (y / 8, y % 8) := by
  rw [freeIn_eq, freeR, List.find?_map, lanesOf, List.head?_filter]
  have e : (List.range 8).find? (fun i => (freeM (t.c g)).getLsbD i) = (List.range 8).find? ((fun y => !fullJ t y) ∘ fun x => 8 * g + x) := by
    apply find_congr
    intro x hx
    rw [free_full hok g x hg (by simpa using hx)]; rfl
  rw [e, Option.map_map]
  cases hf : (List.range 8).find? ((fun y => !fullJ t y) ∘ fun x => 8 * g + x) with
  | none => rfl
  | some x =>
    have hx : x < 8 := by simpa using List.mem_of_find?_eq_some hf
    rw [Option.map_some, Option.map_some, Function.comp_apply, show (8 * g + x) / 8 = g by omega, show (8 * g + x) % 8 = x by omega]
theorem freeR_append (t : Tab) (a b : List Nat) : freeR t (a ++ b) = (freeR t a).or (freeR t b) := by rw [freeR, List.find?_append, freeR, freeR]
theorem freeAt_pos {t : Tab} (hok : ∀ j, j < 16 → (bt t j).toNat < 128 ∨ bt t j = 128#8 ∨ bt t j = 254#8) : ∀ l : List Nat, (∀ g ∈ l, g < 2) → freeAt t l = (freeR t (posG l)).map fun y => (y / 8, y % 8)
  | [], _ => rfl
  | g :: l, h => by
    have ih := freeAt_pos hok l fun g' hg' => h g' (by simp [hg'])
    rw [freeAt] at ih ⊢
    rw [List.findSome?_cons, freeIn_pos hok g (h g (by simp)), ih, posG_cons, freeR_append]
    cases freeR t ((List.range 8).map fun x => 8 * g + x) <;> rfl
theorem freeR_mem {t : Tab} {l : List Nat} {y : Nat} (h : freeR t l = some y) : y ∈ l ∧ fullJ t y = false := by
  rw [freeR] at h
  exact ⟨List.mem_of_find?_eq_some h, by simpa using List.find?_some h⟩
theorem mem_posG {l : List Nat} {y : Nat} (h : y ∈ posG l) : y / 8 ∈ l := by
  rw [posG, List.mem_flatMap] at h
  obtain ⟨g, hg, hy⟩ := h
  obtain ⟨x, hx, rfl⟩ := List.mem_map.1 hy
  have : x < 8 := by simpa using hx
  rw [show (8 * g + x) / 8 = g by omega]; exact hg
theorem placeO_eq {t : Tab} {s : BitVec 64} (m : May t s) {y : Nat} (hy : y < 16) (hf : fullJ t y = false) : placeO t (some y) = if (delM (t.c (y / 8)) &&& laneM (y % 8) != 0#8) || decide (0 < t.can) then .ok (8 * (y / 8) + y % 8) else .error 6 := by
  have h1 := (flatT_iff t).1 m.flat
  have hok := m.ok y hy
  have hd : (delM (t.c (y / 8)) &&& laneM (y % 8) != 0#8) = (bt t y == 254#8) := by
    have h2 := and_lane (delM (t.c (y / 8))) (y % 8) (by omega)
    rw [delM_bit _ _ (by omega)] at h2
    rw [Bool.eq_iff_iff, bne_iff_ne, ne_eq, h2, bt]
    simp
  rw [hd, placeO, show 8 * (y / 8) + y % 8 = y by omega]
  have h4 := h1.2.2.2.1
  have hb : bt t y = 128#8 ∨ bt t y = 254#8 := by
    rcases hok with h | h | h
    · rw [fullJ, decide_eq_true h] at hf; cases hf
    · exact .inl h
    · exact .inr h
  rcases hb with h | h
  · rw [h]
    by_cases hc : t.can = 0
    · rw [hc]; rfl
    · have hc2 : 0 < t.can := by omega
      rw [decide_eq_true hc2, if_neg (by simp [hc]), if_pos (by simp)]
  · rw [h, if_neg (by simp), if_pos (by simp)]
theorem placeR_eq {t : Tab} {s : BitVec 64} (m : May t s) (k : BitVec 64) : placeR t s k = placeT t s k := by
  have hfr := freeAt_pos m.ok (rowT t s k) (row_bound t s k)
  have hs := slotR_cases m k
  rw [placeR, placeT]
  have hk : hasKT t k = (slotR t k).isSome := by
    rcases hs with ⟨h1, _, h2⟩ | ⟨j, n, h1, _, _, _, _, h2⟩
    · rw [h1, h2]; rfl
    · rw [h1, h2]; rfl
  rw [hk]
  generalize (slotR t k).isSome = b
  cases hasT t (hashOf s k)
  · rw [if_neg (by decide), if_neg (by decide)]
  · rw [if_pos rfl, if_pos rfl]
    cases b
    · rw [if_neg (by decide), if_neg (by decide), hfr]
      cases hf : freeR t (posG (rowT t s k)) with
      | none => rfl
      | some y =>
        obtain ⟨h1, h2⟩ := freeR_mem hf
        have h3 := row_bound t s k _ (mem_posG h1)
        rw [placeO_eq m (by omega) h2]
        simp only [Option.map_some]
    · rw [if_pos rfl, if_pos rfl]
end Go.Proofs.Hc
namespace Go.Proofs.Hc
open Go.RowKit
attribute [local go_sem] zbu zcc zax zbf zbo zbd zbn zbp zbw signed64 signed8 zap BitVec.ofInt_add BitVec.ofInt_mul ofInt_sub' zbb zbc wide8 eqN neN zca shr1 shr7 shr56
attribute [local go_sem high] zbe zbv
attribute [local go_sem] zaw zby zaj zas zaf zaz zar zak zbm zal zay zba
attribute [local go_sem] load26 load73 load23 store26 build73
attribute [local go_sem ↓] lrow26 lrow73 lrow23 srow26 zero26 brow73 zae zbk zbg zaa zab
attribute [local go_sem] zai zav zat zbj zbl zbr zaq zau zbs zbi zbh
attribute [local go_sem] nn2 nm2 nn3 nm3 nn4 nm4 nn5 nm5 nn6 nm6 nn7 nm7 nn8 nm8
section
attribute [local go_sem] zap
attribute [local go_sem] box26 zcb cell0 cell1 cell2 cell3 cell4 cell5 cell6
attribute [local irreducible] tcells
theorem N_128 : N 128#8 = 128 := rfl
attribute [local go_sem] N_128
theorem rPlace_no (t : Tab) (s k : BitVec 64) (w : World) (hf : flatT t = true) (hg : hasT t (hashOf s k) = false) : Calls Tryz.prog 157 #[U s, .agg (tcells t), U k] w fun e w' => e = .returned (.tuple #[I 0, I 2]) ∧ Ch [] w w' := by
  have G1 := fun w => rGoes_any t s k hf w
  rw [hg] at G1
  clear hf hg
  go_enter Tryz.func157, Tryz.ntmps157
  go_wp2_with (go_at_call 91; refine (G1 _).mono ?_; rintro e w1 ⟨rfl, hc1⟩)
  go_ret2
  exact ⟨rfl, ((Ch.refl [] w).alloc _).trans hc1⟩
theorem rPlace_has (t : Tab) (s k : BitVec 64) (w : World) (hf : flatT t = true) (hg : hasT t (hashOf s k) = true) (j : Nat) (hs : slotR t k = some j) : Calls Tryz.prog 157 #[U s, .agg (tcells t), U k] w fun e w' => e = .returned (.tuple #[I 0, I 5]) ∧ Ch [] w w' := by
  have G1 := fun w => rGoes_any t s k hf w
  have S1 := fun w => rSlot_any t k w
  rw [hg] at G1
  rw [hs] at S1
  dsimp only [slotI] at S1
  clear hf hg hs
  have hj0 : (0 : Int) ≤ (j : Int) := by omega
  have hB0 : (w.alloc (.cells (tcells t) 26)).heap[w.heap.size]? = some (.cells (tcells t) 26 (0, 0)) := by simp [go_sem]
  go_enter Tryz.func157, Tryz.ntmps157
  go_wp2_with (first
    | (go_at_call 91; refine (G1 _).mono ?_; rintro e w1 ⟨rfl, hc1⟩; have b1 := hkeep hc1 hB0; have D1 := Lib.hid (((Ch.refl [] w).alloc _).trans hc1); clear hc1 hB0)
    | (go_at_call 89; refine (S1 _).mono ?_; rintro e w2 ⟨rfl, hc2⟩; have D2 := Lib.hid (D1.out.trans hc2); clear hc2))
  go_ret2
  exact ⟨rfl, D2.out⟩
theorem rPlace_main (t : Tab) (s k : BitVec 64) (w : World) (hf : flatT t = true) (hg : hasT t (hashOf s k) = true) (hs : slotR t k = none) :
    Calls Tryz.prog 157 #[U s, .agg (tcells t), U k] w fun e w' => e = .returned (placeV (placeO t (freeR t (posG (rowT t s k))))) ∧ Ch [] w w' := by
  have G1 := fun w => rGoes_any t s k hf w
  have S1 := fun w => rSlot_any t k w
  have R1 := fun w => rRow_any t s k w
  rw [hg] at G1
  rw [hs] at S1
  dsimp only [slotI] at S1
  clear hf hg hs
  have hl2 := row_len t s k
  have hbd := Lib.hid (row_bound t s k)
  obtain ⟨R, hR⟩ : ∃ R, freeR t (posG (rowT t s k)) = R := ⟨_, rfl⟩
  rw [hR]
  have HR := Lib.hid hR.symm
  clear hR
  have HN : Hid (R = none → placeV (placeO t R) = .tuple #[I 0, I 6]) := Lib.hid fun h => by rw [h, placeO, placeV]
  have HY : Hid (∀ y, R = some y → (bt t y == 128#8 && t.can == 0) = false → placeV (placeO t R) = .tuple #[I y, I 0]) := Lib.hid fun y h hb => by rw [h, placeO, hb, if_neg (by decide), placeV]
  have HF : Hid (∀ y, R = some y → (bt t y == 128#8 && t.can == 0) = true → placeV (placeO t R) = .tuple #[I 0, I 6]) := Lib.hid fun y h hb => by rw [h, placeO, hb, if_pos rfl, placeV]
  generalize placeV (placeO t R) = V at *
  generalize rowT t s k = l at *
  have hB0 : (w.alloc (.cells (tcells t) 26)).heap[w.heap.size]? = some (.cells (tcells t) 26 (0, 0)) := by simp [go_sem]
  go_enter Tryz.func157, Tryz.ntmps157
  go_wp2_with (first
    | (go_at_call 91; refine (G1 _).mono ?_; rintro e w1 ⟨rfl, hc1⟩; have b1 := hkeep hc1 hB0; have D1 := Lib.hid (((Ch.refl [] w).alloc _).trans hc1); clear hc1 hB0)
    | (go_at_call 89; refine (S1 _).mono ?_; rintro e w2 ⟨rfl, hc2⟩; have b2 := hkeep hc2 b1; have D2 := Lib.hid (D1.out.trans hc2); clear hc2 b1)
    | (go_at_call 93; refine (R1 _).mono ?_; rintro e W2 ⟨v, rfl, ⟨r, c, cur, rfl, hr0, hcur, hel⟩, hc2⟩))
  have hB := hkeep hc2 b2
  have hCC : Ch [] w W2 := D2.out.trans hc2
  have HEL := Lib.hid hel
  clear hc2 b2 R1 hel hr0 G1 S1
  generalize w.heap.size = B at *
  go_loopw [25] (fun i wr => ∃ x : Nat, i = .int .i64 x ∧ x ≤ l.length ∧ Ch [] W2 wr ∧ R = freeR t (posG (l.drop x))) (fun i _ => l.length - (intOf i).toNat)
  case atStart => exact ⟨0, rfl, by omega, Ch.refl _ _, by rw [List.drop_zero]; exact HR.out⟩
  case round =>
    obtain ⟨x, hx, hxl, hcr, hC⟩ := hrel
    subst hx
    have hBr := hkeep hcr hB
    have hcurr := hkeep hcr hcur
    clear hB hcur
    by_cases hlt : x < l.length
    · obtain ⟨g, hg⟩ : ∃ g, l[x]? = some g := ⟨l[x]'hlt, List.getElem?_eq_getElem hlt⟩
      have hg2 : g < 2 := hbd.out g (List.mem_of_getElem? hg)
      have helg := HEL.out x g hg
      have HI : Hid (R = freeR t (restP g 0 (l.drop (x + 1)))) := Lib.hid (by rw [hC, drop_cons hg, restP_zero])
      clear hC hg HR
      obtain ⟨rest, hrest⟩ : ∃ rest, l.drop (x + 1) = rest := ⟨_, rfl⟩
      rw [hrest] at HI
      have HRS := Lib.hid hrest
      clear hrest
      go_wp2
      clear hcurr helg
      go_loopw [29] (fun i wq => ∃ j : Nat, i = .int .i64 j ∧ j ≤ 8 ∧ Ch [] wr wq ∧ R = freeR t (restP g j rest)) (fun i _ => 8 - (intOf i).toNat)
      case atStart => exact ⟨0, rfl, by omega, Ch.refl _ _, HI.out⟩
      case round =>
        obtain ⟨j, hj, hj8, hcq, hC⟩ := hrel
        subst hj
        have hBq := hkeep hcq hBr
        clear HI hBr
        by_cases hlj : j < 8
        · have A1 : ∀ w, Calls Tryz.prog 88 #[U (t.c g), I j] w fun e w' => e = .returned (Y (bt t (8 * g + j))) ∧ w = w' := fun w => by
            rw [bt_at t g j hlj]; exact rAt_any (t.c g) j (by omega) w
          have hy16 : 8 * g + j < 16 := by omega
          have F1 := fun w => rFull_any t (8 * g + j) hy16 w
          have hc5 := tcells_ctrl_at t g hg2
          rw [restP_succ hlj] at hC
          have HSK : Hid (fullJ t (8 * g + j) = true → R = freeR t (restP g (j + 1) rest)) := Lib.hid fun he => by rw [hC, freeR_skip he]
          have HHT : Hid (fullJ t (8 * g + j) = false → R = some (8 * g + j)) := Lib.hid fun he => by rw [hC, freeR_hit he]
          have HY1 := Lib.hid (HY.out (8 * g + j))
          have HF1 := Lib.hid (HF.out (8 * g + j))
          clear hC HY HF HN
          have hy : 8 * (g : Int) + (j : Int) = ((8 * g + j : Nat) : Int) := by omega
          generalize bt t (8 * g + j) = b at *
          generalize fullJ t (8 * g + j) = F at *
          generalize 8 * g + j = y at *
          cases F
          · have hQ : (b == 128#8) = true ∨ (b == 128#8) = false := by cases (b == 128#8) <;> simp
            have hK : (t.can == 0) = true ∨ (t.can == 0) = false := by cases (t.can == 0) <;> simp
            rcases hQ with hQ | hQ
            · have hQ' : b = 128#8 := by simpa using hQ
              subst hQ'
              rcases hK with hK | hK
              · have HV : Hid (V = .tuple #[I 0, I 6]) := Lib.hid (HF1.out (HHT.out (by first | trivial | rfl)) (by rw [hK]; rfl))
                clear HHT HSK HF1 HY1
                go_wp2_with (first
                  | (go_at_call 149; refine (F1 _).mono ?_; rintro e w3 ⟨rfl, hc3⟩; have b3 := hkeep hc3 hBq; have D3 := Lib.hid (hcq.trans hc3); clear hBq hc3)
                  | (go_at_call 88; refine (A1 _).mono ?_; rintro e w' ⟨rfl, rfl⟩))
                go_ret2
                exact ⟨by rw [HV.out]; rfl, hCC.trans (hcr.trans D3.out)⟩
              · have HV : Hid (V = .tuple #[I y, I 0]) := Lib.hid (HY1.out (HHT.out (by first | trivial | rfl)) (by rw [hK]; rfl))
                clear HHT HSK HF1 HY1
                go_wp2_with (first
                  | (go_at_call 149; refine (F1 _).mono ?_; rintro e w3 ⟨rfl, hc3⟩; have b3 := hkeep hc3 hBq; have D3 := Lib.hid (hcq.trans hc3); clear hBq hc3)
                  | (go_at_call 88; refine (A1 _).mono ?_; rintro e w' ⟨rfl, rfl⟩))
                go_ret2
                exact ⟨by rw [HV.out]; rfl, hCC.trans (hcr.trans D3.out)⟩
            · have hb6 : (N b == 128) = false := by rw [Y128]; exact hQ
              have HV : Hid (V = .tuple #[I y, I 0]) := Lib.hid (HY1.out (HHT.out (by first | trivial | rfl)) (by rw [hQ]; rfl))
              clear HHT HSK HF1 HY1 hK
              go_wp2_with (first
                | (go_at_call 149; refine (F1 _).mono ?_; rintro e w3 ⟨rfl, hc3⟩; have b3 := hkeep hc3 hBq; have D3 := Lib.hid (hcq.trans hc3); clear hBq hc3)
                | (go_at_call 88; refine (A1 _).mono ?_; rintro e w' ⟨rfl, rfl⟩))
              go_ret2
              exact ⟨by rw [HV.out]; rfl, hCC.trans (hcr.trans D3.out)⟩
          · clear HHT HF1 HY1 A1
            go_wp2_with (go_at_call 149; refine (F1 _).mono ?_; rintro e w3 ⟨rfl, hc3⟩; have D3 := Lib.hid (hcq.trans hc3); clear hBq hc3)
            go_roundw
            case rel => exact ⟨j + 1, by go_num, hlj, D3.out, HSK.out (by first | trivial | rfl)⟩
            case measure => simp [intOf]; omega
        · have hj8' : j = 8 := by omega
          subst hj8'
          rw [restP_end] at hC
          have HC8 := Lib.hid hC
          clear hC
          go_wp2
          go_roundw
          case rel => exact ⟨x + 1, by go_num, hlt, hcr.trans hcq, by rw [HRS.out]; exact HC8.out⟩
          case measure => simp [intOf]; omega
    · have hxe : x = l.length := by omega
      have HE : Hid (R = none) := Lib.hid (by rw [hC, hxe, List.drop_length, posG_nil, freeR_nil])
      have HV := Lib.hid (HN.out HE.out)
      clear hC hxe HR HN HY HF
      go_wp2
      go_ret2
      exact ⟨by rw [HV.out]; rfl, hCC.trans hcr⟩
theorem rPlace_any (t : Tab) (s k : BitVec 64) (m : May t s) (w : World) : Calls Tryz.prog 157 #[U s, .agg (tcells t), U k] w fun e w' => e = .returned (placeV (placeT t s k)) ∧ Ch [] w w' := by
  have hp := placeR_eq m k
  rw [placeR] at hp
  cases hg : hasT t (hashOf s k) with
  | false =>
    rw [hg, if_neg (by decide)] at hp
    rw [← hp]
    exact rPlace_no t s k w m.flat hg
  | true =>
    rw [hg, if_pos rfl] at hp
    cases hs : slotR t k with
    | none =>
      rw [hs, if_neg (by decide)] at hp
      rw [← hp]
      exact rPlace_main t s k w m.flat hg hs
    | some j =>
      rw [hs, Option.isSome_some, if_pos rfl] at hp
      rw [← hp]
      exact rPlace_has t s k w m.flat hg j hs
end
end Go.Proofs.Hc
