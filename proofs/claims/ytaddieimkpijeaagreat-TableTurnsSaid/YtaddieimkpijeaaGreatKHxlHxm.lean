/- The reference of layer 17: row. -/
import Derived.Test.YtaddieimkpijeaaGreatKHxhHxiHxjHxk
import Derived.Test.YtaddieimkpijeaaGreatKHpkHyaHyb
set_option linter.unusedSimpArgs false
set_option linter.unusedVariables false
namespace Go.Proofs.Hc
open Go.RowKit
attribute [local go_sem] wrap_u64 wrap_u8 bits_xor64 bits_and64 bits_or64 bits_not64 bits_xor8 bits_and8 bits_or8 signed64 signed8 ofInt_N BitVec.ofInt_add BitVec.ofInt_mul ofInt_sub' ofInt8_N64 ofInt64_N8 wide8 eqN neN shr_pow shr1 shr7 shr56
attribute [local go_sem high] bits_com64 shl_wrap
attribute [local go_sem] cell_heap ice_heap cellAt_cells iceAt_cells setAt_cells rowAt_cells canLay_cells laidAt_cells size_onObj size_setCell rowRes_some layRes_true
attribute [local go_sem] load26 load73 load23 store26 build73
attribute [local go_sem ↓] lrow26 lrow73 lrow23 srow26 zero26 brow73 heap_alloc heap_drew heap_drewN heap_setCell heap_onObj
attribute [local go_sem] tcells_size hcells_size tcells_get hcells_get tcells_one hcells_one hcells_table tcells_table hcells_all hcells_ctrl tcells_ctrl
attribute [local go_sem] nn2 nm2 nn3 nm3 nn4 nm4 nn5 nm5 nn6 nm6 nn7 nm7 nn8 nm8
attribute [local go_sem] nn2 nm2 nn3 nm3 nn4 nm4 nn5 nm5 nn6 nm6 nn7 nm7 nn8 nm8
attribute [local go_sem] ofInt_N
attribute [local go_sem] box26 tcells_idx cell0 cell1 cell2 cell3 cell4
attribute [local irreducible] tcells
/-- A row of numbers that the call made. -/
def IntsAt (w0 w : World) (v : Value) (l : List Nat) : Prop :=
  ∃ r c cur, v = .slice (some ⟨r, 0, none⟩) l.length c ∧ w0.heap.size ≤ r ∧ w.heap[r]? = some (.cells cur 3 (0, 0)) ∧ ∀ i x : Nat, l[i]? = some x → cur[i]? = some (I (x : Int))
theorem ints_own {w0 w : World} {B : Nat} {v : Value} {l : List Nat} (hB : w0.heap.size ≤ B) (hl : 0 < l.length) (h : w.ownsRow B 3 1 v l.length (icells l)) : IntsAt w0 w v l := by
  obtain ⟨_, ⟨hx, hn⟩ | ⟨r', cap', cur, hv, hrW, hr, hc2', hcm, hsz, hcur⟩⟩ := h
  · omega
  refine ⟨r', cap', cur, hv, by omega, hr, ?_⟩
  intro i x hi
  have hlt : i < l.length := (List.getElem?_eq_some_iff.1 hi).1
  have h1 : (cur.toList.take (l.length * 1))[i]? = some (I (x : Int)) := by
    rw [hcur]; unfold icells; rw [List.getElem?_map, hi]; rfl
  rw [List.getElem?_take, if_pos (by omega)] at h1
  simpa using h1
theorem IntsAt.ch {w0 w w' : World} {v : Value} {l : List Nat} {S : List Nat} (h : IntsAt w0 w v l) (c : Ch S w w') (hS : ∀ r n c, v = .slice (some ⟨r, 0, none⟩) n c → r ∉ S) : IntsAt w0 w' v l := by
  obtain ⟨r, c', cur, hv, hr, hb, hi⟩ := h
  exact ⟨r, c', cur, hv, hr, (c.block r (Array.getElem?_eq_some_iff.1 hb).1 (hS _ _ _ hv)).trans hb, hi⟩
theorem rRow8_at (h : BitVec 64) (w : World) : Calls Tryz.prog 89 #[.int .i64 2, U h] w fun e w' => ∃ r c cur, e = .returned (.slice (some ⟨r, 0, none⟩) 2 c) ∧ w.heap.size ≤ r ∧ w'.heap[r]? = some (.cells cur 3 (0, 0)) ∧ (∀ j : Nat, j < 2 → cur[j]? = some (I (((g0 h + j) % 2 : Nat) : Int))) ∧ Ch [] w w' := by
  refine (rRow8_any h w).mono ?_
  rintro e w' ⟨a, c, rfl, hown, hc⟩
  obtain ⟨r, c', cur, hv, hr, hb, hi⟩ := ints_own (w0 := w) (l := grp (g0 h) 2) (Nat.le_refl _) (by simp [grp]) hown
  have hl : (grp (g0 h) 2).length = 2 := by simp [grp]
  rw [hl] at hv
  refine ⟨r, c', cur, by rw [hv], hr, hb, ?_, hc⟩
  intro j hj
  refine hi j _ ?_
  simp [grp, hj]
theorem row_stop (e : Nat → Bool) (g j : Nat) (hj : j < 2) (hg : g < 2) (h1 : 0 < j → e g = false) (h2 : e ((g + j) % 2) = true) : (if e g = true then [g] else [g, 1 - g]) = grp g (j + 1) := by
  rcases (show j = 0 ∨ j = 1 by omega) with rfl | rfl
  · rw [Nat.add_zero, Nat.mod_eq_of_lt hg] at h2
    rw [if_pos h2]
    unfold grp
    simp [Nat.mod_eq_of_lt hg]
  · rw [h1 (by omega), if_neg (by simp)]
    exact (grp_two _ hg).symm
theorem rowT_stop {t : Tab} {s k : BitVec 64} {j : Nat} (hj : j < 2) (h1 : 0 < j → (emptyM (t.c (gOf s k)) != 0#8) = false) (h2 : (emptyM (t.c ((gOf s k + j) % 2)) != 0#8) = true) : rowT t s k = grp (gOf s k) (j + 1) := by
  have hg := gOf_lt s k
  unfold rowT
  generalize gOf s k = g at *
  obtain ⟨f, hf⟩ : ∃ f : Nat → Bool, ∀ i, (emptyM (t.c i) != 0#8) = f i := ⟨fun i => emptyM (t.c i) != 0#8, fun _ => rfl⟩
  rw [hf] at h1 h2 ⊢
  exact row_stop f g j hj hg h1 h2
theorem rowT_all {t : Tab} {s k : BitVec 64} (h1 : (emptyM (t.c (gOf s k)) != 0#8) = false) : rowT t s k = grp (gOf s k) 2 := by
  have hg := gOf_lt s k
  unfold rowT
  generalize gOf s k = g at *
  rw [h1, if_neg (by simp)]
  exact (grp_two _ hg).symm
set_option maxHeartbeats 200000 in
set_option maxRecDepth 100000 in
theorem rRow_any (t : Tab) (s k : BitVec 64) (w : World) : Calls Tryz.prog 54 #[U s, .agg (tcells t), U k] w fun e w' => ∃ v, e = .returned v ∧ IntsAt w w' v (rowT t s k) ∧ Ch [] w w' := by
  obtain ⟨i0, hi, hz0, hz1, hz2⟩ := info_parts infoInt
  have H1 := fun w => rHash_any s k w
  have H2 := fun w => rH1_any (hashOf s k) w
  have R1 := fun w => rRow8_at (hash1 (hashOf s k)) w
  have hstop := fun j (hj : j < 2) => @rowT_stop t s k j hj
  have hall := @rowT_all t s k
  have hg2 := gOf_lt s k
  have eg : g0 (hash1 (hashOf s k)) = gOf s k := rfl
  rw [eg] at R1
  clear eg
  generalize gOf s k = g at *
  generalize rowT t s k = rwT at *
  generalize hash1 (hashOf s k) = h1 at *
  generalize hashOf s k = h at *
  go_enter Tryz.func54, Tryz.ntmps54
  go_wp2_with (first
    | (go_at_call 87; refine (H1 _).mono ?_; rintro e w' ⟨rfl, rfl⟩)
    | (go_at_call 90; refine (H2 _).mono ?_; rintro e w' ⟨rfl, rfl⟩)
    | (go_at_call 89; refine (R1 _).mono ?_; rintro e W2 ⟨r, rc, cur, rfl, hr, hcur, hel, hc2⟩))
  have hcB : W2.heap[w.heap.size]? = some (.cells (tcells t) 26 (0, 0)) := (hc2.block w.heap.size (by simp) (by simp)).trans (by simp [go_sem])
  have hCC : Ch [] w W2 := ((Ch.refl [] w).alloc _).trans hc2
  have hz2' := hCC.size
  clear hc2
  go_loopw [7, 16] (fun v i wr => ∃ j : Nat, i = .int .i64 j ∧ j ≤ 2 ∧ wr.ownsRow W2.heap.size 3 1 v j (icells (grp g j)) ∧ Ch [] W2 wr ∧ (0 < j → (emptyM (t.c g) != 0#8) = false)) (fun _ i _ => 2 - (intOf i).toNat)
  case atStart => exact ⟨0, rfl, by omega, World.ownsRow_nil _ _ _ _, Ch.refl _ _, fun h => absurd h (Nat.lt_irrefl 0)⟩
  case round =>
    obtain ⟨j, hj, hj8, hown, hcr, hst⟩ := hrel
    subst hj
    have hz := hcr.size
    have hcB' : wr.heap[w.heap.size]? = some (.cells (tcells t) 26 (0, 0)) := (hcr.block _ (Array.getElem?_eq_some_iff.1 hcB).1 (by simp)).trans hcB
    have hcur' : wr.heap[r]? = some (.cells cur 3 (0, 0)) := (hcr.block _ (Array.getElem?_eq_some_iff.1 hcur).1 (by simp)).trans hcur
    have HB := Lib.hid hcB
    have HR := Lib.hid hcur
    clear hcB hcur
    by_cases hlt : j < 2
    · have helj := hel j hlt
      have HS := Lib.hid (grp_succ g j)
      have hob := own_block hown
      have S1 := fun w => rStops_any (t.c ((g + j) % 2)) w
      have hstj := Lib.hid (hstop j hlt hst)
      have hne : ((g + j) % 2 < 2) := Nat.mod_lt _ (by decide)
      have hltB : w.heap.size < wr.heap.size := (Array.getElem?_eq_some_iff.1 hcB').1
      have hneB : w.heap.size ∉ u7.ownBlock.toList := fun h => by
        have h1 := hob w.heap.size (by simpa using h)
        have h2 := (Array.getElem?_eq_some_iff.1 HB.out).1
        omega
      have hbl : Hid (∀ w1, Ch (u7.ownBlock.toList) wr w1 → w1.heap[w.heap.size]? = some (.cells (tcells t) 26 (0, 0))) := Lib.hid (fun w1 c => (c.block _ hltB hneB).trans hcB')
      have hSS : Hid (∀ s ∈ u7.ownBlock.toList, W2.heap.size ≤ s) := Lib.hid (fun s hs => hob s (by simpa using hs))
      have HF : Hid ((emptyM (t.c ((g + j) % 2)) != 0#8) = false → (emptyM (t.c g) != 0#8) = false) := Lib.hid fun he => by
        by_cases h0 : j = 0
        · rw [h0, Nat.add_zero, Nat.mod_eq_of_lt hg2] at he; exact he
        · exact hst (by omega)
      clear hltB hneB hob hst hel hstop hall
      have hln : (grp g (j + 1)).length = j + 1 := by simp [grp]
      have hc5 := tcells_ctrl_at t ((g + j) % 2) hne
      generalize tcells t = tc at *
      generalize icells (grp g j) = ys at *
      generalize (g + j) % 2 = gj at *
      generalize (emptyM (t.c gj) != 0#8) = st at *
      cases st
      all_goals
        go_upto_region 6 with (at_builtin; refine wpList_append_own _ rfl _ _ 85 rfl W2.heap.size 3 i0 (.int .i64 0) 1 8 Tryz.underlying85 hi hz0 hz1 hz2 rfl (by decide) _ _ _ rfl (hown.alloc _) ⟨wr.heap.size, 0, none⟩ 1 1 [I (gj : Int)] rfl rfl (cell_one_new _ _ _) (by simp [Value.oneCell']) (by unfold maxLen; omega) (by omega) (by simp; omega) ?_; intro v' w1 hown' hgrow hnil; clear hnil; have hgr : (wr.alloc (.cells #[I (gj : Int)] 3)).grownBy w1 u7.ownBlock := hgrow; have hW1 : Ch (u7.ownBlock.toList) wr w1 := (((Ch.refl [] wr).alloc (.cells #[I (gj : Int)] 3)).of_nil).trans2 (Ch.of_grown (S := u7.ownBlock.toList) hgr (fun k hk => by simp [hk])) (fun t ht => .inl ht); have hB1 := hbl.out w1 hW1; clear helj hcur' hcB'; have HW1 := Lib.hid hW1; have HO := Lib.hid hown'; have HG := Lib.hid hgrow; clear hown' hgrow hgr hW1)
        generalize t.c gj = x at *
        rcases (show gj = 0 ∨ gj = 1 by omega) with rfl | rfl
      all_goals
        obtain ⟨va, vc, rfl⟩ := own_form HO.out
        go_wp2_with (go_at_call 69; refine (S1 _).mono ?_; rintro e w' ⟨rfl, rfl⟩)
        first
          | (go_roundw
             case rel => exact ⟨j + 1, by go_num, hlt, by rw [HS.out]; exact HO.out, hcr.trans2 HW1.out (fun t ht => .inr (hSS.out t ht)), fun _ => HF.out (by first | trivial | rfl)⟩
             case measure => simp [intOf]; omega)
          | (go_ret
             refine ⟨_, rfl, ?_, hCC.trans (hcr.trans2 HW1.out (fun t ht => .inr (hSS.out t ht)))⟩
             rw [hstj.out (by first | trivial | rfl)]
             refine ints_own hz2' (by rw [hln]; omega) ?_
             rw [hln, HS.out]
             exact HO.out)
    · have hj8 : j = 2 := by omega
      subst hj8
      have HO := Lib.hid hown
      have hr2 := Lib.hid (hall (hst (by decide)))
      obtain ⟨a, c, rfl⟩ := own_form hown
      clear hown
      go_wp2
      go_ret
      refine ⟨_, rfl, ?_, hCC.trans hcr⟩
      rw [hr2.out]
      exact ints_own hz2' (by simp [grp]) (by simpa [grp] using HO.out)
end Go.Proofs.Hc
/- The reference of layer 17: in, Slot. -/
namespace Go.Proofs.Hc
open Go.RowKit
attribute [local go_sem] wrap_u64 wrap_u8 bits_xor64 bits_and64 bits_or64 bits_not64 bits_xor8 bits_and8 bits_or8 signed64 signed8 ofInt_N BitVec.ofInt_add BitVec.ofInt_mul ofInt_sub' ofInt8_N64 ofInt64_N8 wide8 eqN neN shr_pow shr1 shr7 shr56
attribute [local go_sem high] bits_com64 shl_wrap
attribute [local go_sem] cell_heap ice_heap cellAt_cells iceAt_cells setAt_cells rowAt_cells canLay_cells laidAt_cells size_onObj size_setCell rowRes_some layRes_true
attribute [local go_sem] load26 load73 load23 store26 build73
attribute [local go_sem ↓] lrow26 lrow73 lrow23 srow26 zero26 brow73 heap_alloc heap_drew heap_drewN heap_setCell heap_onObj
attribute [local go_sem] tcells_size hcells_size tcells_get hcells_get tcells_one hcells_one hcells_table tcells_table hcells_all hcells_ctrl tcells_ctrl
attribute [local go_sem] nn2 nm2 nn3 nm3 nn4 nm4 nn5 nm5 nn6 nm6 nn7 nm7 nn8 nm8
attribute [local go_sem] nn2 nm2 nn3 nm3 nn4 nm4 nn5 nm5 nn6 nm6 nn7 nm7 nn8 nm8
attribute [local go_sem] ofInt_N
attribute [local go_sem] box26 tcells_idx cell0 cell1 cell2 cell3 cell4
attribute [local irreducible] tcells
theorem rIn_any (l : List Nat) (n : Nat) (v : Value) (w0 w : World) (h : IntsAt w0 w v l) (hl : l.length ≤ 2) : Calls Tryz.prog 53 #[v, I n] w fun e w' => e = .returned (.bool (decide (n ∈ l))) ∧ w = w' := by
  obtain ⟨r, c, cur, rfl, _, hb, hel⟩ := h
  have HL := Lib.hid hel
  clear hel
  go_enter Tryz.func53, Tryz.ntmps53
  go_wp2
  go_loop [9] (fun i => ∃ j : Nat, i = .int .i64 j ∧ j ≤ l.length ∧ ∀ x ∈ l.take j, x ≠ n) (fun i => l.length - (intOf i).toNat)
  case atStart => exact ⟨0, rfl, by omega, by simp⟩
  case round =>
    obtain ⟨j, hj, hj8, hno⟩ := hrel
    subst hj
    have HN := Lib.hid hno
    clear hno
    by_cases hlt : j < l.length
    · obtain ⟨x, hx⟩ : ∃ x, l[j]? = some x := ⟨l[j], List.getElem?_eq_getElem hlt⟩
      have hxe := HL.out j x hx
      have HX := Lib.hid hx
      clear hx
      by_cases he : x = n
      · subst he
        have HM : Hid (decide (x ∈ l) = true) := Lib.hid (by simpa using List.mem_of_getElem? HX.out)
        go_wp2
        go_ret
        exact ⟨by rw [HM.out]; rfl, rfl⟩
      · have h1 : ((x : Int) == (n : Int)) = false := by simpa using fun h => he (by omega)
        have h2 : (x == n) = false := by simpa using he
        go_wp2
        go_round
        case rel =>
          refine ⟨j + 1, by go_num, hlt, ?_⟩
          exact take_next (P := fun y => y ≠ n) HN.out HX.out he
        case measure => simp [intOf]; omega
    · have HM : Hid (decide (n ∈ l) = false) := Lib.hid (by
        have := HN.out
        rw [List.take_of_length_le (by omega)] at this
        simpa using fun h => this n h rfl)
      go_wp2
      go_ret
      exact ⟨by rw [HM.out]; rfl, rfl⟩
set_option maxHeartbeats 1000000 in
set_option maxRecDepth 100000 in
theorem rSlot_any (t : Tab) (k : BitVec 64) (w : World) : Calls Tryz.prog 31 #[.agg (tcells t), U k] w fun e w' => e = .returned (I (slotI (slotR t k))) ∧ Ch [] w w' := by
  have HS := Lib.hid (fun j (h1 : j < 16) h2 h3 => @slotR_some t k j h1 h2 h3)
  have HN := Lib.hid (@slotR_none t k)
  generalize slotR t k = r at *
  go_enter Tryz.func31, Tryz.ntmps31
  go_wp2
  obtain ⟨W0, hW0⟩ : ∃ W0, w.alloc (.cells (tcells t) 26) = W0 := ⟨_, rfl⟩
  have hC0 : Ch [] w W0 := by rw [← hW0]; exact (Ch.refl [] w).alloc _
  have hB0 : W0.heap[w.heap.size]? = some (.cells (tcells t) 26 (0, 0)) := by rw [← hW0]; simp [go_sem]
  rw [hW0]
  clear hW0
  go_loopw [6] (fun i wr => ∃ j : Nat, i = .int .i64 j ∧ j ≤ 16 ∧ Ch [] W0 wr ∧ ∀ i, i < j → (fullJ t i && t.k i == k) = false) (fun i _ => 16 - (intOf i).toNat)
  case atStart => exact ⟨0, rfl, by omega, Ch.refl _ _, fun i hi => by omega⟩
  case round =>
    obtain ⟨j, hj, hj8, hcr, hno⟩ := hrel
    subst hj
    have hB := hkeep hcr hB0
    have HO := Lib.hid hno
    clear hno
    by_cases hlt : j < 16
    · have F1 := fun w => rFull_any t j hlt w
      have hkey := tcells_key t j hlt
      have HJ : Hid (fullJ t j = true → (t.k j == k) = true → r = some j) := Lib.hid fun h1 h2 => HS.out j hlt (by rw [h1, h2]; rfl) HO.out
      have HJ2 : Hid ((fullJ t j && t.k j == k) = false → ∀ i, i < j + 1 → (fullJ t i && t.k i == k) = false) := Lib.hid fun h i hi => by
        by_cases he : i = j
        · rw [he]; exact h
        · exact HO.out i (by omega)
      generalize t.k j = kj at *
      generalize fullJ t j = f at *
      clear hB0
      have hbl : (kj == k) = true ∨ (kj == k) = false := by cases (kj == k) <;> simp
      rcases hbl with he | he
      all_goals cases f
      all_goals
        go_wp2_with (go_at_call 67; refine (F1 _).mono ?_; rintro e w' ⟨rfl, hcf⟩; have hB' := hkeep hcf hB; have HCF := Lib.hid hcf; clear hB hcf)
        first
          | (go_roundw
             case rel => exact ⟨j + 1, by go_num, hlt, hcr.trans HCF.out, HJ2.out (by simp [he])⟩
             case measure => simp [intOf]; omega)
          | (go_ret
             refine ⟨?_, (hC0.trans hcr).trans HCF.out⟩
             rw [HJ.out (by first | trivial | rfl) he]
             rfl)
    · have hj8 : j = 16 := by omega
      subst hj8
      have hr := Lib.hid (HN.out HO.out)
      go_wp2
      go_ret
      exact ⟨by rw [hr.out]; rfl, hC0.trans hcr⟩
end Go.Proofs.Hc
