/- The reference of layer 17: Right. -/
import Derived.Test.YtaddieimkpijeaaGreatKHxlHxm
import Derived.Test.YtaddieimkpijeaaGreatKHpkHyaHyb
set_option linter.unusedSimpArgs false
set_option linter.unusedVariables false
namespace Go.Proofs.Hc
open Go.RowKit
attribute [local go_sem] wrap_u64 wrap_u8 bits_xor64 bits_and64 bits_or64 bits_not64 bits_xor8 bits_and8 bits_or8 signed64 signed8 ofInt_N BitVec.ofInt_add BitVec.ofInt_mul ofInt_sub' ofInt8_N64 ofInt64_N8 wide8 eqN neN shr_pow shr1 shr7 shr56
attribute [local go_sem high] bits_com64 shl_wrap
attribute [local go_sem] cell_heap ice_heap cellAt_cells iceAt_cells setAt_cells rowAt_cells canLay_cells laidAt_cells size_onObj size_setCell rowRes_some layRes_true
attribute [local go_sem] load26 load73 load23 store26 build73
attribute [local go_sem ↓] lrow26 lrow73 lrow23 srow26 zero26 brow73 heap_alloc heap_drew heap_drewN heap_setCell heap_onObj
attribute [local go_sem] tcells_size hcells_size tcells_get hcells_get tcells_one hcells_one hcells_table tcells_table hcells_all hcells_ctrl tcells_ctrl
attribute [local go_sem] nn2 nm2 nn3 nm3 nn4 nm4 nn5 nm5 nn6 nm6 nn7 nm7 nn8 nm8
attribute [local go_sem] nn2 nm2 nn3 nm3 nn4 nm4 nn5 nm5 nn6 nm6 nn7 nm7 nn8 nm8
attribute [local go_sem] ofInt_N
attribute [local go_sem] box26 tcells_idx cell0 cell1 cell2 cell3 cell4 cell5 cell6
attribute [local irreducible] tcells
theorem N_254 : N 254#8 = 254 := rfl
attribute [local go_sem] N_254
theorem bool_no {G : Bool} {p : Prop} (h : G = true ↔ p) (hn : ¬ p) : G = false := by
  cases G with
  | false => rfl
  | true => exact absurd (h.1 rfl) hn
theorem slotI_eq (o : Option Nat) (j : Nat) : slotI o = (j : Int) ↔ o = some j := by
  cases o with
  | none => simp only [slotI, reduceCtorEq]
  | some i => simp only [slotI, Option.some.injEq]; omega
set_option maxRecDepth 100000 in
theorem right_no0 (t : Tab) (s : BitVec 64) (w : World) (hf : flatT t = false) : Calls Tryz.prog 14 #[U s, .agg (tcells t)] w fun e w' => e = .returned (.bool false) ∧ Ch [] w w' := by
  have T1 := fun w => rTable_any t w
  rw [hf] at T1
  clear hf
  go_enter Tryz.func14, Tryz.ntmps14
  go_wp2_with (go_at_call 48; refine (T1 _).mono ?_; rintro e w1 ⟨rfl, hc1⟩)
  go_ret
  exact ⟨rfl, ((Ch.refl [] w).alloc _).trans hc1⟩
set_option maxRecDepth 100000 in
theorem right_no1 (t : Tab) (s : BitVec 64) (w : World) (hf : flatT t = true) (h0 : ctrlOk (t.c 0) = false) : Calls Tryz.prog 14 #[U s, .agg (tcells t)] w fun e w' => e = .returned (.bool false) ∧ Ch [] w w' := by
  have T1 := fun w => rTable_any t w
  have R1 := fun w => rRight9_any (t.c 0) w
  rw [hf] at T1
  rw [h0] at R1
  clear hf h0
  have hB : (w.alloc (.cells (tcells t) 26)).heap[w.heap.size]? = some (.cells (tcells t) 26 (0, 0)) := by simp [go_sem]
  go_enter Tryz.func14, Tryz.ntmps14
  go_wp2_with fail
  refine (T1 _).mono ?_
  rintro e w1 ⟨rfl, hc1⟩
  have b1 := hkeep hc1 hB
  clear hB
  go_wp2_with (go_at_call 49; refine (R1 _).mono ?_; rintro e w2 ⟨rfl, hc2⟩)
  go_ret
  exact ⟨rfl, (((Ch.refl [] w).alloc _).trans hc1).trans hc2⟩
set_option maxRecDepth 100000 in
theorem right_no2 (t : Tab) (s : BitVec 64) (w : World) (hf : flatT t = true) (h0 : ctrlOk (t.c 0) = true) (h1 : ctrlOk (t.c 1) = false) : Calls Tryz.prog 14 #[U s, .agg (tcells t)] w fun e w' => e = .returned (.bool false) ∧ Ch [] w w' := by
  have T1 := fun w => rTable_any t w
  have R0 := fun w => rRight9_any (t.c 0) w
  have R1 := fun w => rRight9_any (t.c 1) w
  rw [hf] at T1
  rw [h0] at R0
  rw [h1] at R1
  clear hf h0 h1
  have hB : (w.alloc (.cells (tcells t) 26)).heap[w.heap.size]? = some (.cells (tcells t) 26 (0, 0)) := by simp [go_sem]
  go_enter Tryz.func14, Tryz.ntmps14
  go_wp2_with fail
  refine (T1 _).mono ?_
  rintro e w1 ⟨rfl, hc1⟩
  have b1 := hkeep hc1 hB
  clear hB
  go_wp2_with fail
  refine (R0 _).mono ?_
  rintro e w2 ⟨rfl, hc2⟩
  have b2 := hkeep hc2 b1
  clear b1
  go_wp2_with fail
  refine (R1 _).mono ?_
  rintro e w3 ⟨rfl, hc3⟩
  go_wp2
  go_ret
  exact ⟨rfl, ((((Ch.refl [] w).alloc _).trans hc1).trans hc2).trans hc3⟩
set_option maxHeartbeats 4000000 in
set_option maxRecDepth 100000 in
theorem right_all (t : Tab) (s : BitVec 64) (w : World) (hf : flatT t = true) (h0 : ctrlOk (t.c 0) = true) (h1 : ctrlOk (t.c 1) = true) : Calls Tryz.prog 14 #[U s, .agg (tcells t)] w fun e w' => e = .returned (.bool (mayT t s)) ∧ Ch [] w w' := by
  have HMAY := Lib.hid (@may_of_slots t s hf h0 h1)
  have HNOT := Lib.hid (fun j (h1 : j < 16) h2 h3 => @not_may t s j h1 h2 h3)
  have T1 := fun w => rTable_any t w
  have R0 := fun w => rRight9_any (t.c 0) w
  have R1 := fun w => rRight9_any (t.c 1) w
  have G1 := fun k w => rGoes_any t s k hf w
  rw [hf] at T1
  rw [h0] at R0
  rw [h1] at R1
  clear hf h0 h1
  have hB : (w.alloc (.cells (tcells t) 26)).heap[w.heap.size]? = some (.cells (tcells t) 26 (0, 0)) := by simp [go_sem]
  generalize mayT t s = M at *
  go_enter Tryz.func14, Tryz.ntmps14
  go_wp2_with fail
  refine (T1 _).mono ?_
  rintro e w1 ⟨rfl, hc1⟩
  have b1 := hkeep hc1 hB
  clear hB
  go_wp2_with fail
  refine (R0 _).mono ?_
  rintro e w2 ⟨rfl, hc2⟩
  have b2 := hkeep hc2 b1
  clear b1
  go_wp2_with fail
  refine (R1 _).mono ?_
  rintro e W3 ⟨rfl, hc3⟩
  have b3 := hkeep hc3 b2
  have hC3 : Ch [] w W3 := ((((Ch.refl [] w).alloc _).trans hc1).trans hc2).trans hc3
  clear b2 hc1 hc2 hc3 T1 R0 R1
  generalize w.heap.size = B at *
  go_wp2
  go_loopw [5, 6, 27] (fun lv gn i wr => ∃ j : Nat, i = .int .i64 j ∧ lv = .int .i64 (nLv t j) ∧ gn = .int .i64 (nGn t j) ∧ j ≤ 16 ∧ Ch [] W3 wr ∧ ∀ i, i < j → fullJ t i = true → slotG t s i = true) (fun _ _ i _ => 16 - (intOf i).toNat)
  case atStart => exact ⟨0, rfl, by rw [nLv_zero]; rfl, by rw [nGn_zero]; rfl, by omega, Ch.refl _ _, fun i hi => by omega⟩
  case round =>
    obtain ⟨j, hj, hlv, hgn, hj8, hcr, hall⟩ := hrel
    subst hj hlv hgn
    have hB := hkeep hcr b3
    have HA := Lib.hid hall
    clear hall b3
    have hl1 := nLv_le t j
    have hl2 := nGn_le t j
    by_cases hlt : j < 16
    · have HL := Lib.hid (nLv_succ t j)
      have HG := Lib.hid (nGn_succ t j)
      have HNM := Lib.hid (HNOT.out j hlt)
      have A1 : ∀ w, Calls Tryz.prog 50 #[U (t.c (j / 8)), I (j % 8 : Nat)] w fun e w' => e = .returned (Y (bt t j)) ∧ w = w' := fun w => rAt_any (t.c (j / 8)) (j % 8) (by omega) w
      have hd : (j : Int).tdiv 8 = ((j / 8 : Nat) : Int) := by rw [Int.tdiv_eq_ediv_of_nonneg (by omega)]; rfl
      have hm : (j : Int).tmod 8 = ((j % 8 : Nat) : Int) := by rw [Int.tmod_eq_emod_of_nonneg (by omega)]; rfl
      have hg : j / 8 < 2 := by omega
      have hc5 := tcells_ctrl_at t (j / 8) hg
      have hkey := tcells_key t j hlt
      have S1 := fun w => rSlot_any t (t.k j) w
      have Y1 := fun w => rh2_any s (t.k j) w
      have G2 := fun w => G1 (t.k j) w
      have W1 := fun w => rRow_any t s (t.k j) w
      have I1 := fun v w0 w h => rIn_any (rowT t s (t.k j)) (j / 8) v w0 w h (row_len t s (t.k j))
      have HSI := Lib.hid (slotG_iff t s j)
      rw [← slotI_eq] at HSI
      have HF : Hid (fullJ t j = decide ((bt t j).toNat < 128)) := Lib.hid rfl
      have HNX : Hid ((fullJ t j = true → slotG t s j = true) → ∀ i, i < j + 1 → fullJ t i = true → slotG t s i = true) := Lib.hid fun hfx i hi hfi => by
        by_cases he : i = j
        · rw [he]; rw [he] at hfi; exact hfx hfi
        · exact HA.out i (by omega) hfi
      clear G1 HA
      have hmem : Hid (decide (j / 8 ∈ rowT t s (t.k j)) = true ↔ j / 8 ∈ rowT t s (t.k j)) := Lib.hid decide_eq_true_iff
      rw [← hmem.out] at HSI
      generalize decide (j / 8 ∈ rowT t s (t.k j)) = q4 at *
      generalize rowT t s (t.k j) = rwT at *
      generalize hasT t (hashOf s (t.k j)) = q3 at *
      generalize hash2 (hashOf s (t.k j)) = y at *
      generalize slotI (slotR t (t.k j)) = r at *
      generalize t.k j = kj at *
      generalize slotG t s j = G at *
      generalize fullJ t j = F at *
      generalize bt t j = b at *
      generalize nLv t j = lv at *
      generalize nGn t j = gn at *
      generalize j / 8 = g at *
      generalize j % 8 = x at *
      clear hmem
      by_cases hb4 : b = 254#8
      · obtain rfl : F = false := by rw [HF.out, hb4]; decide
        subst hb4
        clear S1 Y1 G2 W1 I1 HSI HNM HF
        go_wp2_with (go_at_call 50; refine (A1 _).mono ?_; rintro e w' ⟨rfl, rfl⟩)
        go_roundw
        case rel => exact ⟨j + 1, by go_num, by rw [HL.out, if_neg (by decide)]; rfl, by rw [HG.out, if_pos (by decide)]; go_num, hlt, hcr, HNX.out (fun h => by cases h)⟩
        case measure => simp [intOf]; omega
      · have hb5 : (b == 254#8) = false := by simpa using hb4
        have hb6 : (N b == 254) = false := by rw [Y254]; exact hb5
        by_cases hle : N b ≤ 127
        · obtain rfl : F = true := by rw [HF.out]; unfold N at hle; simpa using (show b.toNat < 128 by omega)
          clear hb4 HF
          by_cases hr : r = (j : Int)
          · subst hr
            have hQ : (b == y) = true ∨ (b == y) = false := by cases (b == y) <;> simp
            rcases hQ with hQ | hQ
            · have hQ' : b = y := by simpa using hQ
              subst hQ'
              cases q3
              · have HM : Hid (M = false) := Lib.hid (HNM.out rfl (bool_no HSI.out (fun h => by cases h.2.2.1)))
                clear HNM HSI I1 W1 HL HG HNX
                all_goals
                  go_wp2_with (first
                    | (go_at_call 50; refine (A1 _).mono ?_; rintro e w' ⟨rfl, rfl⟩)
                    | (go_at_call 31; refine (S1 _).mono ?_; rintro e w5 ⟨rfl, hc5'⟩; have b5 := hkeep hc5' hB; have D5 := Lib.hid (hcr.trans hc5'); clear hc5' hB)
                    | (go_at_call 51; refine (Y1 _).mono ?_; rintro e w' ⟨rfl, rfl⟩)
                    | (go_at_call 52; refine (G2 _).mono ?_; rintro e w6 ⟨rfl, hc6⟩; have b6 := hkeep hc6 b5; have D6 := Lib.hid (D5.out.trans hc6); clear hc6 b5)
                    | (go_at_call 54; refine (W1 _).mono ?_; rintro e w7 ⟨v7, rfl, hi7, hc7⟩; have I7 := Lib.hid hi7; have D7 := Lib.hid (D6.out.trans hc7); clear hc7 hi7 b6)
                    | (go_at_call 53; refine (I1 _ _ _ I7.out).mono ?_; rintro e w' ⟨rfl, rfl⟩))
                all_goals
                  go_ret
                  exact ⟨by rw [HM.out]; rfl, hC3.trans D6.out⟩
              · cases q4
                · have HM : Hid (M = false) := Lib.hid (HNM.out rfl (bool_no HSI.out (fun h => by cases h.2.2.2)))
                  clear HNM HSI HL HG HNX
                  all_goals
                    go_wp2_with (first
                      | (go_at_call 50; refine (A1 _).mono ?_; rintro e w' ⟨rfl, rfl⟩)
                      | (go_at_call 31; refine (S1 _).mono ?_; rintro e w5 ⟨rfl, hc5'⟩; have b5 := hkeep hc5' hB; have D5 := Lib.hid (hcr.trans hc5'); clear hc5' hB)
                      | (go_at_call 51; refine (Y1 _).mono ?_; rintro e w' ⟨rfl, rfl⟩)
                      | (go_at_call 52; refine (G2 _).mono ?_; rintro e w6 ⟨rfl, hc6⟩; have b6 := hkeep hc6 b5; have D6 := Lib.hid (D5.out.trans hc6); clear hc6 b5)
                      | (go_at_call 54; refine (W1 _).mono ?_; rintro e w7 ⟨v7, rfl, hi7, hc7⟩; have I7 := Lib.hid hi7; have D7 := Lib.hid (D6.out.trans hc7); clear hc7 hi7 b6)
                      | (go_at_call 53; refine (I1 _ _ _ I7.out).mono ?_; rintro e w' ⟨rfl, rfl⟩))
                  all_goals
                    go_ret
                    exact ⟨by rw [HM.out]; rfl, hC3.trans D7.out⟩
                · have HGT : Hid (G = true) := Lib.hid (HSI.out.2 ⟨rfl, rfl, rfl, rfl⟩)
                  clear HNM HSI
                  all_goals
                    go_wp2_with (first
                      | (go_at_call 50; refine (A1 _).mono ?_; rintro e w' ⟨rfl, rfl⟩)
                      | (go_at_call 31; refine (S1 _).mono ?_; rintro e w5 ⟨rfl, hc5'⟩; have b5 := hkeep hc5' hB; have D5 := Lib.hid (hcr.trans hc5'); clear hc5' hB)
                      | (go_at_call 51; refine (Y1 _).mono ?_; rintro e w' ⟨rfl, rfl⟩)
                      | (go_at_call 52; refine (G2 _).mono ?_; rintro e w6 ⟨rfl, hc6⟩; have b6 := hkeep hc6 b5; have D6 := Lib.hid (D5.out.trans hc6); clear hc6 b5)
                      | (go_at_call 54; refine (W1 _).mono ?_; rintro e w7 ⟨v7, rfl, hi7, hc7⟩; have I7 := Lib.hid hi7; have D7 := Lib.hid (D6.out.trans hc7); clear hc7 hi7 b6)
                      | (go_at_call 53; refine (I1 _ _ _ I7.out).mono ?_; rintro e w' ⟨rfl, rfl⟩))
                  go_roundw
                  case rel => exact ⟨j + 1, by go_num, by rw [HL.out]; (first | rw [if_pos rfl] | rw [if_pos trivial]); go_num, by rw [HG.out, if_neg (by rw [hb5]; decide)]; rfl, hlt, D7.out, HNX.out (fun _ => HGT.out)⟩
                  case measure => simp [intOf]; omega
            · have HM : Hid (M = false) := Lib.hid (HNM.out rfl (bool_no HSI.out (fun h => by rw [h.2.1] at hQ; simp at hQ)))
              have hQ2 : (b != y) = true := by rw [bne, hQ]; rfl
              clear HNM HSI I1 W1 HL HG HNX G2
              all_goals
                go_wp2_with (first
                  | (go_at_call 50; refine (A1 _).mono ?_; rintro e w' ⟨rfl, rfl⟩)
                  | (go_at_call 31; refine (S1 _).mono ?_; rintro e w5 ⟨rfl, hc5'⟩; have b5 := hkeep hc5' hB; have D5 := Lib.hid (hcr.trans hc5'); clear hc5' hB)
                  | (go_at_call 51; refine (Y1 _).mono ?_; rintro e w' ⟨rfl, rfl⟩)
                  | (go_at_call 52; refine (G2 _).mono ?_; rintro e w6 ⟨rfl, hc6⟩; have b6 := hkeep hc6 b5; have D6 := Lib.hid (D5.out.trans hc6); clear hc6 b5)
                  | (go_at_call 54; refine (W1 _).mono ?_; rintro e w7 ⟨v7, rfl, hi7, hc7⟩; have I7 := Lib.hid hi7; have D7 := Lib.hid (D6.out.trans hc7); clear hc7 hi7 b6)
                  | (go_at_call 53; refine (I1 _ _ _ I7.out).mono ?_; rintro e w' ⟨rfl, rfl⟩))
              all_goals
                go_ret
                exact ⟨by rw [HM.out]; rfl, hC3.trans D5.out⟩
          · have HM : Hid (M = false) := Lib.hid (HNM.out rfl (bool_no HSI.out (fun h => hr h.1)))
            have hr2 : (r != (j : Int)) = true := by simpa using hr
            have hr3 : (r == (j : Int)) = false := by simpa using hr
            clear HNM HSI I1 W1 HL HG HNX G2 Y1
            all_goals
              go_wp2_with (first
                | (go_at_call 50; refine (A1 _).mono ?_; rintro e w' ⟨rfl, rfl⟩)
                | (go_at_call 31; refine (S1 _).mono ?_; rintro e w5 ⟨rfl, hc5'⟩; have b5 := hkeep hc5' hB; have D5 := Lib.hid (hcr.trans hc5'); clear hc5' hB)
                | (go_at_call 51; refine (Y1 _).mono ?_; rintro e w' ⟨rfl, rfl⟩)
                | (go_at_call 52; refine (G2 _).mono ?_; rintro e w6 ⟨rfl, hc6⟩; have b6 := hkeep hc6 b5; have D6 := Lib.hid (D5.out.trans hc6); clear hc6 b5)
                | (go_at_call 54; refine (W1 _).mono ?_; rintro e w7 ⟨v7, rfl, hi7, hc7⟩; have I7 := Lib.hid hi7; have D7 := Lib.hid (D6.out.trans hc7); clear hc7 hi7 b6)
                | (go_at_call 53; refine (I1 _ _ _ I7.out).mono ?_; rintro e w' ⟨rfl, rfl⟩))
            all_goals
              go_ret
              exact ⟨by rw [HM.out]; rfl, hC3.trans D5.out⟩
        · obtain rfl : F = false := by rw [HF.out]; unfold N at hle; simpa using (show 128 ≤ b.toNat by omega)
          clear S1 Y1 G2 W1 I1 HSI HNM HF hb4
          go_wp2_with (go_at_call 50; refine (A1 _).mono ?_; rintro e w' ⟨rfl, rfl⟩)
          go_roundw
          case rel => exact ⟨j + 1, by go_num, by rw [HL.out, if_neg (by decide)]; rfl, by rw [HG.out, if_neg (by rw [hb5]; decide)]; rfl, hlt, hcr, HNX.out (fun h => by cases h)⟩
          case measure => simp [intOf]; omega
    · have hj8 : j = 16 := by omega
      subst hj8
      have HM := Lib.hid (HMAY.out HA.out)
      generalize nLv t 16 = lv at *
      generalize nGn t 16 = gn at *
      clear HA HMAY HNOT G1 hlt
      have hq1 : (t.live == (lv : Int)) = true ∨ (t.live == (lv : Int)) = false := by cases (t.live == (lv : Int)) <;> simp
      have hq2 : (t.can == 14 - (lv : Int) - (gn : Int)) = true ∨ (t.can == 14 - (lv : Int) - (gn : Int)) = false := by cases (t.can == 14 - (lv : Int) - (gn : Int)) <;> simp
      rcases hq1 with hq1 | hq1
      all_goals rcases hq2 with hq2 | hq2
      all_goals
        have HM2 : Hid (M = (_ && _)) := Lib.hid (by rw [HM.out, hq1, hq2])
        clear HM
        go_wp2
        go_ret
        exact ⟨by rw [HM2.out]; rfl, hC3.trans hcr⟩
theorem rRight_any (t : Tab) (s : BitVec 64) (w : World) : Calls Tryz.prog 14 #[U s, .agg (tcells t)] w fun e w' => e = .returned (.bool (mayT t s)) ∧ Ch [] w w' := by
  by_cases hf : flatT t = true
  · by_cases h0 : ctrlOk (t.c 0) = true
    · by_cases h1 : ctrlOk (t.c 1) = true
      · exact right_all t s w hf h0 h1
      · rw [may_not_ctrl (by rw [Bool.eq_false_iff.2 h1, Bool.and_false])]
        exact right_no2 t s w hf h0 (Bool.eq_false_iff.2 h1)
    · rw [may_not_ctrl (by rw [Bool.eq_false_iff.2 h0, Bool.false_and])]
      exact right_no1 t s w hf (Bool.eq_false_iff.2 h0)
  · rw [may_not_flat (Bool.eq_false_iff.2 hf)]
    exact right_no0 t s w (Bool.eq_false_iff.2 hf)
end Go.Proofs.Hc
/- The reference of layer 17: New, Compared, Place. -/
namespace Go.Proofs.Hc
open Go.RowKit
attribute [local go_sem] wrap_u64 wrap_u8 bits_xor64 bits_and64 bits_or64 bits_not64 bits_xor8 bits_and8 bits_or8 signed64 signed8 ofInt_N BitVec.ofInt_add BitVec.ofInt_mul ofInt_sub' ofInt8_N64 ofInt64_N8 wide8 eqN neN shr_pow shr1 shr7 shr56
attribute [local go_sem high] bits_com64 shl_wrap
attribute [local go_sem] cell_heap ice_heap cellAt_cells iceAt_cells setAt_cells rowAt_cells canLay_cells laidAt_cells size_onObj size_setCell rowRes_some layRes_true
attribute [local go_sem] load26 load73 load23 store26 build73
attribute [local go_sem ↓] lrow26 lrow73 lrow23 srow26 zero26 brow73 heap_alloc heap_drew heap_drewN heap_setCell heap_onObj
attribute [local go_sem] tcells_size hcells_size tcells_get hcells_get tcells_one hcells_one hcells_table tcells_table hcells_all hcells_ctrl tcells_ctrl
attribute [local go_sem] nn2 nm2 nn3 nm3 nn4 nm4 nn5 nm5 nn6 nm6 nn7 nm7 nn8 nm8
attribute [local go_sem] nn2 nm2 nn3 nm3 nn4 nm4 nn5 nm5 nn6 nm6 nn7 nm7 nn8 nm8
attribute [local go_sem] ofInt_N
attribute [local go_sem] box26 tcells_idx cell0 cell1 cell2 cell3 cell4 cell5 cell6
attribute [local go_sem high] laidAt_t
attribute [local irreducible] tcells
theorem build_slice8 (w : World) : (Instr.buildSlice 108 8 #[(0, .int .u8 128), (1, .int .u8 128), (2, .int .u8 128), (3, .int .u8 128), (4, .int .u8 128), (5, .int .u8 128), (6, .int .u8 128), (7, .int .u8 128)]).run Tryz.prog w = .ok (.slice (some ⟨w.heap.size, 0, none⟩) 8 8) (w.alloc (.cells (#[.int .u8 128, .int .u8 128, .int .u8 128, .int .u8 128, .int .u8 128, .int .u8 128, .int .u8 128, .int .u8 128]) 5)) := by kernel_rfl
theorem build_ctrl (x y : BitVec 64) (w : World) : (Instr.build 23 #[(0, U x), (1, U y)]).run Tryz.prog w = .ok (.agg #[U x, U y]) w := by kernel_rfl
theorem build_new (c : BitVec 64) (d : Int) (p x : BitVec 64) (w : World) : (buildRow 26 #[(0, U c), (1, I d), (2, U p), (3, .int .i64 14), (5, .agg #[U x, U x])]).run Tryz.prog w = .ok (.agg (tcells ⟨c, d, p, 14, 0, fun _ => x, fun _ => 0#64, fun _ => 0#64⟩)) w := by kernel_rfl
attribute [local go_sem] build_slice8 build_new
attribute [local go_sem high] build_ctrl
attribute [local go_sem ↓] brow26
theorem acc_tops : accB (List.replicate 8 128#8) = tops := by decide +kernel
set_option maxHeartbeats 1000000 in
set_option maxRecDepth 100000 in
theorem rNew_any (c : BitVec 64) (d : Int) (p : BitVec 64) (w : World) : Calls Tryz.prog 34 #[U c, I d, U p] w fun e w' => e = .returned (.agg (tcells (bareT c d p))) ∧ Ch [] w w' := by
  have O1 : ∀ (w : World) (g : Nat), w.heap[g]? = some (.cells (#[.int .u8 128, .int .u8 128, .int .u8 128, .int .u8 128, .int .u8 128, .int .u8 128, .int .u8 128, .int .u8 128]) 5 (0, 0)) → Calls Tryz.prog 74 #[.slice (some ⟨g, 0, none⟩) 8 8] w fun e w' => e = .returned (U tops) ∧ w = w' := fun w g hg => by
    have h := rOf_any (List.replicate 8 128#8) (by simp) g 8 (#[.int .u8 128, .int .u8 128, .int .u8 128, .int .u8 128, .int .u8 128, .int .u8 128, .int .u8 128, .int .u8 128]) w hg (fun j b hj => by
      rw [List.getElem?_replicate] at hj
      rw [show (#[.int .u8 128, .int .u8 128, .int .u8 128, .int .u8 128, .int .u8 128, .int .u8 128, .int .u8 128, .int .u8 128] : Array Value) = Array.replicate 8 (.int .u8 128) from rfl, Array.getElem?_replicate]
      split at hj
      · rename_i h; rw [if_pos h]; cases hj; rfl
      · cases hj)
    rwa [acc_tops] at h
  have HB : bareT c d p = ⟨c, d, p, 14, 0, fun _ => tops, fun _ => 0#64, fun _ => 0#64⟩ := rfl
  rw [HB]
  clear HB
  generalize tops = x at *
  obtain ⟨W0, hW0⟩ : ∃ W0, w.alloc (.cells (tcells zeroT) 26) = W0 := ⟨_, rfl⟩
  have hC0 : Ch [] w W0 := by rw [← hW0]; exact (Ch.refl [] w).alloc _
  have b0 : W0.heap[w.heap.size]? = some (.cells (tcells zeroT) 26 (0, 0)) := by rw [← hW0]; simp [go_sem]
  obtain ⟨W1, hW1⟩ : ∃ W1, W0.alloc (.cells (#[.int .u8 128, .int .u8 128, .int .u8 128, .int .u8 128, .int .u8 128, .int .u8 128, .int .u8 128, .int .u8 128]) 5) = W1 := ⟨_, rfl⟩
  have hC1 : Ch [] W0 W1 := by rw [← hW1]; exact (Ch.refl [] W0).alloc _
  have y1 : W1.heap[W0.heap.size]? = some (.cells (#[.int .u8 128, .int .u8 128, .int .u8 128, .int .u8 128, .int .u8 128, .int .u8 128, .int .u8 128, .int .u8 128]) 5 (0, 0)) := by rw [← hW1]; simp [go_sem]
  have b1 := hkeep hC1 b0
  go_enter Tryz.func34, Tryz.ntmps34
  go_wp2_with fail
  refine (O1 _ _ y1).mono ?_
  rintro e w' ⟨rfl, rfl⟩
  clear O1
  go_wp2
  refine bodyPost_ret (v := .agg (tcells ⟨c, d, p, 14, 0, fun _ => x, fun _ => 0#64, fun _ => 0#64⟩)) (results_cell1 Tryz.results34 _ _ _ rfl (run_loadVar_row _ _ 26 26 (tcells _) (0, 0) _ ?_ Tryz.underlying26 rfl (by rw [tcells_size]; kernel_rfl))) rfl ⟨rfl, ?_⟩
  · simp only [heap_onObj, if_true, b1, Option.map_some, laidAt_t]
  · exact (hC0.trans hC1).onObj (.inr (Nat.le_refl _)) _
end Go.Proofs.Hc
/- The reference of layer 17: Compared. -/
namespace Go.Proofs.Hc
open Go.RowKit
attribute [local go_sem] wrap_u64 wrap_u8 bits_xor64 bits_and64 bits_or64 bits_not64 bits_xor8 bits_and8 bits_or8 signed64 signed8 ofInt_N BitVec.ofInt_add BitVec.ofInt_mul ofInt_sub' ofInt8_N64 ofInt64_N8 wide8 eqN neN shr_pow shr1 shr7 shr56
attribute [local go_sem high] bits_com64 shl_wrap
attribute [local go_sem] cell_heap ice_heap cellAt_cells iceAt_cells setAt_cells rowAt_cells canLay_cells laidAt_cells size_onObj size_setCell rowRes_some layRes_true
attribute [local go_sem] load26 load73 load23 store26 build73
attribute [local go_sem ↓] lrow26 lrow73 lrow23 srow26 zero26 brow73 heap_alloc heap_drew heap_drewN heap_setCell heap_onObj
attribute [local go_sem] tcells_size hcells_size tcells_get hcells_get tcells_one hcells_one hcells_table tcells_table hcells_all hcells_ctrl tcells_ctrl
attribute [local go_sem] nn2 nm2 nn3 nm3 nn4 nm4 nn5 nm5 nn6 nm6 nn7 nm7 nn8 nm8
attribute [local go_sem] nn2 nm2 nn3 nm3 nn4 nm4 nn5 nm5 nn6 nm6 nn7 nm7 nn8 nm8
attribute [local go_sem] ofInt_N
attribute [local go_sem] box26 tcells_idx cell0 cell1 cell2 cell3 cell4 cell5 cell6
attribute [local irreducible] tcells
set_option maxHeartbeats 1000000 in
set_option maxRecDepth 100000 in
theorem rCompared_any (t : Tab) (s k : BitVec 64) (w : World) : Calls Tryz.prog 32 #[U s, .agg (tcells t), U k] w fun e w' => e = .returned (I (cmpR t s k : Nat)) ∧ Ch [] w w' := by
  have R1 := fun w => rRow_any t s k w
  have Y1 := fun w => rh2_any s k w
  have hl2 := row_len t s k
  have hbd := Lib.hid (row_bound t s k)
  have HC : Hid (cmpR t s k = cmpF (fun y => bt t y == hash2 (hashOf s k)) (fun y => t.k y == k) 0 (posG (rowT t s k))) := Lib.hid (cmpR_eq t s k)
  generalize cmpR t s k = C at *
  generalize rowT t s k = l at *
  generalize hash2 (hashOf s k) = h at *
  have hB0 : (w.alloc (.cells (tcells t) 26)).heap[w.heap.size]? = some (.cells (tcells t) 26 (0, 0)) := by simp [go_sem]
  go_enter Tryz.func32, Tryz.ntmps32
  go_wp2_with (go_at_call 54; refine (R1 _).mono ?_; rintro e W2 ⟨v, rfl, ⟨r, c, cur, rfl, hr0, hcur, hel⟩, hc2⟩)
  have hB := hkeep hc2 hB0
  have hCC : Ch [] w W2 := ((Ch.refl [] w).alloc _).trans hc2
  have HEL := Lib.hid hel
  clear hc2 hB0 R1 hel hr0
  generalize w.heap.size = B at *
  go_loop [7, 16] (fun n i => ∃ x m : Nat, i = .int .i64 x ∧ n = .int .i64 m ∧ x ≤ l.length ∧ m ≤ 8 * x ∧ C = cmpF (fun y => bt t y == h) (fun y => t.k y == k) m (posG (l.drop x))) (fun _ i => l.length - (intOf i).toNat)
  case atStart => exact ⟨0, 0, rfl, rfl, by omega, by omega, by rw [List.drop_zero]; exact HC.out⟩
  case round =>
    obtain ⟨x, m, hx, hm, hxl, hmx, hC⟩ := hrel
    subst hx hm
    by_cases hlt : x < l.length
    · obtain ⟨g, hg⟩ : ∃ g, l[x]? = some g := ⟨l[x]'hlt, List.getElem?_eq_getElem hlt⟩
      have hg2 : g < 2 := hbd.out g (List.mem_of_getElem? hg)
      have helg := HEL.out x g hg
      have HI : Hid (C = cmpF (fun y => bt t y == h) (fun y => t.k y == k) m (restP g 0 (l.drop (x + 1)))) := Lib.hid (by rw [hC, drop_cons hg, restP_zero])
      clear hC hg HC
      obtain ⟨rest, hrest⟩ : ∃ rest, l.drop (x + 1) = rest := ⟨_, rfl⟩
      rw [hrest] at HI
      have HRS := Lib.hid hrest
      clear hrest
      go_wp2
      go_loop [7, 20] (fun n i => ∃ j m : Nat, i = .int .i64 j ∧ n = .int .i64 m ∧ j ≤ 8 ∧ m ≤ 8 * x + j ∧ C = cmpF (fun y => bt t y == h) (fun y => t.k y == k) m (restP g j rest)) (fun _ i => 8 - (intOf i).toNat)
      case atStart => exact ⟨0, m, rfl, rfl, by omega, by omega, HI.out⟩
      case round =>
        obtain ⟨j, n, hj, hn, hj8, hnj, hC⟩ := hrel
        subst hj hn
        clear HI
        by_cases hlj : j < 8
        · have A1 : ∀ w, Calls Tryz.prog 50 #[U (t.c g), I j] w fun e w' => e = .returned (Y (bt t (8 * g + j))) ∧ w = w' := fun w => by
            rw [bt_at t g j hlj]; exact rAt_any (t.c g) j (by omega) w
          have hy16 : 8 * g + j < 16 := by omega
          have hkey := tcells_key t (8 * g + j) hy16
          have hc5 := tcells_ctrl_at t g hg2
          rw [restP_succ hlj] at hC
          have HSK : Hid ((bt t (8 * g + j) == h) = false → C = cmpF (fun y => bt t y == h) (fun y => t.k y == k) n (restP g (j + 1) rest)) := Lib.hid fun he => by rw [hC, cmpF_skip (P := fun y => bt t y == h) he]
          have HHT : Hid ((bt t (8 * g + j) == h) = true → (t.k (8 * g + j) == k) = true → C = n + 1) := Lib.hid fun he hk => by rw [hC, cmpF_hit (P := fun y => bt t y == h) (f := fun y => t.k y == k) he hk]
          have HMS : Hid ((bt t (8 * g + j) == h) = true → (t.k (8 * g + j) == k) = false → C = cmpF (fun y => bt t y == h) (fun y => t.k y == k) (n + 1) (restP g (j + 1) rest)) := Lib.hid fun he hk => by rw [hC, cmpF_miss (P := fun y => bt t y == h) (f := fun y => t.k y == k) he hk]
          clear hC
          have hy : 8 * (g : Int) + (j : Int) = ((8 * g + j : Nat) : Int) := by omega
          generalize bt t (8 * g + j) = b at *
          generalize t.k (8 * g + j) = kj at *
          generalize 8 * g + j = y at *
          have hQ : (b == h) = true ∨ (b == h) = false := by cases (b == h) <;> simp
          rcases hQ with hQ | hQ
          · have hQ' : b = h := by simpa using hQ
            subst hQ'
            have hK : (kj == k) = true ∨ (kj == k) = false := by cases (kj == k) <;> simp
            rcases hK with hK | hK
            · go_wp2_with (first
                | (go_at_call 50; refine (A1 _).mono ?_; rintro e w' ⟨rfl, rfl⟩)
                | (go_at_call 51; refine (Y1 _).mono ?_; rintro e w' ⟨rfl, rfl⟩))
              go_ret
              exact ⟨by rw [HHT.out (by simp) hK]; rfl, hCC⟩
            · go_wp2_with (first
                | (go_at_call 50; refine (A1 _).mono ?_; rintro e w' ⟨rfl, rfl⟩)
                | (go_at_call 51; refine (Y1 _).mono ?_; rintro e w' ⟨rfl, rfl⟩))
              go_round
              case rel => exact ⟨j + 1, n + 1, by go_num, by go_num, hlj, by omega, HMS.out (by simp) hK⟩
              case measure => simp [intOf]; omega
          · have hQ2 : (b != h) = true := by rw [bne, hQ]; rfl
            go_wp2_with (first
                | (go_at_call 50; refine (A1 _).mono ?_; rintro e w' ⟨rfl, rfl⟩)
                | (go_at_call 51; refine (Y1 _).mono ?_; rintro e w' ⟨rfl, rfl⟩))
            go_round
            case rel => exact ⟨j + 1, n, by go_num, rfl, hlj, by omega, HSK.out hQ⟩
            case measure => simp [intOf]; omega
        · have hj8' : j = 8 := by omega
          subst hj8'
          rw [restP_end] at hC
          have HC8 := Lib.hid hC
          clear hC
          go_wp2
          go_round
          case rel => exact ⟨x + 1, n, by go_num, rfl, hlt, by omega, by rw [HRS.out]; exact HC8.out⟩
          case measure => simp [intOf]; omega
    · have hxe : x = l.length := by omega
      have HE : Hid (C = 0) := Lib.hid (by rw [hC, hxe, List.drop_length]; rfl)
      clear hC hxe HC
      go_wp2
      go_ret
      exact ⟨by rw [HE.out]; rfl, hCC⟩
end Go.Proofs.Hc
/- The reference of layer 17: Place. -/
namespace Go.Proofs.Hc
open Go.RowKit
attribute [local go_sem] wrap_u64 wrap_u8 bits_xor64 bits_and64 bits_or64 bits_not64 bits_xor8 bits_and8 bits_or8 signed64 signed8 ofInt_N BitVec.ofInt_add BitVec.ofInt_mul ofInt_sub' ofInt8_N64 ofInt64_N8 wide8 eqN neN shr_pow shr1 shr7 shr56
attribute [local go_sem high] bits_com64 shl_wrap
attribute [local go_sem] cell_heap ice_heap cellAt_cells iceAt_cells setAt_cells rowAt_cells canLay_cells laidAt_cells size_onObj size_setCell rowRes_some layRes_true
attribute [local go_sem] load26 load73 load23 store26 build73
attribute [local go_sem ↓] lrow26 lrow73 lrow23 srow26 zero26 brow73 heap_alloc heap_drew heap_drewN heap_setCell heap_onObj
attribute [local go_sem] tcells_size hcells_size tcells_get hcells_get tcells_one hcells_one hcells_table tcells_table hcells_all hcells_ctrl tcells_ctrl
attribute [local go_sem] nn2 nm2 nn3 nm3 nn4 nm4 nn5 nm5 nn6 nm6 nn7 nm7 nn8 nm8
attribute [local go_sem] nn2 nm2 nn3 nm3 nn4 nm4 nn5 nm5 nn6 nm6 nn7 nm7 nn8 nm8
attribute [local go_sem] ofInt_N
attribute [local go_sem] box26 tcells_idx cell0 cell1 cell2 cell3 cell4 cell5 cell6
attribute [local irreducible] tcells
theorem N_128 : N 128#8 = 128 := rfl
attribute [local go_sem] N_128
set_option maxHeartbeats 1000000 in
set_option maxRecDepth 100000 in
theorem rPlace_no (t : Tab) (s k : BitVec 64) (w : World) (hf : flatT t = true) (hg : hasT t (hashOf s k) = false) : Calls Tryz.prog 22 #[U s, .agg (tcells t), U k] w fun e w' => e = .returned (.tuple #[I 0, I 2]) ∧ Ch [] w w' := by
  have G1 := fun w => rGoes_any t s k hf w
  rw [hg] at G1
  clear hf hg
  go_enter Tryz.func22, Tryz.ntmps22
  go_wp2_with (go_at_call 52; refine (G1 _).mono ?_; rintro e w1 ⟨rfl, hc1⟩)
  go_ret2
  exact ⟨rfl, ((Ch.refl [] w).alloc _).trans hc1⟩
set_option maxHeartbeats 1000000 in
set_option maxRecDepth 100000 in
theorem rPlace_has (t : Tab) (s k : BitVec 64) (w : World) (hf : flatT t = true) (hg : hasT t (hashOf s k) = true) (j : Nat) (hs : slotR t k = some j) : Calls Tryz.prog 22 #[U s, .agg (tcells t), U k] w fun e w' => e = .returned (.tuple #[I 0, I 5]) ∧ Ch [] w w' := by
  have G1 := fun w => rGoes_any t s k hf w
  have S1 := fun w => rSlot_any t k w
  rw [hg] at G1
  rw [hs] at S1
  dsimp only [slotI] at S1
  clear hf hg hs
  have hj0 : (0 : Int) ≤ (j : Int) := by omega
  have hB0 : (w.alloc (.cells (tcells t) 26)).heap[w.heap.size]? = some (.cells (tcells t) 26 (0, 0)) := by simp [go_sem]
  go_enter Tryz.func22, Tryz.ntmps22
  go_wp2_with (first
    | (go_at_call 52; refine (G1 _).mono ?_; rintro e w1 ⟨rfl, hc1⟩; have b1 := hkeep hc1 hB0; have D1 := Lib.hid (((Ch.refl [] w).alloc _).trans hc1); clear hc1 hB0)
    | (go_at_call 31; refine (S1 _).mono ?_; rintro e w2 ⟨rfl, hc2⟩; have D2 := Lib.hid (D1.out.trans hc2); clear hc2))
  go_ret2
  exact ⟨rfl, D2.out⟩
set_option maxHeartbeats 4000000 in
set_option maxRecDepth 100000 in
theorem rPlace_main (t : Tab) (s k : BitVec 64) (w : World) (hf : flatT t = true) (hg : hasT t (hashOf s k) = true) (hs : slotR t k = none) :
    Calls Tryz.prog 22 #[U s, .agg (tcells t), U k] w fun e w' => e = .returned (placeV (placeO t (freeR t (posG (rowT t s k))))) ∧ Ch [] w w' := by
  have G1 := fun w => rGoes_any t s k hf w
  have S1 := fun w => rSlot_any t k w
  have R1 := fun w => rRow_any t s k w
  rw [hg] at G1
  rw [hs] at S1
  dsimp only [slotI] at S1
  clear hf hg hs
  have hl2 := row_len t s k
  have hbd := Lib.hid (row_bound t s k)
  obtain ⟨R, hR⟩ : ∃ R, freeR t (posG (rowT t s k)) = R := ⟨_, rfl⟩
  rw [hR]
  have HR := Lib.hid hR.symm
  clear hR
  have HN : Hid (R = none → placeV (placeO t R) = .tuple #[I 0, I 6]) := Lib.hid fun h => by rw [h, placeO, placeV]
  have HY : Hid (∀ y, R = some y → (bt t y == 128#8 && t.can == 0) = false → placeV (placeO t R) = .tuple #[I y, I 0]) := Lib.hid fun y h hb => by rw [h, placeO, hb, if_neg (by decide), placeV]
  have HF : Hid (∀ y, R = some y → (bt t y == 128#8 && t.can == 0) = true → placeV (placeO t R) = .tuple #[I 0, I 6]) := Lib.hid fun y h hb => by rw [h, placeO, hb, if_pos rfl, placeV]
  generalize placeV (placeO t R) = V at *
  generalize rowT t s k = l at *
  have hB0 : (w.alloc (.cells (tcells t) 26)).heap[w.heap.size]? = some (.cells (tcells t) 26 (0, 0)) := by simp [go_sem]
  go_enter Tryz.func22, Tryz.ntmps22
  go_wp2_with (first
    | (go_at_call 52; refine (G1 _).mono ?_; rintro e w1 ⟨rfl, hc1⟩; have b1 := hkeep hc1 hB0; have D1 := Lib.hid (((Ch.refl [] w).alloc _).trans hc1); clear hc1 hB0)
    | (go_at_call 31; refine (S1 _).mono ?_; rintro e w2 ⟨rfl, hc2⟩; have b2 := hkeep hc2 b1; have D2 := Lib.hid (D1.out.trans hc2); clear hc2 b1)
    | (go_at_call 54; refine (R1 _).mono ?_; rintro e W2 ⟨v, rfl, ⟨r, c, cur, rfl, hr0, hcur, hel⟩, hc2⟩))
  have hB := hkeep hc2 b2
  have hCC : Ch [] w W2 := D2.out.trans hc2
  have HEL := Lib.hid hel
  clear hc2 b2 R1 hel hr0 G1 S1
  generalize w.heap.size = B at *
  go_loopw [25] (fun i wr => ∃ x : Nat, i = .int .i64 x ∧ x ≤ l.length ∧ Ch [] W2 wr ∧ R = freeR t (posG (l.drop x))) (fun i _ => l.length - (intOf i).toNat)
  case atStart => exact ⟨0, rfl, by omega, Ch.refl _ _, by rw [List.drop_zero]; exact HR.out⟩
  case round =>
    obtain ⟨x, hx, hxl, hcr, hC⟩ := hrel
    subst hx
    have hBr := hkeep hcr hB
    have hcurr := hkeep hcr hcur
    clear hB hcur
    by_cases hlt : x < l.length
    · obtain ⟨g, hg⟩ : ∃ g, l[x]? = some g := ⟨l[x]'hlt, List.getElem?_eq_getElem hlt⟩
      have hg2 : g < 2 := hbd.out g (List.mem_of_getElem? hg)
      have helg := HEL.out x g hg
      have HI : Hid (R = freeR t (restP g 0 (l.drop (x + 1)))) := Lib.hid (by rw [hC, drop_cons hg, restP_zero])
      clear hC hg HR
      obtain ⟨rest, hrest⟩ : ∃ rest, l.drop (x + 1) = rest := ⟨_, rfl⟩
      rw [hrest] at HI
      have HRS := Lib.hid hrest
      clear hrest
      go_wp2
      clear hcurr helg
      go_loopw [29] (fun i wq => ∃ j : Nat, i = .int .i64 j ∧ j ≤ 8 ∧ Ch [] wr wq ∧ R = freeR t (restP g j rest)) (fun i _ => 8 - (intOf i).toNat)
      case atStart => exact ⟨0, rfl, by omega, Ch.refl _ _, HI.out⟩
      case round =>
        obtain ⟨j, hj, hj8, hcq, hC⟩ := hrel
        subst hj
        have hBq := hkeep hcq hBr
        clear HI hBr
        by_cases hlj : j < 8
        · have A1 : ∀ w, Calls Tryz.prog 50 #[U (t.c g), I j] w fun e w' => e = .returned (Y (bt t (8 * g + j))) ∧ w = w' := fun w => by
            rw [bt_at t g j hlj]; exact rAt_any (t.c g) j (by omega) w
          have hy16 : 8 * g + j < 16 := by omega
          have F1 := fun w => rFull_any t (8 * g + j) hy16 w
          have hc5 := tcells_ctrl_at t g hg2
          rw [restP_succ hlj] at hC
          have HSK : Hid (fullJ t (8 * g + j) = true → R = freeR t (restP g (j + 1) rest)) := Lib.hid fun he => by rw [hC, freeR_skip he]
          have HHT : Hid (fullJ t (8 * g + j) = false → R = some (8 * g + j)) := Lib.hid fun he => by rw [hC, freeR_hit he]
          have HY1 := Lib.hid (HY.out (8 * g + j))
          have HF1 := Lib.hid (HF.out (8 * g + j))
          clear hC HY HF HN
          have hy : 8 * (g : Int) + (j : Int) = ((8 * g + j : Nat) : Int) := by omega
          generalize bt t (8 * g + j) = b at *
          generalize fullJ t (8 * g + j) = F at *
          generalize 8 * g + j = y at *
          cases F
          · have hQ : (b == 128#8) = true ∨ (b == 128#8) = false := by cases (b == 128#8) <;> simp
            have hK : (t.can == 0) = true ∨ (t.can == 0) = false := by cases (t.can == 0) <;> simp
            rcases hQ with hQ | hQ
            · have hQ' : b = 128#8 := by simpa using hQ
              subst hQ'
              rcases hK with hK | hK
              · have HV : Hid (V = .tuple #[I 0, I 6]) := Lib.hid (HF1.out (HHT.out (by first | trivial | rfl)) (by rw [hK]; rfl))
                clear HHT HSK HF1 HY1
                go_wp2_with (first
                  | (go_at_call 67; refine (F1 _).mono ?_; rintro e w3 ⟨rfl, hc3⟩; have b3 := hkeep hc3 hBq; have D3 := Lib.hid (hcq.trans hc3); clear hBq hc3)
                  | (go_at_call 50; refine (A1 _).mono ?_; rintro e w' ⟨rfl, rfl⟩))
                go_ret2
                exact ⟨by rw [HV.out]; rfl, hCC.trans (hcr.trans D3.out)⟩
              · have HV : Hid (V = .tuple #[I y, I 0]) := Lib.hid (HY1.out (HHT.out (by first | trivial | rfl)) (by rw [hK]; rfl))
                clear HHT HSK HF1 HY1
                go_wp2_with (first
                  | (go_at_call 67; refine (F1 _).mono ?_; rintro e w3 ⟨rfl, hc3⟩; have b3 := hkeep hc3 hBq; have D3 := Lib.hid (hcq.trans hc3); clear hBq hc3)
                  | (go_at_call 50; refine (A1 _).mono ?_; rintro e w' ⟨rfl, rfl⟩))
                go_ret2
                exact ⟨by rw [HV.out]; rfl, hCC.trans (hcr.trans D3.out)⟩
            · have hb6 : (N b == 128) = false := by rw [Y128]; exact hQ
              have HV : Hid (V = .tuple #[I y, I 0]) := Lib.hid (HY1.out (HHT.out (by first | trivial | rfl)) (by rw [hQ]; rfl))
              clear HHT HSK HF1 HY1 hK
              go_wp2_with (first
                | (go_at_call 67; refine (F1 _).mono ?_; rintro e w3 ⟨rfl, hc3⟩; have b3 := hkeep hc3 hBq; have D3 := Lib.hid (hcq.trans hc3); clear hBq hc3)
                | (go_at_call 50; refine (A1 _).mono ?_; rintro e w' ⟨rfl, rfl⟩))
              go_ret2
              exact ⟨by rw [HV.out]; rfl, hCC.trans (hcr.trans D3.out)⟩
          · clear HHT HF1 HY1 A1
            go_wp2_with (go_at_call 67; refine (F1 _).mono ?_; rintro e w3 ⟨rfl, hc3⟩; have D3 := Lib.hid (hcq.trans hc3); clear hBq hc3)
            go_roundw
            case rel => exact ⟨j + 1, by go_num, hlj, D3.out, HSK.out (by first | trivial | rfl)⟩
            case measure => simp [intOf]; omega
        · have hj8' : j = 8 := by omega
          subst hj8'
          rw [restP_end] at hC
          have HC8 := Lib.hid hC
          clear hC
          go_wp2
          go_roundw
          case rel => exact ⟨x + 1, by go_num, hlt, hcr.trans hcq, by rw [HRS.out]; exact HC8.out⟩
          case measure => simp [intOf]; omega
    · have hxe : x = l.length := by omega
      have HE : Hid (R = none) := Lib.hid (by rw [hC, hxe, List.drop_length, posG_nil, freeR_nil])
      have HV := Lib.hid (HN.out HE.out)
      clear hC hxe HR HN HY HF
      go_wp2
      go_ret2
      exact ⟨by rw [HV.out]; rfl, hCC.trans hcr⟩
theorem rPlace_any (t : Tab) (s k : BitVec 64) (m : May t s) (w : World) : Calls Tryz.prog 22 #[U s, .agg (tcells t), U k] w fun e w' => e = .returned (placeV (placeT t s k)) ∧ Ch [] w w' := by
  have hp := placeR_eq m k
  rw [placeR] at hp
  cases hg : hasT t (hashOf s k) with
  | false =>
    rw [hg, if_neg (by decide)] at hp
    rw [← hp]
    exact rPlace_no t s k w m.flat hg
  | true =>
    rw [hg, if_pos rfl] at hp
    cases hs : slotR t k with
    | none =>
      rw [hs, if_neg (by decide)] at hp
      rw [← hp]
      exact rPlace_main t s k w m.flat hg hs
    | some j =>
      rw [hs, Option.isSome_some, if_pos rfl] at hp
      rw [← hp]
      exact rPlace_has t s k w m.flat hg j hs
end Go.Proofs.Hc
