/- The reference of layer 17: Right. -/
import Derived.Test.YtcikopeddljgkaaGreatKHxv
import Derived.Test.YtcikopeddljgkaaGreatKRk
import Derived.Test.YtcikopeddljgkaaGreatKTe
import Derived.Test.YtcikopeddljgkaaGreatK0
set_option linter.unusedSimpArgs false
set_option linter.unusedVariables false
set_option maxHeartbeats 4000000
set_option maxRecDepth 100000
namespace Go.Proofs.Hc
open Go.RowKit
attribute [local go_sem] zbs zca zax zbc zbn zba zbm zbo zbu signed64 signed8 zar BitVec.ofInt_add BitVec.ofInt_mul ofInt_sub' zay zaz wide8 eqN neN zbz shr1 shr7 shr56
attribute [local go_sem high] zbb zbt
attribute [local go_sem] zag zbw zah zas zad zbe zaq zal zbl zan zbd zbf
attribute [local go_sem] load26 load73 load23 store26 build73
attribute [local go_sem ↓] lrow26 lrow73 lrow23 srow26 zero26 brow73 zac zaw zbg zaa zab
attribute [local go_sem] zai zav zat zbj zbk zbp zao zau zbq zbi zbh
attribute [local go_sem] nn2 nm2 nn3 nm3 nn4 nm4 nn5 nm5 nn6 nm6 nn7 nm7 nn8 nm8
section
attribute [local go_sem] zar
attribute [local go_sem] box26 zbx cell0 cell1 cell2 cell3 cell4 cell5 cell6
attribute [local irreducible] tcells
theorem N_254 : N 254#8 = 254 := rfl
attribute [local go_sem] N_254
theorem bool_no {G : Bool} {p : Prop} (h : G = true ↔ p) (hn : ¬ p) : G = false := by
  cases G with
  | false => rfl
  | true => exact absurd (h.1 rfl) hn
theorem slotI_eq (o : Option Nat) (j : Nat) : slotI o = (j : Int) ↔ o = some j := by
  cases o with
  | none => simp only [slotI, reduceCtorEq]
  | some i => simp only [slotI, Option.some.injEq]; omega
theorem right_no0 (t : Tab) (s : BitVec 64) (w : World) (hf : flatT t = false) : Calls Tryz.prog 18 #[U s, .agg (tcells t)] w fun e w' => e = .returned (.bool false) ∧ Ch [] w w' := by
  have T1 := fun w => rTable_any t w
  rw [hf] at T1
  clear hf
  go_enter Tryz.func18, Tryz.ntmps18
  go_wp2_with (go_at_call 86; refine (T1 _).mono ?_; rintro e w1 ⟨rfl, hc1⟩)
  go_ret
  exact ⟨rfl, ((Ch.refl [] w).alloc _).trans hc1⟩
theorem right_no1 (t : Tab) (s : BitVec 64) (w : World) (hf : flatT t = true) (h0 : ctrlOk (t.c 0) = false) : Calls Tryz.prog 18 #[U s, .agg (tcells t)] w fun e w' => e = .returned (.bool false) ∧ Ch [] w w' := by
  have T1 := fun w => rTable_any t w
  have R1 := fun w => rRight9_any (t.c 0) w
  rw [hf] at T1
  rw [h0] at R1
  clear hf h0
  have hB : (w.alloc (.cells (tcells t) 26)).heap[w.heap.size]? = some (.cells (tcells t) 26 (0, 0)) := by simp [go_sem]
  go_enter Tryz.func18, Tryz.ntmps18
  go_wp2_with fail
  refine (T1 _).mono ?_
  rintro e w1 ⟨rfl, hc1⟩
  have b1 := hkeep hc1 hB
  clear hB
  go_wp2_with (go_at_call 87; refine (R1 _).mono ?_; rintro e w2 ⟨rfl, hc2⟩)
  go_ret
  exact ⟨rfl, (((Ch.refl [] w).alloc _).trans hc1).trans hc2⟩
theorem right_no2 (t : Tab) (s : BitVec 64) (w : World) (hf : flatT t = true) (h0 : ctrlOk (t.c 0) = true) (h1 : ctrlOk (t.c 1) = false) : Calls Tryz.prog 18 #[U s, .agg (tcells t)] w fun e w' => e = .returned (.bool false) ∧ Ch [] w w' := by
  have T1 := fun w => rTable_any t w
  have R0 := fun w => rRight9_any (t.c 0) w
  have R1 := fun w => rRight9_any (t.c 1) w
  rw [hf] at T1
  rw [h0] at R0
  rw [h1] at R1
  clear hf h0 h1
  have hB : (w.alloc (.cells (tcells t) 26)).heap[w.heap.size]? = some (.cells (tcells t) 26 (0, 0)) := by simp [go_sem]
  go_enter Tryz.func18, Tryz.ntmps18
  go_wp2_with fail
  refine (T1 _).mono ?_
  rintro e w1 ⟨rfl, hc1⟩
  have b1 := hkeep hc1 hB
  clear hB
  go_wp2_with fail
  refine (R0 _).mono ?_
  rintro e w2 ⟨rfl, hc2⟩
  have b2 := hkeep hc2 b1
  clear b1
  go_wp2_with fail
  refine (R1 _).mono ?_
  rintro e w3 ⟨rfl, hc3⟩
  go_wp2
  go_ret
  exact ⟨rfl, ((((Ch.refl [] w).alloc _).trans hc1).trans hc2).trans hc3⟩
theorem right_all (t : Tab) (s : BitVec 64) (w : World) (hf : flatT t = true) (h0 : ctrlOk (t.c 0) = true) (h1 : ctrlOk (t.c 1) = true) : Calls Tryz.prog 18 #[U s, .agg (tcells t)] w fun e w' => e = .returned (.bool (mayT t s)) ∧ Ch [] w w' := by
  have HMAY := Lib.hid (@may_of_slots t s hf h0 h1)
  have HNOT := Lib.hid (fun j (h1 : j < 16) h2 h3 => @not_may t s j h1 h2 h3)
  have T1 := fun w => rTable_any t w
  have R0 := fun w => rRight9_any (t.c 0) w
  have R1 := fun w => rRight9_any (t.c 1) w
  have G1 := fun k w => rGoes_any t s k hf w
  rw [hf] at T1
  rw [h0] at R0
  rw [h1] at R1
  clear hf h0 h1
  have hB : (w.alloc (.cells (tcells t) 26)).heap[w.heap.size]? = some (.cells (tcells t) 26 (0, 0)) := by simp [go_sem]
  generalize mayT t s = M at *
  go_enter Tryz.func18, Tryz.ntmps18
  go_wp2_with fail
  refine (T1 _).mono ?_
  rintro e w1 ⟨rfl, hc1⟩
  have b1 := hkeep hc1 hB
  clear hB
  go_wp2_with fail
  refine (R0 _).mono ?_
  rintro e w2 ⟨rfl, hc2⟩
  have b2 := hkeep hc2 b1
  clear b1
  go_wp2_with fail
  refine (R1 _).mono ?_
  rintro e W3 ⟨rfl, hc3⟩
  have b3 := hkeep hc3 b2
  have hC3 : Ch [] w W3 := ((((Ch.refl [] w).alloc _).trans hc1).trans hc2).trans hc3
  clear b2 hc1 hc2 hc3 T1 R0 R1
  generalize w.heap.size = B at *
  go_wp2
  go_loopw [5, 6, 27] (fun lv gn i wr => ∃ j : Nat, i = .int .i64 j ∧ lv = .int .i64 (nLv t j) ∧ gn = .int .i64 (nGn t j) ∧ j ≤ 16 ∧ Ch [] W3 wr ∧ ∀ i, i < j → fullJ t i = true → slotG t s i = true) (fun _ _ i _ => 16 - (intOf i).toNat)
  case atStart => exact ⟨0, rfl, by rw [nLv_zero]; rfl, by rw [nGn_zero]; rfl, by omega, Ch.refl _ _, fun i hi => by omega⟩
  case round =>
    obtain ⟨j, hj, hlv, hgn, hj8, hcr, hall⟩ := hrel
    subst hj hlv hgn
    have hB := hkeep hcr b3
    have HA := Lib.hid hall
    clear hall b3
    have hl1 := nLv_le t j
    have hl2 := nGn_le t j
    by_cases hlt : j < 16
    · have HL := Lib.hid (nLv_succ t j)
      have HG := Lib.hid (nGn_succ t j)
      have HNM := Lib.hid (HNOT.out j hlt)
      have A1 : ∀ w, Calls Tryz.prog 88 #[U (t.c (j / 8)), I (j % 8 : Nat)] w fun e w' => e = .returned (Y (bt t j)) ∧ w = w' := fun w => rAt_any (t.c (j / 8)) (j % 8) (by omega) w
      have hd : (j : Int).tdiv 8 = ((j / 8 : Nat) : Int) := by rw [Int.tdiv_eq_ediv_of_nonneg (by omega)]; rfl
      have hm : (j : Int).tmod 8 = ((j % 8 : Nat) : Int) := by rw [Int.tmod_eq_emod_of_nonneg (by omega)]; rfl
      have hg : j / 8 < 2 := by omega
      have hc5 := tcells_ctrl_at t (j / 8) hg
      have hkey := tcells_key t j hlt
      have S1 := fun w => rSlot_any t (t.k j) w
      have Y1 := fun w => rh2_any s (t.k j) w
      have G2 := fun w => G1 (t.k j) w
      have W1 := fun w => rRow_any t s (t.k j) w
      have I1 := fun v w0 w h => rIn_any (rowT t s (t.k j)) (j / 8) v w0 w h (row_len t s (t.k j))
      have HSI := Lib.hid (slotG_iff t s j)
      rw [← slotI_eq] at HSI
      have HF : Hid (fullJ t j = decide ((bt t j).toNat < 128)) := Lib.hid rfl
      have HNX : Hid ((fullJ t j = true → slotG t s j = true) → ∀ i, i < j + 1 → fullJ t i = true → slotG t s i = true) := Lib.hid fun hfx i hi hfi => by
        by_cases he : i = j
        · rw [he]; rw [he] at hfi; exact hfx hfi
        · exact HA.out i (by omega) hfi
      clear G1 HA
      have hmem : Hid (decide (j / 8 ∈ rowT t s (t.k j)) = true ↔ j / 8 ∈ rowT t s (t.k j)) := Lib.hid decide_eq_true_iff
      rw [← hmem.out] at HSI
      generalize decide (j / 8 ∈ rowT t s (t.k j)) = q4 at *
      generalize rowT t s (t.k j) = rwT at *
      generalize hasT t (hashOf s (t.k j)) = q3 at *
      generalize hash2 (hashOf s (t.k j)) = y at *
      generalize slotI (slotR t (t.k j)) = r at *
      generalize t.k j = kj at *
      generalize slotG t s j = G at *
      generalize fullJ t j = F at *
      generalize bt t j = b at *
      generalize nLv t j = lv at *
      generalize nGn t j = gn at *
      generalize j / 8 = g at *
      generalize j % 8 = x at *
      clear hmem
      by_cases hb4 : b = 254#8
      · obtain rfl : F = false := by rw [HF.out, hb4]; decide
        subst hb4
        clear S1 Y1 G2 W1 I1 HSI HNM HF
        go_wp2_with (go_at_call 88; refine (A1 _).mono ?_; rintro e w' ⟨rfl, rfl⟩)
        go_roundw
        case rel => exact ⟨j + 1, by go_num, by rw [HL.out, if_neg (by decide)]; rfl, by rw [HG.out, if_pos (by decide)]; go_num, hlt, hcr, HNX.out (fun h => by cases h)⟩
        case measure => simp [intOf]; omega
      · have hb5 : (b == 254#8) = false := by simpa using hb4
        have hb6 : (N b == 254) = false := by rw [Y254]; exact hb5
        by_cases hle : N b ≤ 127
        · obtain rfl : F = true := by rw [HF.out]; unfold N at hle; simpa using (show b.toNat < 128 by omega)
          clear hb4 HF
          by_cases hr : r = (j : Int)
          · subst hr
            have hQ : (b == y) = true ∨ (b == y) = false := by cases (b == y) <;> simp
            rcases hQ with hQ | hQ
            · have hQ' : b = y := by simpa using hQ
              subst hQ'
              cases q3
              · have HM : Hid (M = false) := Lib.hid (HNM.out rfl (bool_no HSI.out (fun h => by cases h.2.2.1)))
                clear HNM HSI I1 W1 HL HG HNX
                all_goals
                  go_wp2_with (first
                    | (go_at_call 88; refine (A1 _).mono ?_; rintro e w' ⟨rfl, rfl⟩)
                    | (go_at_call 89; refine (S1 _).mono ?_; rintro e w5 ⟨rfl, hc5'⟩; have b5 := hkeep hc5' hB; have D5 := Lib.hid (hcr.trans hc5'); clear hc5' hB)
                    | (go_at_call 90; refine (Y1 _).mono ?_; rintro e w' ⟨rfl, rfl⟩)
                    | (go_at_call 91; refine (G2 _).mono ?_; rintro e w6 ⟨rfl, hc6⟩; have b6 := hkeep hc6 b5; have D6 := Lib.hid (D5.out.trans hc6); clear hc6 b5)
                    | (go_at_call 93; refine (W1 _).mono ?_; rintro e w7 ⟨v7, rfl, hi7, hc7⟩; have I7 := Lib.hid hi7; have D7 := Lib.hid (D6.out.trans hc7); clear hc7 hi7 b6)
                    | (go_at_call 92; refine (I1 _ _ _ I7.out).mono ?_; rintro e w' ⟨rfl, rfl⟩))
                all_goals
                  go_ret
                  exact ⟨by rw [HM.out]; rfl, hC3.trans D6.out⟩
              · cases q4
                · have HM : Hid (M = false) := Lib.hid (HNM.out rfl (bool_no HSI.out (fun h => by cases h.2.2.2)))
                  clear HNM HSI HL HG HNX
                  all_goals
                    go_wp2_with (first
                      | (go_at_call 88; refine (A1 _).mono ?_; rintro e w' ⟨rfl, rfl⟩)
                      | (go_at_call 89; refine (S1 _).mono ?_; rintro e w5 ⟨rfl, hc5'⟩; have b5 := hkeep hc5' hB; have D5 := Lib.hid (hcr.trans hc5'); clear hc5' hB)
                      | (go_at_call 90; refine (Y1 _).mono ?_; rintro e w' ⟨rfl, rfl⟩)
                      | (go_at_call 91; refine (G2 _).mono ?_; rintro e w6 ⟨rfl, hc6⟩; have b6 := hkeep hc6 b5; have D6 := Lib.hid (D5.out.trans hc6); clear hc6 b5)
                      | (go_at_call 93; refine (W1 _).mono ?_; rintro e w7 ⟨v7, rfl, hi7, hc7⟩; have I7 := Lib.hid hi7; have D7 := Lib.hid (D6.out.trans hc7); clear hc7 hi7 b6)
                      | (go_at_call 92; refine (I1 _ _ _ I7.out).mono ?_; rintro e w' ⟨rfl, rfl⟩))
                  all_goals
                    go_ret
                    exact ⟨by rw [HM.out]; rfl, hC3.trans D7.out⟩
                · have HGT : Hid (G = true) := Lib.hid (HSI.out.2 ⟨rfl, rfl, rfl, rfl⟩)
                  clear HNM HSI
                  all_goals
                    go_wp2_with (first
                      | (go_at_call 88; refine (A1 _).mono ?_; rintro e w' ⟨rfl, rfl⟩)
                      | (go_at_call 89; refine (S1 _).mono ?_; rintro e w5 ⟨rfl, hc5'⟩; have b5 := hkeep hc5' hB; have D5 := Lib.hid (hcr.trans hc5'); clear hc5' hB)
                      | (go_at_call 90; refine (Y1 _).mono ?_; rintro e w' ⟨rfl, rfl⟩)
                      | (go_at_call 91; refine (G2 _).mono ?_; rintro e w6 ⟨rfl, hc6⟩; have b6 := hkeep hc6 b5; have D6 := Lib.hid (D5.out.trans hc6); clear hc6 b5)
                      | (go_at_call 93; refine (W1 _).mono ?_; rintro e w7 ⟨v7, rfl, hi7, hc7⟩; have I7 := Lib.hid hi7; have D7 := Lib.hid (D6.out.trans hc7); clear hc7 hi7 b6)
                      | (go_at_call 92; refine (I1 _ _ _ I7.out).mono ?_; rintro e w' ⟨rfl, rfl⟩))
                  go_roundw
                  case rel => exact ⟨j + 1, by go_num, by rw [HL.out]; (first | rw [if_pos rfl] | rw [if_pos trivial]); go_num, by rw [HG.out, if_neg (by rw [hb5]; decide)]; rfl, hlt, D7.out, HNX.out (fun _ => HGT.out)⟩
                  case measure => simp [intOf]; omega
            · have HM : Hid (M = false) := Lib.hid (HNM.out rfl (bool_no HSI.out (fun h => by rw [h.2.1] at hQ; simp at hQ)))
              have hQ2 : (b != y) = true := by rw [bne, hQ]; rfl
              clear HNM HSI I1 W1 HL HG HNX G2
              all_goals
                go_wp2_with (first
                  | (go_at_call 88; refine (A1 _).mono ?_; rintro e w' ⟨rfl, rfl⟩)
                  | (go_at_call 89; refine (S1 _).mono ?_; rintro e w5 ⟨rfl, hc5'⟩; have b5 := hkeep hc5' hB; have D5 := Lib.hid (hcr.trans hc5'); clear hc5' hB)
                  | (go_at_call 90; refine (Y1 _).mono ?_; rintro e w' ⟨rfl, rfl⟩)
                  | (go_at_call 91; refine (G2 _).mono ?_; rintro e w6 ⟨rfl, hc6⟩; have b6 := hkeep hc6 b5; have D6 := Lib.hid (D5.out.trans hc6); clear hc6 b5)
                  | (go_at_call 93; refine (W1 _).mono ?_; rintro e w7 ⟨v7, rfl, hi7, hc7⟩; have I7 := Lib.hid hi7; have D7 := Lib.hid (D6.out.trans hc7); clear hc7 hi7 b6)
                  | (go_at_call 92; refine (I1 _ _ _ I7.out).mono ?_; rintro e w' ⟨rfl, rfl⟩))
              all_goals
                go_ret
                exact ⟨by rw [HM.out]; rfl, hC3.trans D5.out⟩
          · have HM : Hid (M = false) := Lib.hid (HNM.out rfl (bool_no HSI.out (fun h => hr h.1)))
            have hr2 : (r != (j : Int)) = true := by simpa using hr
            have hr3 : (r == (j : Int)) = false := by simpa using hr
            clear HNM HSI I1 W1 HL HG HNX G2 Y1
            all_goals
              go_wp2_with (first
                | (go_at_call 88; refine (A1 _).mono ?_; rintro e w' ⟨rfl, rfl⟩)
                | (go_at_call 89; refine (S1 _).mono ?_; rintro e w5 ⟨rfl, hc5'⟩; have b5 := hkeep hc5' hB; have D5 := Lib.hid (hcr.trans hc5'); clear hc5' hB)
                | (go_at_call 90; refine (Y1 _).mono ?_; rintro e w' ⟨rfl, rfl⟩)
                | (go_at_call 91; refine (G2 _).mono ?_; rintro e w6 ⟨rfl, hc6⟩; have b6 := hkeep hc6 b5; have D6 := Lib.hid (D5.out.trans hc6); clear hc6 b5)
                | (go_at_call 93; refine (W1 _).mono ?_; rintro e w7 ⟨v7, rfl, hi7, hc7⟩; have I7 := Lib.hid hi7; have D7 := Lib.hid (D6.out.trans hc7); clear hc7 hi7 b6)
                | (go_at_call 92; refine (I1 _ _ _ I7.out).mono ?_; rintro e w' ⟨rfl, rfl⟩))
            all_goals
              go_ret
              exact ⟨by rw [HM.out]; rfl, hC3.trans D5.out⟩
        · obtain rfl : F = false := by rw [HF.out]; unfold N at hle; simpa using (show 128 ≤ b.toNat by omega)
          clear S1 Y1 G2 W1 I1 HSI HNM HF hb4
          go_wp2_with (go_at_call 88; refine (A1 _).mono ?_; rintro e w' ⟨rfl, rfl⟩)
          go_roundw
          case rel => exact ⟨j + 1, by go_num, by rw [HL.out, if_neg (by decide)]; rfl, by rw [HG.out, if_neg (by rw [hb5]; decide)]; rfl, hlt, hcr, HNX.out (fun h => by cases h)⟩
          case measure => simp [intOf]; omega
    · have hj8 : j = 16 := by omega
      subst hj8
      have HM := Lib.hid (HMAY.out HA.out)
      generalize nLv t 16 = lv at *
      generalize nGn t 16 = gn at *
      clear HA HMAY HNOT G1 hlt
      have hq1 : (t.live == (lv : Int)) = true ∨ (t.live == (lv : Int)) = false := by cases (t.live == (lv : Int)) <;> simp
      have hq2 : (t.can == 14 - (lv : Int) - (gn : Int)) = true ∨ (t.can == 14 - (lv : Int) - (gn : Int)) = false := by cases (t.can == 14 - (lv : Int) - (gn : Int)) <;> simp
      rcases hq1 with hq1 | hq1
      all_goals rcases hq2 with hq2 | hq2
      all_goals
        have HM2 : Hid (M = (_ && _)) := Lib.hid (by rw [HM.out, hq1, hq2])
        clear HM
        go_wp2
        go_ret
        exact ⟨by rw [HM2.out]; rfl, hC3.trans hcr⟩
theorem rRight_any (t : Tab) (s : BitVec 64) (w : World) : Calls Tryz.prog 18 #[U s, .agg (tcells t)] w fun e w' => e = .returned (.bool (mayT t s)) ∧ Ch [] w w' := by
  by_cases hf : flatT t = true
  · by_cases h0 : ctrlOk (t.c 0) = true
    · by_cases h1 : ctrlOk (t.c 1) = true
      · exact right_all t s w hf h0 h1
      · rw [may_not_ctrl (by rw [Bool.eq_false_iff.2 h1, Bool.and_false])]
        exact right_no2 t s w hf h0 (Bool.eq_false_iff.2 h1)
    · rw [may_not_ctrl (by rw [Bool.eq_false_iff.2 h0, Bool.false_and])]
      exact right_no1 t s w hf (Bool.eq_false_iff.2 h0)
  · rw [may_not_flat (Bool.eq_false_iff.2 hf)]
    exact right_no0 t s w (Bool.eq_false_iff.2 hf)
end
section
attribute [local go_sem] zar zby
attribute [local go_sem] Oper.semAt_some zap
attribute [local go_sem] layC_idx lcell0 lcell1 lcell2 lcell3 lcell4 lcell5 lcell46
attribute [local go_sem] lay_g0 lay_g1 lay_g2 lay_g3 lay_g4 lay_g5 lay_g46 lay_s0 lay_s4 lay_s5 lay_s46 zck layC_one layC_all layC_ws boxLay loadLay storeLay build_lay box_lay buildLay0 buildLay2 buildLay3
attribute [local go_sem ↓] lrowLay srowLay browLay brow_lay zcs
attribute [local go_sem high] zaj
attribute [local irreducible] layC
def wsP (ws : Nat → BitVec 64) (n : Nat) : List (BitVec 64) := (List.range n).map ws
theorem wsP_next (ws : Nat → BitVec 64) (n : Nat) : wsP ws n ++ [ws n] = wsP ws (n + 1) := by
  unfold wsP
  rw [List.range_succ, List.map_append]
  rfl
theorem wsP_len (ws : Nat → BitVec 64) (n : Nat) : (wsP ws n).length = n := by unfold wsP; simp
theorem r20Words_any (p : LayT) (w : World) : Calls Tryz.prog 202 #[.agg (layC p)] w fun e w' => ∃ v, e = .returned v ∧ w'.ownsRow w.heap.size 22 1 v 40 ((wsL (updW p.ws 0 p.count)).map fun x => U x) ∧ Ch [] w w' := by
  obtain ⟨i0, hi, hz0, hz1, hz2⟩ := info_parts infoU
  obtain ⟨WA, hWA⟩ : ∃ W, w.alloc (.cells (layC p) 72) = W := ⟨_, rfl⟩
  have hsA : w.heap.size + 1 = WA.heap.size := by rw [← hWA]; simp
  have hCA : Ch [] w WA := by rw [← hWA]; exact (Ch.refl [] w).alloc _
  have hbA : WA.heap[w.heap.size]? = some (.cells (layC p) 72 (0, 0)) := by rw [← hWA]; simp [go_sem]
  have hcel : ∀ (w : World) (xs : List Value), ∀ j u, xs[j]? = some u → (w.alloc (.cells xs.toArray 22)).cell? ((⟨w.heap.size, 0, none⟩ : Addr).add j) = some u := fun w xs j u hj => by
    rw [Addr.add_lit, zag, zac, if_pos rfl, Option.bind_some, zah, Nat.zero_add]
    simpa using hj
  have e4 : (layC p)[4]? = some (U p.count) := lay_g4 p
  have e6 : ∀ j, 1 ≤ j → j < 40 → (layC p)[6 + j]? = some (U (updW p.ws 0 p.count j)) := fun j h1 h => by
    rw [lay_gw p j h]; unfold updW; rw [if_neg (by omega)]
  have eu : updW p.ws 0 p.count 0 = p.count := by unfold updW; rw [if_pos rfl]
  obtain ⟨u, hu⟩ : ∃ u, updW p.ws 0 p.count = u := ⟨_, rfl⟩
  rw [hu] at e6 eu ⊢
  obtain ⟨cn, hcn⟩ : ∃ u, p.count = u := ⟨_, rfl⟩
  rw [hcn] at e4 eu
  clear hu hcn
  go_enter Tryz.func202, Tryz.ntmps202
  go_upto_region 1 with (fail)
  try rw [hWA]
  clear hWA
  obtain ⟨cp, hcp⟩ : ∃ c, layC p = c := ⟨_, rfl⟩
  rw [hcp] at hbA e4 e6
  clear hcp
  obtain ⟨B, hB⟩ : ∃ B, w.heap.size = B := ⟨_, rfl⟩
  rw [hB] at hbA hsA ⊢
  have HB := Lib.hid hB
  clear hB
  go_upto_region 2 with (fail)
  have HR0 : Hid (WA.alloc (.cells #[U cn] 22) |>.ownsRow WA.heap.size 22 1 (.slice (some ⟨WA.heap.size, 0, none⟩) 1 1) 1 ((wsP u 1).map fun x => U x)) := Lib.hid
    ⟨by rw [List.length_map, wsP_len], .inr ⟨WA.heap.size, 1, #[U cn], rfl, Nat.le_refl _, by rw [zac, if_pos rfl], by omega, by unfold maxLen; omega, by simp, by rw [← eu]; rfl⟩⟩
  have HC0 : Hid (Ch [] WA (WA.alloc (.cells #[U cn] 22))) := Lib.hid ((Ch.refl [] WA).alloc _)
  obtain ⟨W1, hW1⟩ : ∃ W, WA.alloc (.cells #[U cn] 22) = W := ⟨_, rfl⟩
  rw [hW1] at HR0 HC0
  first | rw [hW1] | skip
  clear hW1 eu
  go_wp2
  go_loopw [3, 4] (fun v i wr => ∃ j : Nat, i = .int .i64 j ∧ 1 ≤ j ∧ j ≤ 40 ∧ wr.ownsRow WA.heap.size 22 1 v j ((wsP u j).map fun x => U x) ∧ Ch [] WA wr) (fun _ i _ => 40 - (intOf i).toNat)
  case atStart => exact ⟨1, rfl, by omega, by omega, HR0.out, HC0.out⟩
  case round =>
    obtain ⟨j, hj, hj1, hj40, hown, hcr⟩ := hrel
    subst hj
    have hz := hcr.size
    clear HR0 HC0
    by_cases hlt : j < 40
    · have hob := own_block hown
      have hkj := e6 j hj1 hlt
      have HS := Lib.hid (wsP_next u j)
      have HL := Lib.hid (wsP_len u j)
      have hltI : (j : Int) < 40 := by omega
      have hbW := hkeep hcr hbA
      clear e6
      obtain ⟨ys, hys⟩ : ∃ ys, wsP u j = ys := ⟨_, rfl⟩
      rw [hys] at hown HS HL
      obtain ⟨kj, hkk⟩ : ∃ x, u j = x := ⟨_, rfl⟩
      rw [hkk] at hkj HS
      go_wp2_with (at_builtin; refine wpList_append_own _ rfl _ _ 44 rfl WA.heap.size 22 i0 (U 0#64) 1 8 Tryz.underlying44 hi hz0 hz1 hz2 rfl (by decide) _ _ _ rfl (hown.alloc _) ⟨wr.heap.size, 0, none⟩ 1 1 [U kj] rfl rfl (hcel _ [U kj]) (by simp [Value.oneCell']) (by unfold maxLen; omega) (by omega) (by simp; omega) ?_; intro v' w1 hown' hgrow _; have HO := Lib.hid hown'; have HG := Lib.hid hgrow; clear hown' hgrow)
      have hgr : (wr.alloc (.cells #[U kj] 22)).grownBy w1 u3.ownBlock := HG.out
      have hW1 : Ch (u3.ownBlock.toList) wr w1 := (((Ch.refl [] wr).alloc (.cells #[U kj] 22)).of_nil).trans2 (Ch.of_grown (S := u3.ownBlock.toList) hgr (fun k hk => by simp [hk])) (fun t ht => .inl ht)
      have hSS : ∀ s ∈ u3.ownBlock.toList, WA.heap.size ≤ s := fun s hs => hob s (by simpa using hs)
      have HO2 : w1.ownsRow WA.heap.size 22 1 v' (j + 1) (ys.map (fun x => U x) ++ [U kj]) := HO.out
      go_roundw
      case rel => exact ⟨j + 1, by go_num, by omega, hlt, by rw [← HS.out, List.map_append]; exact HO2, hcr.trans2 hW1 (fun t ht => .inr (hSS t ht))⟩
      case measure => simp [intOf]; omega
    · have hj40' : j = 40 := by omega
      subst hj40'
      clear hlt e6
      go_wp2
      go_ret
      exact ⟨_, rfl, own_mono hown (by rw [HB.out]; omega), hCA.trans hcr⟩
theorem updW_same {ws : Nat → BitVec 64} {x : BitVec 64} (h : ws 0 = x) : updW ws 0 x = ws := by
  funext i
  unfold updW
  by_cases e : i = 0
  · subst e; rw [if_pos rfl, h]
  · rw [if_neg e]
theorem lay_result {fn : Func} {q : Tmp} (h : fn.results = #[.cell q 72]) (tmps : Array Value) (b : Nat) (w : World) (d : LayT) (hq : tmps.getD q undef = .pointer (some ⟨b, 0, none⟩))
    (hb : w.heap[b]? = some (.cells (layC d) 72 (0, 0))) : (results fn tmps).run Tryz.prog w = .ok (.agg (layC d)) w := by
  have hl := run_loadVar_row (P := Tryz.prog) w b 72 72 (layC d) (0, 0) _ hb Tryz.underlying72 rfl (by rw [zck]; kernel_rfl)
  have hq' : tmps[q]?.getD undef = .pointer (some ⟨b, 0, none⟩) := by simpa using hq
  simp [results, h, hq', asAddr, hl]
theorem layC_congr (p : LayT) (u v : Nat → BitVec 64) (h : ∀ i, i < 40 → u i = v i) : layC { p with ws := u } = layC { p with ws := v } := by
  apply Array.ext_getElem?; intro i
  rw [layC_get, layC_get]
  by_cases h2 : i < 47
  · rw [if_pos h2, if_pos h2]
    congr 1
    unfold LayT.cell
    split <;> first | rfl | skip
    rename_i i
    by_cases h3 : i < 40
    · rw [if_pos h3, if_pos h3]
      show U (u i) = U (v i)
      rw [h i h3]
    · rw [if_neg h3, if_neg h3]
  · rw [if_neg h2, if_neg h2]
def putW (ws t : Nat → BitVec 64) (n : Nat) : Nat → BitVec 64 := fun i => if i < n then t i else ws i
theorem putW_next (ws t : Nat → BitVec 64) (n : Nat) : updW (putW ws t n) n (t n) = putW ws t (n + 1) := by
  funext i
  unfold updW putW
  by_cases h : i = n
  · subst h; rw [if_pos rfl, if_pos (by omega)]
  · rw [if_neg h]
    by_cases h2 : i < n
    · rw [if_pos h2, if_pos (by omega)]
    · rw [if_neg h2, if_neg (by omega)]
theorem putW_zero (ws t : Nat → BitVec 64) : putW ws t 0 = ws := by funext i; unfold putW; rw [if_neg (by omega)]
theorem r20Row (p : LayT) (h0 : p.ws 0 = p.count) (w : World) : Calls Tryz.prog 202 #[.agg (layC p)] w fun e w' => ∃ R c cur, e = .returned (.slice (some ⟨R, 0, none⟩) 40 c) ∧ WordsAt cur (wsL p.ws) ∧ w'.heap[R]? = some (.cells cur 22 (0, 0)) ∧ Ch [] w w' := by
  refine (r20Words_any p w).mono ?_
  rintro e w' ⟨v, rfl, ho, hc⟩
  rw [updW_same h0] at ho
  obtain ⟨R, c, cur, rfl, _, _, hcur, hW⟩ := row_out (wsL_len _) (by omega) ho
  exact ⟨R, c, cur, rfl, hcur, hW, hc⟩
theorem lay_zz (p : LayT) (w : World) : ∃ W, (w.alloc (.cells (layC p) 72)).alloc (.cells (layC zeroLay) 72) = W ∧ Ch [] w W ∧ W.heap[w.heap.size]? = some (.cells (layC p) 72 (0, 0)) ∧ W.heap[w.heap.size + 1]? = some (.cells (layC zeroLay) 72 (0, 0)) :=
  ⟨_, rfl, ((Ch.refl [] w).alloc _).alloc _, by rw [zac, if_neg (by simp), zac, if_pos rfl], by rw [zac, if_pos (by simp)]⟩
attribute [local irreducible] tcells
theorem r20Laid_bad1 (p : LayT) (h0 : p.ws 0 = p.count) (hr : readOk p.ws = false) (w : World) : Calls Tryz.prog 121 #[.agg (layC p)] w fun e w' => e = .returned (.agg (layC { p with bad := true, ph := 4 })) ∧ Ch [] w w' := by
  have W1 := fun w => r20Row p h0 w
  have R1 := fun g c cur w hb hw => r16Read_any p.ws g c cur w hb hw
  rw [hr] at R1
  obtain ⟨w0, hw0, C0, b0, z0⟩ := lay_zz p w
  clear hr h0
  go_enter Tryz.func121, Tryz.ntmps121
  go_wp2_with fail
  try rw [hw0]
  clear hw0
  obtain ⟨B, hB⟩ : ∃ B, w.heap.size = B := ⟨_, rfl⟩
  rw [hB] at b0 z0 ⊢
  have hBw : w.heap.size ≤ B := by omega
  clear hB
  refine (W1 _).mono ?_
  rintro e w1 ⟨R, c, cur, rfl, hcur, hR1, hc1⟩
  have b1 := hkeep hc1 b0
  have z1 := hkeep hc1 z0
  have C1 := C0.trans hc1
  clear b0 z0 C0 hc1 W1
  go_wp2_with fail
  refine (R1 R c cur _ hR1 hcur).mono ?_
  rintro e w2 ⟨rfl, hc2⟩
  have b2 := hkeep hc2 b1
  have z2 := hkeep hc2 z1
  have C2 := C1.trans hc2
  clear b1 z1 C1 hc2 R1 hR1 hcur
  have nb := ns b2
  have nz : ¬ B + 1 = w2.heap.size := by have := zae z2; omega
  go_upto_region 2 with (fail)
  have hc3 := tab_put_ch [] (readR p.ws) w2
  have b3 := hkeep hc3 b2
  have z3 := hkeep hc3 z2
  have C3 := C2.trans hc3
  obtain ⟨w3, hw3⟩ : ∃ W, World.onObj (w2.alloc (.cells (tcells zeroT) 26)) w2.heap.size (laidAt 0 (tcells (readR p.ws))) = W := ⟨_, rfl⟩
  rw [hw3] at b3 z3 C3 ⊢
  clear hw3 hc3 b2 z2 C2 nb nz
  go_wp2
  refine bodyPost_ret (lay_result Tryz.results121 _ (B + 1) _ _ rfl ?_) rfl ⟨rfl, ((C3.setCell (p := ⟨B, 46, none⟩) (.inr hBw) _).setCell (p := ⟨B, 0, none⟩) (.inr hBw) _).onObj (p := B + 1) (.inr (by omega)) _⟩
  rw [zab, if_pos rfl, zaa, if_neg (by omega), zaa, if_neg (by omega), z3, Option.map_some, zaj]
theorem r20Laid_bad2 (p : LayT) (h0 : p.ws 0 = p.count) (hr : readOk p.ws = true) (hm : mayT (readTab p.ws) p.seed = false) (w : World) : Calls Tryz.prog 121 #[.agg (layC p)] w fun e w' => e = .returned (.agg (layC { p with bad := true, ph := 4 })) ∧ Ch [] w w' := by
  have W1 := fun w => r20Row p h0 w
  have R1 := fun g c cur w hb hw => r16Read_any p.ws g c cur w hb hw
  have M1 := fun w => rRight_any (readTab p.ws) p.seed w
  rw [hr, readOk_eq hr] at R1
  rw [hm] at M1
  obtain ⟨tt, htt⟩ : ∃ t, readTab p.ws = t := ⟨_, rfl⟩
  rw [htt] at R1 M1
  obtain ⟨w0, hw0, C0, b0, z0⟩ := lay_zz p w
  clear hr h0 htt hm
  go_enter Tryz.func121, Tryz.ntmps121
  go_wp2_with fail
  try rw [hw0]
  clear hw0
  obtain ⟨B, hB⟩ : ∃ B, w.heap.size = B := ⟨_, rfl⟩
  rw [hB] at b0 z0 ⊢
  have hBw : w.heap.size ≤ B := by omega
  clear hB
  refine (W1 _).mono ?_
  rintro e w1 ⟨R, c, cur, rfl, hcur, hR1, hc1⟩
  have b1 := hkeep hc1 b0
  have z1 := hkeep hc1 z0
  have C1 := C0.trans hc1
  clear b0 z0 C0 hc1 W1
  go_wp2_with fail
  refine (R1 R c cur _ hR1 hcur).mono ?_
  rintro e w2 ⟨rfl, hc2⟩
  have b2 := hkeep hc2 b1
  have z2 := hkeep hc2 z1
  have C2 := C1.trans hc2
  clear b1 z1 C1 hc2 R1 hR1 hcur
  have nb := ns b2
  have nz : ¬ B + 1 = w2.heap.size := by have := zae z2; omega
  go_upto_region 2 with (fail)
  have hc3 := tab_put_ch [] tt w2
  have b3 := hkeep hc3 b2
  have z3 := hkeep hc3 z2
  have C3 := C2.trans hc3
  have d3 := tab_put tt w2
  obtain ⟨w3, hw3⟩ : ∃ W, World.onObj (w2.alloc (.cells (tcells zeroT) 26)) w2.heap.size (laidAt 0 (tcells tt)) = W := ⟨_, rfl⟩
  rw [hw3] at b3 z3 C3 d3 ⊢
  clear hw3 hc3 b2 z2 C2
  obtain ⟨D, hD⟩ : ∃ D, w2.heap.size = D := ⟨_, rfl⟩
  rw [hD] at d3 nb nz ⊢
  clear hD
  go_wp2_with fail
  refine (M1 _).mono ?_
  rintro e w4 ⟨rfl, hc4⟩
  have b4 := hkeep hc4 b3
  have z4 := hkeep hc4 z3
  have C4 := C3.trans hc4
  clear b3 z3 C3 hc4 M1 d3
  go_wp2
  refine bodyPost_ret (lay_result Tryz.results121 _ (B + 1) _ _ rfl ?_) rfl ⟨rfl, ((C4.setCell (p := ⟨B, 46, none⟩) (.inr hBw) _).setCell (p := ⟨B, 0, none⟩) (.inr hBw) _).onObj (p := B + 1) (.inr (by omega)) _⟩
  rw [zab, if_pos rfl, zaa, if_neg (by omega), zaa, if_neg (by omega), z4, Option.map_some, zaj]
theorem r20Laid_good (p : LayT) (x : Tab) (h0 : p.ws 0 = p.count) (hr : readOk p.ws = true) (hm : mayT (readTab p.ws) p.seed = true) (hx : anewT (readTab p.ws) p.seed = .ok x) (hfx : flatT x = true) (w : World) : Calls Tryz.prog 121 #[.agg (layC p)] w fun e w' => e = .returned (.agg (layC { p with ws := tword x, ph := 3, at_ := 1 })) ∧ Ch [] w w' := by
  have W1 := fun w => r20Row p h0 w
  have R1 := fun g c cur w hb hw => r16Read_any p.ws g c cur w hb hw
  have M1 := fun w => rRight_any (readTab p.ws) p.seed w
  have A1 := fun w => rAnew_any (readTab p.ws) x p.seed ((may_iff _ _).1 hm) (by unfold anewT at hx; exact hx) w
  have P1 := fun w => r16Words_any x w
  have HF := rlist_flat hfx
  have e40 : ∀ j, j < 40 → (twords x)[j]? = some (tword x j) := fun j hj => twords_get x j hj
  have HL : layC { p with ws := putW p.ws (tword x) 40, ph := 3, at_ := 1 } = layC { p with ws := tword x, ph := 3, at_ := 1 } := layC_congr { p with ph := 3, at_ := 1 } _ _ (fun i hi => by unfold putW; rw [if_pos hi])
  obtain ⟨dd, hdd⟩ : ∃ d : LayT, { p with ws := tword x, ph := 3, at_ := 1 } = d := ⟨_, rfl⟩
  rw [hdd] at HL ⊢
  clear hdd
  rw [hr, readOk_eq hr] at R1
  rw [hm] at M1
  obtain ⟨tt, htt⟩ : ∃ t, readTab p.ws = t := ⟨_, rfl⟩
  rw [htt] at R1 M1 A1
  obtain ⟨w0, hw0, C0, b0, z0⟩ := lay_zz p w
  clear hr h0 htt hm hx hfx
  go_enter Tryz.func121, Tryz.ntmps121
  go_wp2_with fail
  try rw [hw0]
  clear hw0
  obtain ⟨B, hB⟩ : ∃ B, w.heap.size = B := ⟨_, rfl⟩
  rw [hB] at b0 z0 ⊢
  have hBw : w.heap.size ≤ B := by omega
  clear hB
  refine (W1 _).mono ?_
  rintro e w1 ⟨R, c, cur, rfl, hcur, hR1, hc1⟩
  have b1 := hkeep hc1 b0
  have z1 := hkeep hc1 z0
  have C1 := C0.trans hc1
  clear b0 z0 C0 hc1 W1
  go_wp2_with fail
  refine (R1 R c cur _ hR1 hcur).mono ?_
  rintro e w2 ⟨rfl, hc2⟩
  have b2 := hkeep hc2 b1
  have z2 := hkeep hc2 z1
  have C2 := C1.trans hc2
  clear b1 z1 C1 hc2 R1 hR1 hcur
  have nb := ns b2
  have nz : ¬ B + 1 = w2.heap.size := by have := zae z2; omega
  go_upto_region 2 with (fail)
  have hc3 := tab_put_ch [] tt w2
  have b3 := hkeep hc3 b2
  have z3 := hkeep hc3 z2
  have C3 := C2.trans hc3
  have d3 := tab_put tt w2
  obtain ⟨w3, hw3⟩ : ∃ W, World.onObj (w2.alloc (.cells (tcells zeroT) 26)) w2.heap.size (laidAt 0 (tcells tt)) = W := ⟨_, rfl⟩
  rw [hw3] at b3 z3 C3 d3 ⊢
  clear hw3 hc3 b2 z2 C2
  obtain ⟨D, hD⟩ : ∃ D, w2.heap.size = D := ⟨_, rfl⟩
  rw [hD] at d3 nb nz ⊢
  clear hD
  go_wp2_with fail
  refine (M1 _).mono ?_
  rintro e w4 ⟨rfl, hc4⟩
  have b4 := hkeep hc4 b3
  have z4 := hkeep hc4 z3
  have d4 := hkeep hc4 d3
  have C4 := C3.trans hc4
  clear b3 z3 C3 hc4 M1 d3
  have nDB : ¬ D = B := fun e => nb e.symm
  have nDz : ¬ B + 1 = B := by omega
  go_upto_region 6 with (fail)
  have b5 : ((w4.setCell ⟨B, 0, none⟩ (I 3)).setCell ⟨B, 5, none⟩ (I 1)).heap[B]? = some (.cells (layC { p with ws := putW p.ws (tword x) 0, ph := 3, at_ := 1 }) 72 (0, 0)) := by
    rw [putW_zero, zaa, if_pos rfl, zaa, if_pos rfl, b4, Option.map_some, Option.map_some, zad, zad, lay_s0, lay_s5]
  have z5 : ((w4.setCell ⟨B, 0, none⟩ (I 3)).setCell ⟨B, 5, none⟩ (I 1)).heap[B + 1]? = some (.cells (layC zeroLay) 72 (0, 0)) := by rw [zaa, if_neg nDz, zaa, if_neg nDz]; exact z4
  have d5 : ((w4.setCell ⟨B, 0, none⟩ (I 3)).setCell ⟨B, 5, none⟩ (I 1)).heap[D]? = some (.cells (tcells tt) 26 (0, 0)) := by rw [zaa, if_neg nDB, zaa, if_neg nDB]; exact d4
  have C5 : Ch [] w ((w4.setCell ⟨B, 0, none⟩ (I 3)).setCell ⟨B, 5, none⟩ (I 1)) := (C4.setCell (p := ⟨B, 0, none⟩) (.inr hBw) _).setCell (p := ⟨B, 5, none⟩) (.inr hBw) _
  obtain ⟨w5, hw5⟩ : ∃ W, (w4.setCell ⟨B, 0, none⟩ (I 3)).setCell ⟨B, 5, none⟩ (I 1) = W := ⟨_, rfl⟩
  rw [hw5] at b5 z5 d5 C5 ⊢
  clear hw5 b4 z4 d4 C4 nDB nDz nb nz
  have f3 : (layC { p with ws := putW p.ws (tword x) 0, ph := 3, at_ := 1 })[3]? = some (U p.seed) := lay_g3 _
  have B5 := Lib.hid b5
  obtain ⟨cp, hcp⟩ : ∃ c, layC { p with ws := putW p.ws (tword x) 0, ph := 3, at_ := 1 } = c := ⟨_, rfl⟩
  rw [hcp] at b5 f3
  clear hcp
  go_wp2_with fail
  refine (A1 _).mono ?_
  rintro e w6 ⟨rfl, hc6⟩
  have B6 := Lib.hid (hkeep hc6 B5.out)
  have z6 := hkeep hc6 z5
  have C6 := C5.trans hc6
  clear b5 z5 d5 C5 hc6 A1 f3 B5
  go_wp2_with fail
  refine (P1 _).mono ?_
  rintro e w7 ⟨v, rfl, ho, hc7⟩
  rw [show (rwords x 16 16 ++ [0#64, 0#64]) = twords x from HF] at ho
  obtain ⟨R2, c2, cur2, rfl, _, _, hcur2, hR2⟩ := row_out (twords_len x) (by omega) ho
  have B7 := Lib.hid (hkeep hc7 B6.out)
  have Z7 := Lib.hid (hkeep hc7 z6)
  have C7 := Lib.hid (C6.trans hc7)
  have R7 := Lib.hid hR2
  have e41 : ∀ j, j < 40 → cur2[j]? = some (U (tword x j)) := fun j hj => hcur2 j _ (e40 j hj)
  clear B6 z6 C6 hc7 P1 hR2 hcur2 e40 ho HF
  obtain ⟨tw, htw⟩ : ∃ f, tword x = f := ⟨_, rfl⟩
  rw [htw] at e41 B7 HL
  go_wp2
  go_loopw [33] (fun i wr => ∃ j : Nat, i = .int .i64 j ∧ j ≤ 40 ∧ wr.heap[B]? = some (.cells (layC { p with ws := putW p.ws tw j, ph := 3, at_ := 1 }) 72 (0, 0)) ∧ wr.heap[B + 1]? = some (.cells (layC zeroLay) 72 (0, 0)) ∧ wr.heap[R2]? = some (.cells cur2 22 (0, 0)) ∧ Ch [] w wr) (fun i _ => 40 - (intOf i).toNat)
  case atStart => exact ⟨0, rfl, by omega, B7.out, Z7.out, R7.out, C7.out⟩
  case round =>
    obtain ⟨j, hj, hj40, br, zr, rr, cr⟩ := hrel
    subst hj
    clear B7 Z7 R7 C7
    by_cases hlt : j < 40
    · have hltI : (j : Int) < 40 := by omega
      have ej := e41 j hlt
      have hRB : ¬ R2 = B := zdb rr br (by decide)
      have hRB2 : ¬ B = R2 := fun e => hRB e.symm
      have hz : ¬ B + 1 = B := by omega
      have HN : Hid ((layC { p with ws := putW p.ws tw j, ph := 3, at_ := 1 }).setIfInBounds (6 + j) (U (tw j)) = layC { p with ws := putW p.ws tw (j + 1), ph := 3, at_ := 1 }) := Lib.hid (by rw [lay_sw _ j hlt, ← putW_next])
      obtain ⟨o1, ho1⟩ : ∃ v, (layC { p with ws := putW p.ws tw j, ph := 3, at_ := 1 })[6 + j]? = some v := ⟨_, lay_gw _ j hlt⟩
      obtain ⟨cp, hcp⟩ : ∃ c, layC { p with ws := putW p.ws tw j, ph := 3, at_ := 1 } = c := ⟨_, rfl⟩
      rw [hcp] at br HN ho1
      clear hcp e41
      obtain ⟨xj, hxj⟩ : ∃ y, tw j = y := ⟨_, rfl⟩
      rw [hxj] at ej HN
      clear hxj HL
      go_wp2
      go_roundw
      case rel => exact ⟨j + 1, by go_num, hlt, by rw [zaa, if_pos rfl, br, Option.map_some, zad, HN.out], by rw [zaa, if_neg hz]; exact zr, by rw [zaa, if_neg hRB]; exact rr, cr.setCell (p := ⟨B, 6 + j, none⟩) (.inr hBw) _⟩
      case measure => simp [intOf]; omega
    · have hj40 : j = 40 := by omega
      subst hj40
      rw [HL] at br
      clear hlt e41 HL rr
      go_wp2
      refine bodyPost_ret (lay_result Tryz.results121 _ (B + 1) _ _ rfl ?_) rfl ⟨rfl, cr.onObj (p := B + 1) (.inr (by omega)) _⟩
      rw [zab, if_pos rfl, zr, Option.map_some, zaj]
theorem r20Laid_any (p : LayT) (h0 : p.ws 0 = p.count) (w : World) : Calls Tryz.prog 121 #[.agg (layC p)] w fun e w' => e = .returned (.agg (layC (laidL p))) ∧ Ch [] w w' := by
  unfold laidL
  cases hr : readOk p.ws with
  | false => rw [Bool.false_and, if_neg (by decide)]; exact r20Laid_bad1 p h0 hr w
  | true =>
    cases hm : mayT (readTab p.ws) p.seed with
    | false => rw [Bool.and_false, if_neg (by decide)]; exact r20Laid_bad2 p h0 hr hm w
    | true =>
      have m := (may_iff _ _).1 hm
      obtain ⟨x, hx⟩ := anew_ok m
      have hx' : anewT (readTab p.ws) p.seed = .ok x := by unfold anewT; exact hx.eq
      rw [Bool.and_true, if_pos rfl, hx', okOr_ok]
      exact r20Laid_good p x h0 hr hm hx' hx.may.flat w
end
end Go.Proofs.Hc
