/- Law 29: BoundMore, the walk. -/
import Derived.Test.YtfoicjijngfhbaaDoorKEi
import Derived.Test.YtfoicjijngfhbaaDoorKBy
set_option linter.unusedSimpArgs false
set_option linter.unusedVariables false
namespace Go.Proofs.Hc
open Go.RowKit
set_option linter.unusedVariables false
set_option linter.unusedSimpArgs false
attribute [local go_sem] wrap_u64 wrap_u8 bits_xor64 bits_and64 bits_or64 bits_not64 bits_xor8 bits_and8 bits_or8 signed64 signed8 ofInt_N BitVec.ofInt_add BitVec.ofInt_mul ofInt_sub' ofInt8_N64 ofInt64_N8 wide8 eqN neN shr_pow shr1 shr7 shr56
attribute [local go_sem high] bits_com64 shl_wrap
attribute [local go_sem] nn2 nm2 nn3 nm3 nn4 nm4 nn5 nm5 nn6 nm6 nn7 nm7 nn8 nm8
attribute [local go_sem] Oper.semAt_some make_func1 make_funcB
attribute [local go_sem] cell_heap ice_heap cellAt_cells iceAt_cells setAt_cells size_setCell rowAt_cells canLay_cells laidAt_cells size_onObj rowRes_some layRes_true
attribute [local go_sem ↓] heap_alloc heap_drew heap_drewN heap_setCell heap_putObj heap_onObj
attribute [local go_sem] loadS box_sc scC_size scC_all scC_one
attribute [local go_sem ↓] lrowS
theorem splitsB_mono {a b : Int} (h0 : 0 ≤ a) (h : a ≤ b) : splitsB a ≤ splitsB b := by
  rw [splitsB_eq, splitsB_eq]
  have : a / 8 ≤ b / 8 := Int.ediv_le_ediv (by omega) h
  omega
/-- The script with so many slabs. -/
def ScT.slabs (s : ScT) (n : Int) : ScT := { s with sl := n }
theorem AnySc.slabs {w : World} {s : ScT} (R : AnySc w s) (n : Int) : AnySc w (s.slabs n) := ⟨R.lists, R.few⟩
theorem ptsS_slabs (s : ScT) (n : Int) : ptsS (s.slabs n) = ptsS s := rfl
theorem lstS_slabs (s : ScT) (n : Int) : lstS (s.slabs n) = lstS s := rfl
theorem check_slabs {s : ScT} {n : Int} (h : checkB s = true) (h2 : 2 ≤ n) (h128 : n ≤ 128) : checkB (s.slabs n) = true := by
  unfold checkB at h ⊢
  simp only [Bool.and_eq_true, decide_eq_true_eq] at h ⊢
  obtain ⟨⟨⟨a1, a2, _, _, a5, a6⟩, h3⟩, h4⟩ := h
  exact ⟨⟨⟨a1, a2, h2, h128, a5, a6⟩, h3⟩, h4⟩
theorem check_sl {s : ScT} (h : checkB s = true) : 2 ≤ s.sl ∧ s.sl ≤ 128 := by
  unfold checkB at h
  simp only [Bool.and_eq_true, decide_eq_true_eq] at h
  exact ⟨h.1.1.2.2.1, h.1.1.2.2.2.1⟩
theorem least_one' (s : ScT) : leastE [s] = if checkB s = true then (if ptsS s ≤ 5 then (lstS s, 0) else (0, 2)) else (0, 130) := by
  unfold leastE mostS ptsB
  have := lstS_le s
  have h : max 2 (lstS s) = lstS s := by omega
  simp [h]
theorem bldSc (s : ScT) : Array.foldl (fun cs x => cs.setIfInBounds x.snd x.fst) #[Value.int IntKind.i64 0, Value.int IntKind.i64 0, Value.int IntKind.u64 0, Value.slice none 0 0, Value.slice none 0 0] (scC s).zipIdx 0 5 = scC s := rfl
theorem rows_one (s : ScT) (w : World) : ∃ W, w.alloc (.cells (scC s) 36) = W ∧ Ch [] w W ∧ RowsSc W w.heap.size [s] :=
  ⟨_, rfl, (Ch.refl [] w).alloc _, scC s, by rw [heap_alloc, if_pos rfl], fun j s' hj => by
    match j with
    | 0 =>
      have : s = s' := by simpa using hj
      subst this
      rfl
    | j + 1 => simp at hj⟩
set_option maxHeartbeats 8000000 in
set_option maxRecDepth 100000 in
theorem moreLaw (s : ScT) (keys more : Int) (hk : keys ≤ 9223372036854775807) (w : World) (R : AnySc w s) (T : TakesAt w) :
    Calls Tryd.prog 4 #[.agg (scC s), I keys, I more] w fun e w' => e = .returned (.bool true) ∧ Ch [] w w' := by
  obtain ⟨W, hW, C, hB⟩ := scbox s w
  have W1 := wakes29_any W (T.ch C)
  obtain ⟨m, hm, hm2⟩ : ∃ m : Nat, (N (BitVec.ofInt 64 more)).tmod 100 = m ∧ m < 100 := by
    refine ⟨((BitVec.ofInt 64 more).toNat % 100), ?_, by omega⟩
    unfold N
    rw [Int.tmod_eq_emod_of_nonneg (by omega)]
    omega
  obtain ⟨B, hBe⟩ : ∃ B, w.heap.size = B := ⟨_, rfl⟩
  rw [hBe] at hB
  have HBE := Lib.hid hBe
  go_enter Tryd.func4, Tryd.ntmps4
  go_upto_region 1 with (fail)
  try rw [hW]
  try rw [hBe]
  clear hW hBe
  go_wp2_with fail
  refine W1.mono ?_
  rintro e w0 ⟨rfl, hc0⟩
  have hB0 := bkeep hc0 hB
  have C0 := C.trans hc0
  clear W1 hc0 hB C
  go_upto_region 4 with (fail)
  clear hm
  have T0 := T.ch C0
  have R0 := R.ch C0
  rcases (show keys < 0 ∨ 0 ≤ keys by omega) with hneg | hpos
  · have S1 := fun w => bSplits_no keys hneg w
    go_wp2_with fail
    refine (S1 _).mono ?_
    rintro e w1 ⟨rfl, hc1⟩
    have C1 := C0.trans hc1
    clear S1 hc1 C0 hB0 T0 R0
    go_wp2
    go_ret
    exact ⟨rfl, C1⟩
  · have S1 := fun w => bSplits_ok keys hpos hk w
    obtain ⟨sa, hsa⟩ : ∃ x, splitsB keys = x := ⟨_, rfl⟩
    rw [hsa] at S1
    have hnn : ¬ keys < 0 := by omega
    go_upto_if 42 with (go_at_call 6; refine (S1 _).mono ?_; rintro e w1 ⟨rfl, hc1⟩)
    have C1 := C0.trans hc1
    have hB1 := bkeep hc1 hB0
    clear S1 hc1 C0 hB0 T0 R0
    go_cut [] from 22 (fun wc => Ch [] w wc ∧ wc.heap[B]? = some (.cells (scC s) 36 (0, 0)))
    case first =>
      rcases (show keys < 1099511627776 ∨ ¬ keys < 1099511627776 by omega) with hlt | hlt
      · obtain ⟨k2, hk2⟩ : ∃ x, keys + m = x := ⟨_, rfl⟩
        have S2 := fun w => bSplits_ok k2 (by omega) (by omega) w
        have S3 := fun w => bSlabs_ok k2 (by omega) (by omega) w
        have hmo : splitsB keys ≤ splitsB k2 := splitsB_mono hpos (by omega)
        have hle := splitsB_le (k := k2) (by omega)
        have hsb : slabsB k2 = 2 + 3 * splitsB k2 := rfl
        rw [hsa] at hmo
        obtain ⟨sb, hsb2⟩ : ∃ x, splitsB k2 = x := ⟨_, rfl⟩
        rw [hsb2] at S2 hmo hle hsb
        obtain ⟨sc, hsc⟩ : ∃ x, slabsB k2 = x := ⟨_, rfl⟩
        rw [hsc] at S3 hsb
        have e1 : ¬ sb < sa := by omega
        have e2 : ¬ 31 < sb := by omega
        have e3 : (sc != 2 + 3 * sb) = false := by simp [hsb]
        have HX := Lib.hid hsb
        have b1 : 0 ≤ sb := hle.1
        have b2 : sb ≤ 31 := hle.2
        have b3 : 0 ≤ keys := hpos
        clear hsb2 hsc hsb hmo hle
        go_wp2_with (first | (go_at_call 6; refine (S2 _).mono ?_; rintro e w2 ⟨rfl, hc2⟩) | (go_at_call 7; refine (S3 _).mono ?_; rintro e w3 ⟨rfl, hc3⟩))
        go_meet
        case rel => exact ⟨(C1.trans hc2).trans hc3, bkeep hc3 (bkeep hc2 hB1)⟩
      · go_wp2_with fail
        go_meet
        case rel => exact ⟨C1, hB1⟩
    case rest =>
      obtain ⟨C2, hB2⟩ := hcut
      clear C1 hB1
      have T2 := T.ch C2
      have R2 := R.ch C2
      obtain ⟨W3, hW3, hc3, hQ⟩ := rows_one s wc
      have C3 := C2.trans hc3
      have hB3 := bkeep hc3 hB2
      have L1 := leastP_any [s] wc.heap.size 1 W3 (by simp) (fun s' hs => by rw [List.mem_singleton.1 hs]; exact R2.ch hc3) (T2.ch hc3) hQ
      rw [least_one', show [s].length = 1 from rfl] at L1
      have HA := fun w R T => enoughP_any s w R T
      have T3 := T2.ch hc3
      have R3 := R2.ch hc3
      clear hc3 C2 T2 R2 hQ
      have bad : ∀ c : Int, c ≠ 0 → enoughB s = false → leastE [s] = (0, c) → True := fun _ _ _ _ => trivial
      clear bad
      by_cases hck : checkB s = true
      · by_cases h5 : ptsS s ≤ 5
        · rw [if_pos hck, if_pos h5] at L1
          obtain ⟨sl2', sl128⟩ := check_sl hck
          have hen : enoughB s = decide (lstS s ≤ s.sl) := by
            unfold enoughB ptsB
            rw [hck, decide_eq_true h5]
            rfl
          rw [hen] at HA
          have hll := lstS_le s
          obtain ⟨ll, hle⟩ : ∃ x, lstS s = x := ⟨_, rfl⟩
          rw [hle] at L1 HA hll hen
          go_wp2_with fail
          rw [bldSc, hW3]
          refine L1.mono ?_
          rintro e w4 ⟨rfl, hc4⟩
          have C4 := C3.trans hc4
          have hB4 := bkeep hc4 hB3
          have T4 := T3.ch hc4
          have R4 := R3.ch hc4
          have E4 := HA w4 R4 T4
          clear L1 C3 hB3 T3 R3 hc4 HA hW3 hB2
          have hc1 : (scC s)[1]? = some (I s.sl) := rfl
          have hc2 : (scC s)[2]? = some (U s.sd) := rfl
          obtain ⟨en, hee⟩ : ∃ b, decide (ll ≤ s.sl) = b := ⟨_, rfl⟩
          rw [hee] at E4 hen
          go_upto_region 16 with (go_at_call 15; refine E4.mono ?_; rintro e w5 ⟨rfl, hc5⟩)
          have C5 := C4.trans hc5
          have hB5 := bkeep hc5 hB4
          have T5 := T4.ch hc5
          have R5 := R4.ch hc5
          clear E4 C4 hB4 T4 R4 hc5
          have k1 : -1000 ≤ s.sl + m := by omega
          have k2 : s.sl + m ≤ 1000 := by omega
          go_upto_region 19 with (fail)
          obtain ⟨s2, hs2⟩ : ∃ x, min (s.sl + m) 128 = x := ⟨_, rfl⟩
          have a1 : 2 ≤ s2 := by omega
          have a2 : s2 ≤ 128 := by omega
          have a3 : s.sl ≤ s2 := by omega
          rw [hs2]
          have C6 : Ch [] w (w5.setCell ⟨B, 1, none⟩ (I s2)) := C5.setCell (.inr (by have := HBE.out; show w.heap.size ≤ B; omega)) _
          have hB6 : (w5.setCell ⟨B, 1, none⟩ (I s2)).heap[B]? = some (.cells (scC (s.slabs s2)) 36 (0, 0)) := by
            rw [heap_setCell, if_pos rfl, hB5]
            rfl
          obtain ⟨w6, hw6⟩ : ∃ x, w5.setCell ⟨B, 1, none⟩ (I s2) = x := ⟨_, rfl⟩
          rw [hw6] at C6 hB6 ⊢
          have ck2 := check_slabs hck a1 a2
          have T6 := T.ch C6
          have R6 := (R.ch C6).slabs s2
          have M1 := comesP_of (s.slabs s2) w6 (R6.right ck2) T6
          have PP := fun w R T => partsP_any (s.slabs s2) w R T
          have hpe : partsE (s.slabs s2) = ((ptsS s : Int), 0) := by unfold partsE; rw [if_pos ck2, ptsS_slabs]
          rw [hpe] at PP
          have EE := fun w R T => enoughP_any (s.slabs s2) w R T
          have hee2 : enoughB (s.slabs s2) = decide (ll ≤ s2) := by
            unfold enoughB ptsB
            rw [ck2, ptsS_slabs, lstS_slabs, decide_eq_true h5, hle]
            rfl
          rw [hee2] at EE
          have hk64 : (keysL (catL s.ls)).length ≤ 64 := by
            have h1 := keys_len (catL s.ls)
            have h2 := (R6.right ck2).calls
            have h3 : (catL (s.slabs s2).ls).length = (catL s.ls).length := rfl
            omega
          have DD := fun v base w hown => deepest_any s.sd 7 (by decide) (keysL (catL s.ls)) (keys_nodup _) (by omega) v base w hown
          rw [show deepN 7 ((keysL (catL s.ls)).map (hashOf s.sd)) = ptsS s from rfl] at DD
          rw [show catL (s.slabs s2).ls = catL s.ls from rfl] at M1
          obtain ⟨ks, hks⟩ : ∃ x, keysL (catL s.ls) = x := ⟨_, rfl⟩
          rw [hks] at M1 DD
          obtain ⟨kn, hkn⟩ : ∃ x, ks.length = x := ⟨_, rfl⟩
          rw [hkn] at M1 DD
          obtain ⟨pt, hpt⟩ : ∃ x, ptsS s = x := ⟨_, rfl⟩
          rw [hpt] at PP DD
          dsimp only at PP
          have hc3 : (scC (s.slabs s2))[2]? = some (U s.sd) := rfl
          have hen2 : en = true → decide (ll ≤ s2) = true := fun h => by
            rw [← hee] at h
            exact decide_eq_true (by have := of_decide_eq_true h; omega)
          obtain ⟨en2, hen3⟩ : ∃ b, decide (ll ≤ s2) = b := ⟨_, rfl⟩
          rw [hen3] at EE hen2
          have l95 : ll ≤ 95 := hll.2
          clear hen3 hee hpt hkn hks hk64 hee2 hpe ck2 hw6 hs2 hB5 C5 T5 R5 hck h5 hen hle k1 k2
          go_wp2_with fail
          refine M1.mono ?_
          rintro e w7 ⟨v, rfl, hown, hc7⟩
          have C7 := C6.trans hc7
          have hB7 := bkeep hc7 hB6
          have T7 := T6.ch hc7
          have R7 := R6.ch hc7
          have P7 := PP w7 R7 T7
          obtain ⟨av, cv, rfl⟩ := own_val hown
          have HO := Lib.hid hown
          clear M1 C6 hB6 T6 R6 hc7 PP hown
          go_wp2_with fail
          refine P7.mono ?_
          rintro e w8 ⟨rfl, hc8⟩
          have C8 := C7.trans hc8
          have hB8 := bkeep hc8 hB7
          have T8 := T7.ch hc8
          have R8 := R7.ch hc8
          have D8 := DD _ _ w8 (own_keep HO.out hc8 (by simp))
          clear P7 C7 hB7 T7 R7 hc8 DD HO
          go_wp2_with fail
          refine D8.mono ?_
          rintro e w9 ⟨rfl, hc9⟩
          have C9 := C8.trans hc9
          have hB9 := bkeep hc9 hB8
          have E9 := EE w9 (R8.ch hc9) (T8.ch hc9)
          clear D8 C8 hB8 T8 R8 hc9 EE
          cases en with
          | false =>
            clear E9 hen2
            go_wp2
            go_ret
            exact ⟨rfl, C9⟩
          | true =>
            rw [hen2 rfl] at E9
            clear hen2
            go_wp2_with fail
            refine E9.mono ?_
            rintro e w10 ⟨rfl, hc10⟩
            have C10 := C9.trans hc10
            clear E9 C9 hB9 hc10
            go_wp2
            go_ret
            exact ⟨rfl, C10⟩
        · rw [if_pos hck, if_neg h5] at L1
          have hen : enoughB s = false := by
            unfold enoughB ptsB
            rw [decide_eq_false h5]
            simp
          rw [hen] at HA
          clear hck h5 hen
          go_wp2_with fail
          rw [bldSc, hW3]
          refine L1.mono ?_
          rintro e w4 ⟨rfl, hc4⟩
          have C4 := C3.trans hc4
          have hB4 := bkeep hc4 hB3
          have E4 := HA w4 (R3.ch hc4) (T3.ch hc4)
          clear L1 C3 hB3 T3 R3 hc4 HA hW3 hB2
          go_wp2_with fail
          refine E4.mono ?_
          rintro e w5 ⟨rfl, hc5⟩
          have C5 := C4.trans hc5
          clear E4 C4 hc5 hB4
          go_wp2
          go_ret
          exact ⟨rfl, C5⟩
      · rw [if_neg hck] at L1
        have hen : enoughB s = false := by
          unfold enoughB
          rw [show checkB s = false by simpa using hck]
          rfl
        rw [hen] at HA
        clear hck hen
        go_wp2_with fail
        rw [bldSc, hW3]
        refine L1.mono ?_
        rintro e w4 ⟨rfl, hc4⟩
        have C4 := C3.trans hc4
        have hB4 := bkeep hc4 hB3
        have E4 := HA w4 (R3.ch hc4) (T3.ch hc4)
        clear L1 C3 hB3 T3 R3 hc4 HA hW3 hB2
        go_wp2_with fail
        refine E4.mono ?_
        rintro e w5 ⟨rfl, hc5⟩
        have C5 := C4.trans hc5
        clear E4 C4 hc5 hB4
        go_wp2
        go_ret
        exact ⟨rfl, C5⟩
end Go.Proofs.Hc
