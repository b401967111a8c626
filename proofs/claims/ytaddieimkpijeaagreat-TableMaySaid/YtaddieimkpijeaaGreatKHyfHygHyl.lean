/- slices.Equal at rows of the same pairs. -/
import Derived.Test.YtaddieimkpijeaaGreatKHscHapHcl
import Derived.Test.YtaddieimkpijeaaGreatKHlhHlh2
import Derived.Test.YtaddieimkpijeaaGreatKHxvHxw
import Derived.Test.YtaddieimkpijeaaGreatKHtmHye
import Derived.Test.YtaddieimkpijeaaGreatKHopHop2
set_option linter.unusedSimpArgs false
set_option linter.unusedVariables false
namespace Go.Proofs.Hc
open Go.RowKit
attribute [local go_sem] wrap_u64 wrap_u8 bits_xor64 bits_and64 bits_or64 bits_not64 bits_xor8 bits_and8 bits_or8 signed64 signed8 ofInt_N BitVec.ofInt_add BitVec.ofInt_mul ofInt_sub' ofInt8_N64 ofInt64_N8 wide8 eqN neN shr_pow shr1 shr7 shr56
attribute [local go_sem high] bits_com64 shl_wrap
attribute [local go_sem] cell_heap ice_heap cellAt_cells iceAt_cells setAt_cells rowAt_cells canLay_cells laidAt_cells size_onObj size_setCell rowRes_some layRes_true
attribute [local go_sem] load26 load73 load23 store26 build73
attribute [local go_sem ↓] lrow26 lrow73 lrow23 srow26 zero26 brow73 heap_alloc heap_drew heap_drewN heap_setCell heap_onObj
attribute [local go_sem] tcells_size hcells_size tcells_get hcells_get tcells_one hcells_one hcells_table tcells_table hcells_all hcells_ctrl tcells_ctrl
attribute [local go_sem] nn2 nm2 nn3 nm3 nn4 nm4 nn5 nm5 nn6 nm6 nn7 nm7 nn8 nm8
attribute [local go_sem] nn2 nm2 nn3 nm3 nn4 nm4 nn5 nm5 nn6 nm6 nn7 nm7 nn8 nm8
attribute [local go_sem] Oper.semAt_some make_func1
attribute [local go_sem] loadP storeP allOne_pair
attribute [local go_sem high] laidAt_p
attribute [local go_sem ↓] lrowP srowP zeroP
theorem neq_pair (x y : BitVec 64) (w : World) : (binOp .neq 31 (.agg #[U x, U y]) (.agg #[U x, U y])).run Tryz.prog w = .ok (.bool false) w := by
  have h := eql_pair x y x y w
  rw [run_eql_struct] at h
  rw [run_neq_struct]
  generalize (Op.equalIn 10000 31 (.agg #[U x, U y]) (.agg #[U x, U y])).run Tryz.prog w = r at *
  cases r with
  | ok b w' =>
    simp only [Result.andThen_ok, Result.ok.injEq, Value.bool.injEq, beq_self_eq_true, Bool.and_self] at h
    obtain ⟨rfl, rfl⟩ := h
    rfl
  | halt x w' => simp [Result.andThen] at h
theorem guardP' (op : BinOp) (x y : Operand) (xs ys : Array Value) (w : World) : (eqGuard op 31 x y (.agg xs) (.agg ys)).run Tryz.prog w = .ok () w := run_eqGuard_agg w op 31 x y xs ys (by kernel_rfl)
attribute [local go_sem high] neq_pair guardP'
set_option maxHeartbeats 1000000 in
set_option maxRecDepth 100000 in
theorem eqPairs_any (l : List (BitVec 64 × BitVec 64)) (a b : Option Addr) (c d : Nat) (cur cur2 : Array Value) (w : World) (hl : l.length ≤ 900000)
    (hpa : PairsAt cur l) (ha : 0 < l.length → ∃ r, a = some ⟨r, 0, none⟩) (hr : ∀ r, a = some ⟨r, 0, none⟩ → w.heap[r]? = some (.cells cur 31 (0, 0)))
    (hpb : PairsAt cur2 l) (hb : 0 < l.length → ∃ r, b = some ⟨r, 0, none⟩) (hs : ∀ r, b = some ⟨r, 0, none⟩ → w.heap[r]? = some (.cells cur2 31 (0, 0))) :
    Calls Tryz.prog 28 #[.slice a l.length c, .slice b l.length d] w fun e w' => e = .returned (.bool true) ∧ Ch [] w w' := by
  have HP := Lib.hid hpa
  have HA := Lib.hid ha
  have HR := Lib.hid hr
  have HPB := Lib.hid hpb
  have HAB := Lib.hid hb
  have HRB := Lib.hid hs
  clear hpa ha hr hpb hb hs
  go_enter Tryz.func28, Tryz.ntmps28
  go_wp2
  go_loopw [13] (fun i wr => ∃ j : Nat, i = .int .i64 j ∧ j ≤ l.length ∧ Ch [] w wr) (fun i _ => l.length - (intOf i).toNat)
  case atStart => exact ⟨0, rfl, Nat.zero_le _, Ch.refl _ _⟩
  case round =>
    obtain ⟨j, hj, hjl, hcr⟩ := hrel
    subst hj
    rcases Nat.lt_or_ge j l.length with hlt | hge
    · obtain ⟨r, hra⟩ := HA.out (by omega)
      obtain ⟨q, hqb⟩ := HAB.out (by omega)
      obtain ⟨p, hpm, -⟩ := drop_one hlt
      have hrow : rowAt (j * 2) 2 (.cells cur 31 (0, 0)) = some #[U p.1, U p.2] := by rw [Nat.mul_comm]; exact HP.out j p hpm
      have hrow2 : rowAt (j * 2) 2 (.cells cur2 31 (0, 0)) = some #[U p.1, U p.2] := by rw [Nat.mul_comm]; exact HPB.out j p hpm
      subst hra hqb
      have hrr : wr.heap[r]? = some (.cells cur 31 (0, 0)) := hkeep hcr (HR.out r rfl)
      have hqq : wr.heap[q]? = some (.cells cur2 31 (0, 0)) := hkeep hcr (HRB.out q rfl)
      have hdec : decide (j < l.length) = true := by simpa using hlt
      have hg0 : ∀ g : Gar wr, (g.1).heap[q]? = some (.cells cur2 31 (0, 0)) := fun g => hkeep g.2 hqq
      have hg1 : ∀ g : Gar wr, (g.1).heap[r]? = some (.cells cur 31 (0, 0)) := fun g => hkeep g.2 hrr
      clear hpm
      go_wp2
      refine wp_region_gar (by kernel_rfl) (by kernel_rfl) ?_
      repeat (go_big_quiet_step (fail))
      refine wpQuiet_nil ?_
      rintro W6 ⟨g6, hw6⟩
      have hc6 : Ch [] wr W6 := by rw [hw6]; exact g6.2
      clear hw6 g6 hg0 hg1
      go_wp2
      go_roundw
      case rel => exact ⟨j + 1, by go_num, hlt, hcr.trans hc6⟩
      case measure => simp [intOf]; omega
    · have hme : j = l.length := Nat.le_antisymm hjl hge
      have hdec : decide (j < l.length) = false := by simpa using hge
      clear hme hge
      go_wp2
      go_ret
      exact ⟨rfl, hcr⟩
end Go.Proofs.Hc
/- Law 17, TableMay: parts of the walk. -/
namespace Go.Proofs.Hc
open Go.RowKit
attribute [local go_sem] wrap_u64 wrap_u8 bits_xor64 bits_and64 bits_or64 bits_not64 bits_xor8 bits_and8 bits_or8 signed64 signed8 ofInt_N BitVec.ofInt_add BitVec.ofInt_mul ofInt_sub' ofInt8_N64 ofInt64_N8 wide8 eqN neN shr_pow shr1 shr7 shr56
attribute [local go_sem high] bits_com64 shl_wrap
theorem run_shl1 (d : Int) (h0 : 0 ≤ d) (h5 : d ≤ 5) (w : World) : (binOp .shl 22 (.int .u64 1) (I d)).run Tryz.prog w = .ok (U (1#64 <<< d.toNat)) w := by
  rcases (show d = 0 ∨ d = 1 ∨ d = 2 ∨ d = 3 ∨ d = 4 ∨ d = 5 by omega) with rfl | rfl | rfl | rfl | rfl | rfl <;> kernel_rfl
theorem new_err {d : Int} {p : BitVec 64} (h : d < 0 ∨ 5 < d ∨ N (1#64 <<< d.toNat) ≤ N p) (h5 : d ≤ 62) : newE d p = .error 2 := by
  rw [newE]
  rcases h with h | h | h
  · rw [decide_eq_true h]; rfl
  · rw [decide_eq_true h, Bool.or_true]; rfl
  · rw [if_pos]
    by_cases h0 : d < 0
    · rw [decide_eq_true h0]; rfl
    · have := pre_pow p d.toNat (by omega)
      rw [decide_eq_false (by omega)] at this
      have h2 : (p >>> d.toNat != 0#64) = true := by
        rw [bne_iff_ne]; intro e; rw [e] at this; exact absurd this (by decide)
      rw [h2, Bool.or_true]
theorem new_fine {d : Int} {p : BitVec 64} (h0 : 0 ≤ d) (h5 : d ≤ 5) (h : N p < N (1#64 <<< d.toNat)) : newE d p = .ok (bareT 0#64 d p) := by
  have := pre_pow p d.toNat (by omega)
  rw [decide_eq_true h] at this
  have h2 : (p >>> d.toNat != 0#64) = false := by
    rw [bne_eq_false_iff_eq, ← beq_iff_eq]
    rw [show (p >>> d.toNat == 0#64) = (N (p >>> d.toNat) == 0) from eqN _ _ ▸ rfl] 
    exact this
  rw [newE, decide_eq_false (by omega), decide_eq_false (by omega), h2]; rfl
end Go.Proofs.Hc
/- Law 17, TableMay: the walk. -/
namespace Go.Proofs.Hc
open Go.RowKit
attribute [local go_sem] wrap_u64 wrap_u8 bits_xor64 bits_and64 bits_or64 bits_not64 bits_xor8 bits_and8 bits_or8 signed64 signed8 ofInt_N BitVec.ofInt_add BitVec.ofInt_mul ofInt_sub' ofInt8_N64 ofInt64_N8 wide8 eqN neN shr_pow shr1 shr7 shr56
attribute [local go_sem high] bits_com64 shl_wrap
attribute [local go_sem] cell_heap ice_heap cellAt_cells iceAt_cells setAt_cells rowAt_cells canLay_cells laidAt_cells size_onObj size_setCell rowRes_some layRes_true
attribute [local go_sem] load26 load73 load23 store26 build73
attribute [local go_sem ↓] lrow26 lrow73 lrow23 srow26 zero26 brow73 heap_alloc heap_drew heap_drewN heap_setCell heap_onObj
attribute [local go_sem] tcells_size hcells_size tcells_get hcells_get tcells_one hcells_one hcells_table tcells_table hcells_all hcells_ctrl tcells_ctrl
attribute [local go_sem] nn2 nm2 nn3 nm3 nn4 nm4 nn5 nm5 nn6 nm6 nn7 nm7 nn8 nm8
attribute [local go_sem] loadA loadT2 storeA storeT2 buildA_ts buildA_sm assert_errno make_func acells_size t2cells_size acells_get t2cells_get acells_one t2cells_one acells_table acells_all t2cells_all t2cells_l t2cells_r
attribute [local go_sem ↓] lrowA lrowT2 srowA srowT2 browA zeroA_run zeroT2_run
attribute [local go_sem] nn2 nm2 nn3 nm3 nn4 nm4 nn5 nm5 nn6 nm6 nn7 nm7 nn8 nm8
attribute [local go_sem] Oper.semAt_some make_func1 ofInt_pow8
attribute [local go_sem] box26 tcells_idx cell0 cell1 cell2 cell3 cell4 hcells_idx hcells_pop
attribute [local go_sem] cell5 cell6 t2cells_idx build_zero
attribute [local go_sem] loadP storeP allOne_pair
attribute [local go_sem ↓] lrowP srowP zeroP brow26
attribute [local go_sem high] laidAt_t laidAt_a laidAt_t2 laidAt_p
attribute [local go_sem high] eql_tab neq_tab guard26
attribute [local irreducible] tcells t2cells
theorem blk_lt {W : World} {k : Nat} {o : Obj} (h : W.heap[k]? = some o) : k < W.heap.size := (Array.getElem?_eq_some_iff.1 h).1
theorem new_no {d : Int} {p : BitVec 64} (h : newE d p = .error 2) (w : World) : Calls Tryz.prog 33 #[I d, U p] w fun e w' => e = .returned (.tuple #[.agg (tcells zeroT), I 2]) ∧ Ch [] w w' := by
  have := New_any d p w
  rw [h] at this
  exact this
theorem new_yes {d : Int} {p : BitVec 64} (h : newE d p = .ok (bareT 0#64 d p)) (w : World) : Calls Tryz.prog 33 #[I d, U p] w fun e w' => e = .returned (.tuple #[.agg (tcells (bareT 0#64 d p)), I 0]) ∧ Ch [] w w' := by
  have := New_any d p w
  rw [h] at this
  exact this
theorem ofInt_two_pow (n : Nat) : BitVec.ofInt 64 ((2 : Int) ^ n) = 1#64 <<< n := by
  have h : ((2 : Int) ^ n) = ((2 ^ n : Nat) : Int) := by simp
  rw [h, BitVec.ofInt_natCast]
  apply BitVec.eq_of_toNat_eq
  simp [BitVec.toNat_shiftLeft, Nat.shiftLeft_eq]
theorem umod40 (x : BitVec 64) : ∃ p : BitVec 64, N p = N x % 40 := ⟨x % 40#64, by unfold N; rw [BitVec.toNat_umod]; rfl⟩
set_option maxHeartbeats 8000000 in
set_option maxRecDepth 100000 in
theorem may_bad17 (t : Tab) (s : BitVec 64) (ka : Option Addr) (kl kc : Nat) (ks : Nat → BitVec 64) (w : World) (hM : mayT t s = false) (hkl : kl ≤ 9223372036854775807) (hk : KeysIn w ka kl ks) :
    Calls Tryz.prog 5 #[U s, .agg (tcells t), .slice ka kl kc] w fun e w' => e = .returned (.bool true) ∧ Ch [] w w' := by
  have HK := Lib.hid hk
  have HM := Lib.hid hM
  clear hk hM
  have hR : ∀ w, Calls Tryz.prog 14 #[U s, .agg (tcells t)] w fun e w' => e = .returned (.bool false) ∧ Ch [] w w' := fun w => by
    have := rRight_any t s w; rw [HM.out] at this; exact this
  have hK : ∀ w, Calls Tryz.prog 26 #[U s, .agg (tcells t)] w fun e w' => e = .returned (I 270) ∧ Ch [] w w' := fun w => by
    have := check_any t s w; rw [HM.out] at this; exact this
  go_enter Tryz.func5, Tryz.ntmps5
  go_wp2_with fail
  refine (wakes_any _).mono ?_
  rintro e w1 ⟨rfl, hc1⟩
  have t1 := hkeep hc1 (show (w.alloc (.cells (tcells t) 26)).heap[w.heap.size]? = some (.cells (tcells t) 26 (0, 0)) by simp [go_sem])
  have C1 : Ch [] w w1 := ((Ch.refl [] w).alloc _).trans hc1
  obtain ⟨T0, hT0⟩ : ∃ T0, w.heap.size = T0 := ⟨_, rfl⟩
  rw [hT0] at t1 ⊢
  clear hc1 hT0
  go_wp2_with fail
  refine (hR _).mono ?_
  rintro e w2 ⟨rfl, hc2⟩
  have t2 := hkeep hc2 t1
  have C2 := C1.trans hc2
  clear t1 C1 hc2 hR
  go_wp2_with fail
  refine (hK _).mono ?_
  rintro e w3 ⟨rfl, hc3⟩
  have t3 := hkeep hc3 t2
  have C3 := C2.trans hc3
  clear t2 C2 hc3 hK
  have P2 := fun w => Pairs_no t s w HM.out
  have nil : PairsAt #[] [] := fun i p h => by simp at h
  go_wp2_with fail
  refine (P2 _).mono ?_
  rintro e w5 ⟨c5, rfl, hc5⟩
  have t5 := hkeep hc5 t3
  have C5 := C3.trans hc5
  have EQ := eqPairs_any [] none none c5 0 #[] #[] w5 (by simp) nil (fun h => by simp at h) (fun r h => by cases h) nil (fun h => by simp at h) (fun r h => by cases h)
  simp only [List.length_nil] at EQ
  clear t3 C3 hc5 P2 nil
  go_wp2_with fail
  refine EQ.mono ?_
  rintro e wo ⟨rfl, hc6⟩
  have to := hkeep hc6 t5
  have Co := C5.trans hc6
  clear t5 C5 hc6 EQ
  go_wp2
  go_loopw [53] (fun i wr => ∃ m : Nat, i = .int .i64 m ∧ m ≤ kl ∧ m ≤ 8 ∧ Ch [] wo wr) (fun i _ => kl - (intOf i).toNat)
  case atStart => exact ⟨0, rfl, by omega, by omega, Ch.refl _ _⟩
  case round =>
    obtain ⟨m, hm, hml, hm8, hcr⟩ := hrel
    subst hm
    have hCw : Ch [] w wr := Co.trans hcr
    have t0 := hkeep hcr to
    clear to
    rcases Nat.lt_or_ge m kl with hlt | hge
    · obtain ⟨kb, ko, hka, hkb, hkc⟩ := HK.out m hlt
      subst hka
      have hkc' : (wr.heap[kb]?).bind (cellAt (ko + m)) = some (U (ks m)) := by rw [hCw.block kb hkb (by simp)]; exact hkc
      have hdec : decide (m < kl) = true := by simpa using hlt
      clear hkc hkb
      by_cases h8 : m = 8
      · subst h8
        go_wp2
        go_ret
        exact ⟨rfl, hCw⟩
      · have h8' : ((m : Int) == 8) = false := by simp; omega
        obtain ⟨kk, hkk⟩ : ∃ kk, ks m = kk := ⟨_, rfl⟩
        rw [hkk] at hkc'
        clear hkk
        have F1 : ∀ w, Calls Tryz.prog 30 #[U s, .agg (tcells t), U kk] w fun e w' => e = .returned (.tuple #[I 0, I 0, I 270]) ∧ Ch [] w w' := fun w => by
          have := Find_any t s kk w; rw [ifMay, HM.out, if_neg (by decide)] at this; exact this
        go_wp2_with fail
        refine (F1 _).mono ?_
        rintro e w3 ⟨rfl, hc3⟩
        have t3 := hkeep hc3 t0
        have C3 := hc3
        clear t0 hc3
        clear F1
        obtain ⟨pp, hpp⟩ := umod40 (kk >>> 4)
        have hP1 : N (kk >>> 4) % 40 = N pp := hpp.symm
        have hP2 : (N (kk >>> 4)).tmod 40 = N pp := by rw [Int.tmod_eq_emod_of_nonneg (N_nonneg _)]; exact hP1
        have hP3 : N kk / 16 % 40 = N pp := by have := shr_pow kk 4; rw [show (2 : Int) ^ 4 = 16 from rfl] at this; rw [this]; exact hP1
        have hP4 : (N kk / 16).tmod 40 = N pp := by have := shr_pow kk 4; rw [show (2 : Int) ^ 4 = 16 from rfl] at this; rw [this]; exact hP2
        clear hpp
        obtain ⟨D, hD⟩ : ∃ D : Int, N kk % 9 = D := ⟨_, rfl⟩
        have hD2 : (N kk).tmod 9 = D := by rw [Int.tmod_eq_emod_of_nonneg (N_nonneg kk)]; exact hD
        have hD0 : 0 ≤ D := by rw [← hD]; exact Int.emod_nonneg _ (by decide)
        have hD9 : D < 9 := by rw [← hD]; exact Int.emod_lt_of_pos _ (by decide)
        go_upto_region 26 with (fail)
        clear hP1 hP2 hP3 hP4 hD hD2
        obtain ⟨d, hd⟩ : ∃ d : Int, D - 1 = d := ⟨_, rfl⟩
        rw [hd]
        have hdl : -1 ≤ d := by omega
        have hdu : d ≤ 62 := by omega
        clear hd hD0 hD9
        by_cases h1 : d < 0
        · have NE := fun w => new_no (new_err (p := pp) (.inl h1) hdu) w
          go_wp2_with fail
          refine (NE _).mono ?_
          rintro e w4 ⟨rfl, hc4⟩
          have C4 := C3.trans hc4
          clear NE C3 hc4 t3
          go_wp2
          go_roundw
          case rel => exact ⟨m + 1, by go_num, hlt, by omega, hcr.trans (C4.trans (new_ch w4 zeroT zeroT))⟩
          case measure => simp [intOf]; omega
        · by_cases h2 : 5 < d
          · have NE := fun w => new_no (new_err (p := pp) (.inr (.inl h2)) hdu) w
            go_wp2_with fail
            refine (NE _).mono ?_
            rintro e w4 ⟨rfl, hc4⟩
            have C4 := C3.trans hc4
            clear NE C3 hc4 t3
            go_wp2
            go_roundw
            case rel => exact ⟨m + 1, by go_num, hlt, by omega, hcr.trans (C4.trans (new_ch w4 zeroT zeroT))⟩
            case measure => simp [intOf]; omega
          · have h0 : 0 ≤ d := by omega
            have h5 : d ≤ 5 := by omega
            by_cases h3 : N (BitVec.ofInt 64 (2 ^ d.toNat)) ≤ N pp
            · have NE := fun w => new_no (new_err (p := pp) (.inr (.inr (by rw [← ofInt_two_pow]; exact h3))) hdu) w
              go_wp2_with fail
              refine (NE _).mono ?_
              rintro e w4 ⟨rfl, hc4⟩
              have C4 := C3.trans hc4
              clear NE C3 hc4 t3
              go_wp2
              go_roundw
              case rel => exact ⟨m + 1, by go_num, hlt, by omega, hcr.trans (C4.trans (new_ch w4 zeroT zeroT))⟩
              case measure => simp [intOf]; omega
            · have h3' : N pp < N (BitVec.ofInt 64 (2 ^ d.toNat)) := by omega
              have NF := fun w => new_yes (new_fine h0 h5 (by rw [← ofInt_two_pow]; exact h3')) w
              have RN := fun w => rNew_any 0#64 d pp w
              generalize bareT 0#64 d pp = nb at *
              go_wp2_with fail
              refine (NF _).mono ?_
              rintro e w4 ⟨rfl, hc4⟩
              have C4 := C3.trans hc4
              clear NF C3 hc4 t3
              go_upto_region 27 with (fail)
              have x5 := new_block w4 zeroT nb
              have C5 := C4.trans (new_ch w4 zeroT nb)
              clear C4
              generalize World.onObj (w4.alloc (.cells (tcells zeroT) 26)) w4.heap.size (laidAt 0 (tcells nb)) = w5 at *
              generalize w4.heap.size = BX at *
              go_upto_region 30 with (fail)
              have hg5 : ∀ g : Gar w5, (g.1).heap[BX]? = some (.cells (tcells nb) 26 (0, 0)) := fun g => hkeep g.2 x5
              refine wp_region_gar (by kernel_rfl) (by kernel_rfl) ?_
              repeat (go_big_quiet_step ((go_at_call 34; exact garC (RN _))))
              refine wpQuiet_nil ?_
              rintro W6 ⟨g6, hw6⟩
              have hc6 : Ch [] w5 W6 := by rw [hw6]; exact g6.2
              clear hw6 g6 hg5
              go_wp2
              go_roundw
              case rel => exact ⟨m + 1, by go_num, hlt, by omega, hcr.trans (C5.trans hc6)⟩
              case measure => simp [intOf]; omega
    · have hdec : decide (m < kl) = false := by simpa using hge
      clear hge
      go_wp2
      go_ret
      exact ⟨rfl, hCw⟩
set_option maxHeartbeats 8000000 in
set_option maxRecDepth 100000 in
theorem may_ok17 (t : Tab) (s : BitVec 64) (ka : Option Addr) (kl kc : Nat) (ks : Nat → BitVec 64) (w : World) (hM : May t s) (hkl : kl ≤ 9223372036854775807) (hk : KeysIn w ka kl ks) :
    Calls Tryz.prog 5 #[U s, .agg (tcells t), .slice ka kl kc] w fun e w' => e = .returned (.bool true) ∧ Ch [] w w' := by
  have HK := Lib.hid hk
  have HM := Lib.hid hM
  clear hk hM
  have hR : ∀ w, Calls Tryz.prog 14 #[U s, .agg (tcells t)] w fun e w' => e = .returned (.bool true) ∧ Ch [] w w' := fun w => by
    have := rRight_any t s w; rw [(may_iff t s).2 HM.out] at this; exact this
  have hK : ∀ w, Calls Tryz.prog 26 #[U s, .agg (tcells t)] w fun e w' => e = .returned (I 0) ∧ Ch [] w w' := fun w => by
    have := check_any t s w; rw [(may_iff t s).2 HM.out] at this; exact this
  go_enter Tryz.func5, Tryz.ntmps5
  go_wp2_with fail
  refine (wakes_any _).mono ?_
  rintro e w1 ⟨rfl, hc1⟩
  have t1 := hkeep hc1 (show (w.alloc (.cells (tcells t) 26)).heap[w.heap.size]? = some (.cells (tcells t) 26 (0, 0)) by simp [go_sem])
  have C1 : Ch [] w w1 := ((Ch.refl [] w).alloc _).trans hc1
  obtain ⟨T0, hT0⟩ : ∃ T0, w.heap.size = T0 := ⟨_, rfl⟩
  rw [hT0] at t1 ⊢
  clear hc1 hT0
  go_wp2_with fail
  refine (hR _).mono ?_
  rintro e w2 ⟨rfl, hc2⟩
  have t2 := hkeep hc2 t1
  have C2 := C1.trans hc2
  clear t1 C1 hc2 hR
  go_wp2_with fail
  refine (hK _).mono ?_
  rintro e w3 ⟨rfl, hc3⟩
  have t3 := hkeep hc3 t2
  have C3 := C2.trans hc3
  clear t2 C2 hc3 hK
  have hl := pairs_le t
  have P1 := fun w => rPairs_any t w
  have P2 := fun w => Pairs_yes t s w ((may_iff t s).2 HM.out)
  go_wp2_with fail
  refine (P1 _).mono ?_
  rintro e w4 ⟨a4, c4, rfl, o4, hc4⟩
  have t4 := hkeep hc4 t3
  have C4 := C3.trans hc4
  clear t3 C3 hc4 P1
  go_wp2_with fail
  refine (P2 _).mono ?_
  rintro e w5 ⟨a5, c5, rfl, o5, hc5⟩
  have t5 := hkeep hc5 t4
  have C5 := C4.trans hc5
  have o4' := own_ch o4 hc5 (by simp)
  obtain ⟨cur4, p1, p2, p3⟩ := pairs_at rfl o4'
  obtain ⟨cur5, q1, q2, q3⟩ := pairs_at rfl o5
  have EQ := eqPairs_any (pairsT t) a5 a4 c5 c4 cur5 cur4 w5 (by omega) q1 q2 (fun r hr => (q3 r hr).2) p1 p2 (fun r hr => (p3 r hr).2)
  clear t4 C4 hc5 P2 o4 o5 o4' p1 p2 p3 q1 q2 q3
  generalize (pairsT t).length = ln at *
  clear hl
  go_wp2_with fail
  refine EQ.mono ?_
  rintro e wo ⟨rfl, hc6⟩
  have to := hkeep hc6 t5
  have Co := C5.trans hc6
  clear t5 C5 hc6 EQ
  go_wp2
  go_loopw [53] (fun i wr => ∃ m : Nat, i = .int .i64 m ∧ m ≤ kl ∧ m ≤ 8 ∧ Ch [] wo wr) (fun i _ => kl - (intOf i).toNat)
  case atStart => exact ⟨0, rfl, by omega, by omega, Ch.refl _ _⟩
  case round =>
    obtain ⟨m, hm, hml, hm8, hcr⟩ := hrel
    subst hm
    have hCw : Ch [] w wr := Co.trans hcr
    have t0 := hkeep hcr to
    clear to
    rcases Nat.lt_or_ge m kl with hlt | hge
    · obtain ⟨kb, ko, hka, hkb, hkc⟩ := HK.out m hlt
      subst hka
      have hkc' : (wr.heap[kb]?).bind (cellAt (ko + m)) = some (U (ks m)) := by rw [hCw.block kb hkb (by simp)]; exact hkc
      have hdec : decide (m < kl) = true := by simpa using hlt
      clear hkc hkb
      by_cases h8 : m = 8
      · subst h8
        go_wp2
        go_ret
        exact ⟨rfl, hCw⟩
      · have h8' : ((m : Int) == 8) = false := by simp; omega
        obtain ⟨kk, hkk⟩ : ∃ kk, ks m = kk := ⟨_, rfl⟩
        rw [hkk] at hkc'
        clear hkk
        rcases slotR_cases HM.out kk with ⟨hs, hfo, _⟩ | ⟨j, n, hs, _, _, _, hfo, _⟩
        · have F1 := fun w => find_miss HM.out hfo w
          have S1 := fun w => rSlot_any t kk w
          rw [hs] at S1
          simp only [slotI] at S1
          clear hs hfo
          go_wp2_with fail
          refine (F1 _).mono ?_
          rintro e w1 ⟨rfl, hc1⟩
          have t1 := hkeep hc1 t0
          have C1 := hc1
          clear t0 hc1
          go_wp2_with fail
          refine (S1 _).mono ?_
          rintro e w3 ⟨rfl, hc3⟩
          have t3 := hkeep hc3 t1
          have C3 := C1.trans hc3
          clear t1 hc3 C1
          clear F1 S1
          obtain ⟨pp, hpp⟩ := umod40 (kk >>> 4)
          have hP1 : N (kk >>> 4) % 40 = N pp := hpp.symm
          have hP2 : (N (kk >>> 4)).tmod 40 = N pp := by rw [Int.tmod_eq_emod_of_nonneg (N_nonneg _)]; exact hP1
          have hP3 : N kk / 16 % 40 = N pp := by have := shr_pow kk 4; rw [show (2 : Int) ^ 4 = 16 from rfl] at this; rw [this]; exact hP1
          have hP4 : (N kk / 16).tmod 40 = N pp := by have := shr_pow kk 4; rw [show (2 : Int) ^ 4 = 16 from rfl] at this; rw [this]; exact hP2
          clear hpp
          obtain ⟨D, hD⟩ : ∃ D : Int, N kk % 9 = D := ⟨_, rfl⟩
          have hD2 : (N kk).tmod 9 = D := by rw [Int.tmod_eq_emod_of_nonneg (N_nonneg kk)]; exact hD
          have hD0 : 0 ≤ D := by rw [← hD]; exact Int.emod_nonneg _ (by decide)
          have hD9 : D < 9 := by rw [← hD]; exact Int.emod_lt_of_pos _ (by decide)
          go_upto_region 26 with (fail)
          clear hP1 hP2 hP3 hP4 hD hD2
          obtain ⟨d, hd⟩ : ∃ d : Int, D - 1 = d := ⟨_, rfl⟩
          rw [hd]
          have hdl : -1 ≤ d := by omega
          have hdu : d ≤ 62 := by omega
          clear hd hD0 hD9
          by_cases h1 : d < 0
          · have NE := fun w => new_no (new_err (p := pp) (.inl h1) hdu) w
            go_wp2_with fail
            refine (NE _).mono ?_
            rintro e w4 ⟨rfl, hc4⟩
            have C4 := C3.trans hc4
            clear NE C3 hc4 t3
            go_wp2
            go_roundw
            case rel => exact ⟨m + 1, by go_num, hlt, by omega, hcr.trans (C4.trans (new_ch w4 zeroT zeroT))⟩
            case measure => simp [intOf]; omega
          · by_cases h2 : 5 < d
            · have NE := fun w => new_no (new_err (p := pp) (.inr (.inl h2)) hdu) w
              go_wp2_with fail
              refine (NE _).mono ?_
              rintro e w4 ⟨rfl, hc4⟩
              have C4 := C3.trans hc4
              clear NE C3 hc4 t3
              go_wp2
              go_roundw
              case rel => exact ⟨m + 1, by go_num, hlt, by omega, hcr.trans (C4.trans (new_ch w4 zeroT zeroT))⟩
              case measure => simp [intOf]; omega
            · have h0 : 0 ≤ d := by omega
              have h5 : d ≤ 5 := by omega
              by_cases h3 : N (BitVec.ofInt 64 (2 ^ d.toNat)) ≤ N pp
              · have NE := fun w => new_no (new_err (p := pp) (.inr (.inr (by rw [← ofInt_two_pow]; exact h3))) hdu) w
                go_wp2_with fail
                refine (NE _).mono ?_
                rintro e w4 ⟨rfl, hc4⟩
                have C4 := C3.trans hc4
                clear NE C3 hc4 t3
                go_wp2
                go_roundw
                case rel => exact ⟨m + 1, by go_num, hlt, by omega, hcr.trans (C4.trans (new_ch w4 zeroT zeroT))⟩
                case measure => simp [intOf]; omega
              · have h3' : N pp < N (BitVec.ofInt 64 (2 ^ d.toNat)) := by omega
                have NF := fun w => new_yes (new_fine h0 h5 (by rw [← ofInt_two_pow]; exact h3')) w
                have RN := fun w => rNew_any 0#64 d pp w
                generalize bareT 0#64 d pp = nb at *
                go_wp2_with fail
                refine (NF _).mono ?_
                rintro e w4 ⟨rfl, hc4⟩
                have C4 := C3.trans hc4
                clear NF C3 hc4 t3
                go_upto_region 27 with (fail)
                have x5 := new_block w4 zeroT nb
                have C5 := C4.trans (new_ch w4 zeroT nb)
                clear C4
                generalize World.onObj (w4.alloc (.cells (tcells zeroT) 26)) w4.heap.size (laidAt 0 (tcells nb)) = w5 at *
                generalize w4.heap.size = BX at *
                go_upto_region 30 with (fail)
                have hg5 : ∀ g : Gar w5, (g.1).heap[BX]? = some (.cells (tcells nb) 26 (0, 0)) := fun g => hkeep g.2 x5
                refine wp_region_gar (by kernel_rfl) (by kernel_rfl) ?_
                repeat (go_big_quiet_step ((go_at_call 34; exact garC (RN _))))
                refine wpQuiet_nil ?_
                rintro W6 ⟨g6, hw6⟩
                have hc6 : Ch [] w5 W6 := by rw [hw6]; exact g6.2
                clear hw6 g6 hg5
                go_wp2
                go_roundw
                case rel => exact ⟨m + 1, by go_num, hlt, by omega, hcr.trans (C5.trans hc6)⟩
                case measure => simp [intOf]; omega
        · have F1 := fun w => find_hit HM.out hfo w
          have S1 := fun w => rSlot_any t kk w
          rw [hs] at S1
          simp only [slotI] at S1
          have hc := cmpR_found hfo
          have D1 := fun w => rCompared_any t s kk w
          rw [hc] at D1
          clear hs hfo hc
          have hj0 : (0 : Int) ≤ (j : Int) := by omega
          go_wp2_with fail
          refine (F1 _).mono ?_
          rintro e w1 ⟨rfl, hc1⟩
          have t1 := hkeep hc1 t0
          have C1 := hc1
          clear t0 hc1
          go_wp2_with fail
          refine (S1 _).mono ?_
          rintro e w2 ⟨rfl, hc2⟩
          have t2 := hkeep hc2 t1
          have C2 := C1.trans hc2
          clear t1 hc2 C1
          go_wp2_with fail
          refine (D1 _).mono ?_
          rintro e w3 ⟨rfl, hc3⟩
          have t3 := hkeep hc3 t2
          have C3 := C2.trans hc3
          clear t2 hc3 C2
          clear F1 S1 D1
          obtain ⟨pp, hpp⟩ := umod40 (kk >>> 4)
          have hP1 : N (kk >>> 4) % 40 = N pp := hpp.symm
          have hP2 : (N (kk >>> 4)).tmod 40 = N pp := by rw [Int.tmod_eq_emod_of_nonneg (N_nonneg _)]; exact hP1
          have hP3 : N kk / 16 % 40 = N pp := by have := shr_pow kk 4; rw [show (2 : Int) ^ 4 = 16 from rfl] at this; rw [this]; exact hP1
          have hP4 : (N kk / 16).tmod 40 = N pp := by have := shr_pow kk 4; rw [show (2 : Int) ^ 4 = 16 from rfl] at this; rw [this]; exact hP2
          clear hpp
          obtain ⟨D, hD⟩ : ∃ D : Int, N kk % 9 = D := ⟨_, rfl⟩
          have hD2 : (N kk).tmod 9 = D := by rw [Int.tmod_eq_emod_of_nonneg (N_nonneg kk)]; exact hD
          have hD0 : 0 ≤ D := by rw [← hD]; exact Int.emod_nonneg _ (by decide)
          have hD9 : D < 9 := by rw [← hD]; exact Int.emod_lt_of_pos _ (by decide)
          go_upto_region 26 with (fail)
          clear hP1 hP2 hP3 hP4 hD hD2
          obtain ⟨d, hd⟩ : ∃ d : Int, D - 1 = d := ⟨_, rfl⟩
          rw [hd]
          have hdl : -1 ≤ d := by omega
          have hdu : d ≤ 62 := by omega
          clear hd hD0 hD9
          by_cases h1 : d < 0
          · have NE := fun w => new_no (new_err (p := pp) (.inl h1) hdu) w
            go_wp2_with fail
            refine (NE _).mono ?_
            rintro e w4 ⟨rfl, hc4⟩
            have C4 := C3.trans hc4
            clear NE C3 hc4 t3
            go_wp2
            go_roundw
            case rel => exact ⟨m + 1, by go_num, hlt, by omega, hcr.trans (C4.trans (new_ch w4 zeroT zeroT))⟩
            case measure => simp [intOf]; omega
          · by_cases h2 : 5 < d
            · have NE := fun w => new_no (new_err (p := pp) (.inr (.inl h2)) hdu) w
              go_wp2_with fail
              refine (NE _).mono ?_
              rintro e w4 ⟨rfl, hc4⟩
              have C4 := C3.trans hc4
              clear NE C3 hc4 t3
              go_wp2
              go_roundw
              case rel => exact ⟨m + 1, by go_num, hlt, by omega, hcr.trans (C4.trans (new_ch w4 zeroT zeroT))⟩
              case measure => simp [intOf]; omega
            · have h0 : 0 ≤ d := by omega
              have h5 : d ≤ 5 := by omega
              by_cases h3 : N (BitVec.ofInt 64 (2 ^ d.toNat)) ≤ N pp
              · have NE := fun w => new_no (new_err (p := pp) (.inr (.inr (by rw [← ofInt_two_pow]; exact h3))) hdu) w
                go_wp2_with fail
                refine (NE _).mono ?_
                rintro e w4 ⟨rfl, hc4⟩
                have C4 := C3.trans hc4
                clear NE C3 hc4 t3
                go_wp2
                go_roundw
                case rel => exact ⟨m + 1, by go_num, hlt, by omega, hcr.trans (C4.trans (new_ch w4 zeroT zeroT))⟩
                case measure => simp [intOf]; omega
              · have h3' : N pp < N (BitVec.ofInt 64 (2 ^ d.toNat)) := by omega
                have NF := fun w => new_yes (new_fine h0 h5 (by rw [← ofInt_two_pow]; exact h3')) w
                have RN := fun w => rNew_any 0#64 d pp w
                generalize bareT 0#64 d pp = nb at *
                go_wp2_with fail
                refine (NF _).mono ?_
                rintro e w4 ⟨rfl, hc4⟩
                have C4 := C3.trans hc4
                clear NF C3 hc4 t3
                go_upto_region 27 with (fail)
                have x5 := new_block w4 zeroT nb
                have C5 := C4.trans (new_ch w4 zeroT nb)
                clear C4
                generalize World.onObj (w4.alloc (.cells (tcells zeroT) 26)) w4.heap.size (laidAt 0 (tcells nb)) = w5 at *
                generalize w4.heap.size = BX at *
                go_upto_region 30 with (fail)
                have hg5 : ∀ g : Gar w5, (g.1).heap[BX]? = some (.cells (tcells nb) 26 (0, 0)) := fun g => hkeep g.2 x5
                refine wp_region_gar (by kernel_rfl) (by kernel_rfl) ?_
                repeat (go_big_quiet_step ((go_at_call 34; exact garC (RN _))))
                refine wpQuiet_nil ?_
                rintro W6 ⟨g6, hw6⟩
                have hc6 : Ch [] w5 W6 := by rw [hw6]; exact g6.2
                clear hw6 g6 hg5
                go_wp2
                go_roundw
                case rel => exact ⟨m + 1, by go_num, hlt, by omega, hcr.trans (C5.trans hc6)⟩
                case measure => simp [intOf]; omega
    · have hdec : decide (m < kl) = false := by simpa using hge
      clear hge
      go_wp2
      go_ret
      exact ⟨rfl, hCw⟩
theorem mayLaw (t : Tab) (s : BitVec 64) (ka : Option Addr) (kl kc : Nat) (ks : Nat → BitVec 64) (w : World) (hkl : kl ≤ 9223372036854775807) (hk : KeysIn w ka kl ks) :
    Calls Tryz.prog 5 #[U s, .agg (tcells t), .slice ka kl kc] w fun e w' => e = .returned (.bool true) ∧ Ch [] w w' := by
  cases hm : mayT t s with
  | false => exact may_bad17 t s ka kl kc ks w hm hkl hk
  | true => exact may_ok17 t s ka kl kc ks w ((may_iff t s).1 hm) hkl hk
end Go.Proofs.Hc
