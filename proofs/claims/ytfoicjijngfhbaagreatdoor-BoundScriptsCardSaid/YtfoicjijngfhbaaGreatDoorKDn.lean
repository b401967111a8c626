/- slices.pdqsortOrdered at words. -/
import Derived.Test.YtfoicjijngfhbaaGreatDoorKDa
import Derived.Test.YtfoicjijngfhbaaGreatDoorKDb
import Derived.Test.YtfoicjijngfhbaaGreatDoorKDd
import Derived.Test.YtfoicjijngfhbaaGreatDoorKFm
import Derived.Test.YtfoicjijngfhbaaGreatDoorKDf
import Derived.Test.YtfoicjijngfhbaaGreatDoorKDg
import Derived.Test.YtfoicjijngfhbaaGreatDoorKDj
import Derived.Test.YtfoicjijngfhbaaGreatDoorKDk
import Derived.Test.YtfoicjijngfhbaaGreatDoorKDl
import Derived.Test.YtfoicjijngfhbaaGreatDoorKDm
import Derived.Test.YtfoicjijngfhbaaGreatDoorKHm
import Derived.Test.YtfoicjijngfhbaaGreatDoorKHr
import Derived.Below
import Derived.BigQuiet
import Derived.Deep.Cut
import Derived.Deep.Draws
import Derived.Deep.QuietTactic
import Derived.Deep.RegionHeld
import Derived.Laws.Bits64
import Derived.Laws.Bits64b
import Derived.Laws.CopyRow
import Derived.Laws.Tables
import Derived.Lib.BitFns
import Derived.Lib.Hide
import Derived.Lib.Slices
import Derived.Lib.Small
import Derived.Lib.Strings
import Derived.Lib.Walk
import Derived.LoopIn
import Derived.LoopNIn
import Derived.OwnWalkIn
import Derived.RangeFuncCalls
import Derived.RangeFuncRecord
import Derived.RangeFuncSeq
import Derived.Recover
import Derived.Sort.AssemblyPlain
import Derived.Sort.Defs
import Derived.Sort.LotC
import Derived.Sort.LotD1
import Derived.Sort.LotD5
import Derived.Sort.LotD6
import Derived.Sort.Walk13a
import Derived.TacticsInMore
import Derived.Test.YtfoicjijngfhbaaGreatDoorProg
import Derived.WalkKit
import Derived.WalkLawsBesides
set_option linter.unusedSimpArgs false
set_option linter.unusedVariables false
namespace Go.Proofs.Hc
open Go.RowKit Go.Sort
set_option linter.unusedVariables false
set_option linter.unusedSimpArgs false
attribute [local go_sem] wrap_u64 wrap_u8 bits_xor64 bits_and64 bits_or64 bits_not64 bits_xor8 bits_and8 bits_or8 signed64 signed8 ofInt_N BitVec.ofInt_add BitVec.ofInt_mul ofInt_sub' ofInt8_N64 ofInt64_N8 wide8 eqN neN shr_pow shr1 shr7 shr56
attribute [local go_sem high] bits_com64 shl_wrap
attribute [local go_sem] nn2 nm2 nn3 nm3 nn4 nm4 nn5 nm5 nn6 nm6 nn7 nm7 nn8 nm8
attribute [local go_sem] Oper.semAt_some make_func1
attribute [local go_sem] cell_heap ice_heap cellAt_cells iceAt_cells setAt_cells size_setCell rowAt_cells canLay_cells laidAt_cells size_onObj rowRes_some layRes_true
attribute [local go_sem ↓] heap_alloc heap_drew heap_drewN heap_setCell heap_putObj heap_onObj
theorem ltW_true {x y : BitVec 64} : ltW x y = true ↔ N x < N y := by unfold ltW; exact decide_eq_true_iff
theorem ltW_false {x y : BitVec 64} : ltW x y = false ↔ ¬ N x < N y := by unfold ltW; exact decide_eq_false_iff_not
theorem swoW : SWO ltW where
  irrefl x := ltW_false.2 (by omega)
  trans x y z h1 h2 := ltW_true.2 (by have := ltW_true.1 h1; have := ltW_true.1 h2; omega)
  ntrans x y z h1 h2 := ltW_false.2 (by have := ltW_false.1 h1; have := ltW_false.1 h2; omega)
theorem ltW_eq (x y : BitVec 64) (h1 : ltW x y = false) (h2 : ltW y x = false) : x = y :=
  (N_inj x y).1 (by have := ltW_false.1 h1; have := ltW_false.1 h2; omega)
theorem hintN_two {h : Hint} (e : hintN h = 2) : h = .decreasing := by cases h <;> simp [hintN] at e ⊢
theorem eighthW {x y p q : Nat} (h1 : q ≤ p) (h2 : y ≤ x) : decide (((x : Int) - (y : Int)) / 8 ≤ (p : Int) - (q : Int)) = decide (p - q ≥ (x - y) / 8) :=
  decide_eq_decide.2 ⟨fun h => by omega, fun h => by omega⟩
set_option maxHeartbeats 8000000 in
set_option maxRecDepth 1000000 in
theorem pdq_any : ∀ (G q cap a b limit n : Nat) (d : Array (BitVec 64)) (z : Array Value) (w : World), b - a < G → RowW w q d z → a ≤ b → b ≤ n → d.size = n → n < 1152921504606846976 → limit < 4611686018427387904 → Below ltW a b d →
    Calls Tryz.prog 55 #[.slice (some ⟨q, 0, none⟩) n cap, I a, I b, I limit] w fun e w' => e = .returned (.tuple #[]) ∧ RowW w' q (pdq ltW d a b limit true true) z ∧ Ch [q] w w' := by
  intro G
  induction G with
  | zero => intro _ _ _ _ _ _ _ _ _ h; exact absurd h (Nat.not_lt_zero _)
  | succ G ih =>
    intro q cap a b limit n d z w hG hq hab hb hn hs hlimit hBel0
    have IH := Lib.hid ih
    have HB0 := Lib.hid hBel0
    have HQ := Lib.hid hq
    have HN := Lib.hid hn
    obtain ⟨R, hR⟩ : ∃ R, pdq ltW d a b limit true true = R := ⟨_, rfl⟩
    rw [hR]
    have HR := Lib.hid hR
    clear ih hBel0 hR hq hn
    go_enter Tryz.func55, Tryz.ntmps55
    go_wp2
    go_loopg [1, 2, 3, 8, 9] (b - a) (fun k s1 s2 s3 s8 s9 wr => ∃ (a' b' lim : Nat) (wb wp : Bool) (dk : Array (BitVec 64)), s1 = I a' ∧ s2 = I b' ∧ s3 = I lim ∧ s8 = .bool wb ∧ s9 = .bool wp ∧
      a' ≤ b' ∧ b' ≤ n ∧ b' - a' ≤ k ∧ k ≤ b - a ∧ lim ≤ limit ∧ dk.size = n ∧ Hid (Below ltW a' b' dk) ∧ Hid (RowW wr q dk z) ∧ Ch [q] w wr ∧ Hid (pdq ltW dk a' b' lim wb wp = R))
    case atStart => exact ⟨a, b, limit, true, true, d, rfl, rfl, rfl, rfl, rfl, hab, hb, Nat.le_refl _, Nat.le_refl _, Nat.le_refl _, HN.out, HB0, HQ, Ch.refl _ _, HR⟩
    case round =>
      obtain ⟨a', b', lim, wb, wp, dk, hv1, hv2, hv3, hv4, hv5, hab', hb', hk, hkN, hlim, hds, HBel, HRW, hC, A⟩ := hrel
      subst hv1 hv2 hv3 hv4 hv5
      clear HB0 HQ HN HR
      rcases (show b' - a' ≤ 12 ∨ ¬ b' - a' ≤ 12 by omega) with h12 | h12
      · have h12z : (b' : Int) - (a' : Int) ≤ 12 := by omega
        have hc := insert_any q cap a' b' dk z wr hab' (by omega) (by omega) HRW.out
        rw [hds] at hc
        go_wp2_with fail
        refine hc.mono ?_
        rintro e w1 ⟨rfl, hw1, hc1⟩
        clear hc
        go_wp2
        (try simp only [Exit.inBlock, Exit.then]); refine bodyPost_ret (results_none rfl _ _ _) rfl ?_
        exact ⟨rfl, by rw [← A.out, pdq_small h12]; exact hw1, hC.trans hc1⟩
      · have h12z : ¬ ((b' : Int) - (a' : Int) ≤ 12) := by omega
        rcases (show lim = 0 ∨ ¬ lim = 0 by omega) with hl0 | hl0
        · subst hl0
          have hc := heap_any q cap a' b' dk z wr hab' (by omega) (by omega) HRW.out
          rw [hds] at hc
          go_wp2_with fail
          refine hc.mono ?_
          rintro e w1 ⟨rfl, hw1, hc1⟩
          clear hc
          go_wp2
          (try simp only [Exit.inBlock, Exit.then]); refine bodyPost_ret (results_none rfl _ _ _) rfl ?_
          exact ⟨rfl, by rw [← A.out, pdq_heap h12 rfl]; exact hw1, hC.trans hc1⟩
        · have hl0z : ¬ ((lim : Int) = 0) := by omega
          obtain ⟨z1, B1, hc1, z2, B2, hpv, z3, B3⟩ := rd_facts (limit := lim) (wb := wb) (wp := wp) swoW partialInsertionSort_holds reverseRange_holds (show a' < b' by omega) (show b' ≤ dk.size by omega) HBel.out
          have HD := Lib.hid (fun (h : (rd ltW dk a' b' lim wb wp).pi.2 = true) => (pdq_done h12 hl0 h).symm.trans A.out)
          have HE := Lib.hid (fun h1 h2 h3 => (pdq_eq (lt := ltW) (d := dk) (wb := wb) (wp := wp) h12 hl0 h1 h2 h3).symm.trans A.out)
          have HL := Lib.hid (fun h1 h2 h3 h4 => (pdq_left (lt := ltW) (d := dk) (wb := wb) (wp := wp) h12 hl0 h1 h2 h3 h4).symm.trans A.out)
          have HRt := Lib.hid (fun h1 h2 h3 h4 => (pdq_right (lt := ltW) (d := dk) (wb := wb) (wp := wp) h12 hl0 h1 h2 h3 h4).symm.trans A.out)
          have HF1 := Lib.hid (fun (h : wb = false) => (show (rd ltW dk a' b' lim wb wp).d1 = breakPatterns dk a' b' ∧ (rd ltW dk a' b' lim wb wp).lim = lim - 1 by rw [h]; exact rd_false))
          have HF2 := Lib.hid (fun (h : wb = true) => (show (rd ltW dk a' b' lim wb wp).d1 = dk ∧ (rd ltW dk a' b' lim wb wp).lim = lim by rw [h]; exact rd_true))
          have HF3 := Lib.hid (show (rd ltW dk a' b' lim wb wp).c = choosePivot ltW (rd ltW dk a' b' lim wb wp).d1 a' b' from rfl)
          have HF4 := Lib.hid (fun h => rd_dec (lt := ltW) (d := dk) (a := a') (b := b') (limit := lim) (wb := wb) (wp := wp) h)
          have HF5 := Lib.hid (fun h => rd_not (lt := ltW) (d := dk) (a := a') (b := b') (limit := lim) (wb := wb) (wp := wp) h)
          have HF6 := Lib.hid (fun h => rd_pi_yes (lt := ltW) (d := dk) (a := a') (b := b') (limit := lim) (wb := wb) (wp := wp) h)
          have HF7 := Lib.hid (fun h => rd_pi_no (lt := ltW) (d := dk) (a := a') (b := b') (limit := lim) (wb := wb) (wp := wp) h)
          have hll : (rd ltW dk a' b' lim wb wp).lim ≤ lim := rd_lim_le
          clear A
          obtain ⟨r, hr⟩ : ∃ r, rd ltW dk a' b' lim wb wp = r := ⟨_, rfl⟩
          rw [hr] at z1 B1 hc1 z2 B2 hpv z3 B3 HD HE HL HRt HF1 HF2 HF3 HF4 HF5 HF6 HF7 hll
          have z1' := z1.trans hds
          have z2' := z2.trans hds
          have z3' := z3.trans hds
          have HB3 := Lib.hid B3
          clear hr B1 B2 B3 z1 z2 z3
          go_upto_if 35 with fail
          go_cut [3] from 19 (fun s3 wc => s3 = I r.lim ∧ Hid (RowW wc q r.d1 z) ∧ Ch [q] w wc)
          case first =>
            rcases (show wb = false ∨ wb = true by cases wb <;> simp) with hwb | hwb
            · obtain ⟨f1, f2⟩ := HF1.out hwb
              have hc := break_any q cap a' b' n dk hds z wr hab' hb' hs HRW.out
              rw [← f1] at hc
              subst hwb
              obtain ⟨lm, hlm⟩ : ∃ x, lim - 1 = x := ⟨_, rfl⟩
              have F2 := Lib.hid (f2.trans hlm)
              have e2 : (lim : Int) - 1 = lm := by omega
              clear f1 f2 hlm
              go_wp2_with fail
              refine hc.mono ?_
              rintro e w1 ⟨rfl, hw1, hc1'⟩
              clear hc
              have HW1 := Lib.hid hw1
              clear hw1
              go_wp2
              go_meet
              case rel => exact ⟨by rw [F2.out], HW1, hC.trans hc1'⟩
            · obtain ⟨f1, f2⟩ := HF2.out hwb
              subst hwb
              rw [← f1] at HRW
              have F2 := Lib.hid f2
              clear f1 f2
              go_wp2_with fail
              go_meet
              case rel => exact ⟨by rw [F2.out], HRW, hC⟩
          case rest =>
            obtain ⟨rfl, HR1, hC1⟩ := hcut
            clear HRW hC
            have hc17 := pivot_any q cap a' b' n r.d1 z1' z wc (by omega) hb' hs HR1.out
            rw [← HF3.out] at hc17
            obtain ⟨pv, hpvv⟩ : ∃ x, r.c.1 = x := ⟨_, rfl⟩
            obtain ⟨hi, hhi⟩ : ∃ x, r.c.2 = x := ⟨_, rfl⟩
            rw [hpvv] at hc17 hc1
            rw [hhi] at hc17
            go_upto_if 50 with (go_at_call 73; refine hc17.mono ?_; rintro e w2 ⟨rfl, hw2⟩)
            have HR2 := Lib.hid (HR1.out.ch hw2 (by simp))
            have hC2 := hC1.trans2 hw2 (by simp)
            clear hc17 HR1 hC1 hw2
            go_cut [11, 12] from 19 (fun s11 s12 wc => s11 = I r.pivot ∧ s12 = I (hintN r.hint) ∧ Hid (RowW wc q r.d2 z) ∧ Ch [q] w wc)
            case first =>
              by_cases hh : hi = .decreasing
              · have hcode : hintN hi = 2 := by rw [hh]; rfl
                obtain ⟨f2, epv, eht⟩ := HF4.out (hhi.trans hh)
                have hc18 := rev_any q cap a' b' n r.d1 z1' z w2 (by omega) hb' hs HR2.out
                rw [← f2] at hc18
                rw [hpvv] at epv
                obtain ⟨p2, hp2⟩ : ∃ x, b' - 1 - (pv - a') = x := ⟨_, rfl⟩
                rw [hp2] at epv
                have F2 := Lib.hid epv
                have F3 := Lib.hid eht
                have e2 : (b' : Int) - 1 - ((pv : Int) - a') = p2 := by omega
                clear f2 epv eht hp2
                go_wp2_with fail
                refine hc18.mono ?_
                rintro e w3 ⟨rfl, hw3, hc3⟩
                have HW3 := Lib.hid hw3
                clear hw3 hc18
                go_wp2
                go_meet
                case rel => exact ⟨by rw [F2.out], by rw [F3.out]; rfl, HW3, hC2.trans hc3⟩
              · have hcode : ¬ (hintN hi = 2) := fun h => hh (hintN_two h)
                obtain ⟨f2, epv, eht⟩ := HF5.out (by rw [hhi]; exact hh)
                rw [hpvv] at epv
                rw [hhi] at eht
                have F2 := Lib.hid epv
                have F3 := Lib.hid eht
                rw [← f2] at HR2
                clear epv eht f2
                go_wp2_with fail
                go_meet
                case rel => exact ⟨by rw [F2.out], by rw [F3.out], HR2, hC2⟩
            case rest =>
              obtain ⟨rfl, rfl, HR3, hC3⟩ := hcut
              clear HR2 hC2 hhi hpvv hc1
              go_upto_region 15 with fail
              go_cut [12, 68] from 19 (fun s12 s68 wx => s12 = I (hintN r.hint) ∧ s68 = .bool (wb && wp && decide (r.hint = .increasing)) ∧ wx = wc)
              case first =>
                rcases (show (r.hint = .increasing ∧ hintN r.hint = 1) ∨ (¬ r.hint = .increasing ∧ ¬ hintN r.hint = 1) by cases h : r.hint <;> simp [hintN]) with ⟨hh1, hh2⟩ | ⟨hh1, hh2⟩
                · have hdd := Lib.hid (decide_eq_true hh1)
                  have H2 := Lib.hid hh2
                  clear hh1
                  cases wb <;> cases wp <;>
                    (go_wp2_with fail
                     go_meet
                     first | exact ⟨rfl, by rw [hdd.out]; rfl, rfl⟩ | exact ⟨by rw [H2.out], by rw [hdd.out]; rfl, rfl⟩)
                · have hdd := Lib.hid (decide_eq_false hh1)
                  have H3 := Lib.hid (show (hintN r.hint == 1) = false by simpa using hh2)
                  clear hh1
                  cases wb <;> cases wp <;>
                    (go_wp2_with fail
                     go_meet
                     exact ⟨rfl, by rw [hdd.out]; first | rfl | (rw [H3.out]; rfl), rfl⟩)
              case rest =>
                obtain ⟨rfl, rfl, rfl⟩ := hcut
                go_upto_if 68 with fail
                go_cut [] from 19 (fun wx => r.pi.2 = false ∧ Hid (RowW wx q r.pi.1 z) ∧ Ch [q] w wx)
                case first =>
                  obtain ⟨g, hg⟩ : ∃ g, (wb && wp && decide (r.hint = .increasing)) = g := ⟨_, rfl⟩
                  rw [hg]
                  cases g with
                  | false =>
                    have epi := HF7.out hg
                    clear hg
                    go_wp2_with fail
                    go_meet
                    case rel => exact ⟨by rw [epi], by rw [epi]; exact HR3, hC3⟩
                  | true =>
                    have epi := HF6.out hg
                    clear hg
                    have hc19 := pins_any q cap a' b' n r.d2 z2' z wc (by omega) hb' hs HR3.out
                    rw [← epi] at hc19
                    clear epi
                    obtain ⟨pp, hpp⟩ : ∃ x, r.pi = x := ⟨_, rfl⟩
                    rw [hpp] at hc19 HD
                    have HPP := Lib.hid hpp
                    clear hpp
                    obtain ⟨d3, g3⟩ := pp
                    dsimp only at *
                    cases g3 with
                    | false =>
                      go_wp2_with fail
                      refine hc19.mono ?_
                      rintro e w4 ⟨rfl, hw4, hc4⟩
                      have HW4 := Lib.hid hw4
                      clear hw4 hc19
                      go_wp2
                      go_meet
                      case rel => exact ⟨by rw [HPP.out], by rw [HPP.out]; exact HW4, hC3.trans hc4⟩
                    | true =>
                      go_wp2_with fail
                      refine hc19.mono ?_
                      rintro e w4 ⟨rfl, hw4, hc4⟩
                      have HW4 := Lib.hid hw4
                      clear hw4 hc19
                      go_wp2
                      (try simp only [Exit.inBlock, Exit.then]); refine bodyPost_ret (results_none rfl _ _ _) rfl ?_
                      exact ⟨rfl, by rw [← HD.out (by first | rfl | trivial)]; exact HW4.out, hC3.trans hc4⟩
                case rest =>
                  obtain ⟨hp2, HR5, hC5⟩ := hcut
                  clear HR3 hC3 HD HF1 HF2 HF3 HF4 HF5 HF6 HF7
                  obtain ⟨d3, hd3⟩ : ∃ x, r.pi.1 = x := ⟨_, rfl⟩
                  obtain ⟨p, hp⟩ : ∃ x, r.pivot = x := ⟨_, rfl⟩
                  obtain ⟨l1, hl1⟩ : ∃ x, r.lim = x := ⟨_, rfl⟩
                  obtain ⟨ht, hht⟩ : ∃ x, hintN r.hint = x := ⟨_, rfl⟩
                  rw [hd3] at HR5 z3' HB3 HE HL HRt
                  rw [hp] at hpv HE HL HRt ⊢
                  rw [hl1] at HE HL HRt hll ⊢
                  rw [hht]
                  have HE' := Lib.hid (fun h2 h3 => HE.out hp2 h2 h3)
                  have HL' := Lib.hid (fun h2 h3 h4 => HL.out hp2 h2 h3 h4)
                  have HRt' := Lib.hid (fun h2 h3 h4 => HRt.out hp2 h2 h3 h4)
                  clear HE HL HRt hp2 hd3 hp hl1 hht
                  obtain ⟨T, hT⟩ : ∃ t, (decide (a' > 0) && !ltW d3[a' - 1]! d3[p]!) = t := ⟨_, rfl⟩
                  rw [hT] at HE' HL' HRt'
                  go_upto_region 17 with fail
                  go_cut [87] from 19 (fun s87 wx => s87 = .bool T ∧ Hid (RowW wx q d3 z) ∧ Ch [q] w wx)
                  case first =>
                    have L0 := fun w => less_same 0#64 0#64 w
                    rcases (show a' = 0 ∨ 0 < a' by omega) with ha0 | ha0
                    · have hTT : T = false := by rw [← hT]; simp [ha0]
                      have HTT := Lib.hid hTT
                      clear hTT hT
                      have ha0z : decide ((a' : Int) > 0) = false := decide_eq_false (by omega)
                      go_quiet (first | (go_at_call 76; refine Calls.quiet_of_same (L0 _)))
                      go_wp2_with fail
                      go_meet
                      case rel => exact ⟨by rw [HTT.out], Lib.hid HR5.out, hC5.drewN _⟩
                    · have ha0z : (0 : Int) < a' := by omega
                      obtain ⟨am, ham⟩ : ∃ x, a' - 1 = x := ⟨_, rfl⟩
                      have eam : (a' : Int) - 1 = am := by omega
                      have cA := dcells_get d3 z am (by omega)
                      have cB := dcells_get d3 z p (by omega)
                      rw [ham] at hT
                      obtain ⟨X, hX⟩ : ∃ x, d3[am]! = x := ⟨_, rfl⟩
                      obtain ⟨Y, hY⟩ : ∃ x, d3[p]! = x := ⟨_, rfl⟩
                      rw [hX] at cA hT
                      rw [hY] at cB hT
                      have L := fun w => less_same X Y w
                      obtain ⟨bb, hbb⟩ : ∃ bb, ltW X Y = bb := ⟨_, rfl⟩
                      rw [hbb] at L hT
                      have hTT : T = !bb := by rw [← hT, decide_eq_true ha0]; rfl
                      have HTT := Lib.hid hTT
                      have hrow2 : wc.heap[q]? = some (.cells (dcells d3 z) 22 (0, 0)) := HR5.out
                      have k1 : (am : Int) < n := by omega
                      have k2 : (p : Int) < n := by omega
                      have k3 : (0 : Int) ≤ am := by omega
                      have k4 : (0 : Int) ≤ p := by omega
                      clear hTT hT ham hX hY hbb L0
                      go_quiet (first | (go_at_call 76; refine Calls.quiet_of_same (L _)))
                      go_wp2_with fail
                      go_meet
                      case rel => exact ⟨by rw [HTT.out], Lib.hid HR5.out, hC5.drewN _⟩
                  case rest =>
                    obtain ⟨rfl, HR6, hC6⟩ := hcut
                    clear HR5 hC5
                    cases T with
                    | true =>
                      have h87 := hT
                      simp only [Bool.and_eq_true, decide_eq_true_eq, Bool.not_eq_true'] at h87
                      obtain ⟨md, d4, hx⟩ : ∃ md d4, partitionEqual ltW d3 a' b' p = (md, d4) := ⟨_, _, rfl⟩
                      obtain ⟨r1, r2, r3, r4, _⟩ := round_eq swoW (partitionEqual_holds ltW) h87.1 hpv.1 hpv.2 (show b' ≤ d3.size by omega) HB3.out h87.2 hx
                      have hc21 := partEq_any q cap a' b' p n d3 z3' z wc (by omega) hb' (by omega) hs HR6.out
                      rw [hx] at hc21 HE'
                      dsimp only at hc21 HE'
                      have HE2 := Lib.hid (HE'.out rfl ⟨r1, r2⟩)
                      have z4 := r3.trans z3'
                      have HB4 := Lib.hid r4
                      clear hx hT h87 HE' HL' HRt' HB3 r3 r4
                      go_wp2_with fail
                      refine hc21.mono ?_
                      rintro e w7 ⟨rfl, hw7, hc7⟩
                      have HW7 := Lib.hid hw7
                      have hC7 := hC6.trans hc7
                      clear hc21 hw7 hc7 HR6 hC6
                      go_wp2
                      go_roundg (b' - md)
                      case measure => omega
                      case rel => exact ⟨md, b', l1, wb, wp, d4, rfl, rfl, rfl, rfl, rfl, r2, hb', Nat.le_refl _, by omega, by omega, z4, HB4, HW7, hC7, HE2⟩
                    | false =>
                      obtain ⟨md, ap, d4, hx⟩ : ∃ md ap d4, partition ltW d3 a' b' p = (md, ap, d4) := ⟨_, _, _, rfl⟩
                      obtain ⟨r1, r2, r3, r4, r5, r6, r7⟩ := round_part swoW (partition_holds ltW) hpv.1 hpv.2 (show b' ≤ d3.size by omega) HB3.out hx
                      have hc22 := part_any q cap a' b' p n d3 z3' z wc (by omega) hb' (by omega) hs HR6.out
                      rw [hx] at hc22 HL' HRt'
                      dsimp only at hc22 HL' HRt'
                      have z4 := r3.trans z3'
                      have HLf := Lib.hid (fun h4 => HL'.out rfl ⟨r1, r2⟩ h4)
                      have HRf := Lib.hid (fun h4 => HRt'.out rfl ⟨r1, r2⟩ h4)
                      have H4 := Lib.hid r4
                      have H5 := Lib.hid r5
                      have H6 := Lib.hid r6
                      have H7 := Lib.hid r7
                      clear hx hT HE' HL' HRt' HB3 r3 r4 r5 r6 r7
                      go_upto_if 113 with (go_at_call 78; refine hc22.mono ?_; rintro e w7 ⟨rfl, hw7, hc7⟩)
                      have HW7 := Lib.hid hw7
                      have hC7 := hC6.trans hc7
                      clear hc22 hw7 hc7 HR6 hC6
                      rcases (show md - a' < b' - md ∨ ¬ md - a' < b' - md by omega) with h4 | h4
                      · have h4z : (md : Int) - (a' : Int) < (b' : Int) - (md : Int) := by omega
                        have hih := IH.out q cap a' md l1 n d4 z w7 (by omega) HW7.out r1 (by omega) z4 hs (by omega) H4.out
                        obtain ⟨pL, sL⟩ := pdq_sorts ltW swoW d4 a' md l1 true true r1 (by omega) H4.out
                        have HE2 := Lib.hid (HLf.out h4)
                        have HB5 := Lib.hid (H6.out _ pL sL).1
                        have z5 := pL.1.trans z4
                        clear pL sL
                        obtain ⟨d5, hd5⟩ : ∃ x, pdq ltW d4 a' md l1 true true = x := ⟨_, rfl⟩
                        rw [hd5] at hih HE2 HB5 z5
                        clear hd5 HLf HRf H4 H5 H6 H7
                        go_wp2_with fail
                        refine hih.mono ?_
                        rintro e w8 ⟨rfl, hw8, hc8⟩
                        have HW8 := Lib.hid hw8
                        have hC8 := hC7.trans hc8
                        clear hih hw8 hc8 HW7 hC7
                        go_wp2
                        go_roundg (b' - (md + 1))
                        case measure => omega
                        case rel =>
                          refine ⟨md + 1, b', l1, decide (md - a' ≥ (b' - a') / 8), ap, d5, by simp, rfl, rfl, ?_, rfl, by omega, by omega, Nat.le_refl _, by omega, by omega, z5, HB5, HW8, hC8, HE2⟩
                          exact congrArg Value.bool (eighthW (by omega) (by omega))
                      · have h4z : ¬ ((md : Int) - (a' : Int) < (b' : Int) - (md : Int)) := by omega
                        have hih := IH.out q cap (md + 1) b' l1 n d4 z w7 (by omega) HW7.out (by omega) hb' z4 hs (by omega) H5.out
                        obtain ⟨pL, sL⟩ := pdq_sorts ltW swoW d4 (md + 1) b' l1 true true (by omega) (by omega) H5.out
                        have HE2 := Lib.hid (HRf.out h4)
                        have HB5 := Lib.hid (H7.out _ pL sL).1
                        have z5 := pL.1.trans z4
                        clear pL sL
                        obtain ⟨d5, hd5⟩ : ∃ x, pdq ltW d4 (md + 1) b' l1 true true = x := ⟨_, rfl⟩
                        rw [hd5] at hih HE2 HB5 z5
                        clear hd5 HLf HRf H4 H5 H6 H7
                        go_wp2_with fail
                        refine hih.mono ?_
                        rintro e w8 ⟨rfl, hw8, hc8⟩
                        have HW8 := Lib.hid hw8
                        have hC8 := hC7.trans hc8
                        clear hih hw8 hc8 HW7 hC7
                        go_wp2
                        go_roundg (md - a')
                        case measure => omega
                        case rel =>
                          refine ⟨a', md, l1, decide (b' - md ≥ (b' - a') / 8), ap, d5, rfl, rfl, rfl, ?_, rfl, by omega, by omega, Nat.le_refl _, by omega, by omega, z5, HB5, HW8, hC8, HE2⟩
                          exact congrArg Value.bool (eighthW (by omega) (by omega))
end Go.Proofs.Hc
