/- slices.breakPatternsOrdered at words. -/
import Derived.Test.YtfoicjijngfhbaaGreatDoorKBu
import Derived.Test.YtfoicjijngfhbaaGreatDoorKDa
import Derived.Test.YtfoicjijngfhbaaGreatDoorKDb
import Derived.Test.YtfoicjijngfhbaaGreatDoorKDd
import Derived.Test.YtfoicjijngfhbaaGreatDoorKDf
import Derived.Test.YtfoicjijngfhbaaGreatDoorKDi
import Derived.Test.YtfoicjijngfhbaaGreatDoorKHm
import Derived.Test.YtfoicjijngfhbaaGreatDoorKHr
import Derived.Below
import Derived.BigQuiet
import Derived.Deep.Cut
import Derived.Deep.Draws
import Derived.Deep.QuietTactic
import Derived.Deep.RegionHeld
import Derived.Laws.Bits64
import Derived.Laws.Bits64b
import Derived.Laws.CopyRow
import Derived.Laws.Tables
import Derived.Lib.BitFns
import Derived.Lib.Hide
import Derived.Lib.Slices
import Derived.Lib.Small
import Derived.Lib.Strings
import Derived.Lib.Walk
import Derived.LoopIn
import Derived.LoopNIn
import Derived.OwnWalkIn
import Derived.RangeFuncCalls
import Derived.RangeFuncRecord
import Derived.RangeFuncSeq
import Derived.Recover
import Derived.Sort.Defs
import Derived.Sort.LotD1
import Derived.Sort.LotD5
import Derived.Sort.LotD6
import Derived.TacticsInMore
import Derived.Test.YtfoicjijngfhbaaGreatDoorProg
import Derived.WalkKit
import Derived.WalkLawsBesides
set_option linter.unusedSimpArgs false
set_option linter.unusedVariables false
namespace Go.Proofs.Hc
open Go.RowKit
set_option linter.unusedVariables false
set_option linter.unusedSimpArgs false
attribute [local go_sem] wrap_u64 wrap_u8 bits_xor64 bits_and64 bits_or64 bits_not64 bits_xor8 bits_and8 bits_or8 signed64 signed8 ofInt_N BitVec.ofInt_add BitVec.ofInt_mul ofInt_sub' ofInt8_N64 ofInt64_N8 wide8 eqN neN shr_pow shr1 shr7 shr56
attribute [local go_sem high] bits_com64 shl_wrap
attribute [local go_sem] nn2 nm2 nn3 nm3 nn4 nm4 nn5 nm5 nn6 nm6 nn7 nm7 nn8 nm8
attribute [local go_sem] Oper.semAt_some make_func1
attribute [local go_sem] cell_heap ice_heap cellAt_cells iceAt_cells setAt_cells size_setCell rowAt_cells canLay_cells laidAt_cells size_onObj rowRes_some layRes_true
attribute [local go_sem ↓] heap_alloc heap_drew heap_drewN heap_setCell heap_putObj heap_onObj
/-- What t rounds make. -/
def bpS (a L M i0 : Nat) (d : Array (BitVec 64)) : Nat → UInt64 × Array (BitVec 64)
  | 0 => (UInt64.ofNat L, d)
  | t + 1 => Go.Sort.breakStep a L M (bpS a L M i0 d t) (i0 + t)
theorem bp_is (a b L : Nat) (d : Array (BitVec 64)) (hL : b - a = L) (h8 : 8 ≤ L) : Go.Sort.breakPatterns d a b = (bpS a L (1 <<< Go.Sort.bitsLen L) (a + L / 4 * 2 - 1) d 3).2 := by
  unfold Go.Sort.breakPatterns
  dsimp only
  rw [hL, if_pos h8]
  rfl
theorem bp_not (a b L : Nat) (d : Array (BitVec 64)) (hL : b - a = L) (h8 : ¬ 8 ≤ L) : Go.Sort.breakPatterns d a b = d := by
  unfold Go.Sort.breakPatterns
  dsimp only
  rw [hL, if_neg h8]
theorem bp_step (a L M i0 t : Nat) (d dk : Array (BitVec 64)) (r : BitVec 64) (o : Nat) (h : bpS a L M i0 d t = (⟨r⟩, dk)) (ho : (if (xorB r).toNat &&& (M - 1) ≥ L then ((xorB r).toNat &&& (M - 1)) - L else (xorB r).toNat &&& (M - 1)) = o) :
    bpS a L M i0 d (t + 1) = (⟨xorB r⟩, Go.Sort.swp dk (i0 + t) (a + o)) := by
  show Go.Sort.breakStep a L M (bpS a L M i0 d t) (i0 + t) = _
  rw [h]
  subst ho
  rfl
set_option maxHeartbeats 4000000 in
set_option maxRecDepth 100000 in
theorem break_any (q cap a b n : Nat) (d : Array (BitVec 64)) (hn : d.size = n) (z : Array Value) (w : World) (hab : a ≤ b) (hb : b ≤ n) (hs : n < 1152921504606846976) (hq : RowW w q d z) :
    Calls Tryz.prog 72 #[.slice (some ⟨q, 0, none⟩) n cap, I a, I b] w fun e w' => e = .returned (.tuple #[]) ∧ RowW w' q (Go.Sort.breakPatterns d a b) z ∧ Ch [q] w w' := by
  obtain ⟨L, hL⟩ : ∃ l, b - a = l := ⟨_, rfl⟩
  have e1 : (b : Int) - (a : Int) = L := by omega
  rcases (show ¬ 8 ≤ L ∨ 8 ≤ L by omega) with h8 | h8
  · rw [bp_not a b L d hL h8]
    have h8i : ¬ (8 : Int) ≤ L := by omega
    have HQ := Lib.hid hq
    clear hq
    go_enter Tryz.func72, Tryz.ntmps72
    go_wp2
    go_end0
    exact ⟨rfl, HQ.out, Ch.refl _ _⟩
  · rw [bp_is a b L d hL h8]
    have hNP := fun w => npow_any L (by omega) w
    obtain ⟨M, hM⟩ : ∃ M : Nat, 1 <<< Go.Sort.bitsLen L = M := ⟨_, rfl⟩
    have hM1 : 1 ≤ M := by rw [← hM, Nat.one_shiftLeft]; exact Nat.two_pow_pos _
    have hM2 : M ≤ 2 * L := by rw [← hM, Nat.one_shiftLeft]; exact Go.Sort.two_pow_bitsLen_le (by omega)
    rw [hM] at hNP ⊢
    obtain ⟨i0, hi0⟩ : ∃ i, a + L / 4 * 2 - 1 = i := ⟨_, rfl⟩
    rw [hi0]
    obtain ⟨k, hk⟩ : ∃ k, L / 4 = k := ⟨_, rfl⟩
    have e2 : (L : Int).tdiv 4 = k := by rw [Int.tdiv_eq_ediv_of_nonneg (by omega)]; omega
    have e3 : (a : Int) + (k : Int) * 2 = (i0 : Int) + 1 := by omega
    have bi : i0 + 2 < n ∧ a ≤ i0 := by omega
    have h8i : (8 : Int) ≤ L := by omega
    have hMM : ((M : Nat) : Int) = N (BitVec.ofNat 64 M) := by
      unfold N
      rw [BitVec.toNat_ofNat, Nat.mod_eq_of_lt (by omega)]
    rw [hMM] at hNP
    obtain ⟨mB, hmB⟩ : ∃ m, BitVec.ofNat 64 M = m := ⟨_, rfl⟩
    rw [hmB] at hNP
    have hand : ∀ r : BitVec 64, N (r &&& (mB - 1#64)) = ((r.toNat &&& (M - 1) : Nat) : Int) := by
      intro r
      have h1 : (mB - 1#64).toNat = M - 1 := by
        rw [← hmB, BitVec.toNat_sub]
        simp only [BitVec.toNat_ofNat]
        omega
      unfold N
      rw [BitVec.toNat_and, h1]
    obtain ⟨g, hg⟩ : ∃ g, w.heap.size = g := ⟨_, rfl⟩
    have hqlt : q < g := by rw [← hg]; exact (Array.getElem?_eq_some_iff.1 hq).1
    have hqg : ¬ q = g := by omega
    have hgq : ¬ g = q := by omega
    have HOUT : ∀ w', Ch [q, g] w w' → Ch [q] w w' := fun w' h => ⟨h.os, h.tape, h.output, h.size, fun k hk hm => h.block k hk (by
      intro hx
      rcases List.mem_cons.1 hx with hx | hx
      · exact hm (List.mem_singleton.2 hx)
      · have := List.mem_singleton.1 hx
        omega)⟩
    have hqs : q ∉ [g] := by simpa using hqg
    have hc1 : Ch [q, g] w (w.alloc (.cells #[U (BitVec.ofNat 64 L)] 110)) := (Ch.refl _ _).alloc _
    have hq1 : RowW (w.alloc (.cells #[U (BitVec.ofNat 64 L)] 110)) q d z := hq.ch (S := [g]) ((Ch.refl _ _).alloc _) hqs
    have hg1 : (w.alloc (.cells #[U (BitVec.ofNat 64 L)] 110)).heap[g]? = some (.cells #[U (BitVec.ofNat 64 L)] 110 (0, 0)) := by
      rw [← hg]
      exact World.alloc_heap_new w _
    obtain ⟨w1, hw1⟩ : ∃ w1, w.alloc (.cells #[U (BitVec.ofNat 64 L)] 110) = w1 := ⟨_, rfl⟩
    rw [hw1] at hc1 hq1 hg1
    have HN := Lib.hid hn
    have HQ := Lib.hid hq1
    have HG := Lib.hid hg1
    have HAND := Lib.hid hand
    have HB0 : RowKit.Hid (bpS a L M i0 d 0 = (⟨BitVec.ofNat 64 L⟩, d)) := Lib.hid rfl
    clear hq hn hq1 hand hM hmB hMM hk hi0 hg1
    go_enter Tryz.func72, Tryz.ntmps72
    go_wp2_with fail
    refine (hNP _).mono ?_
    rintro e w' ⟨rfl, rfl⟩
    clear hNP
    go_wp2
    go_loopw [9] (fun vi wr => ∃ (t : Nat) (r : BitVec 64) (dk : Array (BitVec 64)), vi = I ((i0 + t : Nat) : Int) ∧ t ≤ 3 ∧ dk.size = n ∧ RowW wr q dk z ∧ wr.heap[g]? = some (.cells #[U r] 110 (0, 0)) ∧ bpS a L M i0 d t = (⟨r⟩, dk) ∧ Ch [q, g] w wr) (fun vi _ => i0 + 3 - (intOf vi).toNat)
    case atStart => exact ⟨0, BitVec.ofNat 64 L, d, by first | rfl | (congr 1; omega), by omega, HN.out, HQ.out, HG.out, HB0.out, hc1⟩
    case round =>
      obtain ⟨t, r, dk, hv, ht, hdk, hrow, hgr, hbp, hC⟩ := hrel
      clear HN HQ HG HB0 hc1
      obtain ⟨p, hp⟩ : ∃ p, i0 + t = p := ⟨_, rfl⟩
      rw [hp] at hv
      subst hv
      have hpi : (p : Int) = i0 + t := by omega
      have HBP := Lib.hid hbp
      clear hbp
      have HPI := Lib.hid hpi
      rcases (show t = 3 ∨ t < 3 by omega) with h3 | h3
      · have hle : ¬ (p : Int) ≤ i0 + 2 := by omega
        have HR := Lib.hid hrow
        have HCO := Lib.hid (HOUT _ hC)
        subst h3
        clear hrow hgr hC HOUT hpi
        go_wp2
        go_end0
        exact ⟨rfl, by rw [HBP.out]; exact HR.out, HCO.out⟩
      · have hle : (p : Int) ≤ i0 + 2 := by omega
        have X1 := xorshift_any g r wr hgr
        obtain ⟨R, hR⟩ : ∃ R, xorB r = R := ⟨_, rfl⟩
        rw [hR] at X1
        have ha := HAND.out R
        have hST := fun o => bp_step a L M i0 t d dk r o HBP.out
        rw [hR] at hST
        obtain ⟨O, hO⟩ : ∃ O : Nat, R.toNat &&& (M - 1) = O := ⟨_, rfl⟩
        rw [hO] at ha hST
        have lO : O ≤ M - 1 := by rw [← hO]; exact Nat.and_le_right
        rw [hp] at hST
        have HST := Lib.hid hST
        clear hST hO hR hgr hp hpi
        have o0 : (0 : Int) ≤ O := by omega
        have o1 : O < 2 * n := by omega
        go_wp2_with fail
        refine X1.mono ?_
        rintro e w2 ⟨rfl, hg2, hc2⟩
        have hr2 : RowW w2 q dk z := hrow.ch hc2 hqs
        have hC2 : Ch [q, g] w w2 := hC.trans (hc2.mono fun s hs => by simp at hs ⊢; exact .inr hs)
        clear X1 hrow hC hc2
        rcases (show L ≤ O ∨ ¬ L ≤ O by omega) with hLO | hLO
        · obtain ⟨o, ho⟩ : ∃ o, O - L = o := ⟨_, rfl⟩
          have o2 : (O : Int) - (L : Int) = o := by omega
          have hLOi : (L : Int) ≤ O := by omega
          have HS2 := Lib.hid (HST.out o (by rw [if_pos hLO]; exact ho))
          have hpi := HPI.out
          obtain ⟨s, hs2⟩ : ∃ s, a + o = s := ⟨_, rfl⟩
          have o3 : (a : Int) + (o : Int) = s := by omega
          rw [hs2] at HS2
          have lp : p < dk.size := by omega
          have ls : s < dk.size := by omega
          have k1 : (p : Int) < n := by omega
          have k2 : (s : Int) < n := by omega
          have k3 : (0 : Int) ≤ p := by omega
          have k4 : (0 : Int) ≤ s := by omega
          have cA := dcells_get dk z p lp
          have cB := dcells_get dk z s ls
          have hsz := (swp_size dk p s).trans hdk
          have HSW := Lib.hid (RowW.swap hr2 p s lp ls)
          have n0 := dcells_same dk z p lp
          obtain ⟨X, hX⟩ : ∃ x, dk[p]! = x := ⟨_, rfl⟩
          obtain ⟨Y, hY⟩ : ∃ x, dk[s]! = x := ⟨_, rfl⟩
          rw [hX] at cA HSW n0
          rw [hY] at cB HSW
          have hrow2 : w2.heap[q]? = some (.cells (dcells dk z) 22 (0, 0)) := hr2
          have HCC : Ch [q, g] w ((w2.setCell ⟨q, p, none⟩ (U Y)).setCell ⟨q, s, none⟩ (U X)).drew := ((hC2.setCell (.inl (by simp)) _).setCell (.inl (by simp)) _).drew
          have HGG : ((w2.setCell ⟨q, p, none⟩ (U Y)).setCell ⟨q, s, none⟩ (U X)).drew.heap[g]? = some (.cells #[U R] 110 (0, 0)) := by rw [heap_drew, heap_setCell, if_neg (by omega), heap_setCell, if_neg (by omega)]; exact hg2
          have HCC2 := Lib.hid HCC
          have HGG2 := Lib.hid HGG
          have HSZ := Lib.hid hsz
          clear hsz hr2 hC2 hg2 HCC HGG hX hY lp ls HST hpi
          have hpi2 : RowKit.Hid ((p : Int) + 1 = ((i0 + (t + 1) : Nat) : Int)) := Lib.hid (by have := HPI.out; omega)
          rcases (show p = s ∨ ¬ p = s by omega) with hps | hps
          · subst hps
            obtain rfl : X = Y := by
              rw [cA] at cB
              exact (N_inj X Y).1 (by simpa using cB)
            go_wp2
            go_region
            all_goals go_wp2
            go_roundw
            case rel => exact ⟨t + 1, R, _, by rw [hpi2.out], by omega, HSZ.out, HSW.out, HGG2.out, HS2.out, HCC2.out⟩
            case measure => simp [intOf]; omega
          · have k5 : ¬ s = p := fun e => hps e.symm
            go_wp2
            go_region
            all_goals go_wp2
            go_roundw
            case rel => exact ⟨t + 1, R, _, by rw [hpi2.out], by omega, HSZ.out, HSW.out, HGG2.out, HS2.out, HCC2.out⟩
            case measure => simp [intOf]; omega
        · obtain ⟨o, ho⟩ : ∃ o, O = o := ⟨_, rfl⟩
          subst ho
          have hLOi : ¬ (L : Int) ≤ O := by omega
          have HS2 := Lib.hid (HST.out O (by rw [if_neg hLO]))
          have hpi := HPI.out
          obtain ⟨s, hs2⟩ : ∃ s, a + O = s := ⟨_, rfl⟩
          have o3 : (a : Int) + (O : Int) = s := by omega
          rw [hs2] at HS2
          have lp : p < dk.size := by omega
          have ls : s < dk.size := by omega
          have k1 : (p : Int) < n := by omega
          have k2 : (s : Int) < n := by omega
          have k3 : (0 : Int) ≤ p := by omega
          have k4 : (0 : Int) ≤ s := by omega
          have cA := dcells_get dk z p lp
          have cB := dcells_get dk z s ls
          have hsz := (swp_size dk p s).trans hdk
          have HSW := Lib.hid (RowW.swap hr2 p s lp ls)
          have n0 := dcells_same dk z p lp
          obtain ⟨X, hX⟩ : ∃ x, dk[p]! = x := ⟨_, rfl⟩
          obtain ⟨Y, hY⟩ : ∃ x, dk[s]! = x := ⟨_, rfl⟩
          rw [hX] at cA HSW n0
          rw [hY] at cB HSW
          have hrow2 : w2.heap[q]? = some (.cells (dcells dk z) 22 (0, 0)) := hr2
          have HCC : Ch [q, g] w ((w2.setCell ⟨q, p, none⟩ (U Y)).setCell ⟨q, s, none⟩ (U X)).drew := ((hC2.setCell (.inl (by simp)) _).setCell (.inl (by simp)) _).drew
          have HGG : ((w2.setCell ⟨q, p, none⟩ (U Y)).setCell ⟨q, s, none⟩ (U X)).drew.heap[g]? = some (.cells #[U R] 110 (0, 0)) := by rw [heap_drew, heap_setCell, if_neg (by omega), heap_setCell, if_neg (by omega)]; exact hg2
          have HCC2 := Lib.hid HCC
          have HGG2 := Lib.hid HGG
          have HSZ := Lib.hid hsz
          clear hsz hr2 hC2 hg2 HCC HGG hX hY lp ls HST hpi
          have hpi2 : RowKit.Hid ((p : Int) + 1 = ((i0 + (t + 1) : Nat) : Int)) := Lib.hid (by have := HPI.out; omega)
          rcases (show p = s ∨ ¬ p = s by omega) with hps | hps
          · subst hps
            obtain rfl : X = Y := by
              rw [cA] at cB
              exact (N_inj X Y).1 (by simpa using cB)
            go_wp2
            go_region
            all_goals go_wp2
            go_roundw
            case rel => exact ⟨t + 1, R, _, by rw [hpi2.out], by omega, HSZ.out, HSW.out, HGG2.out, HS2.out, HCC2.out⟩
            case measure => simp [intOf]; omega
          · have k5 : ¬ s = p := fun e => hps e.symm
            go_wp2
            go_region
            all_goals go_wp2
            go_roundw
            case rel => exact ⟨t + 1, R, _, by rw [hpi2.out], by omega, HSZ.out, HSW.out, HGG2.out, HS2.out, HCC2.out⟩
            case measure => simp [intOf]; omega
end Go.Proofs.Hc
