/- slices.partialInsertionSortOrdered at words (printed by gen_pins.py). -/
import Derived.Test.YtfoicjijngfhbaaGreatDoorKDa
import Derived.Test.YtfoicjijngfhbaaGreatDoorKDb
import Derived.Test.YtfoicjijngfhbaaGreatDoorKDf
import Derived.Test.YtfoicjijngfhbaaGreatDoorKHm
import Derived.Test.YtfoicjijngfhbaaGreatDoorKHr
import Derived.Below
import Derived.BigQuiet
import Derived.Deep.Cut
import Derived.Deep.Draws
import Derived.Deep.QuietTactic
import Derived.Deep.RegionHeld
import Derived.Laws.Bits64
import Derived.Laws.Bits64b
import Derived.Laws.CopyRow
import Derived.Laws.Tables
import Derived.Lib.BitFns
import Derived.Lib.Hide
import Derived.Lib.Slices
import Derived.Lib.Small
import Derived.Lib.Strings
import Derived.Lib.Walk
import Derived.LoopIn
import Derived.LoopNIn
import Derived.OwnWalkIn
import Derived.RangeFuncCalls
import Derived.RangeFuncRecord
import Derived.RangeFuncSeq
import Derived.Recover
import Derived.Sort.Defs
import Derived.Sort.LotD1
import Derived.Sort.LotD5
import Derived.Sort.LotD6
import Derived.TacticsInMore
import Derived.Test.YtfoicjijngfhbaaGreatDoorProg
import Derived.WalkKit
import Derived.WalkLawsBesides
set_option linter.unusedSimpArgs false
set_option linter.unusedVariables false
namespace Go.Proofs.Hc
open Go.RowKit
set_option linter.unusedVariables false
set_option linter.unusedSimpArgs false
attribute [local go_sem] wrap_u64 wrap_u8 bits_xor64 bits_and64 bits_or64 bits_not64 bits_xor8 bits_and8 bits_or8 signed64 signed8 ofInt_N BitVec.ofInt_add BitVec.ofInt_mul ofInt_sub' ofInt8_N64 ofInt64_N8 wide8 eqN neN shr_pow shr1 shr7 shr56
attribute [local go_sem high] bits_com64 shl_wrap
attribute [local go_sem] nn2 nm2 nn3 nm3 nn4 nm4 nn5 nm5 nn6 nm6 nn7 nm7 nn8 nm8
attribute [local go_sem] Oper.semAt_some make_func1
attribute [local go_sem] cell_heap ice_heap cellAt_cells iceAt_cells setAt_cells size_setCell rowAt_cells canLay_cells laidAt_cells size_onObj rowRes_some layRes_true
attribute [local go_sem ↓] heap_alloc heap_drew heap_drewN heap_setCell heap_putObj heap_onObj
theorem scan_go (d : Array (BitVec 64)) (b i : Nat) (h : i < b) (hl : ltW d[i]! d[i - 1]! = false) : Go.Sort.scanSorted ltW d b i = Go.Sort.scanSorted ltW d b (i + 1) := by
  rw [Go.Sort.scanSorted]; simp [h, hl]
theorem scan_end (d : Array (BitVec 64)) (b i : Nat) (h : ¬ i < b) : Go.Sort.scanSorted ltW d b i = i := by
  rw [Go.Sort.scanSorted]; simp [h]
theorem scan_stop (d : Array (BitVec 64)) (b i : Nat) (hl : ltW d[i]! d[i - 1]! = true) : Go.Sort.scanSorted ltW d b i = i := by
  rw [Go.Sort.scanSorted]; simp [hl]
theorem down_go (j : Nat) (d : Array (BitVec 64)) (hj : 1 ≤ j) (hl : ltW d[j]! d[j - 1]! = true) : Go.Sort.shiftDown ltW j d = Go.Sort.shiftDown ltW (j - 1) (Go.Sort.swp d j (j - 1)) := by
  obtain ⟨k, rfl⟩ : ∃ k, j = k + 1 := ⟨j - 1, by omega⟩
  rw [Go.Sort.shiftDown]
  simp only [Nat.add_sub_cancel] at hl ⊢
  simp [hl]
theorem down_stop (j : Nat) (d : Array (BitVec 64)) (hl : ltW d[j]! d[j - 1]! = false) : Go.Sort.shiftDown ltW j d = d := by
  cases j with
  | zero => rfl
  | succ k =>
    rw [Go.Sort.shiftDown]
    simp only [Nat.add_sub_cancel] at hl
    simp [hl]
theorem up_go (b j : Nat) (d : Array (BitVec 64)) (hj : j < b) (hl : ltW d[j]! d[j - 1]! = true) : Go.Sort.shiftUp ltW b j d = Go.Sort.shiftUp ltW b (j + 1) (Go.Sort.swp d j (j - 1)) := by
  rw [Go.Sort.shiftUp]; simp [hj, hl]
theorem up_end (b j : Nat) (d : Array (BitVec 64)) (hj : ¬ j < b) : Go.Sort.shiftUp ltW b j d = d := by
  rw [Go.Sort.shiftUp]; simp [hj]
theorem up_stop (b j : Nat) (d : Array (BitVec 64)) (hl : ltW d[j]! d[j - 1]! = false) : Go.Sort.shiftUp ltW b j d = d := by
  rw [Go.Sort.shiftUp]
  by_cases hj : j < b <;> simp [hj, hl]
theorem pins_succ (a b s i : Nat) (d : Array (BitVec 64)) : Go.Sort.partialIns ltW a b (s + 1) i d =
    (if Go.Sort.scanSorted ltW d b i = b then (d, true) else if b - a < 50 then (d, false) else
      Go.Sort.partialIns ltW a b s (Go.Sort.scanSorted ltW d b i)
        (if b - Go.Sort.scanSorted ltW d b i ≥ 2 then Go.Sort.shiftUp ltW b (Go.Sort.scanSorted ltW d b i + 1) (if Go.Sort.scanSorted ltW d b i - a ≥ 2 then Go.Sort.shiftDown ltW (Go.Sort.scanSorted ltW d b i - 1) (Go.Sort.swp d (Go.Sort.scanSorted ltW d b i) (Go.Sort.scanSorted ltW d b i - 1)) else Go.Sort.swp d (Go.Sort.scanSorted ltW d b i) (Go.Sort.scanSorted ltW d b i - 1))
          else (if Go.Sort.scanSorted ltW d b i - a ≥ 2 then Go.Sort.shiftDown ltW (Go.Sort.scanSorted ltW d b i - 1) (Go.Sort.swp d (Go.Sort.scanSorted ltW d b i) (Go.Sort.scanSorted ltW d b i - 1)) else Go.Sort.swp d (Go.Sort.scanSorted ltW d b i) (Go.Sort.scanSorted ltW d b i - 1)))) := rfl
theorem pins_true (a b s i : Nat) (d : Array (BitVec 64)) (hs : s < 5) (hK : Go.Sort.scanSorted ltW d b i = b) : Go.Sort.partialIns ltW a b (5 - s) i d = (d, true) := by
  rw [show 5 - s = (4 - s) + 1 by omega, pins_succ, if_pos hK]
theorem pins_short (a b s i k : Nat) (d : Array (BitVec 64)) (hs : s < 5) (hK : Go.Sort.scanSorted ltW d b i = k) (hkb : k < b) (h50 : b - a < 50) : Go.Sort.partialIns ltW a b (5 - s) i d = (d, false) := by
  rw [show 5 - s = (4 - s) + 1 by omega, pins_succ, hK, if_neg (by omega), if_pos h50]
theorem pins_go (a b s i k : Nat) (d d2 d3 : Array (BitVec 64)) (hs : s < 5) (hK : Go.Sort.scanSorted ltW d b i = k) (hkb : k < b) (h50 : ¬ b - a < 50)
    (h2 : (if k - a ≥ 2 then Go.Sort.shiftDown ltW (k - 1) (Go.Sort.swp d k (k - 1)) else Go.Sort.swp d k (k - 1)) = d2) (h3 : (if b - k ≥ 2 then Go.Sort.shiftUp ltW b (k + 1) d2 else d2) = d3) :
    Go.Sort.partialIns ltW a b (5 - s) i d = Go.Sort.partialIns ltW a b (5 - (s + 1)) k d3 := by
  rw [show 5 - s = (4 - s) + 1 by omega, pins_succ, hK, if_neg (by omega), if_neg h50, h2, h3, show 5 - (s + 1) = 4 - s by omega]
set_option maxHeartbeats 8000000 in
set_option maxRecDepth 100000 in
theorem pins_any (q cap a b n : Nat) (d : Array (BitVec 64)) (hn : d.size = n) (z : Array Value) (w : World) (hab : a < b) (hb : b ≤ n) (hs : n < 1152921504606846976) (hq : RowW w q d z) :
    Calls Tryz.prog 75 #[.slice (some ⟨q, 0, none⟩) n cap, I a, I b] w fun e w' => e = .returned (.bool (Go.Sort.partialInsertionSort ltW d a b).2) ∧ RowW w' q (Go.Sort.partialInsertionSort ltW d a b).1 z ∧ Ch [q] w w' := by
  unfold Go.Sort.partialInsertionSort
  have HN := Lib.hid hn
  have HQ := Lib.hid hq
  clear hn hq
  obtain ⟨R, hR⟩ : ∃ R, Go.Sort.partialIns ltW a b 5 (a + 1) d = R := ⟨_, rfl⟩
  rw [hR]
  have HR := Lib.hid hR
  clear hR
  go_enter Tryz.func75, Tryz.ntmps75
  go_wp2
  go_loopw [7, 8] (fun vi vs wr => ∃ (i s : Nat) (dk : Array (BitVec 64)), vi = I i ∧ vs = I s ∧ s ≤ 5 ∧ a < i ∧ i ≤ b ∧ dk.size = n ∧ RowW wr q dk z ∧ Go.Sort.partialIns ltW a b (5 - s) i dk = R ∧ Ch [q] w wr) (fun _ vs _ => 5 - (intOf vs).toNat)
  case atStart => exact ⟨a + 1, 0, d, by go_num, rfl, by omega, by omega, by omega, HN.out, HQ.out, HR.out, Ch.refl _ _⟩
  case round =>
    obtain ⟨i, s, dk, hvi, hvs, hs5, hai, hib, hdk, hrow, hO, hC⟩ := hrel
    subst hvi hvs
    have HO := Lib.hid hO
    clear hO HQ HN HR
    rcases (show s = 5 ∨ s < 5 by omega) with h5 | h5
    · subst h5
      have HRW := Lib.hid hrow
      have HE := Lib.hid (show (dk, false) = R from HO.out)
      clear hrow hdk
      go_wp2
      go_ret
      rw [← HE.out]
      exact ⟨rfl, HRW.out, hC⟩
    · have h5i : (s : Int) < 5 := by omega
      have HRW0 := Lib.hid hrow
      have HC0 := Lib.hid hC
      clear hrow hC
      go_wp2
      go_loopw [7] (fun vi wr => ∃ (k : Nat), vi = I k ∧ i ≤ k ∧ k ≤ b ∧ RowW wr q dk z ∧ Go.Sort.scanSorted ltW dk b k = Go.Sort.scanSorted ltW dk b i ∧ Ch [q] w wr) (fun vi _ => b - (intOf vi).toNat)
      case atStart => exact ⟨i, rfl, Nat.le_refl _, hib, HRW0.out, rfl, HC0.out⟩
      case round =>
        obtain ⟨k, hv, hik, hkb, hrow, hS, hC⟩ := hrel
        subst hv
        have HS := Lib.hid hS
        clear hS HRW0 HC0
        rcases (show k = b ∨ k < b by omega) with hkb' | hkb'
        · subst hkb'
          have HE := Lib.hid (pins_true a k s i dk h5 (by rw [← HS.out]; exact scan_end dk k k (by omega)))
          have HRW := Lib.hid hrow
          have HCC := Lib.hid hC
          clear hrow hC hdk
          go_wp2
          try go_quiet (first | (go_at_call 76; refine Calls.quiet_of_same (less_same _ _ _)))
          try go_wp2
          go_ret
          rw [← HO.out, HE.out]
          exact ⟨rfl, HRW.out, HCC.out.drewN _⟩
        · have hkI : (k : Int) < b := by omega
          obtain ⟨m, hmm⟩ : ∃ x, k - 1 = x := ⟨_, rfl⟩
          have em : (k : Int) - 1 = m := by omega
          have cA := dcells_get dk z k (by omega)
          have cB := dcells_get dk z m (by omega)
          have SW := fun wq (h : RowW wq q dk z) => RowW.swap h k m (by omega) (by omega)
          have HSZ := Lib.hid ((swp_size dk k (k - 1)).trans (by assumption))
          obtain ⟨X, hX⟩ : ∃ x, dk[k]! = x := ⟨_, rfl⟩
          obtain ⟨Y, hY⟩ : ∃ x, dk[m]! = x := ⟨_, rfl⟩
          rw [hX] at cA SW
          rw [hY] at cB SW
          have L := fun w => less_same X Y w
          obtain ⟨bb, hbb⟩ : ∃ bb, ltW X Y = bb := ⟨_, rfl⟩
          rw [hbb] at L
          have HBB := Lib.hid (show ltW dk[k]! dk[k - 1]! = bb by rw [hmm, hX, hY]; exact hbb)
          rw [← hmm] at SW
          obtain ⟨Dm, hDm⟩ : ∃ x, Go.Sort.swp dk k (k - 1) = x := ⟨_, rfl⟩
          rw [hDm] at SW HSZ
          rw [hmm] at SW
          have HSW := Lib.hid SW
          have HDm := Lib.hid hDm
          have HMm := Lib.hid hmm
          have hrow2 : wr.heap[q]? = some (.cells (dcells dk z) 22 (0, 0)) := hrow
          have k1 : (k : Int) < n := by omega
          have k2 : (m : Int) < n := by omega
          have k3 : (0 : Int) ≤ k := by omega
          have k4 : (0 : Int) ≤ m := by omega
          have k5 : ¬ k = m := by omega
          have k6 : ¬ m = k := by omega
          clear SW hX hY hbb hDm hmm
          cases bb with
          | false =>
            have HE := Lib.hid (scan_go dk b k hkb' HBB.out)
            have HRW := Lib.hid hrow
            have HCC := Lib.hid hC
            clear HBB hC hrow
            go_wp2_with fail
            go_quiet (first | (go_at_call 76; refine Calls.quiet_of_same (L _)))
            go_wp2
            go_roundw
            case rel => exact ⟨k + 1, by go_num, by omega, by omega, HRW.out, by rw [← HE.out]; exact HS.out, HCC.out.drewN _⟩
            case measure => simp [intOf]; omega
          | true =>
            have HK := Lib.hid (show Go.Sort.scanSorted ltW dk b i = k by rw [← HS.out]; exact scan_stop dk b k HBB.out)
            have hkne : ¬ (k : Int) = b := by omega
            clear HBB HS
            have HRR := Lib.hid hrow
            have HCC := Lib.hid hC
            clear hC hrow
            rcases (show b - a < 50 ∨ ¬ b - a < 50 by omega) with h50 | h50
            · have h50i : (b : Int) - a < 50 := by omega
              have HE := Lib.hid (pins_short a b s i k dk h5 HK.out hkb' h50)
              go_wp2_with fail
              go_quiet (first | (go_at_call 76; refine Calls.quiet_of_same (L _)))
              go_wp2
              go_ret
              rw [← HO.out, HE.out]
              exact ⟨rfl, HRR.out, HCC.out.drewN _⟩
            · have h50i : ¬ (b : Int) - a < 50 := by omega
              have HG := Lib.hid (fun d2 d3 h2 h3 => (pins_go a b s i k dk d2 d3 h5 HK.out hkb' h50 h2 h3).symm.trans HO.out)
              have HSX := Lib.hid (show Dm.size = n from HSZ.out)
              have HRX := Lib.hid (HSW.out wr HRR.out)
              clear HO HK
              rcases (show k - a < 2 ∨ ¬ k - a < 2 by omega) with hka | hka
              · have hkaI : ¬ (2 : Int) ≤ (k : Int) - a := by omega
                have HG2 := Lib.hid (fun d3 h3 => HG.out Dm d3 (by rw [if_neg (by omega)]; exact HDm.out) h3)
                clear HG
                rcases (show b - k < 2 ∨ ¬ b - k < 2 by omega) with hbk | hbk
                · exfalso
                  omega
                · have hbkI : (2 : Int) ≤ (b : Int) - k := by omega
                  obtain ⟨D3, hD3⟩ : ∃ x, Go.Sort.shiftUp ltW b (k + 1) Dm = x := ⟨_, rfl⟩
                  have HG3 := Lib.hid (HG2.out D3 (by rw [if_pos (by omega)]; exact hD3))
                  have HD3 := Lib.hid hD3
                  clear hD3 HG2
                  go_wp2_with fail
                  go_quiet (first | (go_at_call 76; refine Calls.quiet_of_same (L _)))
                  go_wp2
                  go_region
                  all_goals go_wp2
                  go_loopw [10] (fun vj wr => ∃ (ju : Nat) (du : Array (BitVec 64)), vj = I ju ∧ k + 1 ≤ ju ∧ ju ≤ b ∧ du.size = n ∧ RowW wr q du z ∧ Go.Sort.shiftUp ltW b ju du = D3 ∧ Ch [q] w wr) (fun vj _ => b - (intOf vj).toNat)
                  case atStart => exact ⟨k + 1, Dm, by go_num, Nat.le_refl _, by omega, HSX.out, HRX.out, HD3.out, (by first | exact (((HCC.out.drewN _).setCell (.inl (by simp)) _).setCell (.inl (by simp)) _).drew | exact (((HCC.out.drewN _).setCell (.inl (by simp)) _).setCell (.inl (by simp)) _))⟩
                  case round =>
                    obtain ⟨ju, du, hv, hju1, hju2, hdu, hrow, hU, hC⟩ := hrel
                    subst hv
                    have HU := Lib.hid hU
                    clear hU HSX HRX HD3
                    rcases (show ju = b ∨ ju < b by omega) with hjb | hjb
                    · have hjI : ¬ (ju : Int) < b := by omega
                      have HSX := Lib.hid hdu
                      have HRX := Lib.hid hrow
                      have HCX := Lib.hid hC
                      have HFX := Lib.hid (show Go.Sort.partialIns ltW a b (5 - (s + 1)) k du = R by rw [← HG3.out, ← HU.out, up_end b ju du (by omega)])
                      clear hrow hC
                      go_wp2
                      go_roundw
                      case rel => exact ⟨k, s + 1, du, rfl, by go_num, by omega, by omega, by omega, HSX.out, HRX.out, HFX.out, HCX.out⟩
                      case measure => simp [intOf]; omega
                    · have hjI : (ju : Int) < b := by omega
                      obtain ⟨mu, hmmu⟩ : ∃ x, ju - 1 = x := ⟨_, rfl⟩
                      have emu : (ju : Int) - 1 = mu := by omega
                      have cA := dcells_get du z ju (by omega)
                      have cB := dcells_get du z mu (by omega)
                      have SW := fun wq (h : RowW wq q du z) => RowW.swap h ju mu (by omega) (by omega)
                      have HSZ := Lib.hid ((swp_size du ju (ju - 1)).trans (by assumption))
                      obtain ⟨X, hX⟩ : ∃ x, du[ju]! = x := ⟨_, rfl⟩
                      obtain ⟨Y, hY⟩ : ∃ x, du[mu]! = x := ⟨_, rfl⟩
                      rw [hX] at cA SW
                      rw [hY] at cB SW
                      have L := fun w => less_same X Y w
                      obtain ⟨bb, hbb⟩ : ∃ bb, ltW X Y = bb := ⟨_, rfl⟩
                      rw [hbb] at L
                      have HBB := Lib.hid (show ltW du[ju]! du[ju - 1]! = bb by rw [hmmu, hX, hY]; exact hbb)
                      rw [← hmmu] at SW
                      obtain ⟨Dmu, hDmu⟩ : ∃ x, Go.Sort.swp du ju (ju - 1) = x := ⟨_, rfl⟩
                      rw [hDmu] at SW HSZ
                      rw [hmmu] at SW
                      have HSW := Lib.hid SW
                      have HDmu := Lib.hid hDmu
                      have HMmu := Lib.hid hmmu
                      have hrow2 : wr.heap[q]? = some (.cells (dcells du z) 22 (0, 0)) := hrow
                      have k1 : (ju : Int) < n := by omega
                      have k2 : (mu : Int) < n := by omega
                      have k3 : (0 : Int) ≤ ju := by omega
                      have k4 : (0 : Int) ≤ mu := by omega
                      have k5 : ¬ ju = mu := by omega
                      have k6 : ¬ mu = ju := by omega
                      clear SW hX hY hbb hDmu hmmu
                      cases bb with
                      | false =>
                        have HFX := Lib.hid (show Go.Sort.partialIns ltW a b (5 - (s + 1)) k du = R by rw [← HG3.out, ← HU.out, up_stop b ju du HBB.out])
                        have HSX := Lib.hid hdu
                        have HRX := Lib.hid hrow
                        have HCX := Lib.hid hC
                        clear HBB hC hrow
                        go_wp2_with fail
                        go_quiet (first | (go_at_call 76; refine Calls.quiet_of_same (L _)))
                        go_wp2
                        go_roundw
                        case rel => exact ⟨k, s + 1, du, rfl, by go_num, by omega, by omega, by omega, HSX.out, HRX.out, HFX.out, HCX.out.drewN _⟩
                        case measure => simp [intOf]; omega
                      | true =>
                        have HU2 := Lib.hid (show Go.Sort.shiftUp ltW b (ju + 1) Dmu = D3 by rw [← HDmu.out, ← up_go b ju du hjb HBB.out]; exact HU.out)
                        have HRR := Lib.hid hrow
                        have HCX := Lib.hid hC
                        clear HBB hC hrow
                        go_wp2_with fail
                        go_quiet (first | (go_at_call 76; refine Calls.quiet_of_same (L _)))
                        go_wp2
                        go_region
                        all_goals go_wp2
                        go_roundw
                        case rel => exact ⟨ju + 1, Dmu, by go_num, by omega, by omega, HSZ.out, HSW.out wr HRR.out, HU2.out, (by first | exact (((HCX.out.drewN _).setCell (.inl (by simp)) _).setCell (.inl (by simp)) _).drew | exact (((HCX.out.drewN _).setCell (.inl (by simp)) _).setCell (.inl (by simp)) _))⟩
                        case measure => simp [intOf]; omega
              · have hkaI : (2 : Int) ≤ (k : Int) - a := by omega
                obtain ⟨D2, hD2⟩ : ∃ x, Go.Sort.shiftDown ltW m Dm = x := ⟨_, rfl⟩
                have HG2 := Lib.hid (fun d3 h3 => HG.out D2 d3 (by rw [if_pos (by omega), HDm.out, HMm.out]; exact hD2) h3)
                have HD2 := Lib.hid hD2
                clear HG hD2
                go_wp2_with fail
                go_quiet (first | (go_at_call 76; refine Calls.quiet_of_same (L _)))
                go_wp2
                go_region
                all_goals go_wp2
                go_loopw [9] (fun vj wr => ∃ (jd : Nat) (dd : Array (BitVec 64)), vj = I jd ∧ jd ≤ m ∧ dd.size = n ∧ RowW wr q dd z ∧ Go.Sort.shiftDown ltW jd dd = D2 ∧ Ch [q] w wr) (fun vj _ => (intOf vj).toNat)
                case atStart => exact ⟨m, Dm, by first | rfl | go_num, Nat.le_refl _, HSX.out, HRX.out, HD2.out, (by first | exact (((HCC.out.drewN _).setCell (.inl (by simp)) _).setCell (.inl (by simp)) _).drew | exact (((HCC.out.drewN _).setCell (.inl (by simp)) _).setCell (.inl (by simp)) _))⟩
                case round =>
                  obtain ⟨jd, dd, hv, hjd, hdd, hrow, hDn, hC⟩ := hrel
                  subst hv
                  have HDN := Lib.hid hDn
                  clear hDn HSX HRX HD2 HSW HRR HCC HSZ hrow2 cA cB L
                  rcases (show jd = 0 ∨ 1 ≤ jd by omega) with hj0 | hj0
                  · subst hj0
                    have HE := Lib.hid (show dd = D2 from HDN.out)
                    have HSX := Lib.hid (show D2.size = n by rw [← HE.out]; exact hdd)
                    have HRX := Lib.hid (show RowW wr q D2 z by rw [← HE.out]; exact hrow)
                    have HCX := Lib.hid hC
                    clear hrow hC hdd HE HDN
                    rcases (show b - k < 2 ∨ ¬ b - k < 2 by omega) with hbk | hbk
                    · have hbkI : ¬ (2 : Int) ≤ (b : Int) - k := by omega
                      have HFX := Lib.hid (HG2.out D2 (if_neg (by omega)))
                      go_wp2
                      go_roundw
                      case rel => exact ⟨k, s + 1, D2, rfl, by go_num, by omega, by omega, by omega, HSX.out, HRX.out, HFX.out, HCX.out⟩
                      case measure => simp [intOf]; omega
                    · have hbkI : (2 : Int) ≤ (b : Int) - k := by omega
                      obtain ⟨D3, hD3⟩ : ∃ x, Go.Sort.shiftUp ltW b (k + 1) D2 = x := ⟨_, rfl⟩
                      have HG3 := Lib.hid (HG2.out D3 (by rw [if_pos (by omega)]; exact hD3))
                      have HD3 := Lib.hid hD3
                      clear hD3 HG2
                      go_wp2
                      go_loopw [10] (fun vj wr => ∃ (ju : Nat) (du : Array (BitVec 64)), vj = I ju ∧ k + 1 ≤ ju ∧ ju ≤ b ∧ du.size = n ∧ RowW wr q du z ∧ Go.Sort.shiftUp ltW b ju du = D3 ∧ Ch [q] w wr) (fun vj _ => b - (intOf vj).toNat)
                      case atStart => exact ⟨k + 1, D2, by go_num, Nat.le_refl _, by omega, HSX.out, HRX.out, HD3.out, HCX.out⟩
                      case round =>
                        obtain ⟨ju, du, hv, hju1, hju2, hdu, hrow, hU, hC⟩ := hrel
                        subst hv
                        have HU := Lib.hid hU
                        clear hU HSX HRX HD3
                        rcases (show ju = b ∨ ju < b by omega) with hjb | hjb
                        · have hjI : ¬ (ju : Int) < b := by omega
                          have HSX := Lib.hid hdu
                          have HRX := Lib.hid hrow
                          have HCX := Lib.hid hC
                          have HFX := Lib.hid (show Go.Sort.partialIns ltW a b (5 - (s + 1)) k du = R by rw [← HG3.out, ← HU.out, up_end b ju du (by omega)])
                          clear hrow hC
                          go_wp2
                          go_roundw
                          case rel => exact ⟨k, s + 1, du, rfl, by go_num, by omega, by omega, by omega, HSX.out, HRX.out, HFX.out, HCX.out⟩
                          case measure => simp [intOf]; omega
                        · have hjI : (ju : Int) < b := by omega
                          obtain ⟨mu, hmmu⟩ : ∃ x, ju - 1 = x := ⟨_, rfl⟩
                          have emu : (ju : Int) - 1 = mu := by omega
                          have cA := dcells_get du z ju (by omega)
                          have cB := dcells_get du z mu (by omega)
                          have SW := fun wq (h : RowW wq q du z) => RowW.swap h ju mu (by omega) (by omega)
                          have HSZ := Lib.hid ((swp_size du ju (ju - 1)).trans (by assumption))
                          obtain ⟨X, hX⟩ : ∃ x, du[ju]! = x := ⟨_, rfl⟩
                          obtain ⟨Y, hY⟩ : ∃ x, du[mu]! = x := ⟨_, rfl⟩
                          rw [hX] at cA SW
                          rw [hY] at cB SW
                          have L := fun w => less_same X Y w
                          obtain ⟨bb, hbb⟩ : ∃ bb, ltW X Y = bb := ⟨_, rfl⟩
                          rw [hbb] at L
                          have HBB := Lib.hid (show ltW du[ju]! du[ju - 1]! = bb by rw [hmmu, hX, hY]; exact hbb)
                          rw [← hmmu] at SW
                          obtain ⟨Dmu, hDmu⟩ : ∃ x, Go.Sort.swp du ju (ju - 1) = x := ⟨_, rfl⟩
                          rw [hDmu] at SW HSZ
                          rw [hmmu] at SW
                          have HSW := Lib.hid SW
                          have HDmu := Lib.hid hDmu
                          have HMmu := Lib.hid hmmu
                          have hrow2 : wr.heap[q]? = some (.cells (dcells du z) 22 (0, 0)) := hrow
                          have k1 : (ju : Int) < n := by omega
                          have k2 : (mu : Int) < n := by omega
                          have k3 : (0 : Int) ≤ ju := by omega
                          have k4 : (0 : Int) ≤ mu := by omega
                          have k5 : ¬ ju = mu := by omega
                          have k6 : ¬ mu = ju := by omega
                          clear SW hX hY hbb hDmu hmmu
                          cases bb with
                          | false =>
                            have HFX := Lib.hid (show Go.Sort.partialIns ltW a b (5 - (s + 1)) k du = R by rw [← HG3.out, ← HU.out, up_stop b ju du HBB.out])
                            have HSX := Lib.hid hdu
                            have HRX := Lib.hid hrow
                            have HCX := Lib.hid hC
                            clear HBB hC hrow
                            go_wp2_with fail
                            go_quiet (first | (go_at_call 76; refine Calls.quiet_of_same (L _)))
                            go_wp2
                            go_roundw
                            case rel => exact ⟨k, s + 1, du, rfl, by go_num, by omega, by omega, by omega, HSX.out, HRX.out, HFX.out, HCX.out.drewN _⟩
                            case measure => simp [intOf]; omega
                          | true =>
                            have HU2 := Lib.hid (show Go.Sort.shiftUp ltW b (ju + 1) Dmu = D3 by rw [← HDmu.out, ← up_go b ju du hjb HBB.out]; exact HU.out)
                            have HRR := Lib.hid hrow
                            have HCX := Lib.hid hC
                            clear HBB hC hrow
                            go_wp2_with fail
                            go_quiet (first | (go_at_call 76; refine Calls.quiet_of_same (L _)))
                            go_wp2
                            go_region
                            all_goals go_wp2
                            go_roundw
                            case rel => exact ⟨ju + 1, Dmu, by go_num, by omega, by omega, HSZ.out, HSW.out wr HRR.out, HU2.out, (by first | exact (((HCX.out.drewN _).setCell (.inl (by simp)) _).setCell (.inl (by simp)) _).drew | exact (((HCX.out.drewN _).setCell (.inl (by simp)) _).setCell (.inl (by simp)) _))⟩
                            case measure => simp [intOf]; omega
                  · have hjI : (1 : Int) ≤ jd := by omega
                    obtain ⟨md, hmmd⟩ : ∃ x, jd - 1 = x := ⟨_, rfl⟩
                    have emd : (jd : Int) - 1 = md := by omega
                    have cA := dcells_get dd z jd (by omega)
                    have cB := dcells_get dd z md (by omega)
                    have SW := fun wq (h : RowW wq q dd z) => RowW.swap h jd md (by omega) (by omega)
                    have HSZ := Lib.hid ((swp_size dd jd (jd - 1)).trans (by assumption))
                    obtain ⟨X, hX⟩ : ∃ x, dd[jd]! = x := ⟨_, rfl⟩
                    obtain ⟨Y, hY⟩ : ∃ x, dd[md]! = x := ⟨_, rfl⟩
                    rw [hX] at cA SW
                    rw [hY] at cB SW
                    have L := fun w => less_same X Y w
                    obtain ⟨bb, hbb⟩ : ∃ bb, ltW X Y = bb := ⟨_, rfl⟩
                    rw [hbb] at L
                    have HBB := Lib.hid (show ltW dd[jd]! dd[jd - 1]! = bb by rw [hmmd, hX, hY]; exact hbb)
                    rw [← hmmd] at SW
                    obtain ⟨Dmd, hDmd⟩ : ∃ x, Go.Sort.swp dd jd (jd - 1) = x := ⟨_, rfl⟩
                    rw [hDmd] at SW HSZ
                    rw [hmmd] at SW
                    have HSW := Lib.hid SW
                    have HDmd := Lib.hid hDmd
                    have HMmd := Lib.hid hmmd
                    have hrow2 : wr.heap[q]? = some (.cells (dcells dd z) 22 (0, 0)) := hrow
                    have k1 : (jd : Int) < n := by omega
                    have k2 : (md : Int) < n := by omega
                    have k3 : (0 : Int) ≤ jd := by omega
                    have k4 : (0 : Int) ≤ md := by omega
                    have k5 : ¬ jd = md := by omega
                    have k6 : ¬ md = jd := by omega
                    clear SW hX hY hbb hDmd hmmd
                    cases bb with
                    | false =>
                      have HE := Lib.hid (show dd = D2 by rw [← HDN.out]; exact (down_stop jd dd HBB.out).symm)
                      have HSX := Lib.hid (show D2.size = n by rw [← HE.out]; exact hdd)
                      have HRX := Lib.hid (show RowW wr q D2 z by rw [← HE.out]; exact hrow)
                      have HCX := Lib.hid hC
                      clear HBB hC hrow hdd HE HDN
                      rcases (show b - k < 2 ∨ ¬ b - k < 2 by omega) with hbk | hbk
                      · have hbkI : ¬ (2 : Int) ≤ (b : Int) - k := by omega
                        have HFX := Lib.hid (HG2.out D2 (if_neg (by omega)))
                        go_wp2_with fail
                        go_quiet (first | (go_at_call 76; refine Calls.quiet_of_same (L _)))
                        go_wp2
                        go_roundw
                        case rel => exact ⟨k, s + 1, D2, rfl, by go_num, by omega, by omega, by omega, HSX.out, HRX.out, HFX.out, HCX.out.drewN _⟩
                        case measure => simp [intOf]; omega
                      · have hbkI : (2 : Int) ≤ (b : Int) - k := by omega
                        obtain ⟨D3, hD3⟩ : ∃ x, Go.Sort.shiftUp ltW b (k + 1) D2 = x := ⟨_, rfl⟩
                        have HG3 := Lib.hid (HG2.out D3 (by rw [if_pos (by omega)]; exact hD3))
                        have HD3 := Lib.hid hD3
                        clear hD3 HG2
                        go_wp2_with fail
                        go_quiet (first | (go_at_call 76; refine Calls.quiet_of_same (L _)))
                        go_wp2
                        go_loopw [10] (fun vj wr => ∃ (ju : Nat) (du : Array (BitVec 64)), vj = I ju ∧ k + 1 ≤ ju ∧ ju ≤ b ∧ du.size = n ∧ RowW wr q du z ∧ Go.Sort.shiftUp ltW b ju du = D3 ∧ Ch [q] w wr) (fun vj _ => b - (intOf vj).toNat)
                        case atStart => exact ⟨k + 1, D2, by go_num, Nat.le_refl _, by omega, HSX.out, HRX.out, HD3.out, HCX.out.drewN _⟩
                        case round =>
                          obtain ⟨ju, du, hv, hju1, hju2, hdu, hrow, hU, hC⟩ := hrel
                          subst hv
                          have HU := Lib.hid hU
                          clear hU HSX HRX HD3
                          rcases (show ju = b ∨ ju < b by omega) with hjb | hjb
                          · have hjI : ¬ (ju : Int) < b := by omega
                            have HSX := Lib.hid hdu
                            have HRX := Lib.hid hrow
                            have HCX := Lib.hid hC
                            have HFX := Lib.hid (show Go.Sort.partialIns ltW a b (5 - (s + 1)) k du = R by rw [← HG3.out, ← HU.out, up_end b ju du (by omega)])
                            clear hrow hC
                            go_wp2
                            go_roundw
                            case rel => exact ⟨k, s + 1, du, rfl, by go_num, by omega, by omega, by omega, HSX.out, HRX.out, HFX.out, HCX.out⟩
                            case measure => simp [intOf]; omega
                          · have hjI : (ju : Int) < b := by omega
                            obtain ⟨mu, hmmu⟩ : ∃ x, ju - 1 = x := ⟨_, rfl⟩
                            have emu : (ju : Int) - 1 = mu := by omega
                            have cA := dcells_get du z ju (by omega)
                            have cB := dcells_get du z mu (by omega)
                            have SW := fun wq (h : RowW wq q du z) => RowW.swap h ju mu (by omega) (by omega)
                            have HSZ := Lib.hid ((swp_size du ju (ju - 1)).trans (by assumption))
                            obtain ⟨X, hX⟩ : ∃ x, du[ju]! = x := ⟨_, rfl⟩
                            obtain ⟨Y, hY⟩ : ∃ x, du[mu]! = x := ⟨_, rfl⟩
                            rw [hX] at cA SW
                            rw [hY] at cB SW
                            have L := fun w => less_same X Y w
                            obtain ⟨bb, hbb⟩ : ∃ bb, ltW X Y = bb := ⟨_, rfl⟩
                            rw [hbb] at L
                            have HBB := Lib.hid (show ltW du[ju]! du[ju - 1]! = bb by rw [hmmu, hX, hY]; exact hbb)
                            rw [← hmmu] at SW
                            obtain ⟨Dmu, hDmu⟩ : ∃ x, Go.Sort.swp du ju (ju - 1) = x := ⟨_, rfl⟩
                            rw [hDmu] at SW HSZ
                            rw [hmmu] at SW
                            have HSW := Lib.hid SW
                            have HDmu := Lib.hid hDmu
                            have HMmu := Lib.hid hmmu
                            have hrow2 : wr.heap[q]? = some (.cells (dcells du z) 22 (0, 0)) := hrow
                            have k1 : (ju : Int) < n := by omega
                            have k2 : (mu : Int) < n := by omega
                            have k3 : (0 : Int) ≤ ju := by omega
                            have k4 : (0 : Int) ≤ mu := by omega
                            have k5 : ¬ ju = mu := by omega
                            have k6 : ¬ mu = ju := by omega
                            clear SW hX hY hbb hDmu hmmu
                            cases bb with
                            | false =>
                              have HFX := Lib.hid (show Go.Sort.partialIns ltW a b (5 - (s + 1)) k du = R by rw [← HG3.out, ← HU.out, up_stop b ju du HBB.out])
                              have HSX := Lib.hid hdu
                              have HRX := Lib.hid hrow
                              have HCX := Lib.hid hC
                              clear HBB hC hrow
                              go_wp2_with fail
                              go_quiet (first | (go_at_call 76; refine Calls.quiet_of_same (L _)))
                              go_wp2
                              go_roundw
                              case rel => exact ⟨k, s + 1, du, rfl, by go_num, by omega, by omega, by omega, HSX.out, HRX.out, HFX.out, HCX.out.drewN _⟩
                              case measure => simp [intOf]; omega
                            | true =>
                              have HU2 := Lib.hid (show Go.Sort.shiftUp ltW b (ju + 1) Dmu = D3 by rw [← HDmu.out, ← up_go b ju du hjb HBB.out]; exact HU.out)
                              have HRR := Lib.hid hrow
                              have HCX := Lib.hid hC
                              clear HBB hC hrow
                              go_wp2_with fail
                              go_quiet (first | (go_at_call 76; refine Calls.quiet_of_same (L _)))
                              go_wp2
                              go_region
                              all_goals go_wp2
                              go_roundw
                              case rel => exact ⟨ju + 1, Dmu, by go_num, by omega, by omega, HSZ.out, HSW.out wr HRR.out, HU2.out, (by first | exact (((HCX.out.drewN _).setCell (.inl (by simp)) _).setCell (.inl (by simp)) _).drew | exact (((HCX.out.drewN _).setCell (.inl (by simp)) _).setCell (.inl (by simp)) _))⟩
                              case measure => simp [intOf]; omega
                    | true =>
                      have HU2 := Lib.hid (show Go.Sort.shiftDown ltW md Dmd = D2 by rw [← HDmd.out, ← HMmd.out, ← down_go jd dd hj0 HBB.out]; exact HDN.out)
                      have HRR := Lib.hid hrow
                      have HCX := Lib.hid hC
                      clear HBB hC hrow
                      go_wp2_with fail
                      go_quiet (first | (go_at_call 76; refine Calls.quiet_of_same (L _)))
                      go_wp2
                      go_region
                      all_goals go_wp2
                      go_roundw
                      case rel => exact ⟨md, Dmd, by first | rfl | go_num, by omega, HSZ.out, HSW.out wr HRR.out, HU2.out, (by first | exact (((HCX.out.drewN _).setCell (.inl (by simp)) _).setCell (.inl (by simp)) _).drew | exact (((HCX.out.drewN _).setCell (.inl (by simp)) _).setCell (.inl (by simp)) _))⟩
                      case measure => simp [intOf]; omega
end Go.Proofs.Hc
