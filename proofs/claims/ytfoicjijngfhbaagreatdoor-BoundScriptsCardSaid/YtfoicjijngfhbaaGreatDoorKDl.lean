/- slices.partitionEqualOrdered[uint64] at words (printed by gen_part.py). -/
import Derived.Test.YtfoicjijngfhbaaGreatDoorKDa
import Derived.Test.YtfoicjijngfhbaaGreatDoorKDb
import Derived.Test.YtfoicjijngfhbaaGreatDoorKDd
import Derived.Test.YtfoicjijngfhbaaGreatDoorKDf
import Derived.Test.YtfoicjijngfhbaaGreatDoorKHm
import Derived.Test.YtfoicjijngfhbaaGreatDoorKHr
import Derived.Below
import Derived.BigQuiet
import Derived.Deep.Cut
import Derived.Deep.Draws
import Derived.Deep.QuietTactic
import Derived.Deep.RegionHeld
import Derived.Laws.Bits64
import Derived.Laws.Bits64b
import Derived.Laws.CopyRow
import Derived.Laws.Tables
import Derived.Lib.BitFns
import Derived.Lib.Hide
import Derived.Lib.Slices
import Derived.Lib.Small
import Derived.Lib.Strings
import Derived.Lib.Walk
import Derived.LoopIn
import Derived.LoopNIn
import Derived.OwnWalkIn
import Derived.RangeFuncCalls
import Derived.RangeFuncRecord
import Derived.RangeFuncSeq
import Derived.Recover
import Derived.Sort.Defs
import Derived.Sort.LotC
import Derived.Sort.LotD1
import Derived.Sort.LotD5
import Derived.Sort.LotD6
import Derived.TacticsInMore
import Derived.Test.YtfoicjijngfhbaaGreatDoorProg
import Derived.WalkKit
import Derived.WalkLawsBesides
set_option linter.unusedSimpArgs false
set_option linter.unusedVariables false
namespace Go.Proofs.Hc
open Go.RowKit
set_option linter.unusedVariables false
set_option linter.unusedSimpArgs false
attribute [local go_sem] wrap_u64 wrap_u8 bits_xor64 bits_and64 bits_or64 bits_not64 bits_xor8 bits_and8 bits_or8 signed64 signed8 ofInt_N BitVec.ofInt_add BitVec.ofInt_mul ofInt_sub' ofInt8_N64 ofInt64_N8 wide8 eqN neN shr_pow shr1 shr7 shr56
attribute [local go_sem high] bits_com64 shl_wrap
attribute [local go_sem] nn2 nm2 nn3 nm3 nn4 nm4 nn5 nm5 nn6 nm6 nn7 nm7 nn8 nm8
attribute [local go_sem] Oper.semAt_some make_func1
attribute [local go_sem] cell_heap ice_heap cellAt_cells iceAt_cells setAt_cells size_setCell rowAt_cells canLay_cells laidAt_cells size_onObj rowRes_some layRes_true
attribute [local go_sem ↓] heap_alloc heap_drew heap_drewN heap_setCell heap_putObj heap_onObj
theorem scanUp_go (p : BitVec 64 → Bool) (d : Array (BitVec 64)) (j i : Nat) (h : i ≤ j) (hp : p d[i]! = true) : Go.Sort.scanUp p d j i = Go.Sort.scanUp p d j (i + 1) := by
  rw [Go.Sort.scanUp, if_pos (by simp [h, hp])]
theorem scanUp_end (p : BitVec 64 → Bool) (d : Array (BitVec 64)) (j i : Nat) (h : ¬ i ≤ j) : Go.Sort.scanUp p d j i = i := by
  rw [Go.Sort.scanUp, if_neg (by simp [h])]
theorem scanUp_stop (p : BitVec 64 → Bool) (d : Array (BitVec 64)) (j i : Nat) (hp : p d[i]! = false) : Go.Sort.scanUp p d j i = i := by
  rw [Go.Sort.scanUp, if_neg (by simp [hp])]
theorem scanDown_go (p : BitVec 64 → Bool) (d : Array (BitVec 64)) (i j : Nat) (h : i ≤ j) (hj : 1 ≤ j) (hp : p d[j]! = true) : Go.Sort.scanDown p d i j = Go.Sort.scanDown p d i (j - 1) := by
  obtain ⟨k, rfl⟩ : ∃ k, j = k + 1 := ⟨j - 1, by omega⟩
  rw [Go.Sort.scanDown, if_pos (by simp [h, hp])]
  rfl
theorem scanDown_end (p : BitVec 64 → Bool) (d : Array (BitVec 64)) (i j : Nat) (h : ¬ i ≤ j) : Go.Sort.scanDown p d i j = j := by
  cases j with
  | zero => rfl
  | succ k => rw [Go.Sort.scanDown, if_neg (by simp; omega)]
theorem scanDown_stop (p : BitVec 64 → Bool) (d : Array (BitVec 64)) (i j : Nat) (hp : p d[j]! = false) : Go.Sort.scanDown p d i j = j := by
  cases j with
  | zero => rfl
  | succ k => rw [Go.Sort.scanDown, if_neg (by simp [hp])]
theorem partEq_end (a i j u v : Nat) (d : Array (BitVec 64)) (hu : Go.Sort.scanUp (fun x => !ltW d[a]! x) d j i = u) (hv : Go.Sort.scanDown (fun x => ltW d[a]! x) d u j = v) (h : u > v) : Go.Sort.partEqLoop ltW a i j d = (u, d) := by
  rw [Go.Sort.partEqLoop_eq, hu, hv, if_pos h]
theorem partEq_go (a i j u v : Nat) (d : Array (BitVec 64)) (hu : Go.Sort.scanUp (fun x => !ltW d[a]! x) d j i = u) (hv : Go.Sort.scanDown (fun x => ltW d[a]! x) d u j = v) (h : ¬ u > v) : Go.Sort.partEqLoop ltW a i j d = Go.Sort.partEqLoop ltW a (u + 1) (v - 1) (Go.Sort.swp d u v) := by
  rw [Go.Sort.partEqLoop_eq, hu, hv, if_neg h]
set_option maxHeartbeats 8000000 in
set_option maxRecDepth 100000 in
theorem partEq_any (q cap a b p n : Nat) (d : Array (BitVec 64)) (hn : d.size = n) (z : Array Value) (w : World) (hab : a < b) (hb : b ≤ n) (hp : p < n) (hs : n < 1152921504606846976) (hq : RowW w q d z) :
    Calls Tryz.prog 77 #[.slice (some ⟨q, 0, none⟩) n cap, I a, I b, I p] w fun e w' => e = .returned (I (Go.Sort.partitionEqual ltW d a b p).1) ∧ RowW w' q (Go.Sort.partitionEqual ltW d a b p).2 z ∧ Ch [q] w w' := by
  obtain ⟨j0, hj0⟩ : ∃ j, b - 1 = j := ⟨_, rfl⟩
  have e1 : (b : Int) - 1 = j0 := by omega
  unfold Go.Sort.partitionEqual
  rw [hj0]
  have cA := dcells_get d z a (by omega)
  have cB := dcells_get d z p (by omega)
  have SW := fun wq (h : RowW wq q d z) => RowW.swap h a p (by omega) (by omega)
  have HSZD1 := Lib.hid ((swp_size d a p).trans (show d.size = n by assumption))
  have n0 := dcells_same d z a (by omega)
  obtain ⟨X, hX⟩ : ∃ x, d[a]! = x := ⟨_, rfl⟩
  obtain ⟨Y, hY⟩ : ∃ x, d[p]! = x := ⟨_, rfl⟩
  rw [hX] at cA SW n0
  rw [hY] at cB SW
  obtain ⟨D1, hD1⟩ : ∃ x, Go.Sort.swp d a p = x := ⟨_, rfl⟩
  rw [hD1] at SW HSZD1
  have HSW := Lib.hid SW
  have HD1 := Lib.hid hD1
  have k1 : (a : Int) < n := by omega
  have k2 : (p : Int) < n := by omega
  have k3 : (0 : Int) ≤ a := by omega
  have k4 : (0 : Int) ≤ p := by omega
  clear SW hX hY hD1
  rw [HD1.out]
  obtain ⟨R, hR⟩ : ∃ R, Go.Sort.partEqLoop ltW a (a + 1) j0 D1 = R := ⟨_, rfl⟩
  rw [hR]
  have HR := Lib.hid hR
  clear hR
  have hrow2 : w.heap[q]? = some (.cells (dcells d z) 22 (0, 0)) := hq
  have HQ := Lib.hid hq
  have HN := Lib.hid hn
  have bj0 : j0 < n ∧ a ≤ j0 := by omega
  clear hn hq hj0
  go_enter Tryz.func77, Tryz.ntmps77
  go_wp2
  rcases (show a = p ∨ ¬ a = p by omega) with hps | hps
  · subst hps
    obtain rfl : X = Y := by
      rw [cA] at cB
      exact (N_inj X Y).1 (by simpa using cB)
    go_wp2
    go_region
    all_goals go_wp2
    clear cA cB k1 k2 k3 k4
    go_loopw [9, 10] (fun vi vj wr => ∃ (i j : Nat) (dk : Array (BitVec 64)), vi = I i ∧ vj = I j ∧ a < i ∧ i ≤ j + 1 ∧ j < b ∧ a ≤ j ∧ dk.size = n ∧ RowW wr q dk z ∧ Go.Sort.partEqLoop ltW a i j dk = R ∧ Ch [q] w wr) (fun vi vj _ => (intOf vj).toNat + 1 - (intOf vi).toNat)
    case atStart => exact ⟨a + 1, j0, D1, by go_num, by first | rfl | go_num, by omega, by omega, by omega, by omega, HSZD1.out, HSW.out w HQ.out, HR.out, (by first | exact (((Ch.refl _ _).setCell (.inl (by simp)) _).setCell (.inl (by simp)) _).drew | exact (((Ch.refl _ _).setCell (.inl (by simp)) _).setCell (.inl (by simp)) _))⟩
    case round =>
      obtain ⟨i, j, dk, hvi, hvj, hai, hij, hjb, haj, hdk, hrow, hO, hC⟩ := hrel
      subst hvi hvj
      have HO := Lib.hid hO
      have HR0 := Lib.hid hrow
      have HC0 := Lib.hid hC
      clear hO hrow hC
      go_wp2
      go_loopw [9] (fun vi wr => ∃ (u2 : Nat), vi = I u2 ∧ i ≤ u2 ∧ u2 ≤ j + 1 ∧ RowW wr q dk z ∧ Go.Sort.scanUp (fun x => !ltW dk[a]! x) dk j u2 = Go.Sort.scanUp (fun x => !ltW dk[a]! x) dk j i ∧ Ch [q] w wr) (fun vi _ => j + 1 - (intOf vi).toNat)
      case atStart => exact ⟨i, rfl, Nat.le_refl _, by omega, HR0.out, rfl, HC0.out⟩
      case round =>
        obtain ⟨u2, hv, hu1, hu2, hrow, hU, hC⟩ := hrel
        subst hv
        have HU := Lib.hid hU
        clear hU
        rcases (show ¬ u2 ≤ j ∨ u2 ≤ j by omega) with huj | huj
        · have huI : ¬ (u2 : Int) ≤ j := by omega
          have HUU := Lib.hid (show Go.Sort.scanUp (fun x => !ltW dk[a]! x) dk j i = u2 by rw [← HU.out]; exact scanUp_end _ dk j u2 (by omega))
          have HVV := Lib.hid (show Go.Sort.scanDown (fun x => ltW dk[a]! x) dk u2 j = j from scanDown_end _ dk u2 j (by omega))
          have HRX := Lib.hid hrow
          have HCX := Lib.hid hC
          clear hrow hC HU
          have L := fun w => less_same 0#64 0#64 w
          go_wp2
          go_quiet (first | (go_at_call 76; refine Calls.quiet_of_same (L _)))
          go_wp2
          refine wp_loop_rounds 1 ?_
          rw [rounds_succ]
          go_wp2
          go_quiet (first | (go_at_call 76; refine Calls.quiet_of_same (L _)))
          have HE := Lib.hid (partEq_end a i j u2 j dk HUU.out HVV.out (by omega))
          have hgt : ¬ (u2 : Int) ≤ j := by omega
          have hgt2 : (j : Int) < u2 := by omega
          go_wp2
          go_ret
          rw [← HO.out, HE.out]
          exact ⟨rfl, HRX.out, HCX.out.drewN _⟩
        · have huI : (u2 : Int) ≤ j := by omega
          have cX := dcells_get dk z u2 (by omega)
          have cA := dcells_get dk z a (by omega)
          obtain ⟨X, hX⟩ : ∃ x, dk[u2]! = x := ⟨_, rfl⟩
          obtain ⟨A, hA⟩ : ∃ x, dk[a]! = x := ⟨_, rfl⟩
          rw [hX] at cX
          rw [hA] at cA
          have L := fun w => less_same A X w
          obtain ⟨bb, hbb⟩ : ∃ bb, ltW A X = bb := ⟨_, rfl⟩
          rw [hbb] at L
          have HBB := Lib.hid (show ltW dk[a]! dk[u2]! = bb by rw [hX, hA]; exact hbb)
          have hrow2 : wr.heap[q]? = some (.cells (dcells dk z) 22 (0, 0)) := hrow
          have k1 : (u2 : Int) < n := by omega
          have k2 : (a : Int) < n := by omega
          have k3 : (0 : Int) ≤ u2 := by omega
          have k4 : (0 : Int) ≤ a := by omega
          clear hX hA hbb
          cases bb with
          | false =>
            have HU2 := Lib.hid (show Go.Sort.scanUp (fun x => !ltW dk[a]! x) dk j (u2 + 1) = Go.Sort.scanUp (fun x => !ltW dk[a]! x) dk j i by rw [← scanUp_go _ dk j u2 huj (by show (!_) = true; rw [HBB.out]; rfl)]; exact HU.out)
            have HRX := Lib.hid hrow
            have HCX := Lib.hid hC
            clear HBB hC hrow HU
            go_wp2_with fail
            go_quiet (first | (go_at_call 76; refine Calls.quiet_of_same (L _)))
            go_wp2
            go_roundw
            case rel => exact ⟨u2 + 1, by go_num, by omega, by omega, HRX.out, HU2.out, HCX.out.drewN _⟩
            case measure => simp [intOf]; omega
          | true =>
            have HUU := Lib.hid (show Go.Sort.scanUp (fun x => !ltW dk[a]! x) dk j i = u2 by rw [← HU.out]; exact scanUp_stop _ dk j u2 (by show (!_) = false; rw [HBB.out]; rfl))
            have HRX := Lib.hid hrow
            have HCX := Lib.hid hC
            have HB1 := HBB
            clear HBB hC hrow HU
            go_wp2_with fail
            go_quiet (first | (go_at_call 76; refine Calls.quiet_of_same (L _)))
            go_wp2
            go_loopw [10] (fun vj wr => ∃ (v2 : Nat), vj = I v2 ∧ v2 ≤ j ∧ u2 ≤ v2 + 1 ∧ RowW wr q dk z ∧ Go.Sort.scanDown (fun x => ltW dk[a]! x) dk u2 v2 = Go.Sort.scanDown (fun x => ltW dk[a]! x) dk u2 j ∧ Ch [q] w wr) (fun vj _ => (intOf vj).toNat + 1 - u2)
            case atStart => exact ⟨j, rfl, Nat.le_refl _, by omega, HRX.out, rfl, HCX.out.drewN _⟩
            case round =>
              obtain ⟨v2, hv, hv1, hv2, hrow, hV, hC⟩ := hrel
              subst hv
              have HV := Lib.hid hV
              clear hV HRX HCX L cA cX hrow2
              rcases (show ¬ u2 ≤ v2 ∨ u2 ≤ v2 by omega) with hvu | hvu
              · have hvI : ¬ (u2 : Int) ≤ v2 := by omega
                have HVV := Lib.hid (show Go.Sort.scanDown (fun x => ltW dk[a]! x) dk u2 j = v2 by rw [← HV.out]; exact scanDown_end _ dk u2 v2 (by omega))
                have HRX := Lib.hid hrow
                have HCX := Lib.hid hC
                clear hrow hC HV
                have L := fun w => less_same 0#64 0#64 w
                go_wp2
                go_quiet (first | (go_at_call 76; refine Calls.quiet_of_same (L _)))
                have HE := Lib.hid (partEq_end a i j u2 v2 dk HUU.out HVV.out (by omega))
                have hgt : ¬ (u2 : Int) ≤ v2 := by omega
                have hgt2 : (v2 : Int) < u2 := by omega
                go_wp2
                go_ret
                rw [← HO.out, HE.out]
                exact ⟨rfl, HRX.out, HCX.out.drewN _⟩
              · have hvI : (u2 : Int) ≤ v2 := by omega
                have cX := dcells_get dk z v2 (by omega)
                have cA := dcells_get dk z a (by omega)
                obtain ⟨X, hX⟩ : ∃ x, dk[v2]! = x := ⟨_, rfl⟩
                obtain ⟨A, hA⟩ : ∃ x, dk[a]! = x := ⟨_, rfl⟩
                rw [hX] at cX
                rw [hA] at cA
                have L := fun w => less_same A X w
                obtain ⟨bb, hbb⟩ : ∃ bb, ltW A X = bb := ⟨_, rfl⟩
                rw [hbb] at L
                have HBB := Lib.hid (show ltW dk[a]! dk[v2]! = bb by rw [hX, hA]; exact hbb)
                have hrow2 : wr.heap[q]? = some (.cells (dcells dk z) 22 (0, 0)) := hrow
                have k1 : (v2 : Int) < n := by omega
                have k2 : (a : Int) < n := by omega
                have k3 : (0 : Int) ≤ v2 := by omega
                have k4 : (0 : Int) ≤ a := by omega
                clear hX hA hbb
                cases bb with
                | false =>
                  have HVV := Lib.hid (show Go.Sort.scanDown (fun x => ltW dk[a]! x) dk u2 j = v2 by rw [← HV.out]; exact scanDown_stop _ dk u2 v2 (by show _ = false; rw [HBB.out]))
                  have huv : u2 < v2 := by
                    rcases (show u2 = v2 ∨ u2 < v2 by omega) with h | h
                    · exfalso
                      have h1 := HB1.out
                      rw [h, HBB.out] at h1
                      cases h1
                    · exact h
                  have HRX := Lib.hid hrow
                  have HCX := Lib.hid hC
                  clear HBB HB1 hC HV
                  go_wp2_with fail
                  go_quiet (first | (go_at_call 76; refine Calls.quiet_of_same (L _)))
                  clear L cA cX k1 k2 k3 k4
                  have hgt : ¬ (v2 : Int) < u2 := by omega
                  have hgt2 : (u2 : Int) ≤ v2 := by omega
                  have cA := dcells_get dk z u2 (by omega)
                  have cB := dcells_get dk z v2 (by omega)
                  have SW := fun wq (h : RowW wq q dk z) => RowW.swap h u2 v2 (by omega) (by omega)
                  have HSZD2 := Lib.hid ((swp_size dk u2 v2).trans (show dk.size = n by assumption))
                  have n0 := dcells_same dk z u2 (by omega)
                  obtain ⟨X, hX⟩ : ∃ x, dk[u2]! = x := ⟨_, rfl⟩
                  obtain ⟨Y, hY⟩ : ∃ x, dk[v2]! = x := ⟨_, rfl⟩
                  rw [hX] at cA SW n0
                  rw [hY] at cB SW
                  obtain ⟨D2, hD2⟩ : ∃ x, Go.Sort.swp dk u2 v2 = x := ⟨_, rfl⟩
                  rw [hD2] at SW HSZD2
                  have HSW := Lib.hid SW
                  have HD2 := Lib.hid hD2
                  have k1 : (u2 : Int) < n := by omega
                  have k2 : (v2 : Int) < n := by omega
                  have k3 : (0 : Int) ≤ u2 := by omega
                  have k4 : (0 : Int) ≤ v2 := by omega
                  clear SW hX hY hD2
                  have k5 : ¬ u2 = v2 := by omega
                  have k6 : ¬ v2 = u2 := by omega
                  obtain ⟨vm, hvm⟩ : ∃ x, v2 - 1 = x := ⟨_, rfl⟩
                  have evm : (v2 : Int) - 1 = vm := by omega
                  have HE := Lib.hid (show Go.Sort.partEqLoop ltW a (u2 + 1) vm D2 = R by rw [← hvm, ← HD2.out, ← partEq_go a i j u2 v2 dk HUU.out HVV.out (by omega)]; exact HO.out)
                  clear n0
                  go_wp2
                  go_region
                  all_goals go_wp2
                  go_roundw
                  case rel => exact ⟨u2 + 1, vm, D2, by go_num, by first | rfl | go_num, by omega, by omega, by omega, by omega, HSZD2.out, HSW.out wr HRX.out, HE.out, (by first | exact (((HCX.out.drewN _).setCell (.inl (by simp)) _).setCell (.inl (by simp)) _).drew | exact (((HCX.out.drewN _).setCell (.inl (by simp)) _).setCell (.inl (by simp)) _))⟩
                  case measure => simp [intOf]; omega
                | true =>
                  obtain ⟨vm, hvm⟩ : ∃ x, v2 - 1 = x := ⟨_, rfl⟩
                  have evm : (v2 : Int) - 1 = vm := by omega
                  have HV2 := Lib.hid (show Go.Sort.scanDown (fun x => ltW dk[a]! x) dk u2 vm = Go.Sort.scanDown (fun x => ltW dk[a]! x) dk u2 j by rw [← hvm, ← scanDown_go _ dk u2 v2 hvu (by omega) (by show _ = true; rw [HBB.out])]; exact HV.out)
                  have HRX := Lib.hid hrow
                  have HCX := Lib.hid hC
                  clear HBB hC hrow HV hvm
                  go_wp2_with fail
                  go_quiet (first | (go_at_call 76; refine Calls.quiet_of_same (L _)))
                  go_wp2
                  go_roundw
                  case rel => exact ⟨vm, by first | rfl | go_num, by omega, by omega, HRX.out, HV2.out, HCX.out.drewN _⟩
                  case measure => simp [intOf]; omega
  · have k5 : ¬ p = a := fun e => hps e.symm
    clear n0
    go_wp2
    go_region
    all_goals go_wp2
    clear cA cB k1 k2 k3 k4
    go_loopw [9, 10] (fun vi vj wr => ∃ (i j : Nat) (dk : Array (BitVec 64)), vi = I i ∧ vj = I j ∧ a < i ∧ i ≤ j + 1 ∧ j < b ∧ a ≤ j ∧ dk.size = n ∧ RowW wr q dk z ∧ Go.Sort.partEqLoop ltW a i j dk = R ∧ Ch [q] w wr) (fun vi vj _ => (intOf vj).toNat + 1 - (intOf vi).toNat)
    case atStart => exact ⟨a + 1, j0, D1, by go_num, by first | rfl | go_num, by omega, by omega, by omega, by omega, HSZD1.out, HSW.out w HQ.out, HR.out, (by first | exact (((Ch.refl _ _).setCell (.inl (by simp)) _).setCell (.inl (by simp)) _).drew | exact (((Ch.refl _ _).setCell (.inl (by simp)) _).setCell (.inl (by simp)) _))⟩
    case round =>
      obtain ⟨i, j, dk, hvi, hvj, hai, hij, hjb, haj, hdk, hrow, hO, hC⟩ := hrel
      subst hvi hvj
      have HO := Lib.hid hO
      have HR0 := Lib.hid hrow
      have HC0 := Lib.hid hC
      clear hO hrow hC
      go_wp2
      go_loopw [9] (fun vi wr => ∃ (u2 : Nat), vi = I u2 ∧ i ≤ u2 ∧ u2 ≤ j + 1 ∧ RowW wr q dk z ∧ Go.Sort.scanUp (fun x => !ltW dk[a]! x) dk j u2 = Go.Sort.scanUp (fun x => !ltW dk[a]! x) dk j i ∧ Ch [q] w wr) (fun vi _ => j + 1 - (intOf vi).toNat)
      case atStart => exact ⟨i, rfl, Nat.le_refl _, by omega, HR0.out, rfl, HC0.out⟩
      case round =>
        obtain ⟨u2, hv, hu1, hu2, hrow, hU, hC⟩ := hrel
        subst hv
        have HU := Lib.hid hU
        clear hU
        rcases (show ¬ u2 ≤ j ∨ u2 ≤ j by omega) with huj | huj
        · have huI : ¬ (u2 : Int) ≤ j := by omega
          have HUU := Lib.hid (show Go.Sort.scanUp (fun x => !ltW dk[a]! x) dk j i = u2 by rw [← HU.out]; exact scanUp_end _ dk j u2 (by omega))
          have HVV := Lib.hid (show Go.Sort.scanDown (fun x => ltW dk[a]! x) dk u2 j = j from scanDown_end _ dk u2 j (by omega))
          have HRX := Lib.hid hrow
          have HCX := Lib.hid hC
          clear hrow hC HU
          have L := fun w => less_same 0#64 0#64 w
          go_wp2
          go_quiet (first | (go_at_call 76; refine Calls.quiet_of_same (L _)))
          go_wp2
          refine wp_loop_rounds 1 ?_
          rw [rounds_succ]
          go_wp2
          go_quiet (first | (go_at_call 76; refine Calls.quiet_of_same (L _)))
          have HE := Lib.hid (partEq_end a i j u2 j dk HUU.out HVV.out (by omega))
          have hgt : ¬ (u2 : Int) ≤ j := by omega
          have hgt2 : (j : Int) < u2 := by omega
          go_wp2
          go_ret
          rw [← HO.out, HE.out]
          exact ⟨rfl, HRX.out, HCX.out.drewN _⟩
        · have huI : (u2 : Int) ≤ j := by omega
          have cX := dcells_get dk z u2 (by omega)
          have cA := dcells_get dk z a (by omega)
          obtain ⟨X, hX⟩ : ∃ x, dk[u2]! = x := ⟨_, rfl⟩
          obtain ⟨A, hA⟩ : ∃ x, dk[a]! = x := ⟨_, rfl⟩
          rw [hX] at cX
          rw [hA] at cA
          have L := fun w => less_same A X w
          obtain ⟨bb, hbb⟩ : ∃ bb, ltW A X = bb := ⟨_, rfl⟩
          rw [hbb] at L
          have HBB := Lib.hid (show ltW dk[a]! dk[u2]! = bb by rw [hX, hA]; exact hbb)
          have hrow2 : wr.heap[q]? = some (.cells (dcells dk z) 22 (0, 0)) := hrow
          have k1 : (u2 : Int) < n := by omega
          have k2 : (a : Int) < n := by omega
          have k3 : (0 : Int) ≤ u2 := by omega
          have k4 : (0 : Int) ≤ a := by omega
          clear hX hA hbb
          cases bb with
          | false =>
            have HU2 := Lib.hid (show Go.Sort.scanUp (fun x => !ltW dk[a]! x) dk j (u2 + 1) = Go.Sort.scanUp (fun x => !ltW dk[a]! x) dk j i by rw [← scanUp_go _ dk j u2 huj (by show (!_) = true; rw [HBB.out]; rfl)]; exact HU.out)
            have HRX := Lib.hid hrow
            have HCX := Lib.hid hC
            clear HBB hC hrow HU
            go_wp2_with fail
            go_quiet (first | (go_at_call 76; refine Calls.quiet_of_same (L _)))
            go_wp2
            go_roundw
            case rel => exact ⟨u2 + 1, by go_num, by omega, by omega, HRX.out, HU2.out, HCX.out.drewN _⟩
            case measure => simp [intOf]; omega
          | true =>
            have HUU := Lib.hid (show Go.Sort.scanUp (fun x => !ltW dk[a]! x) dk j i = u2 by rw [← HU.out]; exact scanUp_stop _ dk j u2 (by show (!_) = false; rw [HBB.out]; rfl))
            have HRX := Lib.hid hrow
            have HCX := Lib.hid hC
            have HB1 := HBB
            clear HBB hC hrow HU
            go_wp2_with fail
            go_quiet (first | (go_at_call 76; refine Calls.quiet_of_same (L _)))
            go_wp2
            go_loopw [10] (fun vj wr => ∃ (v2 : Nat), vj = I v2 ∧ v2 ≤ j ∧ u2 ≤ v2 + 1 ∧ RowW wr q dk z ∧ Go.Sort.scanDown (fun x => ltW dk[a]! x) dk u2 v2 = Go.Sort.scanDown (fun x => ltW dk[a]! x) dk u2 j ∧ Ch [q] w wr) (fun vj _ => (intOf vj).toNat + 1 - u2)
            case atStart => exact ⟨j, rfl, Nat.le_refl _, by omega, HRX.out, rfl, HCX.out.drewN _⟩
            case round =>
              obtain ⟨v2, hv, hv1, hv2, hrow, hV, hC⟩ := hrel
              subst hv
              have HV := Lib.hid hV
              clear hV HRX HCX L cA cX hrow2
              rcases (show ¬ u2 ≤ v2 ∨ u2 ≤ v2 by omega) with hvu | hvu
              · have hvI : ¬ (u2 : Int) ≤ v2 := by omega
                have HVV := Lib.hid (show Go.Sort.scanDown (fun x => ltW dk[a]! x) dk u2 j = v2 by rw [← HV.out]; exact scanDown_end _ dk u2 v2 (by omega))
                have HRX := Lib.hid hrow
                have HCX := Lib.hid hC
                clear hrow hC HV
                have L := fun w => less_same 0#64 0#64 w
                go_wp2
                go_quiet (first | (go_at_call 76; refine Calls.quiet_of_same (L _)))
                have HE := Lib.hid (partEq_end a i j u2 v2 dk HUU.out HVV.out (by omega))
                have hgt : ¬ (u2 : Int) ≤ v2 := by omega
                have hgt2 : (v2 : Int) < u2 := by omega
                go_wp2
                go_ret
                rw [← HO.out, HE.out]
                exact ⟨rfl, HRX.out, HCX.out.drewN _⟩
              · have hvI : (u2 : Int) ≤ v2 := by omega
                have cX := dcells_get dk z v2 (by omega)
                have cA := dcells_get dk z a (by omega)
                obtain ⟨X, hX⟩ : ∃ x, dk[v2]! = x := ⟨_, rfl⟩
                obtain ⟨A, hA⟩ : ∃ x, dk[a]! = x := ⟨_, rfl⟩
                rw [hX] at cX
                rw [hA] at cA
                have L := fun w => less_same A X w
                obtain ⟨bb, hbb⟩ : ∃ bb, ltW A X = bb := ⟨_, rfl⟩
                rw [hbb] at L
                have HBB := Lib.hid (show ltW dk[a]! dk[v2]! = bb by rw [hX, hA]; exact hbb)
                have hrow2 : wr.heap[q]? = some (.cells (dcells dk z) 22 (0, 0)) := hrow
                have k1 : (v2 : Int) < n := by omega
                have k2 : (a : Int) < n := by omega
                have k3 : (0 : Int) ≤ v2 := by omega
                have k4 : (0 : Int) ≤ a := by omega
                clear hX hA hbb
                cases bb with
                | false =>
                  have HVV := Lib.hid (show Go.Sort.scanDown (fun x => ltW dk[a]! x) dk u2 j = v2 by rw [← HV.out]; exact scanDown_stop _ dk u2 v2 (by show _ = false; rw [HBB.out]))
                  have huv : u2 < v2 := by
                    rcases (show u2 = v2 ∨ u2 < v2 by omega) with h | h
                    · exfalso
                      have h1 := HB1.out
                      rw [h, HBB.out] at h1
                      cases h1
                    · exact h
                  have HRX := Lib.hid hrow
                  have HCX := Lib.hid hC
                  clear HBB HB1 hC HV
                  go_wp2_with fail
                  go_quiet (first | (go_at_call 76; refine Calls.quiet_of_same (L _)))
                  clear L cA cX k1 k2 k3 k4
                  have hgt : ¬ (v2 : Int) < u2 := by omega
                  have hgt2 : (u2 : Int) ≤ v2 := by omega
                  have cA := dcells_get dk z u2 (by omega)
                  have cB := dcells_get dk z v2 (by omega)
                  have SW := fun wq (h : RowW wq q dk z) => RowW.swap h u2 v2 (by omega) (by omega)
                  have HSZD2 := Lib.hid ((swp_size dk u2 v2).trans (show dk.size = n by assumption))
                  have n0 := dcells_same dk z u2 (by omega)
                  obtain ⟨X, hX⟩ : ∃ x, dk[u2]! = x := ⟨_, rfl⟩
                  obtain ⟨Y, hY⟩ : ∃ x, dk[v2]! = x := ⟨_, rfl⟩
                  rw [hX] at cA SW n0
                  rw [hY] at cB SW
                  obtain ⟨D2, hD2⟩ : ∃ x, Go.Sort.swp dk u2 v2 = x := ⟨_, rfl⟩
                  rw [hD2] at SW HSZD2
                  have HSW := Lib.hid SW
                  have HD2 := Lib.hid hD2
                  have k1 : (u2 : Int) < n := by omega
                  have k2 : (v2 : Int) < n := by omega
                  have k3 : (0 : Int) ≤ u2 := by omega
                  have k4 : (0 : Int) ≤ v2 := by omega
                  clear SW hX hY hD2
                  have k5 : ¬ u2 = v2 := by omega
                  have k6 : ¬ v2 = u2 := by omega
                  obtain ⟨vm, hvm⟩ : ∃ x, v2 - 1 = x := ⟨_, rfl⟩
                  have evm : (v2 : Int) - 1 = vm := by omega
                  have HE := Lib.hid (show Go.Sort.partEqLoop ltW a (u2 + 1) vm D2 = R by rw [← hvm, ← HD2.out, ← partEq_go a i j u2 v2 dk HUU.out HVV.out (by omega)]; exact HO.out)
                  clear n0
                  go_wp2
                  go_region
                  all_goals go_wp2
                  go_roundw
                  case rel => exact ⟨u2 + 1, vm, D2, by go_num, by first | rfl | go_num, by omega, by omega, by omega, by omega, HSZD2.out, HSW.out wr HRX.out, HE.out, (by first | exact (((HCX.out.drewN _).setCell (.inl (by simp)) _).setCell (.inl (by simp)) _).drew | exact (((HCX.out.drewN _).setCell (.inl (by simp)) _).setCell (.inl (by simp)) _))⟩
                  case measure => simp [intOf]; omega
                | true =>
                  obtain ⟨vm, hvm⟩ : ∃ x, v2 - 1 = x := ⟨_, rfl⟩
                  have evm : (v2 : Int) - 1 = vm := by omega
                  have HV2 := Lib.hid (show Go.Sort.scanDown (fun x => ltW dk[a]! x) dk u2 vm = Go.Sort.scanDown (fun x => ltW dk[a]! x) dk u2 j by rw [← hvm, ← scanDown_go _ dk u2 v2 hvu (by omega) (by show _ = true; rw [HBB.out])]; exact HV.out)
                  have HRX := Lib.hid hrow
                  have HCX := Lib.hid hC
                  clear HBB hC hrow HV hvm
                  go_wp2_with fail
                  go_quiet (first | (go_at_call 76; refine Calls.quiet_of_same (L _)))
                  go_wp2
                  go_roundw
                  case rel => exact ⟨vm, by first | rfl | go_num, by omega, by omega, HRX.out, HV2.out, HCX.out.drewN _⟩
                  case measure => simp [intOf]; omega
end Go.Proofs.Hc
