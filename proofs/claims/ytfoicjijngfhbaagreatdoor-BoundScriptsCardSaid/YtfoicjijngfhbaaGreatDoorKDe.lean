/- Package script: Takes, words, all of three words. -/
import Derived.Test.YtfoicjijngfhbaaGreatDoorKBc
import Derived.Test.YtfoicjijngfhbaaGreatDoorKDa
import Derived.Test.YtfoicjijngfhbaaGreatDoorKDb
import Derived.Test.YtfoicjijngfhbaaGreatDoorKHm
import Derived.Test.YtfoicjijngfhbaaGreatDoorKHr
import Derived.Below
import Derived.BigQuiet
import Derived.Deep.Cut
import Derived.Deep.Draws
import Derived.Deep.QuietTactic
import Derived.Deep.RegionHeld
import Derived.Laws.CopyRow
import Derived.Laws.EntriesVeiled
import Derived.Laws.Tables
import Derived.Lib.Hide
import Derived.LoopIn
import Derived.LoopNIn
import Derived.OwnWalkIn
import Derived.RangeFuncCalls
import Derived.RangeFuncRecord
import Derived.RangeFuncSeq
import Derived.Recover
import Derived.TacticsInMore
import Derived.Test.YtfoicjijngfhbaaGreatDoorProg
import Derived.WalkKit
import Derived.WalkLawsBesides
import Derived.Sort.Defs
set_option linter.unusedSimpArgs false
set_option linter.unusedVariables false
namespace Go.Proofs.Hc
open Go.RowKit
set_option linter.unusedVariables false
attribute [local go_sem] wrap_u64 wrap_u8 bits_xor64 bits_and64 bits_or64 bits_not64 bits_xor8 bits_and8 bits_or8 signed64 signed8 ofInt_N BitVec.ofInt_add BitVec.ofInt_mul ofInt_sub' ofInt8_N64 ofInt64_N8 wide8 eqN neN shr_pow shr1 shr7 shr56
attribute [local go_sem high] bits_com64 shl_wrap
attribute [local go_sem] nn2 nm2 nn3 nm3 nn4 nm4 nn5 nm5 nn6 nm6 nn7 nm7 nn8 nm8
attribute [local go_sem] Oper.semAt_some make_func1 make_funcB
/-- How many words a call takes, by its Op. -/
def takesL : List Int := [-1, 1, 2, 1, 3, 2, 0, 0]
def takesE (op : Int) : Int := if 0 ≤ op ∧ op < 8 then takesL.getD op.toNat 0 else -1
/-- The table of takes lies in block 0. -/
def TakesAt (w : World) : Prop := 0 < w.heap.size ∧ ∀ i, i < 8 → w.cell? ⟨0, i, none⟩ = some (I (takesL.getD i 0))
theorem TakesAt.ch {w w' : World} (h : TakesAt w) (c : Ch [] w w') : TakesAt w' := ⟨Nat.lt_of_lt_of_le h.1 c.size, fun i hi => (c.cell _ _ h.1).trans (h.2 i hi)⟩
theorem stakes_any (op : Int) (w : World) (h : TakesAt w) : Calls Tryz.prog 66 #[I op] w fun e w' => e = .returned (I (takesE op)) ∧ w = w' := by
  by_cases h0 : 0 ≤ op
  · by_cases h8 : op < 8
    · obtain ⟨n, rfl⟩ : ∃ n : Nat, op = n := ⟨op.toNat, by omega⟩
      have e : takesE n = takesL.getD n 0 := by unfold takesE; rw [if_pos ⟨h0, h8⟩]; rfl
      have hc := h.2 n (by omega)
      rw [e]
      have hn8 : n < 8 := by omega
      obtain ⟨v, hv⟩ : ∃ v, takesL.getD n 0 = v := ⟨_, rfl⟩
      rw [hv] at hc ⊢
      clear hv e h h0
      go_enter Tryz.func66, Tryz.ntmps66
      go_wp2
      go_ret
      exact ⟨rfl, rfl⟩
    · have e : takesE op = -1 := by unfold takesE; rw [if_neg (by omega)]
      rw [e]
      clear h e
      go_enter Tryz.func66, Tryz.ntmps66
      go_wp2
      go_ret
      exact ⟨rfl, rfl⟩
  · have e : takesE op = -1 := by unfold takesE; rw [if_neg (by omega)]
    rw [e]
    clear h e
    go_enter Tryz.func66, Tryz.ntmps66
    go_wp2
    go_ret
    exact ⟨rfl, rfl⟩
theorem sright1_any (b o : Nat) (x : BitVec 64) (w : World) (h : w.cell? ⟨b, o, none⟩ = some (U x)) : Calls Tryz.prog 69 #[.pointer (some ⟨b, o, none⟩)] w fun e w' => e = .returned (.bool (N x == 0)) ∧ w = w' := by
  go_enter Tryz.func69, Tryz.ntmps69
  go_wp2
  go_ret
  exact ⟨rfl, rfl⟩
/-- What all[*uint64] asks of one. -/
theorem sallw1_any (b o g : Nat) (x : BitVec 64) (w : World) (h : w.cell? ⟨b, o, none⟩ = some (U x)) (hg : w.cell? ⟨g, 0, none⟩ = some (.func (.func 69) #[] #[])) :
    Calls Tryz.prog 88 #[.pointer (some ⟨b, o, none⟩), .pointer (some ⟨g, 0, none⟩)] w fun e w' => e = .returned (.bool (!(N x == 0))) ∧ w = w' := by
  have S1 := fun w h => sright1_any b o x w h
  go_enter Tryz.func88, Tryz.ntmps88
  go_wp2_with (go_at_call 69; refine (S1 _ h).mono ?_; rintro e w' ⟨rfl, rfl⟩)
  go_ret
  exact ⟨rfl, rfl⟩
set_option maxRecDepth 100000 in
theorem sidxw_any (a o n c g : Nat) (P : Nat → Nat × Nat) (X : Nat → BitVec 64) (w : World) (hn : n ≤ 3) (hp : ∀ i, i < n → w.cell? ⟨a, o + i, none⟩ = some (.pointer (some ⟨(P i).1, (P i).2, none⟩))) (hx : ∀ i, i < n → w.cell? ⟨(P i).1, (P i).2, none⟩ = some (U (X i)))
    (hg : w.cell? ⟨g, 0, none⟩ = some (.func (.func 69) #[] #[])) :
    Calls Tryz.prog 100 #[.slice (some ⟨a, o, none⟩) n c, .func (.func 88) #[] #[.pointer (some ⟨g, 0, none⟩)]] w fun e w' => ∃ r : Int, e = .returned (I r) ∧ ((r = -1 ∧ ∀ i, i < n → X i = 0#64) ∨ (0 ≤ r ∧ ∃ i, i < n ∧ X i ≠ 0#64)) ∧ w = w' := by
  go_enter Tryz.func100, Tryz.ntmps100
  go_wp2
  go_loopw [8] (fun i wr => ∃ j : Nat, i = I j ∧ j ≤ n ∧ (∀ i, i < j → X i = 0#64) ∧ wr = w) (fun i _ => n - (intOf i).toNat)
  case atStart => exact ⟨0, rfl, by omega, fun i h => absurd h (by omega), rfl⟩
  case round =>
    obtain ⟨j, hi, hj, hz, hwr⟩ := hrel
    subst hi hwr
    have HZ := Lib.hid hz
    have HP := Lib.hid hp
    have HX := Lib.hid hx
    clear hz hp hx
    rcases (show j = n ∨ j < n by omega) with rfl | hlt
    · go_wp2
      go_ret
      exact ⟨_, rfl, .inl ⟨rfl, HZ.out⟩, rfl⟩
    · have hpj := HP.out j hlt
      have hxj := HX.out j hlt
      have S1 := fun w h hg => sallw1_any (P j).1 (P j).2 g (X j) w h hg
      obtain ⟨pb, hpb⟩ : ∃ x, (P j).1 = x := ⟨_, rfl⟩
      obtain ⟨po, hpo⟩ : ∃ x, (P j).2 = x := ⟨_, rfl⟩
      obtain ⟨x, hx⟩ : ∃ x, X j = x := ⟨_, rfl⟩
      rw [hpb, hpo] at hpj
      rw [hpb, hpo, hx] at hxj
      rw [hpb, hpo, hx] at S1
      have hjn : (j : Int) < n := by omega
      by_cases h0 : x = 0#64
      · have hb : (!(N x == 0)) = false := by rw [h0]; decide
        go_wp2_with (go_at_call 88; refine (S1 _ hxj hg).mono ?_; rintro e w' ⟨rfl, rfl⟩)
        go_roundw
        case rel =>
          refine ⟨j + 1, by go_num, by omega, fun i hi => ?_, trivial⟩
          rcases (show i < j ∨ i = j by omega) with h | h
          · exact HZ.out i h
          · rw [h, hx, h0]
        case measure => simp [intOf]; omega
      · have hb : (!(N x == 0)) = true := by
          have : ¬ N x = 0 := fun h => h0 ((N_inj x 0#64).1 (by rw [h]; rfl))
          simpa using this
        go_wp2_with (go_at_call 88; refine (S1 _ hxj hg).mono ?_; rintro e w' ⟨rfl, rfl⟩)
        go_ret
        exact ⟨_, rfl, .inr ⟨by omega, j, hlt, by rw [hx]; exact h0⟩, rfl⟩
end Go.Proofs.Hc
/- slices.reverseRangeOrdered at words. -/
namespace Go.Proofs.Hc
open Go.RowKit
set_option linter.unusedVariables false
set_option linter.unusedSimpArgs false
attribute [local go_sem] wrap_u64 wrap_u8 bits_xor64 bits_and64 bits_or64 bits_not64 bits_xor8 bits_and8 bits_or8 signed64 signed8 ofInt_N BitVec.ofInt_add BitVec.ofInt_mul ofInt_sub' ofInt8_N64 ofInt64_N8 wide8 eqN neN shr_pow shr1 shr7 shr56
attribute [local go_sem high] bits_com64 shl_wrap
attribute [local go_sem] nn2 nm2 nn3 nm3 nn4 nm4 nn5 nm5 nn6 nm6 nn7 nm7 nn8 nm8
attribute [local go_sem] Oper.semAt_some make_func1
attribute [local go_sem] cell_heap ice_heap cellAt_cells iceAt_cells setAt_cells size_setCell rowAt_cells canLay_cells laidAt_cells size_onObj rowRes_some layRes_true
attribute [local go_sem ↓] heap_alloc heap_drew heap_drewN heap_setCell heap_putObj heap_onObj
theorem rev_go (i j : Nat) (d : Array (BitVec 64)) (h : i < j) : Go.Sort.reverseLoop i j d = Go.Sort.reverseLoop (i + 1) (j - 1) (Go.Sort.swp d i j) := by
  rw [Go.Sort.reverseLoop, if_pos h]
theorem rev_end (i j : Nat) (d : Array (BitVec 64)) (h : ¬ i < j) : Go.Sort.reverseLoop i j d = d := by
  rw [Go.Sort.reverseLoop, if_neg h]
set_option maxHeartbeats 4000000 in
set_option maxRecDepth 100000 in
theorem rev_any (q cap a b n : Nat) (d : Array (BitVec 64)) (hn : d.size = n) (z : Array Value) (w : World) (hab : a < b) (hb : b ≤ n) (hs : n < 1152921504606846976) (hq : RowW w q d z) :
    Calls Tryz.prog 74 #[.slice (some ⟨q, 0, none⟩) n cap, I a, I b] w fun e w' => e = .returned (.tuple #[]) ∧ RowW w' q (Go.Sort.reverseRange d a b) z ∧ Ch [q] w w' := by
  unfold Go.Sort.reverseRange
  obtain ⟨j0, hj0⟩ : ∃ j, b - 1 = j := ⟨_, rfl⟩
  rw [hj0]
  have e1 : (b : Int) - 1 = j0 := by omega
  have hj1 : j0 < n := by omega
  have HN := Lib.hid hn
  have HQ := Lib.hid hq
  clear hn hq hj0
  go_enter Tryz.func74, Tryz.ntmps74
  go_wp2
  go_loopw [6, 7] (fun vi vj wr => ∃ (i j : Nat) (dj : Array (BitVec 64)), vi = I i ∧ vj = I j ∧ i ≤ n ∧ j < n ∧ dj.size = n ∧ RowW wr q dj z ∧ Go.Sort.reverseLoop i j dj = Go.Sort.reverseLoop a j0 d ∧ Ch [q] w wr) (fun vi vj _ => (intOf vj).toNat + 1 - (intOf vi).toNat)
  case atStart => exact ⟨a, j0, d, rfl, by first | rfl | go_num, by omega, hj1, HN.out, HQ.out, rfl, Ch.refl _ _⟩
  case round =>
    obtain ⟨i, j, dj, hi, hj, hin, hjn, hdj, hrow, hrv, hC⟩ := hrel
    subst hi hj
    have HV := Lib.hid hrv
    clear hrv HQ HN
    rcases (show ¬ i < j ∨ i < j by omega) with hlt | hlt
    · have hE := Lib.hid (rev_end i j dj hlt)
      have HRW := Lib.hid hrow
      have hlti : ¬ (i : Int) < j := by omega
      clear hrow hdj
      go_wp2
      go_end0
      exact ⟨rfl, by rw [← HV.out, hE.out]; exact HRW.out, hC⟩
    · have hE := Lib.hid (rev_go i j dj hlt)
      have hlti : (i : Int) < j := by omega
      have cA := dcells_get dj z i (by omega)
      have cB := dcells_get dj z j (by omega)
      have SW := fun wq (h : RowW wq q dj z) => RowW.swap h i j (by omega) (by omega)
      have hsz := (swp_size dj i j).trans hdj
      obtain ⟨X, hX⟩ : ∃ x, dj[i]! = x := ⟨_, rfl⟩
      obtain ⟨Y, hY⟩ : ∃ x, dj[j]! = x := ⟨_, rfl⟩
      rw [hX] at cA SW
      rw [hY] at cB SW
      have HSW := Lib.hid SW
      have HSZ := Lib.hid hsz
      have hrow2 : wr.heap[q]? = some (.cells (dcells dj z) 22 (0, 0)) := hrow
      have k1 : (i : Int) < n := by omega
      have k2 : (j : Int) < n := by omega
      have k3 : (0 : Int) ≤ i := by omega
      have k4 : (0 : Int) ≤ j := by omega
      have k5 : ¬ i = j := by omega
      have k6 : ¬ j = i := by omega
      have HR := Lib.hid hrow
      have HC := Lib.hid hC
      clear hrow SW hsz hC
      go_wp2
      go_region
      all_goals go_wp2
      go_roundw
      case rel => exact ⟨i + 1, j - 1, _, by go_num, by go_num, by omega, by omega, HSZ.out, HSW.out wr HR.out, by rw [← HV.out, hE.out], (((HC.out.setCell (.inl (by simp)) _).setCell (.inl (by simp)) _)).drew⟩
      case measure => simp [intOf]; omega
end Go.Proofs.Hc
