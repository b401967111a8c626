/- Package script: Takes, words, all of three words. -/
import Derived.Test.YtfoicjijngfhbaaGreatDoorKBc
import Derived.Test.YtfoicjijngfhbaaGreatDoorKDa
import Derived.Test.YtfoicjijngfhbaaGreatDoorKHm
import Derived.Below
import Derived.BigQuiet
import Derived.Deep.Cut
import Derived.Deep.Draws
import Derived.Deep.QuietTactic
import Derived.Deep.RegionHeld
import Derived.Laws.CopyRow
import Derived.Laws.EntriesVeiled
import Derived.Laws.Tables
import Derived.Lib.Hide
import Derived.LoopIn
import Derived.LoopNIn
import Derived.OwnWalkIn
import Derived.RangeFuncCalls
import Derived.RangeFuncRecord
import Derived.RangeFuncSeq
import Derived.Recover
import Derived.TacticsInMore
import Derived.Test.YtfoicjijngfhbaaGreatDoorProg
import Derived.WalkKit
import Derived.WalkLawsBesides
set_option linter.unusedSimpArgs false
set_option linter.unusedVariables false
namespace Go.Proofs.Hc
open Go.RowKit
set_option linter.unusedVariables false
attribute [local go_sem] wrap_u64 wrap_u8 bits_xor64 bits_and64 bits_or64 bits_not64 bits_xor8 bits_and8 bits_or8 signed64 signed8 ofInt_N BitVec.ofInt_add BitVec.ofInt_mul ofInt_sub' ofInt8_N64 ofInt64_N8 wide8 eqN neN shr_pow shr1 shr7 shr56
attribute [local go_sem high] bits_com64 shl_wrap
attribute [local go_sem] nn2 nm2 nn3 nm3 nn4 nm4 nn5 nm5 nn6 nm6 nn7 nm7 nn8 nm8
attribute [local go_sem] Oper.semAt_some make_func1 make_funcB
/-- How many words a call takes, by its Op. -/
def takesL : List Int := [-1, 1, 2, 1, 3, 2, 0, 0]
def takesE (op : Int) : Int := if 0 ≤ op ∧ op < 8 then takesL.getD op.toNat 0 else -1
/-- The table of takes lies in block 0. -/
def TakesAt (w : World) : Prop := 0 < w.heap.size ∧ ∀ i, i < 8 → w.cell? ⟨0, i, none⟩ = some (I (takesL.getD i 0))
theorem TakesAt.ch {w w' : World} (h : TakesAt w) (c : Ch [] w w') : TakesAt w' := ⟨Nat.lt_of_lt_of_le h.1 c.size, fun i hi => (c.cell _ _ h.1).trans (h.2 i hi)⟩
theorem stakes_any (op : Int) (w : World) (h : TakesAt w) : Calls Tryz.prog 66 #[I op] w fun e w' => e = .returned (I (takesE op)) ∧ w = w' := by
  by_cases h0 : 0 ≤ op
  · by_cases h8 : op < 8
    · obtain ⟨n, rfl⟩ : ∃ n : Nat, op = n := ⟨op.toNat, by omega⟩
      have e : takesE n = takesL.getD n 0 := by unfold takesE; rw [if_pos ⟨h0, h8⟩]; rfl
      have hc := h.2 n (by omega)
      rw [e]
      have hn8 : n < 8 := by omega
      obtain ⟨v, hv⟩ : ∃ v, takesL.getD n 0 = v := ⟨_, rfl⟩
      rw [hv] at hc ⊢
      clear hv e h h0
      go_enter Tryz.func66, Tryz.ntmps66
      go_wp2
      go_ret
      exact ⟨rfl, rfl⟩
    · have e : takesE op = -1 := by unfold takesE; rw [if_neg (by omega)]
      rw [e]
      clear h e
      go_enter Tryz.func66, Tryz.ntmps66
      go_wp2
      go_ret
      exact ⟨rfl, rfl⟩
  · have e : takesE op = -1 := by unfold takesE; rw [if_neg (by omega)]
    rw [e]
    clear h e
    go_enter Tryz.func66, Tryz.ntmps66
    go_wp2
    go_ret
    exact ⟨rfl, rfl⟩
theorem sright1_any (b o : Nat) (x : BitVec 64) (w : World) (h : w.cell? ⟨b, o, none⟩ = some (U x)) : Calls Tryz.prog 69 #[.pointer (some ⟨b, o, none⟩)] w fun e w' => e = .returned (.bool (N x == 0)) ∧ w = w' := by
  go_enter Tryz.func69, Tryz.ntmps69
  go_wp2
  go_ret
  exact ⟨rfl, rfl⟩
/-- What all[*uint64] asks of one. -/
theorem sallw1_any (b o g : Nat) (x : BitVec 64) (w : World) (h : w.cell? ⟨b, o, none⟩ = some (U x)) (hg : w.cell? ⟨g, 0, none⟩ = some (.func (.func 69) #[] #[])) :
    Calls Tryz.prog 88 #[.pointer (some ⟨b, o, none⟩), .pointer (some ⟨g, 0, none⟩)] w fun e w' => e = .returned (.bool (!(N x == 0))) ∧ w = w' := by
  have S1 := fun w h => sright1_any b o x w h
  go_enter Tryz.func88, Tryz.ntmps88
  go_wp2_with (go_at_call 69; refine (S1 _ h).mono ?_; rintro e w' ⟨rfl, rfl⟩)
  go_ret
  exact ⟨rfl, rfl⟩
set_option maxRecDepth 100000 in
theorem sidxw_any (a o n c g : Nat) (P : Nat → Nat × Nat) (X : Nat → BitVec 64) (w : World) (hn : n ≤ 3) (hp : ∀ i, i < n → w.cell? ⟨a, o + i, none⟩ = some (.pointer (some ⟨(P i).1, (P i).2, none⟩))) (hx : ∀ i, i < n → w.cell? ⟨(P i).1, (P i).2, none⟩ = some (U (X i)))
    (hg : w.cell? ⟨g, 0, none⟩ = some (.func (.func 69) #[] #[])) :
    Calls Tryz.prog 100 #[.slice (some ⟨a, o, none⟩) n c, .func (.func 88) #[] #[.pointer (some ⟨g, 0, none⟩)]] w fun e w' => ∃ r : Int, e = .returned (I r) ∧ ((r = -1 ∧ ∀ i, i < n → X i = 0#64) ∨ (0 ≤ r ∧ ∃ i, i < n ∧ X i ≠ 0#64)) ∧ w = w' := by
  go_enter Tryz.func100, Tryz.ntmps100
  go_wp2
  go_loopw [8] (fun i wr => ∃ j : Nat, i = I j ∧ j ≤ n ∧ (∀ i, i < j → X i = 0#64) ∧ wr = w) (fun i _ => n - (intOf i).toNat)
  case atStart => exact ⟨0, rfl, by omega, fun i h => absurd h (by omega), rfl⟩
  case round =>
    obtain ⟨j, hi, hj, hz, hwr⟩ := hrel
    subst hi hwr
    have HZ := Lib.hid hz
    have HP := Lib.hid hp
    have HX := Lib.hid hx
    clear hz hp hx
    rcases (show j = n ∨ j < n by omega) with rfl | hlt
    · go_wp2
      go_ret
      exact ⟨_, rfl, .inl ⟨rfl, HZ.out⟩, rfl⟩
    · have hpj := HP.out j hlt
      have hxj := HX.out j hlt
      have S1 := fun w h hg => sallw1_any (P j).1 (P j).2 g (X j) w h hg
      obtain ⟨pb, hpb⟩ : ∃ x, (P j).1 = x := ⟨_, rfl⟩
      obtain ⟨po, hpo⟩ : ∃ x, (P j).2 = x := ⟨_, rfl⟩
      obtain ⟨x, hx⟩ : ∃ x, X j = x := ⟨_, rfl⟩
      rw [hpb, hpo] at hpj
      rw [hpb, hpo, hx] at hxj
      rw [hpb, hpo, hx] at S1
      have hjn : (j : Int) < n := by omega
      by_cases h0 : x = 0#64
      · have hb : (!(N x == 0)) = false := by rw [h0]; decide
        go_wp2_with (go_at_call 88; refine (S1 _ hxj hg).mono ?_; rintro e w' ⟨rfl, rfl⟩)
        go_roundw
        case rel =>
          refine ⟨j + 1, by go_num, by omega, fun i hi => ?_, trivial⟩
          rcases (show i < j ∨ i = j by omega) with h | h
          · exact HZ.out i h
          · rw [h, hx, h0]
        case measure => simp [intOf]; omega
      · have hb : (!(N x == 0)) = true := by
          have : ¬ N x = 0 := fun h => h0 ((N_inj x 0#64).1 (by rw [h]; rfl))
          simpa using this
        go_wp2_with (go_at_call 88; refine (S1 _ hxj hg).mono ?_; rintro e w' ⟨rfl, rfl⟩)
        go_ret
        exact ⟨_, rfl, .inr ⟨by omega, j, hlt, by rw [hx]; exact h0⟩, rfl⟩
end Go.Proofs.Hc
