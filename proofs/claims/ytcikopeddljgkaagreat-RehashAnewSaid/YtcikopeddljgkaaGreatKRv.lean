/- Layer 20: a whole run, the plain law. -/
import Derived.Test.YtcikopeddljgkaaGreatKHdb
import Derived.Test.YtcikopeddljgkaaGreatKHmet
import Derived.Test.YtcikopeddljgkaaGreatKHpa
import Derived.Test.YtcikopeddljgkaaGreatKHpb
import Derived.Test.YtcikopeddljgkaaGreatKHtr2
import Derived.Test.YtcikopeddljgkaaGreatKRb
import Derived.Below
import Derived.BigQuiet
import Derived.Deep.Draws
import Derived.Deep.Light
import Derived.Deep.OwnRows
import Derived.Deep.QuietTactic
import Derived.Deep.RegionHeld
import Derived.IntWalk
import Derived.Laws.CopyOwn
import Derived.Laws.CopyRow
import Derived.Laws.StructEq
import Derived.Laws.Tables
import Derived.Lib.AppendZerosOnto
import Derived.Lib.Hide
import Derived.Lib.Tables
import Derived.Lib.Walk
import Derived.LoopIn
import Derived.LoopN
import Derived.LoopNIn
import Derived.Maps.AppendAt
import Derived.Maps.Views
import Derived.OwnWalkIn
import Derived.RangeFuncBox
import Derived.RangeFuncCalls
import Derived.RangeFuncRecord
import Derived.RangeFuncSeq
import Derived.Recover
import Derived.RegionTactic
import Derived.ScopeJumps
import Derived.Shelf.Slices.Clone
import Derived.StillTail
import Derived.StillTailTactics
import Derived.TacticsInMore
import Derived.Test.YtcikopeddljgkaaGreatProg
import Derived.WalkKit
import Derived.WalkLawsBesides
import Derived.WalkMore
import Derived.WalkSpells
import Derived.Laws.AppendOwn
import Derived.OpenShut
import Derived.ProofKit
set_option linter.unusedSimpArgs false
set_option linter.unusedVariables false
namespace Go.Proofs.Hc
open Go.RowKit
structure RightL (p : LayT) : Prop where
  ph0 : 0 ≤ p.ph
  ph6 : p.ph ≤ 6
  who0 : 0 ≤ p.who
  who7 : p.who < 8
  sl0 : 0 ≤ p.sl
  sl1 : p.sl < 128
  even : oddB p.count = false
  at_ : 1 ≤ p.at_ ∧ p.at_ < 40 ∨ p.ph ≠ 2 ∧ p.ph ≠ 3
theorem rightL_iff (p : LayT) : rightL p = true ↔ RightL p := by
  unfold rightL
  constructor
  · intro h
    simp only [Bool.and_eq_true, Bool.or_eq_true, decide_eq_true_eq, bne_iff_ne, Bool.not_eq_true'] at h
    exact ⟨h.1.1.1.1.1, h.1.1.1.1.2, h.1.1.1.2.1, h.1.1.1.2.2, h.1.1.2.1, h.1.1.2.2, h.1.2, h.2⟩
  · intro h
    simp only [Bool.and_eq_true, Bool.or_eq_true, decide_eq_true_eq, bne_iff_ne, Bool.not_eq_true']
    exact ⟨⟨⟨⟨⟨h.ph0, h.ph6⟩, h.who0, h.who7⟩, h.sl0, h.sl1⟩, h.even⟩, h.at_⟩
theorem laidL_cases (p : LayT) : (∃ ws, laidL p = { p with ws := ws, ph := 3, at_ := 1 }) ∨ laidL p = { p with bad := true, ph := 4 } := by
  unfold laidL
  split
  · exact .inl ⟨_, rfl⟩
  · exact .inr rfl
theorem RightL.take {p : LayT} (R : RightL p) (h4 : p.ph ≤ 4) (w : BitVec 64) : RightL (takeL p w) := by
  unfold takeL
  split
  · split
    · exact ⟨(by decide : (0 : Int) ≤ 6), (by decide : (6 : Int) ≤ 6), R.who0, R.who7, R.sl0, R.sl1, R.even, .inr ⟨by show (6 : Int) ≠ 2; decide, by show (6 : Int) ≠ 3; decide⟩⟩
    · rename_i h
      exact ⟨(by decide : (0 : Int) ≤ 1), (by decide : (1 : Int) ≤ 6), R.who0, R.who7, R.sl0, R.sl1, by simpa using h, .inr ⟨by show (1 : Int) ≠ 2; decide, by show (1 : Int) ≠ 3; decide⟩⟩
  · split
    · exact ⟨(by decide : (0 : Int) ≤ 2), (by decide : (2 : Int) ≤ 6), R.who0, R.who7, R.sl0, R.sl1, R.even, .inl ⟨by show (1 : Int) ≤ 1; decide, by show (1 : Int) < 40; decide⟩⟩
    · split
      · rename_i h0 h1 h2
        have ha := R.at_
        split
        · rcases laidL_cases { p with ws := updW (updW p.ws 39 w) 0 p.count, at_ := 40 } with ⟨ws, h⟩ | h
          · rw [h]
            exact ⟨(by decide : (0 : Int) ≤ 3), (by decide : (3 : Int) ≤ 6), R.who0, R.who7, R.sl0, R.sl1, R.even, .inl ⟨by show (1 : Int) ≤ 1; decide, by show (1 : Int) < 40; decide⟩⟩
          · rw [h]
            exact ⟨(by decide : (0 : Int) ≤ 4), (by decide : (4 : Int) ≤ 6), R.who0, R.who7, R.sl0, R.sl1, R.even, .inr ⟨by show (4 : Int) ≠ 2; decide, by show (4 : Int) ≠ 3; decide⟩⟩
        · exact ⟨R.ph0, R.ph6, R.who0, R.who7, R.sl0, R.sl1, R.even, .inl ⟨by show 1 ≤ p.at_ + 1; omega, by show p.at_ + 1 < 40; omega⟩⟩
      · split
        · rename_i h0 h1 h2 h3
          have ha := R.at_
          refine ⟨?_, ?_, R.who0, R.who7, R.sl0, R.sl1, R.even, ?_⟩
          · show 0 ≤ if p.at_ = 39 then (4 : Int) else 3
            split <;> decide
          · show (if p.at_ = 39 then (4 : Int) else 3) ≤ 6
            split <;> decide
          · show 1 ≤ p.at_ + 1 ∧ p.at_ + 1 < 40 ∨ (if p.at_ = 39 then (4 : Int) else 3) ≠ 2 ∧ (if p.at_ = 39 then (4 : Int) else 3) ≠ 3
            by_cases h : p.at_ = 39
            · rw [if_pos h]; right; decide
            · left; omega
        · exact ⟨(by decide : (0 : Int) ≤ 5), (by decide : (5 : Int) ≤ 6), R.who0, R.who7, R.sl0, R.sl1, R.even, .inr ⟨by show (5 : Int) ≠ 2; decide, by show (5 : Int) ≠ 3; decide⟩⟩
theorem takeL_who (p : LayT) (w : BitVec 64) : (takeL p w).who = p.who := by
  unfold takeL laidL
  split
  · split <;> rfl
  · split
    · rfl
    · split
      · split
        · split <;> rfl
        · rfl
      · split <;> rfl
theorem needL_some {p : LayT} {a : AccT} (h : needL p = some a) : rightL p = true ∧ p.ph ≤ 4 := by
  unfold needL at h
  cases hb : (rightL p && decide (p.ph ≤ 4)) with
  | false => rw [hb, if_neg (by decide)] at h; cases h
  | true => simpa using hb
theorem needL_acc {p : LayT} {a : AccT} (h : needL p = some a) : (a.kind = 1 ∨ a.kind = 2 ∨ a.kind = 4) ∧ 0 ≤ a.at_ ∧ a.at_ ≤ 55 + 40 * p.sl := by
  obtain ⟨hr, h4⟩ := needL_some h
  have R := (rightL_iff p).1 hr
  unfold needL at h
  rw [if_pos (by simp [hr, h4])] at h
  have h := Option.some.inj h
  subst h
  have hs := R.sl0
  have ha := R.at_
  refine ⟨?_, ?_⟩
  · show (if p.ph = 0 ∨ p.ph = 2 then (1 : Int) else 2) = 1 ∨ _
    by_cases h : p.ph = 0 ∨ p.ph = 2
    · left; exact if_pos h
    · right; left; exact if_neg h
  · show 0 ≤ 16 + 40 * p.sl + (if p.ph = 2 ∨ p.ph = 3 then p.at_ else 0) ∧ 16 + 40 * p.sl + (if p.ph = 2 ∨ p.ph = 3 then p.at_ else 0) ≤ 55 + 40 * p.sl
    by_cases h : p.ph = 2 ∨ p.ph = 3
    · rw [if_pos h]; omega
    · rw [if_neg h]; omega
theorem measL_take {p : LayT} (R : RightL p) (h4 : p.ph ≤ 4) (w : BitVec 64) : measL (takeL p w) < measL p := by
  have ha := R.at_
  have h0 := R.ph0
  by_cases hp0 : p.ph = 0
  · unfold takeL
    rw [if_pos hp0]
    have hm : measL p = 100 := by unfold measL; rw [if_pos hp0]
    rw [hm]
    split
    · exact (by decide : (0 : Nat) < 100)
    · exact (by decide : (99 : Nat) < 100)
  · by_cases hp1 : p.ph = 1
    · unfold takeL
      rw [if_neg hp0, if_pos hp1]
      have hm : measL p = 99 := by unfold measL; rw [if_neg hp0, if_pos hp1]
      rw [hm]
      exact (by decide : (97 : Nat) < 99)
    · by_cases hp2 : p.ph = 2
      · unfold takeL
        rw [if_neg hp0, if_neg hp1, if_pos hp2]
        have hm : measL p = (98 - p.at_).toNat := by unfold measL; rw [if_neg hp0, if_neg hp1, if_pos hp2]
        rw [hm]
        split
        · rename_i h39
          rcases laidL_cases { p with ws := updW (updW p.ws 39 w) 0 p.count, at_ := 40 } with ⟨ws, h⟩ | h
          · rw [h]
            have : measL { p with ws := ws, ph := 3, at_ := 1 } = 41 := rfl
            show measL { p with ws := ws, ph := 3, at_ := 1 } < _
            rw [this, h39]; decide
          · rw [h, h39]
            exact (by decide : (1 : Nat) < (98 - 39 : Int).toNat)
        · have : measL { p with ws := updW p.ws p.at_.toNat w, at_ := p.at_ + 1 } = (98 - (p.at_ + 1)).toNat := by
            unfold measL; dsimp only; rw [if_neg hp0, if_neg hp1, if_pos hp2]
          rw [this]; omega
      · by_cases hp3 : p.ph = 3
        · unfold takeL
          rw [if_neg hp0, if_neg hp1, if_neg hp2, if_pos hp3]
          have hm : measL p = (42 - p.at_).toNat := by unfold measL; rw [if_neg hp0, if_neg hp1, if_neg hp2, if_pos hp3]
          rw [hm]
          by_cases h39 : p.at_ = 39
          · rw [if_pos h39]
            show 1 < _
            omega
          · rw [if_neg h39]
            show (42 - (p.at_ + 1)).toNat < _
            omega
        · have hp4 : p.ph = 4 := by omega
          unfold takeL
          rw [if_neg hp0, if_neg hp1, if_neg hp2, if_neg hp3]
          have hm : measL p = 1 := by unfold measL; rw [if_neg hp0, if_neg hp1, if_neg hp2, if_neg hp3, if_pos hp4]
          rw [hm]
          exact (by decide : (0 : Nat) < 1)
/-- A whole run: the words and who lays anew behind it, and how many steps. -/
inductive RunsL : List (BitVec 64) → LayT → Nat → List (BitVec 64) → LayT → Prop
  | done {l p} : 4 < p.ph → RunsL l p 0 l p
  | step {l p a y k l' p'} : p.ph ≤ 4 → rightL p = true → needL p = some a → doP l a = some y → RunsL y.1 (takeL p y.2) k l' p' → RunsL l p (k + 1) l' p'
end Go.Proofs.Hc
/- Package rehash: Step, as a model; a run with its accesses. -/
namespace Go.Proofs.Hc
open Go.RowKit
set_option linter.unusedVariables false
theorem doP_lenL {l : List (BitVec 64)} {a : AccT} {y : List (BitVec 64) × BitVec 64} (hd : doP l a = some y) : y.1.length = l.length := by
  unfold doP at hd
  split at hd
  · cases hd
  · have hd := Option.some.inj hd
    subst hd
    dsimp only
    split
    · rfl
    · split <;> simp
/-- A whole run, with its accesses. -/
inductive RunsX : List (BitVec 64) → LayT → List AccT → List (BitVec 64) → LayT → Prop
  | done {l p} : 4 < p.ph → RunsX l p [] l p
  | step {l p a y xs l' p'} : p.ph ≤ 4 → rightL p = true → needL p = some a → doP l a = some y → RunsX y.1 (takeL p y.2) xs l' p' → RunsX l p (a :: xs) l' p'
theorem RunsX.inv {l l' : List (BitVec 64)} {p p' : LayT} {xs : List AccT} (h : RunsX l p xs l' p') :
    (4 < p.ph ∧ xs = [] ∧ l' = l ∧ p' = p) ∨ ∃ a y xs', xs = a :: xs' ∧ p.ph ≤ 4 ∧ rightL p = true ∧ needL p = some a ∧ doP l a = some y ∧ RunsX y.1 (takeL p y.2) xs' l' p' := by
  cases h with
  | done h => exact .inl ⟨h, rfl, rfl, rfl⟩
  | step h4 hr ha hy hx => exact .inr ⟨_, _, _, rfl, h4, hr, ha, hy, hx⟩
/-- What an access of one who lays does to a row, and where. -/
theorem needL_row {l : List (BitVec 64)} {p : LayT} {a : AccT} {y : List (BitVec 64) × BitVec 64} (ha : needL p = some a) (hy : doP l a = some y) :
    ∃ j : Nat, a.at_ = (j : Int) ∧ j < l.length ∧ l[j]? = some y.2 ∧ (a.kind = 1 ∧ y.1 = l ∨ a.kind = 2 ∧ y.1 = l.set j a.new) := by
  obtain ⟨j, hj⟩ := Int.eq_ofNat_of_zero_le (needL_acc ha).2.1
  have hk : a.kind = 1 ∨ a.kind = 2 := by
    have h := ha
    obtain ⟨hr, h4⟩ := needL_some ha
    unfold needL at h
    rw [if_pos (by simp [hr, h4])] at h
    have h := Option.some.inj h
    rw [← h]
    by_cases h : p.ph = 0 ∨ p.ph = 2
    · left; exact if_pos h
    · right; exact if_neg h
  unfold doP at hy
  have e : a.at_.toNat = j := by omega
  rw [e] at hy
  split at hy
  · cases hy
  · rename_i w hw
    have hy := Option.some.inj hy
    subst hy
    refine ⟨j, hj, (List.getElem?_eq_some_iff.1 hw).1, hw, ?_⟩
    rcases hk with h | h
    · exact .inl ⟨h, if_pos h⟩
    · refine .inr ⟨h, ?_⟩
      show (if a.kind = 1 then _ else _) = _
      rw [if_neg (by omega), if_pos h]
theorem runsX_of {l l' : List (BitVec 64)} {p p' : LayT} {k : Nat} (h : RunsL l p k l' p') : ∃ xs, xs.length = k ∧ RunsX l p xs l' p' := by
  induction h with
  | done h => exact ⟨[], rfl, .done h⟩
  | step h4 hr ha hy _ ih =>
    obtain ⟨xs, hl, hx⟩ := ih
    exact ⟨_ :: xs, by rw [List.length_cons, hl], .step h4 hr ha hy hx⟩
theorem RunsX.who {l l' : List (BitVec 64)} {p p' : LayT} {xs : List AccT} (h : RunsX l p xs l' p') : p'.who = p.who := by
  induction h with
  | done h => rfl
  | step h4 hr ha hy _ ih => rw [ih, takeL_who]
theorem RunsX.len {l l' : List (BitVec 64)} {p p' : LayT} {xs : List AccT} (h : RunsX l p xs l' p') : l'.length = l.length := by
  induction h with
  | done h => rfl
  | step h4 hr ha hy _ ih => rw [ih, doP_lenL hy]
end Go.Proofs.Hc
