/- Layer 20: a whole run, the plain law. -/
import Derived.Test.YtcikopeddljgkaaGreatKHut
import Derived.Test.YtcikopeddljgkaaGreatKHmet
import Derived.Test.YtcikopeddljgkaaGreatKHnw
import Derived.Test.YtcikopeddljgkaaGreatKHpa
import Derived.Test.YtcikopeddljgkaaGreatKHpb
import Derived.Test.YtcikopeddljgkaaGreatKRc
import Derived.Test.YtcikopeddljgkaaGreatKHde
import Derived.Below
import Derived.BigQuiet
import Derived.Deep.Draws
import Derived.Deep.Light
import Derived.Deep.OwnRows
import Derived.Deep.QuietTactic
import Derived.Deep.RegionHeld
import Derived.IntWalk
import Derived.Laws.CopyOwn
import Derived.Laws.CopyRow
import Derived.Laws.StructEq
import Derived.Laws.Tables
import Derived.Lib.AppendZerosOnto
import Derived.Lib.Hide
import Derived.Lib.Tables
import Derived.Lib.Walk
import Derived.LoopIn
import Derived.LoopN
import Derived.LoopNIn
import Derived.Maps.AppendAt
import Derived.Maps.Views
import Derived.OwnWalkIn
import Derived.RangeFuncBox
import Derived.RangeFuncCalls
import Derived.RangeFuncRecord
import Derived.RangeFuncSeq
import Derived.Recover
import Derived.RegionTactic
import Derived.ScopeJumps
import Derived.Shelf.Slices.Clone
import Derived.StillTail
import Derived.StillTailTactics
import Derived.TacticsInMore
import Derived.Test.YtcikopeddljgkaaGreatProg
import Derived.WalkKit
import Derived.WalkLawsBesides
import Derived.WalkMore
import Derived.WalkSpells
set_option linter.unusedSimpArgs false
set_option linter.unusedVariables false
namespace Go.Proofs.Hc
open Go.RowKit
structure RightL (p : LayT) : Prop where
  ph0 : 0 ≤ p.ph
  ph6 : p.ph ≤ 6
  who0 : 0 ≤ p.who
  who7 : p.who < 8
  sl0 : 0 ≤ p.sl
  sl1 : p.sl < 128
  even : oddB p.count = false
  at_ : 1 ≤ p.at_ ∧ p.at_ < 40 ∨ p.ph ≠ 2 ∧ p.ph ≠ 3
theorem rightL_iff (p : LayT) : rightL p = true ↔ RightL p := by
  unfold rightL
  constructor
  · intro h
    simp only [Bool.and_eq_true, Bool.or_eq_true, decide_eq_true_eq, bne_iff_ne, Bool.not_eq_true'] at h
    exact ⟨h.1.1.1.1.1, h.1.1.1.1.2, h.1.1.1.2.1, h.1.1.1.2.2, h.1.1.2.1, h.1.1.2.2, h.1.2, h.2⟩
  · intro h
    simp only [Bool.and_eq_true, Bool.or_eq_true, decide_eq_true_eq, bne_iff_ne, Bool.not_eq_true']
    exact ⟨⟨⟨⟨⟨h.ph0, h.ph6⟩, h.who0, h.who7⟩, h.sl0, h.sl1⟩, h.even⟩, h.at_⟩
theorem laidL_cases (p : LayT) : (∃ ws, laidL p = { p with ws := ws, ph := 3, at_ := 1 }) ∨ laidL p = { p with bad := true, ph := 4 } := by
  unfold laidL
  split
  · exact .inl ⟨_, rfl⟩
  · exact .inr rfl
theorem RightL.take {p : LayT} (R : RightL p) (h4 : p.ph ≤ 4) (w : BitVec 64) : RightL (takeL p w) := by
  unfold takeL
  split
  · split
    · exact ⟨(by decide : (0 : Int) ≤ 6), (by decide : (6 : Int) ≤ 6), R.who0, R.who7, R.sl0, R.sl1, R.even, .inr ⟨by show (6 : Int) ≠ 2; decide, by show (6 : Int) ≠ 3; decide⟩⟩
    · rename_i h
      exact ⟨(by decide : (0 : Int) ≤ 1), (by decide : (1 : Int) ≤ 6), R.who0, R.who7, R.sl0, R.sl1, by simpa using h, .inr ⟨by show (1 : Int) ≠ 2; decide, by show (1 : Int) ≠ 3; decide⟩⟩
  · split
    · exact ⟨(by decide : (0 : Int) ≤ 2), (by decide : (2 : Int) ≤ 6), R.who0, R.who7, R.sl0, R.sl1, R.even, .inl ⟨by show (1 : Int) ≤ 1; decide, by show (1 : Int) < 40; decide⟩⟩
    · split
      · rename_i h0 h1 h2
        have ha := R.at_
        split
        · rcases laidL_cases { p with ws := updW (updW p.ws 39 w) 0 p.count, at_ := 40 } with ⟨ws, h⟩ | h
          · rw [h]
            exact ⟨(by decide : (0 : Int) ≤ 3), (by decide : (3 : Int) ≤ 6), R.who0, R.who7, R.sl0, R.sl1, R.even, .inl ⟨by show (1 : Int) ≤ 1; decide, by show (1 : Int) < 40; decide⟩⟩
          · rw [h]
            exact ⟨(by decide : (0 : Int) ≤ 4), (by decide : (4 : Int) ≤ 6), R.who0, R.who7, R.sl0, R.sl1, R.even, .inr ⟨by show (4 : Int) ≠ 2; decide, by show (4 : Int) ≠ 3; decide⟩⟩
        · exact ⟨R.ph0, R.ph6, R.who0, R.who7, R.sl0, R.sl1, R.even, .inl ⟨by show 1 ≤ p.at_ + 1; omega, by show p.at_ + 1 < 40; omega⟩⟩
      · split
        · rename_i h0 h1 h2 h3
          have ha := R.at_
          refine ⟨?_, ?_, R.who0, R.who7, R.sl0, R.sl1, R.even, ?_⟩
          · show 0 ≤ if p.at_ = 39 then (4 : Int) else 3
            split <;> decide
          · show (if p.at_ = 39 then (4 : Int) else 3) ≤ 6
            split <;> decide
          · show 1 ≤ p.at_ + 1 ∧ p.at_ + 1 < 40 ∨ (if p.at_ = 39 then (4 : Int) else 3) ≠ 2 ∧ (if p.at_ = 39 then (4 : Int) else 3) ≠ 3
            by_cases h : p.at_ = 39
            · rw [if_pos h]; right; decide
            · left; omega
        · exact ⟨(by decide : (0 : Int) ≤ 5), (by decide : (5 : Int) ≤ 6), R.who0, R.who7, R.sl0, R.sl1, R.even, .inr ⟨by show (5 : Int) ≠ 2; decide, by show (5 : Int) ≠ 3; decide⟩⟩
theorem takeL_sl (p : LayT) (w : BitVec 64) : (takeL p w).sl = p.sl := by
  unfold takeL laidL
  split
  · split <;> rfl
  · split
    · rfl
    · split
      · split
        · split <;> rfl
        · rfl
      · split <;> rfl
theorem takeL_who (p : LayT) (w : BitVec 64) : (takeL p w).who = p.who := by
  unfold takeL laidL
  split
  · split <;> rfl
  · split
    · rfl
    · split
      · split
        · split <;> rfl
        · rfl
      · split <;> rfl
theorem needL_some {p : LayT} {a : AccT} (h : needL p = some a) : rightL p = true ∧ p.ph ≤ 4 := by
  unfold needL at h
  cases hb : (rightL p && decide (p.ph ≤ 4)) with
  | false => rw [hb, if_neg (by decide)] at h; cases h
  | true => simpa using hb
theorem needL_yes {p : LayT} (hr : rightL p = true) (h4 : p.ph ≤ 4) : ∃ a, needL p = some a := by
  unfold needL
  rw [if_pos (by simp [hr, h4])]
  exact ⟨_, rfl⟩
theorem needL_acc {p : LayT} {a : AccT} (h : needL p = some a) : (a.kind = 1 ∨ a.kind = 2 ∨ a.kind = 4) ∧ 0 ≤ a.at_ ∧ a.at_ ≤ 55 + 40 * p.sl := by
  obtain ⟨hr, h4⟩ := needL_some h
  have R := (rightL_iff p).1 hr
  unfold needL at h
  rw [if_pos (by simp [hr, h4])] at h
  have h := Option.some.inj h
  subst h
  have hs := R.sl0
  have ha := R.at_
  refine ⟨?_, ?_⟩
  · show (if p.ph = 0 ∨ p.ph = 2 then (1 : Int) else 2) = 1 ∨ _
    by_cases h : p.ph = 0 ∨ p.ph = 2
    · left; exact if_pos h
    · right; left; exact if_neg h
  · show 0 ≤ 16 + 40 * p.sl + (if p.ph = 2 ∨ p.ph = 3 then p.at_ else 0) ∧ 16 + 40 * p.sl + (if p.ph = 2 ∨ p.ph = 3 then p.at_ else 0) ≤ 55 + 40 * p.sl
    by_cases h : p.ph = 2 ∨ p.ph = 3
    · rw [if_pos h]; omega
    · rw [if_neg h]; omega
theorem measL_take {p : LayT} (R : RightL p) (h4 : p.ph ≤ 4) (w : BitVec 64) : measL (takeL p w) < measL p := by
  have ha := R.at_
  have h0 := R.ph0
  by_cases hp0 : p.ph = 0
  · unfold takeL
    rw [if_pos hp0]
    have hm : measL p = 100 := by unfold measL; rw [if_pos hp0]
    rw [hm]
    split
    · exact (by decide : (0 : Nat) < 100)
    · exact (by decide : (99 : Nat) < 100)
  · by_cases hp1 : p.ph = 1
    · unfold takeL
      rw [if_neg hp0, if_pos hp1]
      have hm : measL p = 99 := by unfold measL; rw [if_neg hp0, if_pos hp1]
      rw [hm]
      exact (by decide : (97 : Nat) < 99)
    · by_cases hp2 : p.ph = 2
      · unfold takeL
        rw [if_neg hp0, if_neg hp1, if_pos hp2]
        have hm : measL p = (98 - p.at_).toNat := by unfold measL; rw [if_neg hp0, if_neg hp1, if_pos hp2]
        rw [hm]
        split
        · rename_i h39
          rcases laidL_cases { p with ws := updW (updW p.ws 39 w) 0 p.count, at_ := 40 } with ⟨ws, h⟩ | h
          · rw [h]
            have : measL { p with ws := ws, ph := 3, at_ := 1 } = 41 := rfl
            show measL { p with ws := ws, ph := 3, at_ := 1 } < _
            rw [this, h39]; decide
          · rw [h, h39]
            exact (by decide : (1 : Nat) < (98 - 39 : Int).toNat)
        · have : measL { p with ws := updW p.ws p.at_.toNat w, at_ := p.at_ + 1 } = (98 - (p.at_ + 1)).toNat := by
            unfold measL; dsimp only; rw [if_neg hp0, if_neg hp1, if_pos hp2]
          rw [this]; omega
      · by_cases hp3 : p.ph = 3
        · unfold takeL
          rw [if_neg hp0, if_neg hp1, if_neg hp2, if_pos hp3]
          have hm : measL p = (42 - p.at_).toNat := by unfold measL; rw [if_neg hp0, if_neg hp1, if_neg hp2, if_pos hp3]
          rw [hm]
          by_cases h39 : p.at_ = 39
          · rw [if_pos h39]
            show 1 < _
            omega
          · rw [if_neg h39]
            show (42 - (p.at_ + 1)).toNat < _
            omega
        · have hp4 : p.ph = 4 := by omega
          unfold takeL
          rw [if_neg hp0, if_neg hp1, if_neg hp2, if_neg hp3]
          have hm : measL p = 1 := by unfold measL; rw [if_neg hp0, if_neg hp1, if_neg hp2, if_neg hp3, if_pos hp4]
          rw [hm]
          exact (by decide : (0 : Nat) < 1)
/-- A whole run: the words and who lays anew behind it, and how many steps. -/
inductive RunsL : List (BitVec 64) → LayT → Nat → List (BitVec 64) → LayT → Prop
  | done {l p} : 4 < p.ph → RunsL l p 0 l p
  | step {l p a y k l' p'} : p.ph ≤ 4 → rightL p = true → needL p = some a → doP l a = some y → RunsL y.1 (takeL p y.2) k l' p' → RunsL l p (k + 1) l' p'
end Go.Proofs.Hc
/- Layer 20: what holds at each access of who lays a table anew. Plain law, no program in sight. -/
namespace Go.Proofs.Hc
open Go.RowKit
structure HidI (l : List (BitVec 64)) (p : LayT) (many : Nat) (c : BitVec 64) (who : Int) : Prop where
  len : l.length = 56
  right : rightL p = true
  sl : p.sl = 0
  who_ : p.who = who
  st : p.ph = 0 ∧ many = 0 ∧ l[16]? = some c ∧ p.bad = false ∨
    p.ph = 1 ∧ many = 1 ∧ l[16]? = some c ∧ p.count = c ∧ p.bad = false ∧ oddB c = false ∨
    p.ph = 2 ∧ (many : Int) = 1 + p.at_ ∧ l[16]? = some (c + 1#64) ∧ p.count = c ∧ p.bad = false ∧ oddB c = false ∨
    p.ph = 3 ∧ (many : Int) = 40 + p.at_ ∧ l[16]? = some (c + 1#64) ∧ p.count = c ∧ p.bad = false ∧ oddB c = false ∨
    p.ph = 4 ∧ l[16]? = some (c + 1#64) ∧ p.count = c ∧ oddB c = false ∧ (p.bad = true ∧ many = 41 ∨ p.bad = false ∧ many = 80) ∨
    p.ph = 5 ∧ l[16]? = some (c + 2#64) ∧ oddB c = false ∧ (p.bad = true ∧ many = 42 ∨ p.bad = false ∧ many = 81) ∨
    p.ph = 6 ∧ many = 1 ∧ oddB c = true ∧ l[16]? = some c
theorem odd_up {c : BitVec 64} (h : oddB c = false) : oddB (c + 1#64) = true := by
  unfold oddB at *
  have h2 : (c &&& 1#64) = 0#64 := by
    have : ¬ (c &&& 1#64) = 1#64 := by simpa using h
    have h3 : ∀ b : BitVec 64, (b &&& 1#64) = 0#64 ∨ (b &&& 1#64) = 1#64 := by
      intro b
      have hb : (b &&& 1#64).toNat = b.toNat % 2 := by rw [BitVec.toNat_and]; exact Nat.and_one_is_mod _
      rcases Nat.mod_two_eq_zero_or_one b.toNat with e | e
      · left; apply BitVec.eq_of_toNat_eq; rw [hb, e]; rfl
      · right; apply BitVec.eq_of_toNat_eq; rw [hb, e]; rfl
    rcases h3 c with e | e
    · exact e
    · exact absurd e this
  have e : ((c + 1#64) &&& 1#64) = 1#64 := by
    apply BitVec.eq_of_toNat_eq
    have h4 := congrArg BitVec.toNat h2
    rw [BitVec.toNat_and] at h4 ⊢
    simp only [BitVec.toNat_ofNat, Nat.reducePow, Nat.reduceMod, Nat.and_one_is_mod, BitVec.toNat_add] at h4 ⊢
    omega
  rw [e]
  rfl
/-- What an access of one that may be is. -/
theorem needL_is {p : LayT} {a : AccT} (h : needL p = some a) (hs : p.sl = 0) :
    (a.kind = 1 ∧ (p.ph = 0 ∨ p.ph = 2) ∨ a.kind = 2 ∧ (p.ph = 1 ∨ p.ph = 3 ∨ p.ph = 4)) ∧ a.at_.toNat = 16 + (if p.ph = 2 ∨ p.ph = 3 then p.at_.toNat else 0) ∧ a.at_ = 16 + (if p.ph = 2 ∨ p.ph = 3 then p.at_ else 0) ∧ (p.ph = 1 → a.new = p.count + 1#64) ∧ (p.ph = 4 → a.new = p.count + 2#64) := by
  obtain ⟨hr, h4⟩ := needL_some h
  have R := (rightL_iff p).1 hr
  unfold needL at h
  rw [if_pos (by simp [hr, h4])] at h
  have h := Option.some.inj h
  subst h
  have ha := R.at_
  have h0 := R.ph0
  refine ⟨?_, ?_, ?_, fun h1 => ?_, fun h1 => ?_⟩
  · by_cases h : p.ph = 0 ∨ p.ph = 2
    · left; exact ⟨if_pos h, h⟩
    · right; exact ⟨if_neg h, by omega⟩
  · show (16 + 40 * p.sl + (if p.ph = 2 ∨ p.ph = 3 then p.at_ else 0)).toNat = _
    rw [hs]
    by_cases h : p.ph = 2 ∨ p.ph = 3
    · rw [if_pos h, if_pos h]; omega
    · rw [if_neg h, if_neg h]; omega
  · show 16 + 40 * p.sl + (if p.ph = 2 ∨ p.ph = 3 then p.at_ else 0) = _
    rw [hs]; omega
  · show (if p.ph = 1 then _ else _) = _
    rw [if_pos h1]
  · show (if p.ph = 1 then _ else if p.ph = 3 then _ else if p.ph = 4 then _ else _) = _
    rw [if_neg (by omega), if_neg (by omega), if_pos h1]
theorem doP_is {l : List (BitVec 64)} {a : AccT} {y : List (BitVec 64) × BitVec 64} (h : doP l a = some y) : l[a.at_.toNat]? = some y.2 ∧ (a.kind = 1 → y.1 = l) ∧ (a.kind = 2 → y.1 = l.set a.at_.toNat a.new) := by
  unfold doP at h
  split at h
  · cases h
  · rename_i w hw
    have h := Option.some.inj h
    subst h
    refine ⟨hw, fun e => if_pos e, fun e => ?_⟩
    show (if a.kind = 1 then _ else _) = _
    rw [if_neg (by omega), if_pos e]
section
variable {l : List (BitVec 64)} {p : LayT} {many : Nat} {c : BitVec 64} {who : Int} {a : AccT} {y : List (BitVec 64) × BitVec 64}
theorem HidI.step (H : HidI l p many c who) (ha : needL p = some a) (hy : doP l a = some y) : HidI y.1 (takeL p y.2) (many + 1) c who := by
  obtain ⟨hr, h4⟩ := needL_some ha
  have R := (rightL_iff p).1 hr
  have hat := R.at_
  obtain ⟨hk, hn, _, hn1, hn4⟩ := needL_is ha H.sl
  obtain ⟨hw, hy1, hy2⟩ := doP_is hy
  have hlen : y.1.length = 56 := by
    rcases hk with ⟨hk, _⟩ | ⟨hk, _⟩
    · rw [hy1 hk]; exact H.len
    · rw [hy2 hk, List.length_set]; exact H.len
  refine ⟨hlen, (rightL_iff _).2 (R.take h4 _), (takeL_sl p _).trans H.sl, (takeL_who p _).trans H.who_, ?_⟩
  rcases H.st with ⟨h, hm, h16, hb⟩ | ⟨h, hm, h16, hc, hb, ho⟩ | ⟨h, hm, h16, hc, hb, ho⟩ | ⟨h, hm, h16, hc, hb, ho⟩ | ⟨h, h16, hc, ho, hb⟩ | ⟨h, _⟩ | ⟨h, _⟩
  · have hk1 : a.kind = 1 := by rcases hk with h' | h' <;> omega
    rw [hn, if_neg (by omega), Nat.add_zero, h16] at hw
    have hw := Option.some.inj hw
    rw [hy1 hk1, ← hw]
    unfold takeL
    rw [if_pos h]
    by_cases ho : oddB c = true
    · rw [if_pos ho]
      exact .inr (.inr (.inr (.inr (.inr (.inr ⟨rfl, by omega, ho, h16⟩)))))
    · rw [if_neg ho]
      exact .inr (.inl ⟨rfl, by omega, h16, rfl, hb, by simpa using ho⟩)
  · have hk2 : a.kind = 2 := by rcases hk with h' | h' <;> omega
    rw [hn, if_neg (by omega), Nat.add_zero] at hw
    rw [hy2 hk2, hn, if_neg (by omega), Nat.add_zero, hn1 h, hc]
    unfold takeL
    rw [if_neg (by omega), if_pos h]
    refine .inr (.inr (.inl ⟨rfl, ?_, ?_, hc, hb, ho⟩))
    · show ((many + 1 : Nat) : Int) = 1 + 1; omega
    · rw [List.getElem?_set, if_pos rfl, if_pos (by have := H.len; omega)]
  · have hk1 : a.kind = 1 := by rcases hk with h' | h' <;> omega
    rw [hy1 hk1]
    unfold takeL
    rw [if_neg (by omega), if_neg (by omega), if_pos h]
    by_cases h39 : p.at_ = 39
    · rw [if_pos h39]
      rcases laidL_cases { p with ws := updW (updW p.ws 39 y.2) 0 p.count, at_ := 40 } with ⟨ws, e⟩ | e
      · rw [e]
        refine .inr (.inr (.inr (.inl ⟨rfl, ?_, h16, hc, hb, ho⟩)))
        show ((many + 1 : Nat) : Int) = 40 + 1; omega
      · rw [e]
        exact .inr (.inr (.inr (.inr (.inl ⟨rfl, h16, hc, ho, .inl ⟨rfl, by omega⟩⟩))))
    · rw [if_neg h39]
      refine .inr (.inr (.inl ⟨h, ?_, h16, hc, hb, ho⟩))
      show ((many + 1 : Nat) : Int) = 1 + (p.at_ + 1); omega
  · have hk2 : a.kind = 2 := by rcases hk with h' | h' <;> omega
    rw [hy2 hk2, hn, if_pos (.inr h)]
    have h16' : (l.set (16 + p.at_.toNat) a.new)[16]? = some (c + 1#64) := by
      rw [List.getElem?_set, if_neg (by omega)]; exact h16
    unfold takeL
    rw [if_neg (by omega), if_neg (by omega), if_neg (by omega), if_pos h]
    by_cases h39 : p.at_ = 39
    · rw [if_pos h39]
      exact .inr (.inr (.inr (.inr (.inl ⟨rfl, h16', hc, ho, .inr ⟨hb, by omega⟩⟩))))
    · rw [if_neg h39]
      refine .inr (.inr (.inr (.inl ⟨rfl, ?_, h16', hc, hb, ho⟩)))
      show ((many + 1 : Nat) : Int) = 40 + (p.at_ + 1); omega
  · have hk2 : a.kind = 2 := by rcases hk with h' | h' <;> omega
    rw [hy2 hk2, hn, if_neg (by omega), Nat.add_zero, hn4 h, hc]
    unfold takeL
    rw [if_neg (by omega), if_neg (by omega), if_neg (by omega), if_neg (by omega)]
    refine .inr (.inr (.inr (.inr (.inr (.inl ⟨rfl, ?_, ho, ?_⟩)))))
    · rw [List.getElem?_set, if_pos rfl, if_pos (by have := H.len; omega)]
    · rcases hb with ⟨hb, hm⟩ | ⟨hb, hm⟩
      · exact .inl ⟨hb, by omega⟩
      · exact .inr ⟨hb, by omega⟩
  · omega
  · omega
/-- What the statement asks ahead of an access. -/
theorem HidI.ahead (H : HidI l p many c who) (ha : needL p = some a) (hy : doP l a = some y) : many < 90 ∧ ∃ x, l[16]? = some x ∧ (2 ≤ p.ph → oddB x = true) ∧ (a.kind = 1 → y.1 = l) ∧ (a.kind = 1 ∨ a.kind = 2) ∧ (a.kind = 2 → a.at_ ≠ 16 → oddB x = true) := by
  obtain ⟨hr, h4⟩ := needL_some ha
  have R := (rightL_iff p).1 hr
  have hat := R.at_
  obtain ⟨hk, hn, hn', hn1, hn4⟩ := needL_is ha H.sl
  obtain ⟨hw, hy1, hy2⟩ := doP_is hy
  rcases H.st with ⟨h, hm, h16, hb⟩ | ⟨h, hm, h16, hc, hb, ho⟩ | ⟨h, hm, h16, hc, hb, ho⟩ | ⟨h, hm, h16, hc, hb, ho⟩ | ⟨h, h16, hc, ho, hb⟩ | ⟨h, _⟩ | ⟨h, _⟩
  · exact ⟨by omega, c, h16, fun h' => by omega, hy1, by omega, fun h2 => by omega⟩
  · exact ⟨by omega, c, h16, fun h' => by omega, hy1, by omega, fun h2 hne => by rw [if_neg (by omega)] at hn'; omega⟩
  · exact ⟨by omega, _, h16, fun _ => odd_up ho, hy1, by omega, fun _ _ => odd_up ho⟩
  · exact ⟨by omega, _, h16, fun _ => odd_up ho, hy1, by omega, fun _ _ => odd_up ho⟩
  · exact ⟨by omega, _, h16, fun _ => odd_up ho, hy1, by omega, fun _ _ => odd_up ho⟩
  · omega
  · omega
/-- What it asks at the end. -/
theorem HidI.over (H : HidI l p many c who) (h4 : 4 < p.ph) : p.ph = 6 ∧ many = 1 ∧ oddB c = true ∨ p.ph = 5 ∧ oddB c = false ∧ l[16]? = some (c + 2#64) ∧ (p.bad = true ∧ many = 42 ∨ p.bad = false ∧ many = 81) := by
  rcases H.st with ⟨h, _⟩ | ⟨h, _⟩ | ⟨h, _⟩ | ⟨h, _⟩ | ⟨h, _⟩ | ⟨h, h16, ho, hb⟩ | ⟨h, hm, ho, h16⟩
  · omega
  · omega
  · omega
  · omega
  · omega
  · exact .inr ⟨h, ho, h16, hb⟩
  · exact .inl ⟨h, hm, ho⟩
end
theorem HidI.first {l : List (BitVec 64)} {who : Int} {c s : BitVec 64} (h : l.length = 56) (h16 : l[16]? = some c) (hr : rightL (firstL who 0 s) = true) : HidI l (firstL who 0 s) 0 c who :=
  ⟨h, hr, rfl, rfl, .inl ⟨rfl, rfl, h16, rfl⟩⟩
end Go.Proofs.Hc
