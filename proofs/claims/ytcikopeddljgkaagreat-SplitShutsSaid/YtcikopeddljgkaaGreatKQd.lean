/- Layer 22: a whole run, the plain law. -/
import Derived.Test.YtcikopeddljgkaaGreatKHdf
import Derived.Laws.EntriesVeiled
set_option linter.unusedSimpArgs false
set_option linter.unusedVariables false
namespace Go.Proofs.Hc
open Go.RowKit
def onR (p : PartT) : Option Nat → Option (Nat → BitVec 64) → PartT
  | some j, _ => { p with at_ := (j : Int), ph := 3 }
  | none, some ws => { p with ws := ws, ph := 5 }
  | none, none => { p with ph := 9 }
theorem onS_def (p : PartT) (from_ : Nat) : onS p from_ = onR p (nextS p from_) (halvesS p) := by
  unfold onS
  generalize nextS p from_ = a
  generalize halvesS p = b
  cases a with
  | some j => rfl
  | none => cases b <;> rfl
theorem nextS_lt {p : PartT} {from_ j : Nat} (h : nextS p from_ = some j) : j < 16 ∧ from_ ≤ j ∧ fullJ (gotS p) j = true := by
  unfold nextS at h
  have h1 := List.find?_some h
  have h2 := List.mem_of_find?_eq_some h
  rw [List.mem_range] at h2
  simp only [Bool.and_eq_true, decide_eq_true_eq] at h1
  exact ⟨h2, h1.1, h1.2⟩
structure SameS (p q : PartT) : Prop where
  who : q.who = p.who
  sl : q.sl = p.sl
  t0 : q.t0 = p.t0
  t1 : q.t1 = p.t1
  seed : q.seed = p.seed
theorem onS_to (p : PartT) (from_ : Nat) : SameS p (onS p from_) ∧ (onS p from_).count = p.count ∧ (onS p from_).head = p.head ∧ ((onS p from_).ph = 3 ∧ (∃ j : Nat, j < 16 ∧ from_ ≤ j ∧ (onS p from_).at_ = (j : Int)) ∨ (onS p from_).ph = 5 ∨ (onS p from_).ph = 9) := by
  rw [onS_def]
  have hn := fun j => @nextS_lt p from_ j
  generalize nextS p from_ = a at *
  generalize halvesS p = b
  cases a with
  | some j => exact ⟨⟨rfl, rfl, rfl, rfl, rfl⟩, rfl, rfl, .inl ⟨rfl, j, (hn j rfl).1, (hn j rfl).2.1, rfl⟩⟩
  | none =>
    cases b with
    | some ws => exact ⟨⟨rfl, rfl, rfl, rfl, rfl⟩, rfl, rfl, .inr (.inl rfl)⟩
    | none => exact ⟨⟨rfl, rfl, rfl, rfl, rfl⟩, rfl, rfl, .inr (.inr rfl)⟩
structure StepsTo (p q : PartT) : Prop extends SameS p q where
  go : (p.ph = 0 ∧ (q.ph = 8 ∧ q.count = p.count ∨ q.ph = 1 ∧ oddB q.count = false)) ∨
    (p.ph = 1 ∧ q.count = p.count ∧ q.at_ = 0 ∧ (q.ph = 9 ∨ q.ph = 2)) ∨
    (p.ph = 2 ∧ q.count = p.count ∧ p.at_ = 0 ∧ q.ph = 2 ∧ q.at_ = 1) ∨
    ((p.ph = 2 ∧ p.at_ = 1 ∨ p.ph = 4) ∧ q.count = p.count ∧ (q.ph = 3 ∧ 0 ≤ q.at_ ∧ q.at_ < 16 ∧ (p.ph = 4 → p.at_ < q.at_) ∨ q.ph = 5 ∨ q.ph = 9)) ∨
    (p.ph = 3 ∧ q.count = p.count ∧ q.ph = 4 ∧ q.at_ = p.at_) ∨
    (p.ph = 5 ∧ q.count = p.count ∧ q.ph = 6 ∧ q.at_ = 0) ∨
    (p.ph = 6 ∧ q.count = p.count ∧ q.at_ = p.at_ + 1 ∧ (p.at_ = 79 ∧ q.ph = 7 ∨ p.at_ ≠ 79 ∧ q.ph = 6))
theorem headS_to (p : PartT) (w : BitVec 64) : SameS p (headS p w) ∧ (headS p w).count = p.count ∧ (headS p w).at_ = 0 ∧ ((headS p w).ph = 9 ∨ (headS p w).ph = 2) := by
  unfold headS
  split
  · exact ⟨⟨rfl, rfl, rfl, rfl, rfl⟩, rfl, rfl, .inl rfl⟩
  · exact ⟨⟨rfl, rfl, rfl, rfl, rfl⟩, rfl, rfl, .inr rfl⟩
theorem takeS_to {p : PartT} (R : RightS p) (h6 : p.ph ≤ 6) (w : BitVec 64) : StepsTo p (takeS p w) := by
  have h0 := R.ph0
  have h2 := R.at2
  have h3 := R.at3
  unfold takeS
  by_cases c0 : p.ph = 0
  · rw [if_pos c0]
    cases ho : oddB w with
    | true => rw [if_pos rfl]; exact ⟨⟨rfl, rfl, rfl, rfl, rfl⟩, .inl ⟨c0, .inl ⟨rfl, rfl⟩⟩⟩
    | false => rw [if_neg (by decide)]; exact ⟨⟨rfl, rfl, rfl, rfl, rfl⟩, .inl ⟨c0, .inr ⟨rfl, ho⟩⟩⟩
  rw [if_neg c0]
  by_cases c1 : p.ph = 1
  · rw [if_pos c1]
    obtain ⟨e1, e2, e3, e4⟩ := headS_to p w
    exact ⟨e1, .inr (.inl ⟨c1, e2, e3, e4⟩)⟩
  rw [if_neg c1]
  by_cases c2 : p.ph = 2
  · rw [if_pos c2]
    by_cases ca : p.at_ = 1
    · rw [if_pos ca]
      obtain ⟨e1, e2, _, e3⟩ := onS_to { p with c := updW p.c 1 w, at_ := 2 } 0
      refine ⟨⟨e1.who, e1.sl, e1.t0, e1.t1, e1.seed⟩, .inr (.inr (.inr (.inl ⟨.inl ⟨c2, ca⟩, e2, ?_⟩)))⟩
      rcases e3 with ⟨h, j, hj, -, he⟩ | h | h
      · exact .inl ⟨h, by omega, by omega, fun h4 => by omega⟩
      · exact .inr (.inl h)
      · exact .inr (.inr h)
    · rw [if_neg ca]
      have := h2 c2
      exact ⟨⟨rfl, rfl, rfl, rfl, rfl⟩, .inr (.inr (.inl ⟨c2, rfl, by omega, c2, rfl⟩))⟩
  rw [if_neg c2]
  by_cases c3 : p.ph = 3
  · rw [if_pos c3]
    exact ⟨⟨rfl, rfl, rfl, rfl, rfl⟩, .inr (.inr (.inr (.inr (.inl ⟨c3, rfl, rfl, rfl⟩))))⟩
  rw [if_neg c3]
  by_cases c4 : p.ph = 4
  · rw [if_pos c4]
    have := h3 (.inr c4)
    obtain ⟨e1, e2, _, e3⟩ := onS_to { p with v := updW p.v p.at_.toNat w } (p.at_.toNat + 1)
    refine ⟨⟨e1.who, e1.sl, e1.t0, e1.t1, e1.seed⟩, .inr (.inr (.inr (.inl ⟨.inr c4, e2, ?_⟩)))⟩
    rcases e3 with ⟨h, j, hj, hf, he⟩ | h | h
    · exact .inl ⟨h, by omega, by omega, fun _ => by omega⟩
    · exact .inr (.inl h)
    · exact .inr (.inr h)
  rw [if_neg c4]
  by_cases c5 : p.ph = 5
  · rw [if_pos c5]
    exact ⟨⟨rfl, rfl, rfl, rfl, rfl⟩, .inr (.inr (.inr (.inr (.inr (.inl ⟨c5, rfl, rfl, rfl⟩)))))⟩
  rw [if_neg c5]
  have c6 : p.ph = 6 := by omega
  refine ⟨⟨rfl, rfl, rfl, rfl, rfl⟩, .inr (.inr (.inr (.inr (.inr (.inr ⟨c6, rfl, rfl, ?_⟩)))))⟩
  by_cases ca : p.at_ = 79
  · exact .inl ⟨ca, if_pos ca⟩
  · exact .inr ⟨ca, if_neg ca⟩
theorem StepsTo.right {p q : PartT} (R : RightS p) (h : StepsTo p q) : RightS q := by
  have h2 := R.at2
  have h3 := R.at3
  have h6 := R.at6
  have hg := h.go
  have hev := R.even
  have hc : oddB q.count = false := by
    rcases hg with ⟨_, ⟨_, e⟩ | ⟨_, e⟩⟩ | ⟨_, e, _⟩ | ⟨_, e, _⟩ | ⟨_, e, _⟩ | ⟨_, e, _⟩ | ⟨_, e, _⟩ | ⟨_, e, _⟩
    · rw [e]; exact hev
    · exact e
    all_goals rw [e]; exact hev
  exact ⟨by omega, by omega, by rw [h.who]; exact R.who0, by rw [h.who]; exact R.who7, by rw [h.sl]; exact R.sl0, by rw [h.sl]; exact R.sl1, by rw [h.t0]; exact R.a0, by rw [h.t0]; exact R.a1,
    by rw [h.t1]; exact R.b0, by rw [h.t1]; exact R.b1, by rw [h.sl, h.t0]; exact R.sa, by rw [h.sl, h.t1]; exact R.sb, by rw [h.t0, h.t1]; exact R.ab, hc, by omega, by omega, by omega⟩
def measS (p : PartT) : Nat := if p.ph = 0 then 117 else if p.ph = 1 then 116 else if p.ph = 2 then (115 - p.at_).toNat else if p.ph = 3 then (113 - 2 * p.at_).toNat else if p.ph = 4 then (112 - 2 * p.at_).toNat else if p.ph = 5 then 81 else if p.ph = 6 then (80 - p.at_).toNat else 0
theorem measS_is {p : PartT} : (p.ph = 0 → measS p = 117) ∧ (p.ph = 1 → measS p = 116) ∧ (p.ph = 2 → measS p = (115 - p.at_).toNat) ∧ (p.ph = 3 → measS p = (113 - 2 * p.at_).toNat) ∧ (p.ph = 4 → measS p = (112 - 2 * p.at_).toNat) ∧ (p.ph = 5 → measS p = 81) ∧ (p.ph = 6 → measS p = (80 - p.at_).toNat) ∧ (6 < p.ph → measS p = 0) := by
  unfold measS
  refine ⟨fun h => ?_, fun h => ?_, fun h => ?_, fun h => ?_, fun h => ?_, fun h => ?_, fun h => ?_, fun h => ?_⟩
  · rw [if_pos h]
  · rw [if_neg (by omega), if_pos h]
  · rw [if_neg (by omega), if_neg (by omega), if_pos h]
  · rw [if_neg (by omega), if_neg (by omega), if_neg (by omega), if_pos h]
  · rw [if_neg (by omega), if_neg (by omega), if_neg (by omega), if_neg (by omega), if_pos h]
  · rw [if_neg (by omega), if_neg (by omega), if_neg (by omega), if_neg (by omega), if_neg (by omega), if_pos h]
  · rw [if_neg (by omega), if_neg (by omega), if_neg (by omega), if_neg (by omega), if_neg (by omega), if_neg (by omega), if_pos h]
  · rw [if_neg (by omega), if_neg (by omega), if_neg (by omega), if_neg (by omega), if_neg (by omega), if_neg (by omega), if_neg (by omega)]
theorem measS_take {p : PartT} (R : RightS p) (h6 : p.ph ≤ 6) (w : BitVec 64) : measS (takeS p w) < measS p := by
  have T := (takeS_to R h6 w).go
  generalize takeS p w = q at *
  have hp := @measS_is p
  have hq := @measS_is q
  have h0 := R.ph0
  have h2 := R.at2
  have h3 := R.at3
  have h6' := R.at6
  generalize measS p = a at *
  generalize measS q = b at *
  obtain ⟨a0, a1, a2, a3, a4, a5, a6, -⟩ := hp
  obtain ⟨-, b1, b2, b3, b4, b5, b6, b7⟩ := hq
  rcases T with ⟨e, ⟨f, -⟩ | ⟨f, -⟩⟩ | ⟨e, -, hA, f | f⟩ | ⟨e, -, hA, f, hB⟩ | ⟨⟨e, hA⟩ | e, -, ⟨f, g1, g2, g3⟩ | f | f⟩ | ⟨e, -, f, g⟩ | ⟨e, -, f, g⟩ | ⟨e, -, g, ⟨hA, f⟩ | ⟨hA, f⟩⟩
  · rw [a0 e, b7 (by omega)]; omega
  · rw [a0 e, b1 f]; omega
  · rw [a1 e, b7 (by omega)]; omega
  · rw [a1 e, b2 f]; omega
  · rw [a2 e, b2 f]; omega
  · rw [a2 e, b3 f]; omega
  · rw [a2 e, b5 f]; have := h2 e; omega
  · rw [a2 e, b7 (by omega)]; have := h2 e; omega
  · rw [a4 e, b3 f]; have := g3 e; have := h3 (.inr e); omega
  · rw [a4 e, b5 f]; have := h3 (.inr e); omega
  · rw [a4 e, b7 (by omega)]; have := h3 (.inr e); omega
  · rw [a3 e, b4 f]; have := h3 (.inl e); omega
  · rw [a5 e, b6 f]; omega
  · rw [a6 e, b7 (by omega)]; have := h6' e; omega
  · rw [a6 e, b6 f]; have := h6' e; omega
theorem measS_le {p : PartT} (R : RightS p) : measS p ≤ 117 := by
  have hp := @measS_is p
  have h0 := R.ph0
  have h2 := R.at2
  have h3 := R.at3
  have h6' := R.at6
  generalize measS p = a at *
  obtain ⟨a0, a1, a2, a3, a4, a5, a6, a7⟩ := hp
  rcases (show p.ph = 0 ∨ p.ph = 1 ∨ p.ph = 2 ∨ p.ph = 3 ∨ p.ph = 4 ∨ p.ph = 5 ∨ p.ph = 6 ∨ 6 < p.ph by omega) with h | h | h | h | h | h | h | h
  · have := a0 h; omega
  · have := a1 h; omega
  · have := a2 h; have := h2 h; omega
  · have := a3 h; have := h3 (.inl h); omega
  · have := a4 h; have := h3 (.inr h); omega
  · have := a5 h; omega
  · have := a6 h; have := h6' h; omega
  · have := a7 h; omega
theorem needS_some {p : PartT} {a : AccT} (h : needS p = some a) : rightS p = true ∧ p.ph ≤ 6 := by
  unfold needS at h
  cases hb : (rightS p && decide (p.ph ≤ 6)) with
  | false => rw [hb, if_neg (by decide)] at h; cases h
  | true => simpa using hb
def accS (p : PartT) : AccT := ⟨if p.ph = 5 ∨ p.ph = 6 then 2 else 1, whereS p, if p.ph = 5 then p.count + 1#64 else if p.ph = 6 then p.ws p.at_.toNat else 0#64⟩
theorem needS_is {p : PartT} (hr : rightS p = true) (h6 : p.ph ≤ 6) : needS p = some (accS p) := by
  unfold needS accS
  rw [if_pos (by simp [hr, h6])]
theorem needS_none {p : PartT} (h : ¬ (rightS p = true ∧ p.ph ≤ 6)) : needS p = none := by
  unfold needS
  rw [if_neg (by simpa using h)]
theorem whereS_in {p : PartT} (R : RightS p) (h6 : p.ph ≤ 6) : 0 ≤ whereS p ∧ ∃ s, (s = p.sl ∨ s = p.t0 ∨ s = p.t1) ∧ whereS p ≤ 55 + 40 * s := by
  have h0 := R.ph0
  have h2 := R.at2
  have h3 := R.at3
  have h6' := R.at6
  have hs := R.sl0
  have ha := R.a0
  have hb := R.b0
  unfold whereS
  by_cases c1 : p.ph = 1
  · rw [if_pos c1]; exact ⟨by omega, p.sl, .inl rfl, by omega⟩
  rw [if_neg c1]
  by_cases c2 : p.ph = 2
  · rw [if_pos c2]; have := h2 c2; exact ⟨by omega, p.sl, .inl rfl, by omega⟩
  rw [if_neg c2]
  by_cases c3 : p.ph = 3
  · rw [if_pos c3]; have := h3 (.inl c3); exact ⟨by omega, p.sl, .inl rfl, by omega⟩
  rw [if_neg c3]
  by_cases c4 : p.ph = 4
  · rw [if_pos c4]; have := h3 (.inr c4); exact ⟨by omega, p.sl, .inl rfl, by omega⟩
  rw [if_neg c4]
  by_cases c6 : p.ph = 6
  · rw [if_pos c6]
    have := h6' c6
    by_cases c : p.at_ < 40
    · rw [if_pos c]; exact ⟨by omega, p.t0, .inr (.inl rfl), by omega⟩
    · rw [if_neg c]; exact ⟨by omega, p.t1, .inr (.inr rfl), by omega⟩
  rw [if_neg c6]
  exact ⟨by omega, p.sl, .inl rfl, by omega⟩
structure ThereS (n : Nat) (p : PartT) : Prop where
  sl : 56 + 40 * p.sl ≤ (n : Int)
  t0 : 56 + 40 * p.t0 ≤ (n : Int)
  t1 : 56 + 40 * p.t1 ≤ (n : Int)
theorem ThereS.to {n : Nat} {p q : PartT} (h : ThereS n p) (s : SameS p q) : ThereS n q := ⟨by rw [s.sl]; exact h.sl, by rw [s.t0]; exact h.t0, by rw [s.t1]; exact h.t1⟩
theorem stepS_goes {l : List (BitVec 64)} {p : PartT} (R : RightS p) (h6 : p.ph ≤ 6) (hn : ThereS l.length p) :
    ∃ y, needS p = some (accS p) ∧ doP l (accS p) = some y ∧ stepS l p = some (y.1, takeS p y.2) ∧ y.1.length = l.length ∧ RightS (takeS p y.2) ∧ measS (takeS p y.2) < measS p ∧ ThereS y.1.length (takeS p y.2) := by
  have hr := (zcx p).2 R
  obtain ⟨hw0, s, hs, hw1⟩ := whereS_in R h6
  have e := needS_is hr h6
  obtain ⟨y, hy, hyl⟩ := doP_in (l := l) (a := accS p) (by
    show (whereS p).toNat < _
    rcases hs with rfl | rfl | rfl
    · have := hn.sl; omega
    · have := hn.t0; omega
    · have := hn.t1; omega)
  have T := takeS_to R h6 y.2
  refine ⟨y, e, hy, ?_, hyl, T.right R, measS_take R h6 y.2, by rw [hyl]; exact hn.to T.toSameS⟩
  unfold stepS
  rw [e]
  dsimp only
  rw [hy]
  rfl
inductive RunsS : List (BitVec 64) → PartT → Nat → List (BitVec 64) → PartT → Prop
  | done {l p} : 6 < p.ph → RunsS l p 0 l p
  | step {l p y k l' p'} : p.ph ≤ 6 → rightS p = true → doP l (accS p) = some y → RunsS y.1 (takeS p y.2) k l' p' → RunsS l p (k + 1) l' p'
theorem RunsS.inv {l l' : List (BitVec 64)} {p p' : PartT} {k : Nat} (h : RunsS l p k l' p') : (6 < p.ph ∧ k = 0 ∧ l' = l ∧ p' = p) ∨ ∃ y k1, p.ph ≤ 6 ∧ k = k1 + 1 ∧ rightS p = true ∧ doP l (accS p) = some y ∧ RunsS y.1 (takeS p y.2) k1 l' p' := by
  cases h with
  | done h => exact .inl ⟨h, rfl, rfl, rfl⟩
  | step h6 hr hy hx => exact .inr ⟨_, _, h6, rfl, hr, hy, hx⟩
theorem accS_row {l : List (BitVec 64)} {p : PartT} {y : List (BitVec 64) × BitVec 64} (R : RightS p) (h6 : p.ph ≤ 6) (hy : doP l (accS p) = some y) :
    ∃ j : Nat, (accS p).at_ = (j : Int) ∧ j < l.length ∧ l[j]? = some y.2 ∧ ((accS p).kind = 1 ∧ y.1 = l ∨ (accS p).kind = 2 ∧ y.1 = l.set j (accS p).new) := by
  obtain ⟨j, hj⟩ := Int.eq_ofNat_of_zero_le (whereS_in R h6).1
  have hk : (accS p).kind = 1 ∨ (accS p).kind = 2 := by
    by_cases h : p.ph = 5 ∨ p.ph = 6
    · right; exact if_pos h
    · left; exact if_neg h
  unfold doP at hy
  have e : (accS p).at_.toNat = j := by show (whereS p).toNat = j; omega
  rw [e] at hy
  split at hy
  · cases hy
  · rename_i w hw
    have hy := Option.some.inj hy
    subst hy
    refine ⟨j, hj, (List.getElem?_eq_some_iff.1 hw).1, hw, ?_⟩
    rcases hk with h | h
    · exact .inl ⟨h, if_pos h⟩
    · refine .inr ⟨h, ?_⟩
      show (if (accS p).kind = 1 then _ else _) = _
      rw [if_neg (by omega), if_pos h]
end Go.Proofs.Hc
namespace Go.Proofs.Hc
open Go.RowKit
structure ShutI (l0 l : List (BitVec 64)) (p : PartT) (c : BitVec 64) (who : Int) (shut : Bool) : Prop where
  len : l.length = 136
  right : RightS p
  sl : p.sl = 0
  e0 : p.t0 = 2
  e1 : p.t1 = 1
  who_ : p.who = who
  at16 : l0[16]? = some c
  st : shut = false ∧ l = l0 ∧ (p.ph ≤ 5 ∨ p.ph = 8 ∨ p.ph = 9) ∧ (1 ≤ p.ph → p.ph ≤ 5 → p.count = c) ∨ shut = true ∧ (p.ph = 6 ∨ p.ph = 7) ∧ l[16]? = some (c + 1#64) ∧ oddB (c + 1#64) = true
theorem manyS_5 {p : PartT} (R : RightS p) (h : p.ph = 5) : manyS p = 81 := by
  unfold manyS
  rw [if_pos ((zcx p).2 R), if_pos h]
theorem manyS_6 {p : PartT} (R : RightS p) (h : p.ph = 6) : manyS p = 80 - p.at_ := by
  unfold manyS
  rw [if_pos ((zcx p).2 R), if_neg (by omega), if_pos h]
theorem manyS_7 {p : PartT} (h5 : p.ph ≠ 5) (h6 : p.ph ≠ 6) : manyS p = 0 := by
  unfold manyS
  by_cases hr : rightS p = true
  · rw [if_pos hr, if_neg h5, if_neg h6]
  · rw [if_neg hr]
theorem ShutI.there {l0 l : List (BitVec 64)} {p : PartT} {c : BitVec 64} {who : Int} {shut : Bool} (h : ShutI l0 l p c who shut) : ThereS l.length p :=
  ⟨by rw [h.len, h.sl]; decide, by rw [h.len, h.e0]; decide, by rw [h.len, h.e1]; decide⟩
theorem ShutI.step {l0 l : List (BitVec 64)} {p : PartT} {c : BitVec 64} {who : Int} {shut : Bool} (h : ShutI l0 l p c who shut) (h6 : p.ph ≤ 6) {y : List (BitVec 64) × BitVec 64} (hy : doP l (accS p) = some y) :
    (accS p).kind = 1 ∧ shut = false ∧ y.1 = l0 ∧ ShutI l0 y.1 (takeS p y.2) c who false ∨
    (accS p).kind = 2 ∧ shut = false ∧ (accS p).at_ = 16 ∧ y.1[16]? = some (c + 1#64) ∧ oddB (c + 1#64) = true ∧ manyS p = 81 ∧ manyS (takeS p y.2) = 80 ∧ ShutI l0 y.1 (takeS p y.2) c who true ∨
    (accS p).kind = 2 ∧ shut = true ∧ 56 ≤ (accS p).at_ ∧ y.1[16]? = some (c + 1#64) ∧ oddB (c + 1#64) = true ∧ 1 ≤ manyS p ∧ manyS p ≤ 80 ∧ manyS (takeS p y.2) = manyS p - 1 ∧ ShutI l0 y.1 (takeS p y.2) c who true := by
  have R := h.right
  have T := takeS_to R h6 y.2
  have hlen : y.1.length = 136 := by
    obtain ⟨j, _, _, _, ⟨_, e⟩ | ⟨_, e⟩⟩ := accS_row R h6 hy
    · rw [e]; exact h.len
    · rw [e, List.length_set]; exact h.len
  have R' := T.right R
  obtain ⟨j, hj, hjl, hjx, hrow⟩ := accS_row R h6 hy
  have h0 := R.ph0
  rcases h.st with ⟨rfl, hl, hph, hcn⟩ | ⟨rfl, hph, hc1, hodd⟩
  · by_cases h5 : p.ph = 5
    · right; left
      have hk : (accS p).kind = 2 := if_pos (.inl h5)
      have hw : (accS p).at_ = 16 := by
        show whereS p = 16
        unfold whereS
        rw [if_neg (by omega), if_neg (by omega), if_neg (by omega), if_neg (by omega), if_neg (by omega), h.sl]; rfl
      have hnew : (accS p).new = c + 1#64 := by
        show (if p.ph = 5 then p.count + 1#64 else _) = _
        rw [if_pos h5, hcn (by omega) (by omega)]
      have hy1 : y.1 = l.set j (accS p).new := by
        rcases hrow with ⟨e, _⟩ | ⟨_, e⟩
        · omega
        · exact e
      have hj16 : j = 16 := by omega
      have h16 : y.1[16]? = some (c + 1#64) := by rw [hy1, hj16, hnew, List.getElem?_set, if_pos rfl, if_pos (by omega)]
      have hev : oddB c = false := by rw [← hcn (by omega) (by omega)]; exact R.even
      have ho := odd_up hev
      have hgo : (takeS p y.2).ph = 6 ∧ (takeS p y.2).at_ = 0 := by
        rcases T.go with ⟨e, _⟩ | ⟨e, _⟩ | ⟨e, _⟩ | ⟨⟨e, _⟩ | e, _⟩ | ⟨e, _⟩ | ⟨_, _, a, b⟩ | ⟨e, _⟩
        · omega
        · omega
        · omega
        · omega
        · omega
        · omega
        · exact ⟨a, b⟩
        · omega
      refine ⟨hk, rfl, hw, h16, ho, manyS_5 R h5, by rw [manyS_6 R' hgo.1, hgo.2]; rfl, hlen, R', by rw [T.sl]; exact h.sl, by rw [T.t0]; exact h.e0, by rw [T.t1]; exact h.e1, by rw [T.who]; exact h.who_, h.at16, .inr ⟨rfl, .inl hgo.1, h16, ho⟩⟩
    · left
      have hph4 : p.ph ≤ 4 := by omega
      have hk : (accS p).kind = 1 := if_neg (by omega)
      have hy1 : y.1 = l := by
        rcases hrow with ⟨_, e⟩ | ⟨e, _⟩
        · exact e
        · omega
      refine ⟨hk, rfl, by rw [hy1]; exact hl, hlen, R', by rw [T.sl]; exact h.sl, by rw [T.t0]; exact h.e0, by rw [T.t1]; exact h.e1, by rw [T.who]; exact h.who_, h.at16, .inl ⟨rfl, by rw [hy1]; exact hl, ?_, ?_⟩⟩
      · rcases T.go with ⟨e, ⟨a, _⟩ | ⟨a, _⟩⟩ | ⟨e, _, _, a | a⟩ | ⟨e, _, _, a, _⟩ | ⟨_, _, ⟨a, _⟩ | a | a⟩ | ⟨e, _, a, _⟩ | ⟨e, _⟩ | ⟨e, _⟩ <;> omega
      · intro q1 q5
        by_cases hp0 : p.ph = 0
        · have hw : (accS p).at_ = 16 := by
            show whereS p = 16
            unfold whereS
            rw [if_neg (by omega), if_neg (by omega), if_neg (by omega), if_neg (by omega), if_neg (by omega), h.sl]; rfl
          have hj16 : j = 16 := by omega
          have hy2 : y.2 = c := by
            rw [hj16, hl, h.at16] at hjx
            exact (Option.some.inj hjx).symm
          revert q1 q5
          unfold takeS
          rw [if_pos hp0, hy2]
          split
          · intro _ q5; exact absurd q5 (by show ¬ (8 : Int) ≤ 5; decide)
          · intro _ _; rfl
        · have hc := hcn (by omega) (by omega)
          rcases T.go with ⟨e, _⟩ | ⟨_, e, _⟩ | ⟨_, e, _⟩ | ⟨_, e, _⟩ | ⟨_, e, _⟩ | ⟨_, e, _⟩ | ⟨_, e, _⟩
          · omega
          all_goals rw [e]; exact hc
  · right; right
    have hp6 : p.ph = 6 := by omega
    have hk : (accS p).kind = 2 := if_pos (.inr hp6)
    have ha := R.at6 hp6
    have hw : 56 ≤ (accS p).at_ := by
      show 56 ≤ whereS p
      unfold whereS
      rw [if_neg (by omega), if_neg (by omega), if_neg (by omega), if_neg (by omega), if_pos hp6, h.e0, h.e1]
      by_cases h4 : p.at_ < 40
      · rw [if_pos h4]; omega
      · rw [if_neg h4]; omega
    have hy1 : y.1 = l.set j (accS p).new := by
      rcases hrow with ⟨e, _⟩ | ⟨_, e⟩
      · omega
      · exact e
    have h16 : y.1[16]? = some (c + 1#64) := by rw [hy1, List.getElem?_set, if_neg (by omega)]; exact hc1
    have hm := manyS_6 R hp6
    have hgo : (takeS p y.2).at_ = p.at_ + 1 ∧ (p.at_ = 79 ∧ (takeS p y.2).ph = 7 ∨ p.at_ ≠ 79 ∧ (takeS p y.2).ph = 6) := by
      rcases T.go with ⟨e, _⟩ | ⟨e, _⟩ | ⟨e, _⟩ | ⟨⟨e, _⟩ | e, _⟩ | ⟨e, _⟩ | ⟨e, _⟩ | ⟨_, _, a, b⟩
      · omega
      · omega
      · omega
      · omega
      · omega
      · omega
      · omega
      · exact ⟨a, b⟩
    have hm2 : manyS (takeS p y.2) = manyS p - 1 := by
      rcases hgo.2 with ⟨a, b⟩ | ⟨a, b⟩
      · rw [manyS_7 (by omega) (by omega), hm]; omega
      · rw [manyS_6 R' b, hm, hgo.1]; omega
    exact ⟨hk, rfl, hw, h16, hodd, by omega, by omega, hm2, hlen, R', by rw [T.sl]; exact h.sl, by rw [T.t0]; exact h.e0, by rw [T.t1]; exact h.e1, by rw [T.who]; exact h.who_, h.at16, .inr ⟨rfl, by omega, h16, hodd⟩⟩
end Go.Proofs.Hc
