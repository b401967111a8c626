/- Layer 22: a whole run, the plain law. -/
import Derived.Test.YtcikopeddljgkaaGreatJPh
import Derived.Test.YtcikopeddljgkaaGreatJ0
set_option linter.unusedSimpArgs false
set_option linter.unusedVariables false
set_option maxHeartbeats 4000000
set_option maxRecDepth 100000
namespace Go.Proofs.Hc
open Go.RowKit
def onR (p : PartT) : Option Nat → Option (Nat → BitVec 64) → PartT
  | some j, _ => { p with at_ := (j : Int), ph := 3 }
  | none, some ws => { p with ws := ws, ph := 5 }
  | none, none => { p with ph := 9 }
theorem onS_def (p : PartT) (from_ : Nat) : onS p from_ = onR p (nextS p from_) (halvesS p) := by
  unfold onS
  generalize nextS p from_ = a
  generalize halvesS p = b
  cases a with
  | some j => rfl
  | none => cases b <;> rfl
theorem nextS_lt {p : PartT} {from_ j : Nat} (h : nextS p from_ = some j) : j < 16 ∧ from_ ≤ j ∧ fullJ (gotS p) j = true := by
  unfold nextS at h
  have h1 := List.find?_some h
  have h2 := List.mem_of_find?_eq_some h
  rw [List.mem_range] at h2
  simp only [Bool.and_eq_true, decide_eq_true_eq] at h1
  exact ⟨h2, h1.1, h1.2⟩
structure SameS (p q : PartT) : Prop where
  who : q.who = p.who
  sl : q.sl = p.sl
  t0 : q.t0 = p.t0
  t1 : q.t1 = p.t1
  seed : q.seed = p.seed
theorem onS_to (p : PartT) (from_ : Nat) : SameS p (onS p from_) ∧ (onS p from_).count = p.count ∧ (onS p from_).head = p.head ∧ ((onS p from_).ph = 3 ∧ (∃ j : Nat, j < 16 ∧ from_ ≤ j ∧ (onS p from_).at_ = (j : Int)) ∨ (onS p from_).ph = 5 ∨ (onS p from_).ph = 9) := by
  rw [onS_def]
  have hn := fun j => @nextS_lt p from_ j
  generalize nextS p from_ = a at *
  generalize halvesS p = b
  cases a with
  | some j => exact ⟨⟨rfl, rfl, rfl, rfl, rfl⟩, rfl, rfl, .inl ⟨rfl, j, (hn j rfl).1, (hn j rfl).2.1, rfl⟩⟩
  | none =>
    cases b with
    | some ws => exact ⟨⟨rfl, rfl, rfl, rfl, rfl⟩, rfl, rfl, .inr (.inl rfl)⟩
    | none => exact ⟨⟨rfl, rfl, rfl, rfl, rfl⟩, rfl, rfl, .inr (.inr rfl)⟩
structure StepsTo (p q : PartT) : Prop extends SameS p q where
  go : (p.ph = 0 ∧ (q.ph = 8 ∧ q.count = p.count ∨ q.ph = 1 ∧ oddB q.count = false)) ∨
    (p.ph = 1 ∧ q.count = p.count ∧ q.at_ = 0 ∧ (q.ph = 9 ∨ q.ph = 2)) ∨
    (p.ph = 2 ∧ q.count = p.count ∧ p.at_ = 0 ∧ q.ph = 2 ∧ q.at_ = 1) ∨
    ((p.ph = 2 ∧ p.at_ = 1 ∨ p.ph = 4) ∧ q.count = p.count ∧ (q.ph = 3 ∧ 0 ≤ q.at_ ∧ q.at_ < 16 ∧ (p.ph = 4 → p.at_ < q.at_) ∨ q.ph = 5 ∨ q.ph = 9)) ∨
    (p.ph = 3 ∧ q.count = p.count ∧ q.ph = 4 ∧ q.at_ = p.at_) ∨
    (p.ph = 5 ∧ q.count = p.count ∧ q.ph = 6 ∧ q.at_ = 0) ∨
    (p.ph = 6 ∧ q.count = p.count ∧ q.at_ = p.at_ + 1 ∧ (p.at_ = 79 ∧ q.ph = 7 ∨ p.at_ ≠ 79 ∧ q.ph = 6))
theorem headS_to (p : PartT) (w : BitVec 64) : SameS p (headS p w) ∧ (headS p w).count = p.count ∧ (headS p w).at_ = 0 ∧ ((headS p w).ph = 9 ∨ (headS p w).ph = 2) := by
  unfold headS
  split
  · exact ⟨⟨rfl, rfl, rfl, rfl, rfl⟩, rfl, rfl, .inl rfl⟩
  · exact ⟨⟨rfl, rfl, rfl, rfl, rfl⟩, rfl, rfl, .inr rfl⟩
theorem takeS_to {p : PartT} (R : RightS p) (h6 : p.ph ≤ 6) (w : BitVec 64) : StepsTo p (takeS p w) := by
  have h0 := R.ph0
  have h2 := R.at2
  have h3 := R.at3
  unfold takeS
  by_cases c0 : p.ph = 0
  · rw [if_pos c0]
    cases ho : oddB w with
    | true => rw [if_pos rfl]; exact ⟨⟨rfl, rfl, rfl, rfl, rfl⟩, .inl ⟨c0, .inl ⟨rfl, rfl⟩⟩⟩
    | false => rw [if_neg (by decide)]; exact ⟨⟨rfl, rfl, rfl, rfl, rfl⟩, .inl ⟨c0, .inr ⟨rfl, ho⟩⟩⟩
  rw [if_neg c0]
  by_cases c1 : p.ph = 1
  · rw [if_pos c1]
    obtain ⟨e1, e2, e3, e4⟩ := headS_to p w
    exact ⟨e1, .inr (.inl ⟨c1, e2, e3, e4⟩)⟩
  rw [if_neg c1]
  by_cases c2 : p.ph = 2
  · rw [if_pos c2]
    by_cases ca : p.at_ = 1
    · rw [if_pos ca]
      obtain ⟨e1, e2, _, e3⟩ := onS_to { p with c := updW p.c 1 w, at_ := 2 } 0
      refine ⟨⟨e1.who, e1.sl, e1.t0, e1.t1, e1.seed⟩, .inr (.inr (.inr (.inl ⟨.inl ⟨c2, ca⟩, e2, ?_⟩)))⟩
      rcases e3 with ⟨h, j, hj, -, he⟩ | h | h
      · exact .inl ⟨h, by omega, by omega, fun h4 => by omega⟩
      · exact .inr (.inl h)
      · exact .inr (.inr h)
    · rw [if_neg ca]
      have := h2 c2
      exact ⟨⟨rfl, rfl, rfl, rfl, rfl⟩, .inr (.inr (.inl ⟨c2, rfl, by omega, c2, rfl⟩))⟩
  rw [if_neg c2]
  by_cases c3 : p.ph = 3
  · rw [if_pos c3]
    exact ⟨⟨rfl, rfl, rfl, rfl, rfl⟩, .inr (.inr (.inr (.inr (.inl ⟨c3, rfl, rfl, rfl⟩))))⟩
  rw [if_neg c3]
  by_cases c4 : p.ph = 4
  · rw [if_pos c4]
    have := h3 (.inr c4)
    obtain ⟨e1, e2, _, e3⟩ := onS_to { p with v := updW p.v p.at_.toNat w } (p.at_.toNat + 1)
    refine ⟨⟨e1.who, e1.sl, e1.t0, e1.t1, e1.seed⟩, .inr (.inr (.inr (.inl ⟨.inr c4, e2, ?_⟩)))⟩
    rcases e3 with ⟨h, j, hj, hf, he⟩ | h | h
    · exact .inl ⟨h, by omega, by omega, fun _ => by omega⟩
    · exact .inr (.inl h)
    · exact .inr (.inr h)
  rw [if_neg c4]
  by_cases c5 : p.ph = 5
  · rw [if_pos c5]
    exact ⟨⟨rfl, rfl, rfl, rfl, rfl⟩, .inr (.inr (.inr (.inr (.inr (.inl ⟨c5, rfl, rfl, rfl⟩)))))⟩
  rw [if_neg c5]
  have c6 : p.ph = 6 := by omega
  refine ⟨⟨rfl, rfl, rfl, rfl, rfl⟩, .inr (.inr (.inr (.inr (.inr (.inr ⟨c6, rfl, rfl, ?_⟩)))))⟩
  by_cases ca : p.at_ = 79
  · exact .inl ⟨ca, if_pos ca⟩
  · exact .inr ⟨ca, if_neg ca⟩
theorem StepsTo.right {p q : PartT} (R : RightS p) (h : StepsTo p q) : RightS q := by
  have h2 := R.at2
  have h3 := R.at3
  have h6 := R.at6
  have hg := h.go
  have hev := R.even
  have hc : oddB q.count = false := by
    rcases hg with ⟨_, ⟨_, e⟩ | ⟨_, e⟩⟩ | ⟨_, e, _⟩ | ⟨_, e, _⟩ | ⟨_, e, _⟩ | ⟨_, e, _⟩ | ⟨_, e, _⟩ | ⟨_, e, _⟩
    · rw [e]; exact hev
    · exact e
    all_goals rw [e]; exact hev
  exact ⟨by omega, by omega, by rw [h.who]; exact R.who0, by rw [h.who]; exact R.who7, by rw [h.sl]; exact R.sl0, by rw [h.sl]; exact R.sl1, by rw [h.t0]; exact R.a0, by rw [h.t0]; exact R.a1,
    by rw [h.t1]; exact R.b0, by rw [h.t1]; exact R.b1, by rw [h.sl, h.t0]; exact R.sa, by rw [h.sl, h.t1]; exact R.sb, by rw [h.t0, h.t1]; exact R.ab, hc, by omega, by omega, by omega⟩
def measS (p : PartT) : Nat := if p.ph = 0 then 117 else if p.ph = 1 then 116 else if p.ph = 2 then (115 - p.at_).toNat else if p.ph = 3 then (113 - 2 * p.at_).toNat else if p.ph = 4 then (112 - 2 * p.at_).toNat else if p.ph = 5 then 81 else if p.ph = 6 then (80 - p.at_).toNat else 0
theorem measS_is {p : PartT} : (p.ph = 0 → measS p = 117) ∧ (p.ph = 1 → measS p = 116) ∧ (p.ph = 2 → measS p = (115 - p.at_).toNat) ∧ (p.ph = 3 → measS p = (113 - 2 * p.at_).toNat) ∧ (p.ph = 4 → measS p = (112 - 2 * p.at_).toNat) ∧ (p.ph = 5 → measS p = 81) ∧ (p.ph = 6 → measS p = (80 - p.at_).toNat) ∧ (6 < p.ph → measS p = 0) := by
  unfold measS
  refine ⟨fun h => ?_, fun h => ?_, fun h => ?_, fun h => ?_, fun h => ?_, fun h => ?_, fun h => ?_, fun h => ?_⟩
  · rw [if_pos h]
  · rw [if_neg (by omega), if_pos h]
  · rw [if_neg (by omega), if_neg (by omega), if_pos h]
  · rw [if_neg (by omega), if_neg (by omega), if_neg (by omega), if_pos h]
  · rw [if_neg (by omega), if_neg (by omega), if_neg (by omega), if_neg (by omega), if_pos h]
  · rw [if_neg (by omega), if_neg (by omega), if_neg (by omega), if_neg (by omega), if_neg (by omega), if_pos h]
  · rw [if_neg (by omega), if_neg (by omega), if_neg (by omega), if_neg (by omega), if_neg (by omega), if_neg (by omega), if_pos h]
  · rw [if_neg (by omega), if_neg (by omega), if_neg (by omega), if_neg (by omega), if_neg (by omega), if_neg (by omega), if_neg (by omega)]
theorem measS_take {p : PartT} (R : RightS p) (h6 : p.ph ≤ 6) (w : BitVec 64) : measS (takeS p w) < measS p := by
  have T := (takeS_to R h6 w).go
  generalize takeS p w = q at *
  have hp := @measS_is p
  have hq := @measS_is q
  have h0 := R.ph0
  have h2 := R.at2
  have h3 := R.at3
  have h6' := R.at6
  generalize measS p = a at *
  generalize measS q = b at *
  obtain ⟨a0, a1, a2, a3, a4, a5, a6, -⟩ := hp
  obtain ⟨-, b1, b2, b3, b4, b5, b6, b7⟩ := hq
  rcases T with ⟨e, ⟨f, -⟩ | ⟨f, -⟩⟩ | ⟨e, -, hA, f | f⟩ | ⟨e, -, hA, f, hB⟩ | ⟨⟨e, hA⟩ | e, -, ⟨f, g1, g2, g3⟩ | f | f⟩ | ⟨e, -, f, g⟩ | ⟨e, -, f, g⟩ | ⟨e, -, g, ⟨hA, f⟩ | ⟨hA, f⟩⟩
  · rw [a0 e, b7 (by omega)]; omega
  · rw [a0 e, b1 f]; omega
  · rw [a1 e, b7 (by omega)]; omega
  · rw [a1 e, b2 f]; omega
  · rw [a2 e, b2 f]; omega
  · rw [a2 e, b3 f]; omega
  · rw [a2 e, b5 f]; have := h2 e; omega
  · rw [a2 e, b7 (by omega)]; have := h2 e; omega
  · rw [a4 e, b3 f]; have := g3 e; have := h3 (.inr e); omega
  · rw [a4 e, b5 f]; have := h3 (.inr e); omega
  · rw [a4 e, b7 (by omega)]; have := h3 (.inr e); omega
  · rw [a3 e, b4 f]; have := h3 (.inl e); omega
  · rw [a5 e, b6 f]; omega
  · rw [a6 e, b7 (by omega)]; have := h6' e; omega
  · rw [a6 e, b6 f]; have := h6' e; omega
theorem measS_le {p : PartT} (R : RightS p) : measS p ≤ 117 := by
  have hp := @measS_is p
  have h0 := R.ph0
  have h2 := R.at2
  have h3 := R.at3
  have h6' := R.at6
  generalize measS p = a at *
  obtain ⟨a0, a1, a2, a3, a4, a5, a6, a7⟩ := hp
  rcases (show p.ph = 0 ∨ p.ph = 1 ∨ p.ph = 2 ∨ p.ph = 3 ∨ p.ph = 4 ∨ p.ph = 5 ∨ p.ph = 6 ∨ 6 < p.ph by omega) with h | h | h | h | h | h | h | h
  · have := a0 h; omega
  · have := a1 h; omega
  · have := a2 h; have := h2 h; omega
  · have := a3 h; have := h3 (.inl h); omega
  · have := a4 h; have := h3 (.inr h); omega
  · have := a5 h; omega
  · have := a6 h; have := h6' h; omega
  · have := a7 h; omega
def accS (p : PartT) : AccT := ⟨if p.ph = 5 ∨ p.ph = 6 then 2 else 1, whereS p, if p.ph = 5 then p.count + 1#64 else if p.ph = 6 then p.ws p.at_.toNat else 0#64⟩
theorem needS_is {p : PartT} (hr : rightS p = true) (h6 : p.ph ≤ 6) : needS p = some (accS p) := by
  unfold needS accS
  rw [if_pos (by simp [hr, h6])]
theorem needS_none {p : PartT} (h : ¬ (rightS p = true ∧ p.ph ≤ 6)) : needS p = none := by
  unfold needS
  rw [if_neg (by simpa using h)]
theorem whereS_in {p : PartT} (R : RightS p) (h6 : p.ph ≤ 6) : 0 ≤ whereS p ∧ ∃ s, (s = p.sl ∨ s = p.t0 ∨ s = p.t1) ∧ whereS p ≤ 55 + 40 * s := by
  have h0 := R.ph0
  have h2 := R.at2
  have h3 := R.at3
  have h6' := R.at6
  have hs := R.sl0
  have ha := R.a0
  have hb := R.b0
  unfold whereS
  by_cases c1 : p.ph = 1
  · rw [if_pos c1]; exact ⟨by omega, p.sl, .inl rfl, by omega⟩
  rw [if_neg c1]
  by_cases c2 : p.ph = 2
  · rw [if_pos c2]; have := h2 c2; exact ⟨by omega, p.sl, .inl rfl, by omega⟩
  rw [if_neg c2]
  by_cases c3 : p.ph = 3
  · rw [if_pos c3]; have := h3 (.inl c3); exact ⟨by omega, p.sl, .inl rfl, by omega⟩
  rw [if_neg c3]
  by_cases c4 : p.ph = 4
  · rw [if_pos c4]; have := h3 (.inr c4); exact ⟨by omega, p.sl, .inl rfl, by omega⟩
  rw [if_neg c4]
  by_cases c6 : p.ph = 6
  · rw [if_pos c6]
    have := h6' c6
    by_cases c : p.at_ < 40
    · rw [if_pos c]; exact ⟨by omega, p.t0, .inr (.inl rfl), by omega⟩
    · rw [if_neg c]; exact ⟨by omega, p.t1, .inr (.inr rfl), by omega⟩
  rw [if_neg c6]
  exact ⟨by omega, p.sl, .inl rfl, by omega⟩
structure ThereS (n : Nat) (p : PartT) : Prop where
  sl : 56 + 40 * p.sl ≤ (n : Int)
  t0 : 56 + 40 * p.t0 ≤ (n : Int)
  t1 : 56 + 40 * p.t1 ≤ (n : Int)
theorem ThereS.to {n : Nat} {p q : PartT} (h : ThereS n p) (s : SameS p q) : ThereS n q := ⟨by rw [s.sl]; exact h.sl, by rw [s.t0]; exact h.t0, by rw [s.t1]; exact h.t1⟩
theorem stepS_goes {l : List (BitVec 64)} {p : PartT} (R : RightS p) (h6 : p.ph ≤ 6) (hn : ThereS l.length p) :
    ∃ y, needS p = some (accS p) ∧ doP l (accS p) = some y ∧ stepS l p = some (y.1, takeS p y.2) ∧ y.1.length = l.length ∧ RightS (takeS p y.2) ∧ measS (takeS p y.2) < measS p ∧ ThereS y.1.length (takeS p y.2) := by
  have hr := (zdk p).2 R
  obtain ⟨hw0, s, hs, hw1⟩ := whereS_in R h6
  have e := needS_is hr h6
  obtain ⟨y, hy, hyl⟩ := doP_in (l := l) (a := accS p) (by
    show (whereS p).toNat < _
    rcases hs with rfl | rfl | rfl
    · have := hn.sl; omega
    · have := hn.t0; omega
    · have := hn.t1; omega)
  have T := takeS_to R h6 y.2
  refine ⟨y, e, hy, ?_, hyl, T.right R, measS_take R h6 y.2, by rw [hyl]; exact hn.to T.toSameS⟩
  unfold stepS
  rw [e]
  dsimp only
  rw [hy]
  rfl
inductive RunsS : List (BitVec 64) → PartT → Nat → List (BitVec 64) → PartT → Prop
  | done {l p} : 6 < p.ph → RunsS l p 0 l p
  | step {l p y k l' p'} : p.ph ≤ 6 → rightS p = true → doP l (accS p) = some y → RunsS y.1 (takeS p y.2) k l' p' → RunsS l p (k + 1) l' p'
theorem runsS_any : ∀ (m : Nat) (l : List (BitVec 64)) (p : PartT), measS p ≤ m → RightS p → ThereS l.length p → ∃ k l' p', k ≤ m ∧ RunsS l p k l' p' ∧ l'.length = l.length := by
  intro m
  induction m with
  | zero =>
    intro l p hm R hn
    by_cases h6 : p.ph ≤ 6
    · obtain ⟨y, _, _, _, _, _, hlt, _⟩ := stepS_goes R h6 hn
      omega
    · exact ⟨0, l, p, Nat.le_refl _, .done (by omega), rfl⟩
  | succ m ih =>
    intro l p hm R hn
    by_cases h6 : p.ph ≤ 6
    · obtain ⟨y, ha, hy, _, hyl, R', hlt, hn'⟩ := stepS_goes R h6 hn
      obtain ⟨k, l', p', hk, hrun, hl'⟩ := ih y.1 (takeS p y.2) (by omega) R' hn'
      exact ⟨k + 1, l', p', by omega, .step h6 ((zdk p).2 R) hy hrun, by rw [hl', hyl]⟩
    · exact ⟨0, l, p, Nat.zero_le _, .done (by omega), rfl⟩
theorem RunsS.inv {l l' : List (BitVec 64)} {p p' : PartT} {k : Nat} (h : RunsS l p k l' p') : (6 < p.ph ∧ k = 0 ∧ l' = l ∧ p' = p) ∨ ∃ y k1, p.ph ≤ 6 ∧ k = k1 + 1 ∧ rightS p = true ∧ doP l (accS p) = some y ∧ RunsS y.1 (takeS p y.2) k1 l' p' := by
  cases h with
  | done h => exact .inl ⟨h, rfl, rfl, rfl⟩
  | step h6 hr hy hx => exact .inr ⟨_, _, h6, rfl, hr, hy, hx⟩
theorem accS_row {l : List (BitVec 64)} {p : PartT} {y : List (BitVec 64) × BitVec 64} (R : RightS p) (h6 : p.ph ≤ 6) (hy : doP l (accS p) = some y) :
    ∃ j : Nat, (accS p).at_ = (j : Int) ∧ j < l.length ∧ l[j]? = some y.2 ∧ ((accS p).kind = 1 ∧ y.1 = l ∨ (accS p).kind = 2 ∧ y.1 = l.set j (accS p).new) := by
  obtain ⟨j, hj⟩ := Int.eq_ofNat_of_zero_le (whereS_in R h6).1
  have hk : (accS p).kind = 1 ∨ (accS p).kind = 2 := by
    by_cases h : p.ph = 5 ∨ p.ph = 6
    · right; exact if_pos h
    · left; exact if_neg h
  unfold doP at hy
  have e : (accS p).at_.toNat = j := by show (whereS p).toNat = j; omega
  rw [e] at hy
  split at hy
  · cases hy
  · rename_i w hw
    have hy := Option.some.inj hy
    subst hy
    refine ⟨j, hj, (List.getElem?_eq_some_iff.1 hw).1, hw, ?_⟩
    rcases hk with h | h
    · exact .inl ⟨h, if_pos h⟩
    · refine .inr ⟨h, ?_⟩
      show (if (accS p).kind = 1 then _ else _) = _
      rw [if_neg (by omega), if_pos h]
end Go.Proofs.Hc
namespace Go.Proofs.Hc
open Go.RowKit
attribute [local go_sem] zbu zcc zax zbf zbo zbd zbn zbp zbw signed64 signed8 zap BitVec.ofInt_add BitVec.ofInt_mul ofInt_sub' zbb zbc wide8 eqN neN zca shr1 shr7 shr56
attribute [local go_sem high] zbe zbv
attribute [local go_sem] zaw zby zaj zas zaf zaz zar zak zbm zal zay zba
attribute [local go_sem] load26 load73 load23 store26 build73
attribute [local go_sem ↓] lrow26 lrow73 lrow23 srow26 zero26 brow73 zae zbk zbg zaa zab
attribute [local go_sem] zai zav zat zbj zbl zbr zaq zau zbs zbi zbh
attribute [local go_sem] nn2 nm2 nn3 nm3 nn4 nm4 nn5 nm5 nn6 nm6 nn7 nm7 nn8 nm8
section
attribute [local go_sem] zap zbq
attribute [local go_sem] Oper.semAt_some zao
attribute [local go_sem] zcj pacell0 pacell1 pacell2 pacell3 pacell4 pacell5 pacell6 pacell7 pacell42
attribute [local go_sem] zcs zcx zcp zcw zcv zdg zcu zdf zce zcr zdj zdc zch zbt zci zck boxPart loadPart storePart zcf zct buildPart0 buildPart4
attribute [local go_sem ↓] lrowPart srowPart browPart zcl zbz
attribute [local go_sem high] zag
attribute [local irreducible] partC
theorem next_told (p : PartT) (f : Nat) : nextS p f = (toldS (gotS p) f 16).head? := by
  unfold nextS toldS
  rw [List.head?_filter]
theorem on_none (p : PartT) (f : Nat) (h : toldS (gotS p) f 16 = []) : onS p f = match halvesS p with | some ws => { p with ws := ws, ph := 5 } | none => { p with ph := 9 } := by
  rw [onS_def, next_told, h]
  generalize halvesS p = hv
  cases hv <;> rfl
theorem on_some (p : PartT) (f j : Nat) (r : List Nat) (h : toldS (gotS p) f 16 = j :: r) : onS p f = { p with at_ := (j : Int), ph := 3 } := by
  rw [onS_def, next_told, h]; rfl
theorem halves_ph (p : PartT) (x : Int) : halvesS { p with ph := x } = halvesS p := rfl
theorem s22on_any (p : PartT) (f : Nat) (hf : f ≤ 16) (g : Nat) (w : World) (hg : w.heap[g]? = some (.cells (partC p) 179 (0, 0))) :
    Calls Tryz.prog 234 #[.pointer (some ⟨g, 0, none⟩), I (f : Int)] w fun e w' => e = .returned (.tuple #[]) ∧ w'.heap[g]? = some (.cells (partC (onS p f)) 179 (0, 0)) ∧ Ch [g] w w' := by
  have F1 := fun w h => s22full_any g (f : Int) w h
  have Y1 := full_yields p f hf g
  have HN := Lib.hid (on_none p f)
  have HS := Lib.hid (on_some p f)
  have H9 := fun w h => s22halves_any { p with ph := 9 } g w h
  rw [halves_ph] at H9
  generalize halvesS p = hv at *
  generalize onS p f = q at *
  generalize toldS (gotS p) f 16 = xs at *
  obtain ⟨W0, hW0⟩ : ∃ W0, (w.alloc (.cells #[.pointer (some ⟨g, 0, none⟩)] 177)) = W0 := ⟨_, rfl⟩
  have hs0 : Hid (W0.heap.size = w.heap.size + 1) := Lib.hid (by rw [← hW0]; simp)
  have C0 : Ch [] w W0 := by rw [← hW0]; exact (Ch.refl [] w).alloc _
  have a0 : W0.heap[w.heap.size]? = some (.cells #[.pointer (some ⟨g, 0, none⟩)] 177 (0, 0)) := by rw [← hW0]; simp [go_sem]
  have g0 := hkeep C0 hg
  have hgB := Lib.hid (Array.getElem?_eq_some_iff.1 hg).1
  clear hg
  refine (callsIn_wide (n := 3)).1 ?_
  refine callsIn_of_wp_marks Tryz.func234 rfl trivial ?_
  simp only [Tryz.ntmps234, List.size_toArray, List.length_cons, List.length_nil, Nat.reduceAdd, Nat.reduceSub, Array.replicate_succ, Array.replicate_zero, List.push_toArray, List.append_toArray, List.nil_append, List.cons_append]
  gi_wp2_with fail
  try rw [hW0]
  clear hW0
  refine ⟨trivial, ?_⟩
  gi_at_call 280
  refine (inW (F1 _ (by have := hs0.out; have := hgB.out; omega))).mono ?_
  rintro e w1 ⟨q1, q2, rfl, h1, h2, k1, k2, hc1⟩
  have a1 := hkeep hc1 a0
  have g1 := hkeep hc1 g0
  have C1 := C0.trans hc1
  obtain ⟨B, hB⟩ : ∃ B, w.heap.size = B := ⟨_, rfl⟩
  have lB0 := zad a0
  rw [hB] at lB0
  have hgB2 : g < B := by rw [← hB]; exact hgB.out
  rw [hB] at a1
  try rw [hB]
  have hBw : w.heap.size ≤ B := by omega
  have lg := zad g1
  have l1 := zad h1
  have l2 := zad h2
  have lB := zad a1
  have n1 : B ≠ q1 := by omega
  have n2 : B ≠ q2 := by omega
  have Y2 := Lib.hid (Y1 q1 q2 w1 g1 h1 h2)
  clear F1 Y1 a0 g0 C0 hc1 h1 h2 hB hgB hs0
  gi_wp2
  refine range_lawX (n := 1) (xs := xs) rfl enters_full22 Y2.out (fun _ => rfl) (by simp) (by simp; omega)
    (fun b => b = g) (by rintro b rfl; omega)
    (fun pre O W => (∀ x, ¬ O x) ∧ pre = [] ∧ Ch [] w W ∧ W.heap[B]? = some (.cells #[.pointer (some ⟨g, 0, none⟩)] 177 (0, 0)) ∧ W.heap[g]? = some (.cells (partC p) 179 (0, 0)))
    (fun c W => c = .ret ∧ (∃ j r, xs = j :: r ∧ W.heap[g]? = some (.cells (partC { p with at_ := (j : Int), ph := 3 }) 179 (0, 0))) ∧ Ch [g] w W)
    (fun _ => False) ?hIO ?hI ?hIx ⟨fun _ h => h, rfl, C1, a1, g1⟩ ?a₁ ?assign ?body ?done ?stop
  case assign =>
    intro x W K hK
    gi_wp2
    exact hK
  case hIO =>
    rintro pre O A ⟨h, _⟩ x hx
    exact (h x hx).elim
  case hI =>
    rintro pre O A B' ⟨h, hp, hc, k1, k2⟩ hAB
    exact ⟨h, hp, hc.trans2 hAB (by simp <;> omega), hkeepS hAB (by simp; omega) k1, hkeepS hAB (by simp; omega) k2⟩
  case hIx =>
    rintro c A B' ⟨hc, ⟨j, r, hx, hj⟩, hC⟩ hAB
    exact ⟨hc, ⟨j, r, hx, hkeepS hAB (by simp; omega) hj⟩, hC.trans2 hAB (by simp <;> omega)⟩
  case body =>
    rintro pre O x post W hx ⟨h, hp, hc, k1, k2⟩ hsz
    subst hp
    go_light
    rw [List.nil_append] at hx
    have HX := Lib.hid hx
    have H42 := zch p (x : Int)
    have H0 := zcr { p with at_ := (x : Int) } 3
    have n2' : ¬ B = g := by omega
    obtain ⟨c0, hc0⟩ : ∃ c, partC p = c := ⟨_, rfl⟩
    obtain ⟨c1, hc1⟩ : ∃ c, partC { p with at_ := (x : Int) } = c := ⟨_, rfl⟩
    obtain ⟨c2, hc2⟩ : ∃ c, partC { p with at_ := (x : Int), ph := 3 } = c := ⟨_, rfl⟩
    have e0 : ∃ o, c0[42]? = some o := by rw [← hc0]; exact ⟨_, zce p⟩
    have e1 : ∃ o, c1[0]? = some o := by rw [← hc1]; exact ⟨_, zcs _⟩
    obtain ⟨o0, e0⟩ := e0
    obtain ⟨o1, e1⟩ := e1
    rw [hc0, hc1] at H42
    rw [hc1] at H0
    have H0' : c1.setIfInBounds 0 (I 3) = c2 := H0.trans hc2
    have HC2 := Lib.hid hc2
    rw [hc0] at k2
    clear hx hc0 hc1 H0 hc2 Y2 H9 HN HS g1 a1 C1
    gi_wp2
    refine rr_held (fun W' => W'.heap[B]? = some (.cells #[.pointer (some ⟨g, 0, none⟩)] 177 (0, 0))) (by kernel_rfl) (by kernel_rfl) (by rintro ⟨a, w, h⟩; exact h) k1 ?_
    intro hS
    simp only [List.size_toArray, List.length_cons, List.length_nil, Nat.reduceAdd]
    have g2 : W.drew.heap[g]? = some (.cells c0 179 (0, 0)) := k2
    have C2 : Ch [g] w W.drew := hc.of_nil.drew
    have hW : Ch [g] W W.drew := (Ch.refl [g] W).drew
    have hz : W.heap.size ≤ W.drew.heap.size := Nat.le_refl _
    obtain ⟨w2, hw2⟩ : ∃ W2, W.drew = W2 := ⟨_, rfl⟩
    rw [hw2] at g2 C2 hW hS hz ⊢
    clear hw2 k1 k2
    refine tk 0 9 ?_ rfl hS ?_ ?_; rotate_left
    · intro _ _; go_simp; try with_reducible rfl
    try go_frame
    refine tk 1 10 ?_ rfl hS ?_ ?_; rotate_left
    · intro _ _; go_simp; try with_reducible rfl
    try go_frame
    refine tk 2 11 ?_ rfl hS ?_ ?_; rotate_left
    · intro _ _; go_simp; try with_reducible rfl
    try go_frame
    refine tk 3 12 ?_ rfl hS ?_ ?_; rotate_left
    · intro _ _; go_simp; try with_reducible rfl
    try go_frame
    refine tk 4 13 ?_ rfl hS ?_ ?_; rotate_left
    · intro _ _; go_simp; try with_reducible rfl
    try go_frame
    refine tk 5 14 ?_ rfl hS ?_ ?_; rotate_left
    · intro _ _; go_simp; try with_reducible rfl
    try go_frame
    refine rd 6 rfl (fun K hK => ?_); go_simp
    have g3 : (w2.setCell ⟨g, 42, none⟩ (I (x : Int))).heap[g]? = some (.cells c1 179 (0, 0)) := by rw [zaa, if_pos rfl, g2, Option.map_some, zaf, H42]
    have s3 : (w2.setCell ⟨g, 42, none⟩ (I (x : Int))).heap[B]? = some (.cells #[.pointer (some ⟨g, 0, none⟩)] 177 (0, 0)) := by rw [zaa, if_neg n2']; exact hS
    have C3 : Ch [g] w (w2.setCell ⟨g, 42, none⟩ (I (x : Int))) := C2.setCell (p := ⟨g, 42, none⟩) (.inl (by simp)) _
    have hW3 : Ch [g] W (w2.setCell ⟨g, 42, none⟩ (I (x : Int))) := hW.setCell (p := ⟨g, 42, none⟩) (.inl (by simp)) _
    refine hK.out _ _ s3 (fun _ => ?_)
    clear hK K hS g2 C2 hW
    obtain ⟨w3, hw3⟩ : ∃ W3, w2.setCell ⟨g, 42, none⟩ (I (x : Int)) = W3 := ⟨_, rfl⟩
    rw [hw3] at g3 s3 C3 hW3 ⊢
    clear hw3
    refine tk 7 15 ?_ rfl s3 ?_ ?_; rotate_left
    · intro _ _; go_simp; try with_reducible rfl
    try go_frame
    refine tk 8 16 ?_ rfl s3 ?_ ?_; rotate_left
    · intro _ _; go_simp; try with_reducible rfl
    try go_frame
    refine tk 9 17 ?_ rfl s3 ?_ ?_; rotate_left
    · intro _ _; go_simp; try with_reducible rfl
    try go_frame
    refine rd 10 rfl (fun K hK => ?_); go_simp
    have g4 : (w3.setCell ⟨g, 0, none⟩ (I 3)).heap[g]? = some (.cells c2 179 (0, 0)) := by rw [zaa, if_pos rfl, g3, Option.map_some, zaf, H0']
    have s4 : (w3.setCell ⟨g, 0, none⟩ (I 3)).heap[B]? = some (.cells #[.pointer (some ⟨g, 0, none⟩)] 177 (0, 0)) := by rw [zaa, if_neg n2']; exact s3
    have C4 : Ch [g] w (w3.setCell ⟨g, 0, none⟩ (I 3)) := C3.setCell (p := ⟨g, 0, none⟩) (.inl (by simp)) _
    have hW4 : Ch [g] W (w3.setCell ⟨g, 0, none⟩ (I 3)) := hW3.setCell (p := ⟨g, 0, none⟩) (.inl (by simp)) _
    refine hK.out _ _ s4 (fun _ => ?_)
    clear hK K
    generalize w3.setCell ⟨g, 0, none⟩ (I 3) = w4 at *
    refine wpAnyH_done (by kernel_rfl) ?_ _
    gi_wp2
    exact ⟨⟨rfl, ⟨x, post, HX.out, by rw [HC2.out]; exact g4⟩, C4⟩, fun b hb _ hn => hW4.block b hb (by simpa using hn)⟩
  case done =>
    rintro O W ⟨_, hx, hc, k1, k2⟩ hd
    have g9 : (W.setCell ⟨g, 0, none⟩ (I 9)).heap[g]? = some (.cells (partC { p with ph := 9 }) 179 (0, 0)) := by rw [zaa, if_pos rfl, k2, Option.map_some, zaf, zcr]
    have a9 : (W.setCell ⟨g, 0, none⟩ (I 9)).heap[B]? = some (.cells #[.pointer (some ⟨g, 0, none⟩)] 177 (0, 0)) := by rw [zaa, if_neg (by omega)]; exact k1
    have d9 : (W.setCell ⟨g, 0, none⟩ (I 9)).heap[w1.heap.size]? = some (.deferred (some [])) := by rw [zaa, if_neg (by omega)]; exact hd
    have C9 : Ch [g] w (W.setCell ⟨g, 0, none⟩ (I 9)) := hc.of_nil.setCell (p := ⟨g, 0, none⟩) (.inl (by simp)) _
    have HQ := HN.out hx
    clear HN HS Y2 hx
    gi_wp2_with fail
    refine ⟨trivial, ?_⟩
    gi_at_call 281
    refine (inW (H9 _ g9)).mono ?_
    rintro e w5 ⟨rfl, g5, hc5⟩
    have hn5 : ∀ {q : Nat} {o : Obj}, ¬ q = g → (W.setCell ⟨g, 0, none⟩ (I 9)).heap[q]? = some o → w5.heap[q]? = some o := fun {q o} hq h => (hc5.block q (zad h) (by simpa using hq)).trans h
    have a5 := hn5 (by omega) a9
    have d5 := hn5 (by omega) d9
    have C5 : Ch [g] w w5 := C9.trans hc5
    have nD : ¬ g = w1.heap.size := by omega
    clear hn5 hc5 g9 a9 d9 C9 H9 k1 k2 hc hd g1 a1 C1
    cases hv with
    | none =>
      dsimp only at HQ
      subst HQ
      gi_wp2
      refine marks_end (v := .tuple #[]) d5 (results_none rfl _ _ _) ⟨rfl, ?_, C5.trans2 (zcg _ _ _) (by simp; omega)⟩
      rw [heap_putObj, if_neg nD]; exact g5
    | some ws =>
      dsimp only at HQ
      subst HQ
      gi_wp2
      have g6 : (w5.setCell ⟨g, 0, none⟩ (I 5)).heap[g]? = some (.cells (partC { p with ws := ws, ph := 5 }) 179 (0, 0)) := by rw [zaa, if_pos rfl, g5, Option.map_some, zaf]; exact congrArg (fun c => some (Obj.cells c 179 (0, 0))) (zcr { p with ws := ws, ph := 9 } 5)
      have d6 : (w5.setCell ⟨g, 0, none⟩ (I 5)).heap[w1.heap.size]? = some (.deferred (some [])) := by rw [zaa, if_neg (by omega)]; exact d5
      have C6 : Ch [g] w (w5.setCell ⟨g, 0, none⟩ (I 5)) := C5.setCell (p := ⟨g, 0, none⟩) (.inl (by simp)) _
      refine marks_end (v := .tuple #[]) d6 (results_none rfl _ _ _) ⟨rfl, ?_, C6.trans2 (zcg _ _ _) (by simp; omega)⟩
      rw [heap_putObj, if_neg nD]; exact g6
  case stop =>
    rintro c W ⟨rfl, ⟨j, r, hx, hj⟩, hC⟩ hd
    have HQ := HS.out j r hx
    subst HQ
    have nD : ¬ g = w1.heap.size := by omega
    clear HN HS Y2 hx H9
    gi_wp2
    refine marks_ret (v := .tuple #[]) hd (results_none rfl _ _ _) ⟨rfl, ?_, hC.trans2 (zcg _ _ _) (by simp; omega)⟩
    rw [heap_putObj, if_neg nD]; exact hj
end
end Go.Proofs.Hc
