/- Layer 19, who writes: the model. Plain law, no program in sight. -/
import Derived.Test.YtcikopeddljgkaaGreatKHwk
import Derived.Deep.OwnRows
import Derived.Laws.EntriesVeiled
set_option linter.unusedSimpArgs false
set_option linter.unusedVariables false
namespace Go.Proofs.Hc
open Go.RowKit
structure PenT where
  ph : Int
  sl : Int
  op : Int
  key : BitVec 64
  a : BitVec 64
  b : BitVec 64
  hash : BitVec 64
  count : BitVec 64
  can : BitVec 64
  live : BitVec 64
  grp : Int
  ctrl : BitVec 64
  left : BitVec 8
  free : Int
  fctrl : BitVec 64
  slot : Int
  val : BitVec 64
  found : Bool
def penC (p : PenT) : Array Value := #[I p.ph, I p.sl, I p.op, U p.key, U p.a, U p.b, U p.hash, U p.count, U p.can, U p.live, I p.grp, U p.ctrl, Y p.left, I p.free, U p.fctrl, I p.slot, U p.val, .bool p.found]
def zeroPen : PenT := ⟨0, 0, 0, 0#64, 0#64, 0#64, 0#64, 0#64, 0#64, 0#64, 0, 0#64, 0#8, 0, 0#64, 0, 0#64, false⟩
theorem penC_size (p : PenT) : (penC p).size = 18 := rfl
theorem penC_one (p : PenT) : allOne (penC p) = true := by unfold allOne penC; simp [Value.oneCell']
theorem penC_all (p : PenT) : (penC p).extract 0 18 = penC p := by have := Array.extract_size (xs := penC p); rwa [penC_size] at this
def oddB (x : BitVec 64) : Bool := (x &&& 1#64) == 1#64
structure AccT where
  kind : Int
  at_ : Int
  new : BitVec 64
def doP (c : List (BitVec 64)) (x : AccT) : Option (List (BitVec 64) × BitVec 64) :=
  match c[x.at_.toNat]? with
  | none => none
  | some w => some (if x.kind = 1 then c else if x.kind = 2 then c.set x.at_.toNat x.new else c.set x.at_.toNat (w + x.new), w)
end Go.Proofs.Hc
namespace Go.Proofs.Hc
open Go.RowKit
def wcells (l : List (BitVec 64)) : Array Value := (l.map fun x => U x).toArray
def WordsAt (cur : Array Value) (l : List (BitVec 64)) : Prop := ∀ (j : Nat) (x : BitVec 64), l[j]? = some x → cur[j]? = some (U x)
theorem wcells_at (l : List (BitVec 64)) : WordsAt (wcells l) l := by
  intro j x h
  unfold wcells; simp [h]
theorem wcells_size (l : List (BitVec 64)) : (wcells l).size = l.length := by unfold wcells; simp
theorem wcells_list (l : List (BitVec 64)) : (wcells l).toList = l.map fun x => U x := by unfold wcells; simp
theorem wcells_set (l : List (BitVec 64)) (j : Nat) (x : BitVec 64) : (wcells l).setIfInBounds j (U x) = wcells (l.set j x) := by
  unfold wcells
  simp [List.setIfInBounds_toArray, List.map_set]
end Go.Proofs.Hc
namespace Go.Proofs.Hc
open Go.RowKit
theorem doP_in {l : List (BitVec 64)} {a : AccT} (h : a.at_.toNat < l.length) : ∃ y, doP l a = some y ∧ y.1.length = l.length := by
  unfold doP
  rw [List.getElem?_eq_getElem h]
  refine ⟨_, rfl, ?_⟩
  dsimp only
  split
  · rfl
  · split <;> simp
end Go.Proofs.Hc
namespace Go.Proofs.Hc
open Go.RowKit
def wd1 (t : Tab) : BitVec 64 := BitVec.ofInt 64 t.depth ||| t.pre * 256#64
def tword (t : Tab) (i : Nat) : BitVec 64 :=
  if i = 0 then t.count else if i = 1 then wd1 t else if i = 2 then BitVec.ofInt 64 t.can else if i = 3 then BitVec.ofInt 64 t.live
  else if i < 6 then t.c (i - 4) else if i < 22 then t.k (i - 6) else if i < 38 then t.v (i - 22) else 0#64
def twords (t : Tab) : List (BitVec 64) := (List.range 40).map (tword t)
theorem twords_len (t : Tab) : (twords t).length = 40 := by unfold twords; simp
theorem twords_get (t : Tab) (i : Nat) (h : i < 40) : (twords t)[i]? = some (tword t i) := by
  unfold twords
  rw [List.getElem?_map, List.getElem?_range h]
  rfl
theorem tw_c (t : Tab) (g : Nat) (h : g < 2) : tword t (4 + g) = t.c g := by
  unfold tword
  rw [if_neg (by omega), if_neg (by omega), if_neg (by omega), if_neg (by omega), if_pos (by omega), show 4 + g - 4 = g by omega]
theorem tw_k (t : Tab) (j : Nat) (h : j < 16) : tword t (6 + j) = t.k j := by
  unfold tword
  rw [if_neg (by omega), if_neg (by omega), if_neg (by omega), if_neg (by omega), if_neg (by omega), if_pos (by omega), show 6 + j - 6 = j by omega]
theorem tw_v (t : Tab) (j : Nat) (h : j < 16) : tword t (22 + j) = t.v j := by
  unfold tword
  rw [if_neg (by omega), if_neg (by omega), if_neg (by omega), if_neg (by omega), if_neg (by omega), if_neg (by omega), if_pos (by omega), show 22 + j - 22 = j by omega]
theorem tws_count (t : Tab) (x : BitVec 64) (n : Nat) : tword { t with count := x } n = if n = 0 then x else tword t n := by
  unfold tword
  refine ite_congr rfl (fun _ => rfl) (fun h => ?_)
  rw [if_neg h]; rfl
def laidW (c : List (BitVec 64)) (B : Nat) (t : Tab) : List (BitVec 64) := c.take B ++ (twords t ++ c.drop (B + 40))
theorem laidW_get {c : List (BitVec 64)} {B : Nat} (t : Tab) (hB : B + 40 ≤ c.length) (i : Nat) : (laidW c B t)[i]? = if B ≤ i ∧ i < B + 40 then some (tword t (i - B)) else c[i]? := by
  unfold laidW
  have hl : (c.take B).length = B := by simp; omega
  by_cases h1 : i < B
  · rw [if_neg (by omega), List.getElem?_append_left (by omega), List.getElem?_take, if_pos h1]
  · rw [List.getElem?_append_right (by omega), hl]
    by_cases h2 : i < B + 40
    · rw [if_pos (by omega), List.getElem?_append_left (by rw [twords_len]; omega), twords_get _ _ (by omega)]
    · rw [if_neg (by omega), List.getElem?_append_right (by rw [twords_len]; omega), twords_len, List.getElem?_drop]
      congr 1; omega
end Go.Proofs.Hc
namespace Go.Proofs.Hc
open Go.RowKit
structure LayT where
  ph : Int
  who : Int
  sl : Int
  seed : BitVec 64
  count : BitVec 64
  at_ : Int
  ws : Nat → BitVec 64
  bad : Bool
def zeroLay : LayT := ⟨0, 0, 0, 0#64, 0#64, 0, fun _ => 0#64, false⟩
def rightL (p : LayT) : Bool :=
  (decide (0 ≤ p.ph) && decide (p.ph ≤ 6)) && (decide (0 ≤ p.who) && decide (p.who < 8)) && (decide (0 ≤ p.sl) && decide (p.sl < 128)) && !oddB p.count && ((decide (1 ≤ p.at_) && decide (p.at_ < 40)) || p.ph != 2 && p.ph != 3)
def readTab (ws : Nat → BitVec 64) : Tab := ⟨ws 0, ((ws 1 &&& 255#64).toNat : Int), ws 1 >>> 8, ((ws 2).toNat : Int), ((ws 3).toNat : Int), fun g => if g < 2 then ws (4 + g) else 0#64, fun j => if j < 16 then ws (6 + j) else 0#64, fun j => if j < 16 then ws (22 + j) else 0#64⟩
def readOk (ws : Nat → BitVec 64) : Bool := decide ((ws 2).toNat ≤ 14) && decide ((ws 3).toNat ≤ 14) && flatT (readTab ws) && (ws 38 == 0#64) && (ws 39 == 0#64)
def updW (ws : Nat → BitVec 64) (j : Nat) (x : BitVec 64) : Nat → BitVec 64 := fun i => if i = j then x else ws i
def laidL (p : LayT) : LayT :=
  if readOk p.ws && mayT (readTab p.ws) p.seed then { p with ws := tword (okOr (anewT (readTab p.ws) p.seed)), ph := 3, at_ := 1 }
  else { p with bad := true, ph := 4 }
def takeL (p : LayT) (w : BitVec 64) : LayT :=
  if p.ph = 0 then (if oddB w then { p with ph := 6 } else { p with ph := 1, count := w })
  else if p.ph = 1 then { p with ph := 2, at_ := 1 }
  else if p.ph = 2 then (if p.at_ = 39 then laidL { p with ws := updW (updW p.ws 39 w) 0 p.count, at_ := 40 } else { p with ws := updW p.ws p.at_.toNat w, at_ := p.at_ + 1 })
  else if p.ph = 3 then { p with at_ := p.at_ + 1, ph := if p.at_ = 39 then 4 else 3 }
  else { p with ph := 5 }
def needL (p : LayT) : Option AccT :=
  if rightL p && decide (p.ph ≤ 4) then
    some ⟨if p.ph = 0 ∨ p.ph = 2 then 1 else 2, 16 + 40 * p.sl + (if p.ph = 2 ∨ p.ph = 3 then p.at_ else 0), if p.ph = 1 then p.count + 1#64 else if p.ph = 3 then p.ws p.at_.toNat else if p.ph = 4 then p.count + 2#64 else 0#64⟩
  else none
def stepL (c : List (BitVec 64)) (p : LayT) : Option (List (BitVec 64) × LayT) :=
  match needL p with
  | none => some (c, p)
  | some x => (doP c x).map fun y => (y.1, takeL p y.2)
def measL (p : LayT) : Nat :=
  if p.ph = 0 then 100 else if p.ph = 1 then 99 else if p.ph = 2 then (98 - p.at_).toNat else if p.ph = 3 then (42 - p.at_).toNat else if p.ph = 4 then 1 else 0
end Go.Proofs.Hc
namespace Go.Proofs.Hc
open Go.RowKit
structure RightL (p : LayT) : Prop where
  ph0 : 0 ≤ p.ph
  ph6 : p.ph ≤ 6
  who0 : 0 ≤ p.who
  who7 : p.who < 8
  sl0 : 0 ≤ p.sl
  sl1 : p.sl < 128
  even : oddB p.count = false
  at_ : 1 ≤ p.at_ ∧ p.at_ < 40 ∨ p.ph ≠ 2 ∧ p.ph ≠ 3
theorem zdc (p : LayT) : rightL p = true ↔ RightL p := by
  unfold rightL
  constructor
  · intro h
    simp only [Bool.and_eq_true, Bool.or_eq_true, decide_eq_true_eq, bne_iff_ne, Bool.not_eq_true'] at h
    exact ⟨h.1.1.1.1.1, h.1.1.1.1.2, h.1.1.1.2.1, h.1.1.1.2.2, h.1.1.2.1, h.1.1.2.2, h.1.2, h.2⟩
  · intro h
    simp only [Bool.and_eq_true, Bool.or_eq_true, decide_eq_true_eq, bne_iff_ne, Bool.not_eq_true']
    exact ⟨⟨⟨⟨⟨h.ph0, h.ph6⟩, h.who0, h.who7⟩, h.sl0, h.sl1⟩, h.even⟩, h.at_⟩
theorem laidL_cases (p : LayT) : (∃ ws, laidL p = { p with ws := ws, ph := 3, at_ := 1 }) ∨ laidL p = { p with bad := true, ph := 4 } := by
  unfold laidL
  split
  · exact .inl ⟨_, rfl⟩
  · exact .inr rfl
theorem RightL.take {p : LayT} (R : RightL p) (h4 : p.ph ≤ 4) (w : BitVec 64) : RightL (takeL p w) := by
  unfold takeL
  split
  · split
    · exact ⟨(by decide : (0 : Int) ≤ 6), (by decide : (6 : Int) ≤ 6), R.who0, R.who7, R.sl0, R.sl1, R.even, .inr ⟨by show (6 : Int) ≠ 2; decide, by show (6 : Int) ≠ 3; decide⟩⟩
    · rename_i h
      exact ⟨(by decide : (0 : Int) ≤ 1), (by decide : (1 : Int) ≤ 6), R.who0, R.who7, R.sl0, R.sl1, by simpa using h, .inr ⟨by show (1 : Int) ≠ 2; decide, by show (1 : Int) ≠ 3; decide⟩⟩
  · split
    · exact ⟨(by decide : (0 : Int) ≤ 2), (by decide : (2 : Int) ≤ 6), R.who0, R.who7, R.sl0, R.sl1, R.even, .inl ⟨by show (1 : Int) ≤ 1; decide, by show (1 : Int) < 40; decide⟩⟩
    · split
      · rename_i h0 h1 h2
        have ha := R.at_
        split
        · rcases laidL_cases { p with ws := updW (updW p.ws 39 w) 0 p.count, at_ := 40 } with ⟨ws, h⟩ | h
          · rw [h]
            exact ⟨(by decide : (0 : Int) ≤ 3), (by decide : (3 : Int) ≤ 6), R.who0, R.who7, R.sl0, R.sl1, R.even, .inl ⟨by show (1 : Int) ≤ 1; decide, by show (1 : Int) < 40; decide⟩⟩
          · rw [h]
            exact ⟨(by decide : (0 : Int) ≤ 4), (by decide : (4 : Int) ≤ 6), R.who0, R.who7, R.sl0, R.sl1, R.even, .inr ⟨by show (4 : Int) ≠ 2; decide, by show (4 : Int) ≠ 3; decide⟩⟩
        · exact ⟨R.ph0, R.ph6, R.who0, R.who7, R.sl0, R.sl1, R.even, .inl ⟨by show 1 ≤ p.at_ + 1; omega, by show p.at_ + 1 < 40; omega⟩⟩
      · split
        · rename_i h0 h1 h2 h3
          have ha := R.at_
          refine ⟨?_, ?_, R.who0, R.who7, R.sl0, R.sl1, R.even, ?_⟩
          · show 0 ≤ if p.at_ = 39 then (4 : Int) else 3
            split <;> decide
          · show (if p.at_ = 39 then (4 : Int) else 3) ≤ 6
            split <;> decide
          · show 1 ≤ p.at_ + 1 ∧ p.at_ + 1 < 40 ∨ (if p.at_ = 39 then (4 : Int) else 3) ≠ 2 ∧ (if p.at_ = 39 then (4 : Int) else 3) ≠ 3
            by_cases h : p.at_ = 39
            · rw [if_pos h]; right; decide
            · left; omega
        · exact ⟨(by decide : (0 : Int) ≤ 5), (by decide : (5 : Int) ≤ 6), R.who0, R.who7, R.sl0, R.sl1, R.even, .inr ⟨by show (5 : Int) ≠ 2; decide, by show (5 : Int) ≠ 3; decide⟩⟩
theorem takeL_sl (p : LayT) (w : BitVec 64) : (takeL p w).sl = p.sl := by
  unfold takeL laidL
  split
  · split <;> rfl
  · split
    · rfl
    · split
      · split
        · split <;> rfl
        · rfl
      · split <;> rfl
theorem takeL_who (p : LayT) (w : BitVec 64) : (takeL p w).who = p.who := by
  unfold takeL laidL
  split
  · split <;> rfl
  · split
    · rfl
    · split
      · split
        · split <;> rfl
        · rfl
      · split <;> rfl
theorem needL_some {p : LayT} {a : AccT} (h : needL p = some a) : rightL p = true ∧ p.ph ≤ 4 := by
  unfold needL at h
  cases hb : (rightL p && decide (p.ph ≤ 4)) with
  | false => rw [hb, if_neg (by decide)] at h; cases h
  | true => simpa using hb
theorem needL_yes {p : LayT} (hr : rightL p = true) (h4 : p.ph ≤ 4) : ∃ a, needL p = some a := by
  unfold needL
  rw [if_pos (by simp [hr, h4])]
  exact ⟨_, rfl⟩
theorem needL_acc {p : LayT} {a : AccT} (h : needL p = some a) : (a.kind = 1 ∨ a.kind = 2 ∨ a.kind = 4) ∧ 0 ≤ a.at_ ∧ a.at_ ≤ 55 + 40 * p.sl := by
  obtain ⟨hr, h4⟩ := needL_some h
  have R := (zdc p).1 hr
  unfold needL at h
  rw [if_pos (by simp [hr, h4])] at h
  have h := Option.some.inj h
  subst h
  have hs := R.sl0
  have ha := R.at_
  refine ⟨?_, ?_⟩
  · show (if p.ph = 0 ∨ p.ph = 2 then (1 : Int) else 2) = 1 ∨ _
    by_cases h : p.ph = 0 ∨ p.ph = 2
    · left; exact if_pos h
    · right; left; exact if_neg h
  · show 0 ≤ 16 + 40 * p.sl + (if p.ph = 2 ∨ p.ph = 3 then p.at_ else 0) ∧ 16 + 40 * p.sl + (if p.ph = 2 ∨ p.ph = 3 then p.at_ else 0) ≤ 55 + 40 * p.sl
    by_cases h : p.ph = 2 ∨ p.ph = 3
    · rw [if_pos h]; omega
    · rw [if_neg h]; omega
theorem measL_take {p : LayT} (R : RightL p) (h4 : p.ph ≤ 4) (w : BitVec 64) : measL (takeL p w) < measL p := by
  have ha := R.at_
  have h0 := R.ph0
  by_cases hp0 : p.ph = 0
  · unfold takeL
    rw [if_pos hp0]
    have hm : measL p = 100 := by unfold measL; rw [if_pos hp0]
    rw [hm]
    split
    · exact (by decide : (0 : Nat) < 100)
    · exact (by decide : (99 : Nat) < 100)
  · by_cases hp1 : p.ph = 1
    · unfold takeL
      rw [if_neg hp0, if_pos hp1]
      have hm : measL p = 99 := by unfold measL; rw [if_neg hp0, if_pos hp1]
      rw [hm]
      exact (by decide : (97 : Nat) < 99)
    · by_cases hp2 : p.ph = 2
      · unfold takeL
        rw [if_neg hp0, if_neg hp1, if_pos hp2]
        have hm : measL p = (98 - p.at_).toNat := by unfold measL; rw [if_neg hp0, if_neg hp1, if_pos hp2]
        rw [hm]
        split
        · rename_i h39
          rcases laidL_cases { p with ws := updW (updW p.ws 39 w) 0 p.count, at_ := 40 } with ⟨ws, h⟩ | h
          · rw [h]
            have : measL { p with ws := ws, ph := 3, at_ := 1 } = 41 := rfl
            show measL { p with ws := ws, ph := 3, at_ := 1 } < _
            rw [this, h39]; decide
          · rw [h, h39]
            exact (by decide : (1 : Nat) < (98 - 39 : Int).toNat)
        · have : measL { p with ws := updW p.ws p.at_.toNat w, at_ := p.at_ + 1 } = (98 - (p.at_ + 1)).toNat := by
            unfold measL; dsimp only; rw [if_neg hp0, if_neg hp1, if_pos hp2]
          rw [this]; omega
      · by_cases hp3 : p.ph = 3
        · unfold takeL
          rw [if_neg hp0, if_neg hp1, if_neg hp2, if_pos hp3]
          have hm : measL p = (42 - p.at_).toNat := by unfold measL; rw [if_neg hp0, if_neg hp1, if_neg hp2, if_pos hp3]
          rw [hm]
          by_cases h39 : p.at_ = 39
          · rw [if_pos h39]
            show 1 < _
            omega
          · rw [if_neg h39]
            show (42 - (p.at_ + 1)).toNat < _
            omega
        · have hp4 : p.ph = 4 := by omega
          unfold takeL
          rw [if_neg hp0, if_neg hp1, if_neg hp2, if_neg hp3]
          have hm : measL p = 1 := by unfold measL; rw [if_neg hp0, if_neg hp1, if_neg hp2, if_neg hp3, if_pos hp4]
          rw [hm]
          exact (by decide : (0 : Nat) < 1)
theorem stepL_goes {l : List (BitVec 64)} {p : LayT} (hr : rightL p = true) (h4 : p.ph ≤ 4) (hn : 56 + 40 * p.sl ≤ (l.length : Int)) :
    ∃ a y, needL p = some a ∧ doP l a = some y ∧ stepL l p = some (y.1, takeL p y.2) ∧ y.1.length = l.length ∧ rightL (takeL p y.2) = true ∧ measL (takeL p y.2) < measL p := by
  obtain ⟨a, ha⟩ := needL_yes hr h4
  have hac := needL_acc ha
  obtain ⟨y, hy, hyl⟩ := doP_in (l := l) (a := a) (by omega)
  have R := (zdc p).1 hr
  refine ⟨a, y, ha, hy, ?_, hyl, (zdc _).2 (R.take h4 y.2), measL_take R h4 y.2⟩
  unfold stepL
  rw [ha]
  dsimp only
  rw [hy]
  rfl
inductive RunsL : List (BitVec 64) → LayT → Nat → List (BitVec 64) → LayT → Prop
  | done {l p} : 4 < p.ph → RunsL l p 0 l p
  | step {l p a y k l' p'} : p.ph ≤ 4 → rightL p = true → needL p = some a → doP l a = some y → RunsL y.1 (takeL p y.2) k l' p' → RunsL l p (k + 1) l' p'
theorem runsL_any : ∀ (m : Nat) (l : List (BitVec 64)) (p : LayT), measL p ≤ m → rightL p = true → 56 + 40 * p.sl ≤ (l.length : Int) → ∃ k l' p', k ≤ m ∧ RunsL l p k l' p' ∧ l'.length = l.length := by
  intro m
  induction m with
  | zero =>
    intro l p hm hr hn
    by_cases h4 : p.ph ≤ 4
    · obtain ⟨a, y, _, _, _, _, _, hlt⟩ := stepL_goes hr h4 hn
      omega
    · exact ⟨0, l, p, Nat.le_refl _, .done (by omega), rfl⟩
  | succ m ih =>
    intro l p hm hr hn
    by_cases h4 : p.ph ≤ 4
    · obtain ⟨a, y, ha, hy, _, hyl, hr', hlt⟩ := stepL_goes hr h4 hn
      obtain ⟨k, l', p', hk, hrun, hl'⟩ := ih y.1 (takeL p y.2) (by omega) hr' (by rw [takeL_sl, hyl]; exact hn)
      exact ⟨k + 1, l', p', by omega, .step h4 hr ha hy hrun, by rw [hl', hyl]⟩
    · exact ⟨0, l, p, Nat.zero_le _, .done (by omega), rfl⟩
end Go.Proofs.Hc
namespace Go.Proofs.Hc
open Go.RowKit
attribute [local go_sem] zbs zca zax zbc zbn zba zbm zbo zbu signed64 signed8 zar BitVec.ofInt_add BitVec.ofInt_mul ofInt_sub' zay zaz wide8 eqN neN zbz shr1 shr7 shr56
attribute [local go_sem high] zbb zbt
attribute [local go_sem] zag zbw zah zas zad zbe zaq zal zbl zan zbd zbf
attribute [local go_sem] load26 load73 load23 store26 build73
attribute [local go_sem ↓] lrow26 lrow73 lrow23 srow26 zero26 brow73 zac zaw zbg zaa zab
attribute [local go_sem] zai zav zat zbj zbk zbp zao zau zbq zbi zbh
attribute [local go_sem] nn2 nm2 nn3 nm3 nn4 nm4 nn5 nm5 nn6 nm6 nn7 nm7 nn8 nm8
section
attribute [local go_sem] zar
attribute [local go_sem] box26
attribute [local irreducible] tcells
theorem zeros_cells (n : Nat) : madeCells #[.int .u64 0] n = wcells (List.replicate n 0#64) := by
  apply Array.ext_getElem?
  intro i
  unfold wcells
  simp only [List.map_replicate, List.getElem?_toArray, List.getElem?_replicate]
  by_cases h : i < n
  · simp [madeCells, h, Nat.mod_one, U, N]
  · rw [Array.getElem?_eq_none (by rw [size_madeCells]; omega)]; simp [h]
end
theorem row_out {w : World} {base : Nat} {v : Value} {L : List (BitVec 64)} {n : Nat} (hn : L.length = n) (h1 : 1 ≤ n) (ho : w.ownsRow base 22 1 v n (L.map fun x => U x)) :
    ∃ R c cur, v = .slice (some ⟨R, 0, none⟩) n c ∧ base ≤ R ∧ n ≤ c ∧ WordsAt cur L ∧ w.heap[R]? = some (.cells cur 22 (0, 0)) := by
  obtain ⟨hlen, ⟨_, h0⟩ | ⟨r, c, cur, rfl, hb, hW, h56, hcm, hsz, hel⟩⟩ := ho
  · omega
  · refine ⟨r, c, cur, rfl, hb, h56, fun j x hj => ?_, hW⟩
    have hjn : j < n := by have := (List.getElem?_eq_some_iff.1 hj).1; omega
    have h1 : (L.map fun x => U x)[j]? = some (U x) := by rw [List.getElem?_map, hj]; rfl
    rw [← hel, List.getElem?_take, if_pos (by omega), Array.getElem?_toList] at h1
    exact h1
end Go.Proofs.Hc
namespace Go.Proofs.Hc
open Go.RowKit
theorem pairsT_eq (t : Tab) : pairsT t = ((List.range 16).filter (fullJ t)).map fun j => (t.k j, t.v j) := by
  rw [pairsT, slotsT_eq, List.map_map]
  rfl
end Go.Proofs.Hc
