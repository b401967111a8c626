/- What the law of keeping needs of tables: plain law. -/
import Derived.Test.YtaddieimkpijeaaGreatKHdfHdgHdh
import Derived.Test.YtaddieimkpijeaaGreatKHlhHlh2
set_option linter.unusedSimpArgs false
set_option linter.unusedVariables false
namespace Go.Proofs.Hc
open Go.RowKit
theorem pairsT_eq (t : Tab) : pairsT t = ((List.range 16).filter (fullJ t)).map fun j => (t.k j, t.v j) := by
  rw [pairsT, slotsT_eq, List.map_map]
  rfl
theorem drop_k (t : Tab) (j x : Nat) : (dropT t j).k x = t.k x ∧ (dropT t j).v x = t.v x := by unfold dropT; exact ⟨rfl, rfl⟩
theorem delK_not {t : Tab} {k : BitVec 64} (h : ∀ j, j < 16 → fullJ t j = true → t.k j ≠ k) : delK k (pairsT t) = pairsT t := by
  apply delK_none
  intro q hq
  obtain ⟨j, hj, hf, rfl⟩ := (mem_pairs t q).1 hq
  exact h j hj hf
theorem delK_has {t : Tab} {s k : BitVec 64} {j : Nat} (m : May t s) (hj : j < 16) (hf : fullJ t j = true) (hk : t.k j = k) : delK k (pairsT t) = pairsT (dropT t j) := by
  rw [pairsT_eq, pairsT_eq, delK, List.filter_map, List.filter_filter]
  have h1 : (List.range 16).filter (fun a => ((fun q : BitVec 64 × BitVec 64 => !(q.1 == k)) ∘ fun j => (t.k j, t.v j)) a && fullJ t a) = (List.range 16).filter (fullJ (dropT t j)) := by
    apply List.filter_congr
    intro x hx
    have hx16 : x < 16 := by simpa using hx
    rw [drop_full, Function.comp_apply]
    by_cases h : x = j
    · subst h; rw [if_pos rfl, hk]; simp
    · rw [if_neg h]
      cases hfx : fullJ t x with
      | false => simp
      | true =>
        have : t.k x ≠ k := fun e => h (m.inj x j hx16 hj hfx hf (e.trans hk.symm))
        simp [this]
  rw [h1]
  apply List.map_congr_left
  intro x _
  rw [(drop_k t j x).1, (drop_k t j x).2]
/-- What a pair comes to that is put in a table that may be. -/
def KCase (a : Tab) (s : BitVec 64) (q : BitVec 64 × BitVec 64) (nA : Tab) (sA eA : Int) : Prop :=
  (eA = 2 ∨ eA = 6) ∨ (eA = 5 ∧ ∃ j mm : Nat, j < 16 ∧ fullJ a j = true ∧ a.k j = q.1 ∧ foundE a s q.1 = .ok (j, mm)) ∨ (∃ sl : Nat, placeT a s q.1 = .ok sl ∧ eA = 0 ∧ sA = sl ∧ nA = fillT a s q.1 q.2 sl)
theorem keeps_put {a : Tab} {s : BitVec 64} (m : May a s) (q : BitVec 64 × BitVec 64) : ∃ (nA : Tab) (sA eA : Int), (∀ w, Calls Tryz.prog 19 #[U s, .agg (tcells a), U q.1, U q.2] w fun e w' => e = .returned (.tuple #[.agg (tcells nA), I sA, I eA]) ∧ Ch [] w w') ∧ KCase a s q nA sA eA := by
  have P := fun w => Put_any a s q.1 q.2 w
  rw [ifMay, if_pos ((may_iff a s).2 m), putA] at P
  rcases place_cases a s q.1 with ⟨_, h⟩ | ⟨_, hk, h⟩ | ⟨_, _, h⟩ | ⟨_, _, sl, h⟩
  · rw [h] at P
    exact ⟨zeroT, 0, 2, P, .inl (.inl rfl)⟩
  · rw [h] at P
    obtain ⟨j, hj, hf, hkj⟩ := (hasKT_iff a q.1).1 hk
    obtain ⟨mm, hm⟩ := found_of m hj hf hkj
    exact ⟨zeroT, 0, 5, P, .inr (.inl ⟨rfl, j, mm, hj, hf, hkj, hm⟩)⟩
  · rw [h] at P
    exact ⟨zeroT, 0, 6, P, .inl (.inr rfl)⟩
  · rw [h] at P
    exact ⟨fillT a s q.1 q.2 sl, sl, 0, P, .inr (.inr ⟨sl, h, rfl, rfl, rfl⟩)⟩
theorem find_hit {n : Tab} {s k : BitVec 64} {j mm : Nat} (m : May n s) (h : foundE n s k = .ok (j, mm)) (w : World) : Calls Tryz.prog 30 #[U s, .agg (tcells n), U k] w fun e w' => e = .returned (.tuple #[I j, I mm, I 0]) ∧ Ch [] w w' := by
  have := Find_any n s k w
  rw [ifMay, if_pos ((may_iff n s).2 m), h] at this
  exact this
theorem find_miss {n : Tab} {s k : BitVec 64} (m : May n s) (h : foundE n s k = .error 4) (w : World) : Calls Tryz.prog 30 #[U s, .agg (tcells n), U k] w fun e w' => e = .returned (.tuple #[I 0, I 0, I 4]) ∧ Ch [] w w' := by
  have := Find_any n s k w
  rw [ifMay, if_pos ((may_iff n s).2 m), h] at this
  exact this
theorem drop_hit {n : Tab} {s k : BitVec 64} {j mm : Nat} (m : May n s) (h : foundE n s k = .ok (j, mm)) (w : World) : Calls Tryz.prog 21 #[U s, .agg (tcells n), U k] w fun e w' => e = .returned (.tuple #[.agg (tcells (dropT n j)), I j, I 0]) ∧ Ch [] w w' := by
  have := Drop_any n s k w
  rw [ifMay, if_pos ((may_iff n s).2 m), dropE, h] at this
  exact this
theorem set_hit {n : Tab} {s k v : BitVec 64} {j mm : Nat} (m : May n s) (h : foundE n s k = .ok (j, mm)) (w : World) : Calls Tryz.prog 20 #[U s, .agg (tcells n), U k, U v] w fun e w' => e = .returned (.tuple #[.agg (tcells (setT n j v)), I 0]) ∧ Ch [] w w' := by
  have := Set_any n s k v w
  rw [ifMay, if_pos ((may_iff n s).2 m), setE, h] at this
  exact this
theorem len_of {n : Tab} {s : BitVec 64} (m : May n s) {x : Nat} (h : n.live = x) : (pairsT n).length = x := by have := m.len; omega
theorem set_full (t : Tab) (j x : Nat) (v : BitVec 64) : fullJ (setT t j v) x = fullJ t x := rfl
end Go.Proofs.Hc
/- The document's answers for tables, slot by slot: plain law. -/
namespace Go.Proofs.Hc
open Go.RowKit
/-- The first full slot that has a key. -/
def slotR (t : Tab) (k : BitVec 64) : Option Nat := (List.range 16).find? fun j => fullJ t j && t.k j == k
/-- A slot, or -1. -/
def slotI : Option Nat → Int
  | none => -1
  | some j => j
theorem slotR_some {t : Tab} {k : BitVec 64} {j : Nat} (hj : j < 16) (h : (fullJ t j && t.k j == k) = true) (h0 : ∀ i, i < j → (fullJ t i && t.k i == k) = false) : slotR t k = some j := by
  rw [slotR, List.find?_range_eq_some]
  exact ⟨h, by simpa using hj, fun i hi => by rw [h0 i hi]; rfl⟩
theorem slotR_none {t : Tab} {k : BitVec 64} (h0 : ∀ i, i < 16 → (fullJ t i && t.k i == k) = false) : slotR t k = none := by
  rw [slotR, List.find?_range_eq_none]
  exact fun i hi => by rw [h0 i hi]; rfl
theorem slotR_is {t : Tab} {k : BitVec 64} {j : Nat} (h : slotR t k = some j) : j < 16 ∧ fullJ t j = true ∧ t.k j = k ∧ ∀ i, i < j → fullJ t i = true → t.k i ≠ k := by
  rw [slotR, List.find?_range_eq_some] at h
  obtain ⟨h1, h2, h3⟩ := h
  rw [Bool.and_eq_true, beq_iff_eq] at h1
  refine ⟨by simpa using h2, h1.1, h1.2, fun i hi hf hk => ?_⟩
  have := h3 i hi
  rw [hf, hk] at this
  simp at this
theorem slotR_no {t : Tab} {k : BitVec 64} (h : slotR t k = none) : ∀ i, i < 16 → fullJ t i = true → t.k i ≠ k := by
  rw [slotR, List.find?_range_eq_none] at h
  intro i hi hf hk
  have := h i hi
  rw [hf, hk] at this
  simp at this
/-- What the first full slot with a key is, in a table that may be. -/
theorem slotR_cases {t : Tab} {s : BitVec 64} (m : May t s) (k : BitVec 64) : (slotR t k = none ∧ foundE t s k = .error 4 ∧ hasKT t k = false) ∨
    ∃ j n, slotR t k = some j ∧ j < 16 ∧ fullJ t j = true ∧ t.k j = k ∧ foundE t s k = .ok (j, n) ∧ hasKT t k = true := by
  cases h : slotR t k with
  | none =>
    have h1 := slotR_no h
    refine .inl ⟨rfl, found_none h1, ?_⟩
    cases hk : hasKT t k with
    | false => rfl
    | true => obtain ⟨j, hj, hf, he⟩ := (hasKT_iff t k).1 hk; exact absurd he (h1 j hj hf)
  | some j =>
    obtain ⟨h1, h2, h3, _⟩ := slotR_is h
    obtain ⟨n, hn⟩ := found_of m h1 h2 h3
    exact .inr ⟨j, n, rfl, h1, h2, h3, hn, (hasKT_iff t k).2 ⟨j, h1, h2, h3⟩⟩
/-- Is a full slot as it may be? -/
def slotG (t : Tab) (s : BitVec 64) (j : Nat) : Bool :=
  decide (slotR t (t.k j) = some j) && (bt t j == hash2 (hashOf s (t.k j))) && hasT t (hashOf s (t.k j)) && decide (j / 8 ∈ rowT t s (t.k j))
theorem slotG_iff (t : Tab) (s : BitVec 64) (j : Nat) : slotG t s j = true ↔ slotR t (t.k j) = some j ∧ bt t j = hash2 (hashOf s (t.k j)) ∧ hasT t (hashOf s (t.k j)) = true ∧ j / 8 ∈ rowT t s (t.k j) := by
  rw [slotG, Bool.and_eq_true, Bool.and_eq_true, Bool.and_eq_true, decide_eq_true_iff, decide_eq_true_iff, beq_iff_eq, and_assoc, and_assoc]
theorem May.slotG {t : Tab} {s : BitVec 64} (m : May t s) {j : Nat} (hj : j < 16) (hf : fullJ t j = true) : slotG t s j = true := by
  obtain ⟨a, b, c⟩ := m.slot j hj hf
  refine (slotG_iff t s j).2 ⟨?_, a, b, c⟩
  refine slotR_some hj (by rw [hf]; simp) fun i hi => ?_
  cases hfi : fullJ t i with
  | false => rfl
  | true =>
    cases hk : t.k i == t.k j with
    | false => rfl
    | true => have := m.inj i j (by omega) hj hfi hf (by simpa using hk); omega
theorem not_may {t : Tab} {s : BitVec 64} {j : Nat} (hj : j < 16) (hf : fullJ t j = true) (h : slotG t s j = false) : mayT t s = false := by
  cases hm : mayT t s with
  | false => rfl
  | true => rw [((may_iff t s).1 hm).slotG hj hf] at h; cases h
def nLv (t : Tab) (j : Nat) : Nat := (List.range j).countP (fullJ t)
def nGn (t : Tab) (j : Nat) : Nat := (List.range j).countP (fun i => bt t i == 254#8)
theorem nLv_succ (t : Tab) (j : Nat) : nLv t (j + 1) = nLv t j + if fullJ t j = true then 1 else 0 := by
  rw [nLv, nLv, List.range_succ, List.countP_append, List.countP_singleton]
theorem nGn_succ (t : Tab) (j : Nat) : nGn t (j + 1) = nGn t j + if (bt t j == 254#8) = true then 1 else 0 := by
  rw [nGn, nGn, List.range_succ, List.countP_append, List.countP_singleton]
theorem nLv_zero (t : Tab) : nLv t 0 = 0 := rfl
theorem nGn_zero (t : Tab) : nGn t 0 = 0 := rfl
theorem nLv_le (t : Tab) (j : Nat) : nLv t j ≤ j := by
  have := List.countP_le_length (p := fullJ t) (l := List.range j)
  rwa [List.length_range] at this
theorem nGn_le (t : Tab) (j : Nat) : nGn t j ≤ j := by
  have := List.countP_le_length (p := fun i => bt t i == 254#8) (l := List.range j)
  rwa [List.length_range] at this
theorem fill_split {t : Tab} (hok : ∀ j, j < 16 → (bt t j).toNat < 128 ∨ bt t j = 128#8 ∨ bt t j = 254#8) : ∀ n, n ≤ 16 → (List.range n).countP (fillJ t) = nLv t n + nGn t n
  | 0, _ => rfl
  | n + 1, hn => by
    rw [List.range_succ, List.countP_append, List.countP_singleton, fill_split hok n (by omega), nLv_succ, nGn_succ]
    have h1 := hok n (by omega)
    rw [fillJ, fullJ]
    generalize bt t n = b at *
    generalize nLv t n = x
    generalize nGn t n = y
    rcases h1 with h | h | h
    · have e1 : b ≠ 128#8 := by intro e; rw [e] at h; exact absurd h (by decide)
      have e2 : b ≠ 254#8 := by intro e; rw [e] at h; exact absurd h (by decide)
      simp [e1, e2, h]; omega
    · rw [h]; simp
    · rw [h]; simp [Nat.add_assoc]
theorem may_of_slots {t : Tab} {s : BitVec 64} (hf : flatT t = true) (h0 : ctrlOk (t.c 0) = true) (h1 : ctrlOk (t.c 1) = true) (h : ∀ j, j < 16 → fullJ t j = true → slotG t s j = true) :
    mayT t s = (t.live == (nLv t 16 : Int) && t.can == 14 - (nLv t 16 : Int) - (nGn t 16 : Int)) := by
  have hok := (ok_iff t).1 (by rw [h0, h1]; rfl)
  have hfl : nFill t = nLv t 16 + nGn t 16 := by rw [nFill]; exact fill_split hok 16 (by omega)
  have hfu : nFull t = nLv t 16 := by rw [nFull, nLv]
  rw [Bool.eq_iff_iff, may_iff, Bool.and_eq_true, beq_iff_eq, beq_iff_eq]
  constructor
  · intro m
    have a := m.live
    have b := m.can
    rw [hfu] at a
    rw [hfl] at b
    exact ⟨a, by omega⟩
  · rintro ⟨a, b⟩
    refine ⟨hf, hok, fun j hj hj2 => ((slotG_iff t s j).1 (h j hj hj2)).2, fun i j hi hj hfi hfj hk => ?_, by rw [hfu]; exact a, by rw [hfl]; omega⟩
    have h2 := ((slotG_iff t s i).1 (h i hi hfi)).1
    have h3 := ((slotG_iff t s j).1 (h j hj hfj)).1
    rw [hk, h3] at h2
    cases h2; rfl
theorem may_not_flat {t : Tab} {s : BitVec 64} (h : flatT t = false) : mayT t s = false := by
  cases hm : mayT t s with
  | false => rfl
  | true => rw [((may_iff t s).1 hm).flat] at h; cases h
theorem may_not_ctrl {t : Tab} {s : BitVec 64} (h : (ctrlOk (t.c 0) && ctrlOk (t.c 1)) = false) : mayT t s = false := by
  cases hm : mayT t s with
  | false => rfl
  | true => rw [(ok_iff t).2 ((may_iff t s).1 hm).ok] at h; cases h
end Go.Proofs.Hc
/- The document's answers for tables, along a row of groups: plain law. -/
namespace Go.Proofs.Hc
open Go.RowKit
/-- The slots of a row of groups. -/
def posG (l : List Nat) : List Nat := l.flatMap fun g => (List.range 8).map fun x => 8 * g + x
theorem posG_nil : posG [] = [] := rfl
theorem posG_cons (g : Nat) (l : List Nat) : posG (g :: l) = ((List.range 8).map fun x => 8 * g + x) ++ posG l := by rw [posG, List.flatMap_cons, posG]
/-- What is left of a row behind j lanes of a group. -/
def restP (g j : Nat) (l : List Nat) : List Nat := ((List.range' j (8 - j)).map fun x => 8 * g + x) ++ posG l
theorem restP_zero (g : Nat) (l : List Nat) : restP g 0 l = posG (g :: l) := by rw [posG_cons, restP, List.range_eq_range']
theorem restP_succ {g j : Nat} {l : List Nat} (hj : j < 8) : restP g j l = (8 * g + j) :: restP g (j + 1) l := by
  rw [restP, restP, show 8 - j = (8 - (j + 1)) + 1 by omega, List.range'_succ]; rfl
theorem restP_end (g : Nat) (l : List Nat) : restP g 8 l = posG l := by rw [restP]; rfl
theorem drop_cons {l : List Nat} {i g : Nat} (h : l[i]? = some g) : l.drop i = g :: l.drop (i + 1) := by
  obtain ⟨hi, he⟩ := List.getElem?_eq_some_iff.1 h
  rw [List.drop_eq_getElem_cons hi, he]
/-- How many were looked at until one holds, of those that are asked; none: 0. -/
def cmpF (P f : Nat → Bool) (n : Nat) (l : List Nat) : Nat := ((scan f n (l.filter P)).map (·.2)).getD 0
theorem cmpF_nil (P f : Nat → Bool) (n : Nat) : cmpF P f n [] = 0 := rfl
theorem cmpF_skip {P f : Nat → Bool} {n x : Nat} {l : List Nat} (h : P x = false) : cmpF P f n (x :: l) = cmpF P f n l := by
  rw [cmpF, List.filter_cons, h, if_neg (by decide), cmpF]
theorem cmpF_hit {P f : Nat → Bool} {n x : Nat} {l : List Nat} (h : P x = true) (hf : f x = true) : cmpF P f n (x :: l) = n + 1 := by
  rw [cmpF, List.filter_cons, if_pos h, scan, if_pos hf]; rfl
theorem cmpF_miss {P f : Nat → Bool} {n x : Nat} {l : List Nat} (h : P x = true) (hf : f x = false) : cmpF P f n (x :: l) = cmpF P f (n + 1) l := by
  rw [cmpF, List.filter_cons, if_pos h, scan, hf, if_neg (by decide), cmpF]
def cmpR (t : Tab) (s k : BitVec 64) : Nat := cmpF (fun y => bt t y == hash2 (hashOf s k)) (fun y => t.k y == k) 0 (posG (rowT t s k))
theorem cmpR_eq (t : Tab) (s k : BitVec 64) : cmpR t s k = cmpF (fun y => bt t y == hash2 (hashOf s k)) (fun y => t.k y == k) 0 (posG (rowT t s k)) := by rw [cmpR]
theorem cand_pos (t : Tab) (h : BitVec 8) (g : Nat) : candG t h g = ((List.range 8).map fun x => 8 * g + x).filter fun y => bt t y == h := by
  unfold candG lanesOf
  rw [List.filter_map]
  have e : (List.range 8).filter (fun i => (equalM (t.c g) h).getLsbD i) = (List.range 8).filter ((fun y => bt t y == h) ∘ fun x => 8 * g + x) := by
    apply List.filter_congr
    intro x hx
    have hx8 : x < 8 := by simpa using hx
    rw [equalM_bit _ _ _ hx8, Function.comp_apply, bt_at t g x hx8]
  rw [e]
theorem cands_pos (t : Tab) (h : BitVec 8) : ∀ l : List Nat, l.flatMap (candG t h) = (posG l).filter fun y => bt t y == h
  | [] => rfl
  | g :: l => by rw [List.flatMap_cons, cands_pos t h l, posG_cons, List.filter_append, cand_pos]
theorem cmpR_found {t : Tab} {s k : BitVec 64} {j n : Nat} (h : foundE t s k = .ok (j, n)) : cmpR t s k = n := by
  rw [cmpR, cmpF, ← cands_pos]
  rw [foundE_eq] at h
  cases hf : foundT t s k with
  | none => rw [hf] at h; cases h
  | some z =>
    rw [hf] at h
    cases h
    rw [foundT] at hf
    rw [hf]; rfl
/-- Where a key is put, from the first slot that is not full. -/
def placeO (t : Tab) : Option Nat → Except Int Nat
  | none => .error 6
  | some y => if bt t y == 128#8 && t.can == 0 then .error 6 else .ok y
def freeR (t : Tab) (l : List Nat) : Option Nat := l.find? fun y => !fullJ t y
theorem freeR_nil (t : Tab) : freeR t [] = none := rfl
theorem freeR_skip {t : Tab} {y : Nat} {l : List Nat} (h : fullJ t y = true) : freeR t (y :: l) = freeR t l := by
  rw [freeR, List.find?_cons, h]; rfl
theorem freeR_hit {t : Tab} {y : Nat} {l : List Nat} (h : fullJ t y = false) : freeR t (y :: l) = some y := by
  rw [freeR, List.find?_cons, h]; rfl
def placeR (t : Tab) (s k : BitVec 64) : Except Int Nat :=
  if hasT t (hashOf s k) then (if (slotR t k).isSome then .error 5 else placeO t (freeR t (posG (rowT t s k)))) else .error 2
theorem free_full {t : Tab} (hok : ∀ j, j < 16 → (bt t j).toNat < 128 ∨ bt t j = 128#8 ∨ bt t j = 254#8) (g x : Nat) (hg : g < 2) (hx : x < 8) : (freeM (t.c g)).getLsbD x = !fullJ t (8 * g + x) := by
  have h := hok (8 * g + x) (by omega)
  have hi := free_iff t g x hx
  rw [Bool.eq_iff_iff, hi, fullJ]
  generalize bt t (8 * g + x) = b at *
  rcases h with h | h | h
  · have e1 : b ≠ 128#8 := by intro e; rw [e] at h; exact absurd h (by decide)
    have e2 : b ≠ 254#8 := by intro e; rw [e] at h; exact absurd h (by decide)
    simp [e1, e2]; omega
  · rw [h]; decide
  · rw [h]; decide
theorem find_congr {α : Type} {p q : α → Bool} : ∀ {l : List α}, (∀ x ∈ l, p x = q x) → l.find? p = l.find? q
  | [], _ => rfl
  | x :: l, h => by rw [List.find?_cons, List.find?_cons, h x (by simp), find_congr fun y hy => h y (by simp [hy])]
theorem freeIn_pos {t : Tab} (hok : ∀ j, j < 16 → (bt t j).toNat < 128 ∨ bt t j = 128#8 ∨ bt t j = 254#8) (g : Nat) (hg : g < 2) :
    freeIn t g = (freeR t ((List.range 8).map fun x => 8 * g + x)).map fun y => (y / 8, y % 8) := by
  rw [freeIn_eq, freeR, List.find?_map, lanesOf, List.head?_filter]
  have e : (List.range 8).find? (fun i => (freeM (t.c g)).getLsbD i) = (List.range 8).find? ((fun y => !fullJ t y) ∘ fun x => 8 * g + x) := by
    apply find_congr
    intro x hx
    rw [free_full hok g x hg (by simpa using hx)]; rfl
  rw [e, Option.map_map]
  cases hf : (List.range 8).find? ((fun y => !fullJ t y) ∘ fun x => 8 * g + x) with
  | none => rfl
  | some x =>
    have hx : x < 8 := by simpa using List.mem_of_find?_eq_some hf
    rw [Option.map_some, Option.map_some, Function.comp_apply, show (8 * g + x) / 8 = g by omega, show (8 * g + x) % 8 = x by omega]
theorem freeR_append (t : Tab) (a b : List Nat) : freeR t (a ++ b) = (freeR t a).or (freeR t b) := by rw [freeR, List.find?_append, freeR, freeR]
theorem freeAt_pos {t : Tab} (hok : ∀ j, j < 16 → (bt t j).toNat < 128 ∨ bt t j = 128#8 ∨ bt t j = 254#8) : ∀ l : List Nat, (∀ g ∈ l, g < 2) → freeAt t l = (freeR t (posG l)).map fun y => (y / 8, y % 8)
  | [], _ => rfl
  | g :: l, h => by
    have ih := freeAt_pos hok l fun g' hg' => h g' (by simp [hg'])
    rw [freeAt] at ih ⊢
    rw [List.findSome?_cons, freeIn_pos hok g (h g (by simp)), ih, posG_cons, freeR_append]
    cases freeR t ((List.range 8).map fun x => 8 * g + x) <;> rfl
theorem freeR_mem {t : Tab} {l : List Nat} {y : Nat} (h : freeR t l = some y) : y ∈ l ∧ fullJ t y = false := by
  rw [freeR] at h
  exact ⟨List.mem_of_find?_eq_some h, by simpa using List.find?_some h⟩
theorem mem_posG {l : List Nat} {y : Nat} (h : y ∈ posG l) : y / 8 ∈ l := by
  rw [posG, List.mem_flatMap] at h
  obtain ⟨g, hg, hy⟩ := h
  obtain ⟨x, hx, rfl⟩ := List.mem_map.1 hy
  have : x < 8 := by simpa using hx
  rw [show (8 * g + x) / 8 = g by omega]; exact hg
theorem placeO_eq {t : Tab} {s : BitVec 64} (m : May t s) {y : Nat} (hy : y < 16) (hf : fullJ t y = false) : placeO t (some y) = if (delM (t.c (y / 8)) &&& laneM (y % 8) != 0#8) || decide (0 < t.can) then .ok (8 * (y / 8) + y % 8) else .error 6 := by
  have h1 := (flatT_iff t).1 m.flat
  have hok := m.ok y hy
  have hd : (delM (t.c (y / 8)) &&& laneM (y % 8) != 0#8) = (bt t y == 254#8) := by
    have h2 := and_lane (delM (t.c (y / 8))) (y % 8) (by omega)
    rw [delM_bit _ _ (by omega)] at h2
    rw [Bool.eq_iff_iff, bne_iff_ne, ne_eq, h2, bt]
    simp
  rw [hd, placeO, show 8 * (y / 8) + y % 8 = y by omega]
  have h4 := h1.2.2.2.1
  have hb : bt t y = 128#8 ∨ bt t y = 254#8 := by
    rcases hok with h | h | h
    · rw [fullJ, decide_eq_true h] at hf; cases hf
    · exact .inl h
    · exact .inr h
  rcases hb with h | h
  · rw [h]
    by_cases hc : t.can = 0
    · rw [hc]; rfl
    · have hc2 : 0 < t.can := by omega
      rw [decide_eq_true hc2, if_neg (by simp [hc]), if_pos (by simp)]
  · rw [h, if_neg (by simp), if_pos (by simp)]
theorem placeR_eq {t : Tab} {s : BitVec 64} (m : May t s) (k : BitVec 64) : placeR t s k = placeT t s k := by
  have hfr := freeAt_pos m.ok (rowT t s k) (row_bound t s k)
  have hs := slotR_cases m k
  rw [placeR, placeT]
  have hk : hasKT t k = (slotR t k).isSome := by
    rcases hs with ⟨h1, _, h2⟩ | ⟨j, n, h1, _, _, _, _, h2⟩
    · rw [h1, h2]; rfl
    · rw [h1, h2]; rfl
  rw [hk]
  generalize (slotR t k).isSome = b
  cases hasT t (hashOf s k)
  · rw [if_neg (by decide), if_neg (by decide)]
  · rw [if_pos rfl, if_pos rfl]
    cases b
    · rw [if_neg (by decide), if_neg (by decide), hfr]
      cases hf : freeR t (posG (rowT t s k)) with
      | none => rfl
      | some y =>
        obtain ⟨h1, h2⟩ := freeR_mem hf
        have h3 := row_bound t s k _ (mem_posG h1)
        rw [placeO_eq m (by omega) h2]
        simp only [Option.map_some]
    · rw [if_pos rfl, if_pos rfl]
end Go.Proofs.Hc
