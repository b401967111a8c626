/- What the law of keeping needs of tables: plain law. -/
import Derived.Test.YtaddieimkpijeaaGreatKHdh
import Derived.Test.YtaddieimkpijeaaGreatKHlhHlh2
set_option linter.unusedSimpArgs false
set_option linter.unusedVariables false
namespace Go.Proofs.Hc
open Go.RowKit
theorem pairsT_eq (t : Tab) : pairsT t = ((List.range 16).filter (fullJ t)).map fun j => (t.k j, t.v j) := by
  rw [pairsT, slotsT_eq, List.map_map]
  rfl
theorem drop_k (t : Tab) (j x : Nat) : (dropT t j).k x = t.k x ∧ (dropT t j).v x = t.v x := by unfold dropT; exact ⟨rfl, rfl⟩
theorem delK_not {t : Tab} {k : BitVec 64} (h : ∀ j, j < 16 → fullJ t j = true → t.k j ≠ k) : delK k (pairsT t) = pairsT t := by
  apply delK_none
  intro q hq
  obtain ⟨j, hj, hf, rfl⟩ := (mem_pairs t q).1 hq
  exact h j hj hf
theorem delK_has {t : Tab} {s k : BitVec 64} {j : Nat} (m : May t s) (hj : j < 16) (hf : fullJ t j = true) (hk : t.k j = k) : delK k (pairsT t) = pairsT (dropT t j) := by
  rw [pairsT_eq, pairsT_eq, delK, List.filter_map, List.filter_filter]
  have h1 : (List.range 16).filter (fun a => ((fun q : BitVec 64 × BitVec 64 => !(q.1 == k)) ∘ fun j => (t.k j, t.v j)) a && fullJ t a) = (List.range 16).filter (fullJ (dropT t j)) := by
    apply List.filter_congr
    intro x hx
    have hx16 : x < 16 := by simpa using hx
    rw [drop_full, Function.comp_apply]
    by_cases h : x = j
    · subst h; rw [if_pos rfl, hk]; simp
    · rw [if_neg h]
      cases hfx : fullJ t x with
      | false => simp
      | true =>
        have : t.k x ≠ k := fun e => h (m.inj x j hx16 hj hfx hf (e.trans hk.symm))
        simp [this]
  rw [h1]
  apply List.map_congr_left
  intro x _
  rw [(drop_k t j x).1, (drop_k t j x).2]
/-- What a pair comes to that is put in a table that may be. -/
def KCase (a : Tab) (s : BitVec 64) (q : BitVec 64 × BitVec 64) (nA : Tab) (sA eA : Int) : Prop :=
  (eA = 2 ∨ eA = 6) ∨ (eA = 5 ∧ ∃ j mm : Nat, j < 16 ∧ fullJ a j = true ∧ a.k j = q.1 ∧ foundE a s q.1 = .ok (j, mm)) ∨ (∃ sl : Nat, placeT a s q.1 = .ok sl ∧ eA = 0 ∧ sA = sl ∧ nA = fillT a s q.1 q.2 sl)
theorem keeps_put {a : Tab} {s : BitVec 64} (m : May a s) (q : BitVec 64 × BitVec 64) : ∃ (nA : Tab) (sA eA : Int), (∀ w, Calls Tryz.prog 19 #[U s, .agg (tcells a), U q.1, U q.2] w fun e w' => e = .returned (.tuple #[.agg (tcells nA), I sA, I eA]) ∧ Ch [] w w') ∧ KCase a s q nA sA eA := by
  have P := fun w => Put_any a s q.1 q.2 w
  rw [ifMay, if_pos ((may_iff a s).2 m), putA] at P
  rcases place_cases a s q.1 with ⟨_, h⟩ | ⟨_, hk, h⟩ | ⟨_, _, h⟩ | ⟨_, _, sl, h⟩
  · rw [h] at P
    exact ⟨zeroT, 0, 2, P, .inl (.inl rfl)⟩
  · rw [h] at P
    obtain ⟨j, hj, hf, hkj⟩ := (hasKT_iff a q.1).1 hk
    obtain ⟨mm, hm⟩ := found_of m hj hf hkj
    exact ⟨zeroT, 0, 5, P, .inr (.inl ⟨rfl, j, mm, hj, hf, hkj, hm⟩)⟩
  · rw [h] at P
    exact ⟨zeroT, 0, 6, P, .inl (.inr rfl)⟩
  · rw [h] at P
    exact ⟨fillT a s q.1 q.2 sl, sl, 0, P, .inr (.inr ⟨sl, h, rfl, rfl, rfl⟩)⟩
theorem find_hit {n : Tab} {s k : BitVec 64} {j mm : Nat} (m : May n s) (h : foundE n s k = .ok (j, mm)) (w : World) : Calls Tryz.prog 30 #[U s, .agg (tcells n), U k] w fun e w' => e = .returned (.tuple #[I j, I mm, I 0]) ∧ Ch [] w w' := by
  have := Find_any n s k w
  rw [ifMay, if_pos ((may_iff n s).2 m), h] at this
  exact this
theorem find_miss {n : Tab} {s k : BitVec 64} (m : May n s) (h : foundE n s k = .error 4) (w : World) : Calls Tryz.prog 30 #[U s, .agg (tcells n), U k] w fun e w' => e = .returned (.tuple #[I 0, I 0, I 4]) ∧ Ch [] w w' := by
  have := Find_any n s k w
  rw [ifMay, if_pos ((may_iff n s).2 m), h] at this
  exact this
theorem drop_hit {n : Tab} {s k : BitVec 64} {j mm : Nat} (m : May n s) (h : foundE n s k = .ok (j, mm)) (w : World) : Calls Tryz.prog 21 #[U s, .agg (tcells n), U k] w fun e w' => e = .returned (.tuple #[.agg (tcells (dropT n j)), I j, I 0]) ∧ Ch [] w w' := by
  have := Drop_any n s k w
  rw [ifMay, if_pos ((may_iff n s).2 m), dropE, h] at this
  exact this
theorem set_hit {n : Tab} {s k v : BitVec 64} {j mm : Nat} (m : May n s) (h : foundE n s k = .ok (j, mm)) (w : World) : Calls Tryz.prog 20 #[U s, .agg (tcells n), U k, U v] w fun e w' => e = .returned (.tuple #[.agg (tcells (setT n j v)), I 0]) ∧ Ch [] w w' := by
  have := Set_any n s k v w
  rw [ifMay, if_pos ((may_iff n s).2 m), setE, h] at this
  exact this
theorem len_of {n : Tab} {s : BitVec 64} (m : May n s) {x : Nat} (h : n.live = x) : (pairsT n).length = x := by have := m.len; omega
theorem set_full (t : Tab) (j x : Nat) (v : BitVec 64) : fullJ (setT t j v) x = fullJ t x := rfl
end Go.Proofs.Hc
