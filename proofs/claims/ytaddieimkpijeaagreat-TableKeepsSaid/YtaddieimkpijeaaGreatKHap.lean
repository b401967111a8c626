/- append of a row of pairs to a row of the call's own. -/
import Derived.Test.YtaddieimkpijeaaGreatKHsc
import Derived.Lib.AppendZerosOnto
set_option linter.unusedSimpArgs false
set_option linter.unusedVariables false
namespace Go.Proofs.Hc
open Go.RowKit
theorem pcells_append (l m : List (BitVec 64 × BitVec 64)) : pcells (l ++ m) = pcells l ++ pcells m := by unfold pcells; rw [List.flatMap_append]
theorem pcells_one (l : List (BitVec 64 × BitVec 64)) : ∀ u ∈ pcells l, u.oneCell' = true := by
  intro u hu
  unfold pcells at hu
  obtain ⟨p, _, hp⟩ := List.mem_flatMap.1 hu
  simp at hp
  rcases hp with rfl | rfl <;> rfl
theorem own_form {W : World} {base n size : Nat} {e : TypeId} {v : Value} {xs : List Value} (h : W.ownsRow base e size v n xs) : ∃ a c, v = .slice a n c := by
  obtain ⟨_, ⟨rfl, h0⟩ | ⟨g, cap, cur, hv, _⟩⟩ := h
  · exact ⟨none, 0, by rw [h0]⟩
  · exact ⟨_, _, hv⟩
theorem run_append_none {P : Program} (w : World) (t ty e : TypeId) (i : TypeInfo) (ht : P.underlying t = some (.slice e)) (hi : P.info? e = some i) (a : Option Addr) (n cap c : Nat) (hn : n ≤ cap) :
    (Builtin.append_ #[t, t] ty #[.slice a n cap, .slice none 0 c]).run P w = .ok (.slice a n cap) w := by
  cases a with
  | none => simp [Builtin.append_, run_underlying ht, sizeOf, typeInfo, hi, Builtin.lenOf, Builtin.firstCells, hn, loadCells, loadCellsFrom]
  | some x => simp [Builtin.append_, run_underlying ht, sizeOf, typeInfo, hi, Builtin.lenOf, Builtin.firstCells, hn, loadCells, loadCellsFrom, storeCells]
theorem append_pairs (W : World) (ty : TypeId) (base base2 : Nat) (v : Value) (n : Nat) (xs : List Value) (hown : W.ownsRow base 31 2 v n xs) (a : Option Addr) (m c : Nat) (news : List Value) (hx : W.ownsRow base2 31 2 (.slice a m c) m news)
    (h1 : ∀ u ∈ news, u.oneCell' = true) (hnm : n + m ≤ 900000) (hbase : base ≤ W.heap.size) :
    ∃ v' w', (Builtin.append_ #[27, 27] ty #[v, .slice a m c]).run Tryz.prog W = .ok v' w' ∧ w'.ownsRow base 31 2 v' (n + m) (xs ++ news) ∧ W.grownBy w' v.ownBlock := by
  obtain ⟨i0, hi, hz0, hz1, hz2⟩ := info_parts infoP
  cases a with
  | none =>
    obtain ⟨hl, ⟨hv, h0⟩ | ⟨g, cap, cur, hv, _⟩⟩ := hx
    · subst h0
      have hnews : news = [] := List.eq_nil_of_length_eq_zero (by rw [hl])
      subst hnews
      rw [List.append_nil, Nat.add_zero]
      have hcap : ∃ b cap, v = .slice b n cap ∧ n ≤ cap := by
        obtain ⟨k1, ⟨rfl, k0⟩ | ⟨g, cap, cur, rfl, _, _, hle, _⟩⟩ := id hown
        · exact ⟨none, 0, by rw [k0], by omega⟩
        · exact ⟨_, cap, rfl, hle⟩
      obtain ⟨b, cap, rfl, hle⟩ := hcap
      exact ⟨_, W, run_append_none W _ ty _ i0 Tryz.underlying27 hi b n cap c hle, hown, ⟨rfl, rfl, rfl, Nat.le_refl _, fun _ _ _ => rfl⟩⟩
    · cases hv
  | some x =>
    obtain ⟨hl, ⟨hv, h0⟩ | ⟨g, cap, cur, hv, hr⟩⟩ := id hx
    · cases hv
    · have hgx : x = ⟨g, 0, none⟩ := by simp only [Value.slice.injEq] at hv; simpa using hv.1
      subst hgx
      obtain ⟨v', w', hrun, ho, hg, _⟩ := run_append_own (P := Tryz.prog) W base 27 ty 31 i0 (.agg #[.int .u64 0, .int .u64 0]) 2 16 Tryz.underlying27 hi hz0 hz1 hz2 rfl (by decide) v n xs hown ⟨g, 0, none⟩ m c news hl
        (hx.cells (g := g) rfl) h1 (by unfold maxLen; omega) (by omega) hbase
      exact ⟨v', w', hrun, ho, hg⟩
end Go.Proofs.Hc
