/- Tables that may be, slot by slot: plain law, no program in sight. -/
import Derived.Test.YtcikopeddljgkaaGreatKHcb
import Derived.Test.YtcikopeddljgkaaGreatKHd
import Derived.Test.YtcikopeddljgkaaGreatKHg
import Derived.Test.YtcikopeddljgkaaGreatKHdn
import Derived.Test.YtcikopeddljgkaaGreatKHlan
import Derived.Test.YtcikopeddljgkaaGreatKHma
import Derived.Test.YtcikopeddljgkaaGreatKHo
import Derived.Test.YtcikopeddljgkaaGreatKHrw
import Derived.Test.YtcikopeddljgkaaGreatKHsl
import Derived.Test.YtcikopeddljgkaaGreatKHta
import Derived.Test.YtcikopeddljgkaaGreatKHtc
import Derived.Below
import Derived.BigQuiet
import Derived.Deep.Draws
import Derived.Deep.Light
import Derived.Deep.QuietTactic
import Derived.Deep.RegionHeld
import Derived.Laws.CopyRow
import Derived.Laws.Tables
import Derived.Lib.AppendZerosOnto
import Derived.Lib.Hide
import Derived.Lib.Tables
import Derived.Lib.Walk
import Derived.LoopIn
import Derived.LoopN
import Derived.LoopNIn
import Derived.Maps.AppendAt
import Derived.Maps.Views
import Derived.OwnWalkIn
import Derived.RangeFuncBox
import Derived.RangeFuncCalls
import Derived.RangeFuncRecord
import Derived.RangeFuncSeq
import Derived.Recover
import Derived.RegionTactic
import Derived.Shelf.Slices.Clone
import Derived.StillTail
import Derived.StillTailTactics
import Derived.TacticsInMore
import Derived.Test.YtcikopeddljgkaaGreatProg
import Derived.WalkKit
import Derived.WalkLawsBesides
import Derived.WalkMore
import Derived.WalkSpells
set_option linter.unusedSimpArgs false
set_option linter.unusedVariables false
namespace Go.Proofs.Hc
open Go.RowKit
/-- The byte of a slot. -/
def bt (t : Tab) (j : Nat) : BitVec 8 := byteAt (t.c (j / 8)) (j % 8)
/-- Is a slot full? -/
def fullJ (t : Tab) (j : Nat) : Bool := decide ((bt t j).toNat < 128)
/-- Is a slot filled, full or deleted? -/
def fillJ (t : Tab) (j : Nat) : Bool := bt t j != 128#8
@[irreducible] def nFull (t : Tab) : Nat := (List.range 16).countP (fullJ t)
@[irreducible] def nFill (t : Tab) : Nat := (List.range 16).countP (fillJ t)
theorem bt_at (t : Tab) (g x : Nat) (hx : x < 8) : bt t (8 * g + x) = byteAt (t.c g) x := by
  unfold bt
  rw [show (8 * g + x) / 8 = g by omega, show (8 * g + x) % 8 = x by omega]
theorem range16 : List.range 16 = (List.range 8).map (fun x => 8 * 0 + x) ++ (List.range 8).map (fun x => 8 * 1 + x) := by decide
theorem slotsOf_eq (t : Tab) (g : Nat) : slotsOf t g = (((List.range 8).map fun x => 8 * g + x).filter (fullJ t)).map fun j => (j, j / 8) := by
  unfold slotsOf lanesOf
  rw [List.filter_map, List.map_map]
  have h : (List.range 8).filter (fun i => (fullM (t.c g)).getLsbD i) = (List.range 8).filter (fullJ t ∘ fun x => 8 * g + x) := by
    apply List.filter_congr
    intro x hx
    have hx8 : x < 8 := by simpa using hx
    rw [fullM_bit _ _ hx8, Function.comp_apply, fullJ, bt_at t g x hx8]
  rw [h]
  apply List.map_congr_left
  intro x hx
  have hx8 : x < 8 := by simpa using (List.mem_filter.1 hx).1
  show (8 * g + x, g) = (8 * g + x, (8 * g + x) / 8)
  rw [show (8 * g + x) / 8 = g by omega]
theorem slotsT_eq (t : Tab) : slotsT t = ((List.range 16).filter (fullJ t)).map fun j => (j, j / 8) := by
  unfold slotsT
  rw [slotsOf_eq, slotsOf_eq, range16, List.filter_append, List.map_append]
theorem slotsT_len (t : Tab) : (slotsT t).length = nFull t := by
  rw [slotsT_eq, List.length_map, nFull, List.countP_eq_length_filter]
theorem mem_slotsT (t : Tab) (x : Nat × Nat) : x ∈ slotsT t ↔ x.1 < 16 ∧ fullJ t x.1 = true ∧ x.2 = x.1 / 8 := by
  rw [slotsT_eq, List.mem_map]
  constructor
  · rintro ⟨j, hj, rfl⟩
    obtain ⟨h1, h2⟩ := List.mem_filter.1 hj
    exact ⟨by simpa using h1, h2, rfl⟩
  · rintro ⟨h1, h2, h3⟩
    exact ⟨x.1, List.mem_filter.2 ⟨by simpa using h1, h2⟩, by rw [← h3]⟩
theorem ok_iff (t : Tab) : (ctrlOk (t.c 0) && ctrlOk (t.c 1)) = true ↔ ∀ j, j < 16 → (bt t j).toNat < 128 ∨ bt t j = 128#8 ∨ bt t j = 254#8 := by
  rw [Bool.and_eq_true, ctrlOk_iff, ctrlOk_iff]
  constructor
  · rintro ⟨h0, h1⟩ j hj
    unfold bt
    rcases Nat.lt_or_ge j 8 with h | h
    · rw [show j / 8 = 0 by omega]; exact h0 _ (by omega)
    · rw [show j / 8 = 1 by omega]; exact h1 _ (by omega)
  · intro h
    constructor
    · intro n hn; have := h (8 * 0 + n) (by omega); rwa [bt_at t 0 n hn] at this
    · intro n hn; have := h (8 * 1 + n) (by omega); rwa [bt_at t 1 n hn] at this
theorem filledL_eq (t : Tab) (g : Nat) (h : ctrlOk (t.c g) = true) : filledL (t.c g) = ((List.range 8).map fun x => 8 * g + x).countP (fillJ t) := by
  unfold filledL lanesOf
  rw [List.countP_map, List.countP_eq_length_filter]
  congr 1
  apply List.filter_congr
  intro x hx
  have hx8 : x < 8 := by simpa using hx
  rw [BitVec.getLsbD_or, fullM_bit _ _ hx8, delM_bit _ _ hx8, Function.comp_apply, fillJ, bt_at t g x hx8]
  rcases (ctrlOk_iff _).1 h x hx8 with h1 | h1 | h1
  · rw [decide_eq_true h1, Bool.true_or]
    have : byteAt (t.c g) x ≠ 128#8 := by intro e; rw [e] at h1; exact absurd h1 (by decide)
    simp [this]
  · rw [h1]; decide
  · rw [h1]; decide
theorem filled_eq (t : Tab) (h : (ctrlOk (t.c 0) && ctrlOk (t.c 1)) = true) : filledL (t.c 0) + filledL (t.c 1) = nFill t := by
  rw [Bool.and_eq_true] at h
  rw [filledL_eq t 0 h.1, filledL_eq t 1 h.2, nFill, range16, List.countP_append]
theorem slotOk_iff (t : Tab) (s : BitVec 64) (x : Nat × Nat) (hx : x.2 = x.1 / 8) : slotOk t s x = true ↔
    bt t x.1 = hash2 (hashOf s (t.k x.1)) ∧ hasT t (hashOf s (t.k x.1)) = true ∧ x.1 / 8 ∈ rowT t s (t.k x.1) := by
  unfold slotOk bt
  rw [Bool.and_eq_true, Bool.and_eq_true, beq_iff_eq, decide_eq_true_iff, hx]
theorem goodAll_iff (t : Tab) (s : BitVec 64) : ∀ (l : List (Nat × Nat)) (seen : List (BitVec 64)), goodAll t s seen l = true ↔
    (∀ x ∈ l, slotOk t s x = true) ∧ (∀ x ∈ l, t.k x.1 ∉ seen) ∧ (l.map fun x => t.k x.1).Nodup
  | [], seen => by simp [goodAll]
  | x :: l, seen => by
    rw [goodAll, Bool.and_eq_true, Bool.and_eq_true, goodAll_iff t s l, List.map_cons, List.nodup_cons]
    simp only [Bool.not_eq_true', List.mem_cons, forall_eq_or_imp, List.contains_eq_mem, decide_eq_false_iff_not, not_or, List.mem_map, not_exists, not_and]
    constructor
    · rintro ⟨⟨h1, h2⟩, h3, h4, h5⟩
      exact ⟨⟨h2, h3⟩, ⟨h1, fun y hy => (h4 y hy).2⟩, fun y hy => (h4 y hy).1, h5⟩
    · rintro ⟨⟨h2, h3⟩, ⟨h1, h4⟩, h6, h5⟩
      exact ⟨⟨h1, h2⟩, h3, fun y hy => ⟨h6 y hy, h4 y hy⟩, h5⟩
/-- A table that may be. -/
structure May (t : Tab) (s : BitVec 64) : Prop where
  flat : flatT t = true
  ok : ∀ j, j < 16 → (bt t j).toNat < 128 ∨ bt t j = 128#8 ∨ bt t j = 254#8
  slot : ∀ j, j < 16 → fullJ t j = true → bt t j = hash2 (hashOf s (t.k j)) ∧ hasT t (hashOf s (t.k j)) = true ∧ j / 8 ∈ rowT t s (t.k j)
  inj : ∀ i j, i < 16 → j < 16 → fullJ t i = true → fullJ t j = true → t.k i = t.k j → i = j
  live : t.live = (nFull t : Int)
  can : t.can = 14 - (nFill t : Int)
theorem nodup_filter_map {α : Type} [DecidableEq α] (p : Nat → Bool) (f : Nat → α) (n : Nat) : ((((List.range n).filter p).map f).Nodup) ↔ ∀ i j, i < n → j < n → p i = true → p j = true → f i = f j → i = j := by
  rw [List.Nodup, List.pairwise_map]
  constructor
  · intro h i j hi hj hpi hpj he
    have h2 : ((List.range n).filter p).Pairwise (fun a b => a ≠ b → f a ≠ f b) := List.Pairwise.imp (S := fun a b => a ≠ b → f a ≠ f b) (fun hab _ => hab) h
    have h3 : ((List.range n).filter p).Pairwise (flip fun a b => a ≠ b → f a ≠ f b) := List.Pairwise.imp (S := flip fun a b => a ≠ b → f a ≠ f b) (fun hab _ e => hab e.symm) h
    have hmi : i ∈ (List.range n).filter p := List.mem_filter.2 ⟨by simpa using hi, hpi⟩
    have hmj : j ∈ (List.range n).filter p := List.mem_filter.2 ⟨by simpa using hj, hpj⟩
    rcases Nat.lt_trichotomy i j with hlt | he | hlt
    · exact absurd he (List.Pairwise.forall_of_forall_of_flip (R := fun a b => a ≠ b → f a ≠ f b) (fun x _ h => absurd rfl h) h2 h3 hmi hmj (by omega))
    · exact he
    · exact absurd he (List.Pairwise.forall_of_forall_of_flip (R := fun a b => a ≠ b → f a ≠ f b) (fun x _ h => absurd rfl h) h2 h3 hmi hmj (by omega))
  · intro h
    refine List.Pairwise.imp_of_mem (R := fun a b => a < b) (fun {a b} ha hb hab he => ?_) ((List.pairwise_lt_range (n := n)).filter _)
    have h1 := List.mem_filter.1 ha
    have h2 := List.mem_filter.1 hb
    have := h a b (by simpa using h1.1) (by simpa using h2.1) h1.2 h2.2 he
    omega
theorem may_iff (t : Tab) (s : BitVec 64) : mayT t s = true ↔ May t s := by
  have hok := ok_iff t
  have hfl := filled_eq t
  rw [mayT]
  generalize (ctrlOk (t.c 0) && ctrlOk (t.c 1)) = co at *
  simp only [Bool.and_eq_true, beq_iff_eq]
  rw [goodAll_iff, slotsT_len]
  have hnd : ((slotsT t).map fun x => t.k x.1).Nodup ↔ ∀ i j, i < 16 → j < 16 → fullJ t i = true → fullJ t j = true → t.k i = t.k j → i = j := by
    rw [slotsT_eq, List.map_map]
    exact nodup_filter_map (fullJ t) t.k 16
  rw [hnd]
  constructor
  · rintro ⟨⟨⟨⟨h1, h2⟩, h3, -, h4⟩, h5⟩, h6⟩
    refine ⟨h1, hok.1 h2, fun j hj hf => ?_, h4, h5, ?_⟩
    · exact (slotOk_iff t s (j, j / 8) rfl).1 (h3 (j, j / 8) ((mem_slotsT t _).2 ⟨hj, hf, rfl⟩))
    · rw [← hfl h2]; exact h6
  · rintro ⟨h1, h2, h3, h4, h5, h6⟩
    have h2' := hok.2 h2
    refine ⟨⟨⟨⟨h1, h2'⟩, fun x hx => ?_, fun x _ => by simp, h4⟩, h5⟩, ?_⟩
    · obtain ⟨a, b, c⟩ := (mem_slotsT t x).1 hx
      exact (slotOk_iff t s x c).2 (h3 x.1 a b)
    · rw [hfl h2']; exact h6
/-- Is there an empty slot in a group? -/
def hasE (t : Tab) (g : Nat) : Bool := emptyM (t.c g) != 0#8
theorem mask_ne (m : BitVec 8) : (m != 0#8) = true ↔ ∃ x, x < 8 ∧ m.getLsbD x = true := by
  rw [bne_iff_ne]
  constructor
  · intro h
    apply Classical.byContradiction
    intro hn
    apply h
    apply BitVec.eq_of_getLsbD_eq
    intro i hi
    rw [BitVec.getLsbD_zero]
    cases hb : m.getLsbD i with
    | false => rfl
    | true => exact absurd ⟨i, hi, hb⟩ hn
  · rintro ⟨x, _, hx⟩ rfl
    rw [BitVec.getLsbD_zero] at hx; cases hx
theorem hasE_iff (t : Tab) (g : Nat) : hasE t g = true ↔ ∃ x, x < 8 ∧ bt t (8 * g + x) = 128#8 := by
  rw [hasE, mask_ne]
  constructor
  · rintro ⟨x, hx, h⟩; rw [emptyM_bit _ _ hx, beq_iff_eq] at h; exact ⟨x, hx, by rw [bt_at t g x hx]; exact h⟩
  · rintro ⟨x, hx, h⟩; rw [bt_at t g x hx] at h; exact ⟨x, hx, by rw [emptyM_bit _ _ hx, beq_iff_eq]; exact h⟩
theorem gOf_lt (s k : BitVec 64) : gOf s k < 2 := g0_lt _
theorem mem_row (t : Tab) (s k : BitVec 64) (g : Nat) : g ∈ rowT t s k ↔ g = gOf s k ∨ (hasE t (gOf s k) = false ∧ g = 1 - gOf s k) := by
  rw [rowT, ← hasE]
  cases hasE t (gOf s k) <;> simp
/-- A row does not end earlier where there are fewer empty slots. -/
theorem row_mono {t t' : Tab} {s k : BitVec 64} {g : Nat} (h : ∀ i, i < 2 → hasE t' i = true → hasE t i = true) (hg : g ∈ rowT t s k) : g ∈ rowT t' s k := by
  rw [mem_row] at hg ⊢
  rcases hg with h1 | ⟨h1, h2⟩
  · exact .inl h1
  · refine .inr ⟨?_, h2⟩
    cases h3 : hasE t' (gOf s k) with
    | false => rfl
    | true => rw [h _ (gOf_lt s k) h3] at h1; cases h1
theorem hasKT_iff (t : Tab) (k : BitVec 64) : hasKT t k = true ↔ ∃ j, j < 16 ∧ fullJ t j = true ∧ t.k j = k := by
  rw [hasKT, List.any_eq_true]
  constructor
  · rintro ⟨x, hx, h⟩
    obtain ⟨a, b, c⟩ := (mem_slotsT t x).1 hx
    exact ⟨x.1, a, b, by simpa using h⟩
  · rintro ⟨j, hj, hf, h⟩
    exact ⟨(j, j / 8), (mem_slotsT t _).2 ⟨hj, hf, rfl⟩, by simpa using h⟩
theorem mem_pairs (t : Tab) (p : BitVec 64 × BitVec 64) : p ∈ pairsT t ↔ ∃ j, j < 16 ∧ fullJ t j = true ∧ p = (t.k j, t.v j) := by
  rw [pairsT, List.mem_map]
  constructor
  · rintro ⟨x, hx, rfl⟩
    obtain ⟨a, b, c⟩ := (mem_slotsT t x).1 hx
    exact ⟨x.1, a, b, rfl⟩
  · rintro ⟨j, hj, hf, rfl⟩
    exact ⟨(j, j / 8), (mem_slotsT t _).2 ⟨hj, hf, rfl⟩, rfl⟩
theorem pairs_len (t : Tab) : (pairsT t).length = nFull t := by rw [pairsT, List.length_map, slotsT_len]
theorem May.len {t : Tab} {s : BitVec 64} (h : May t s) : ((pairsT t).length : Int) = t.live := by rw [pairs_len, h.live]
theorem May.keys {t : Tab} {s : BitVec 64} (h : May t s) : ((pairsT t).map (·.1)).Nodup := by
  rw [pairsT, slotsT_eq, List.map_map, List.map_map]
  exact (nodup_filter_map (fullJ t) t.k 16).2 h.inj
theorem full_lt {t : Tab} {j : Nat} (h : fullJ t j = true) : (bt t j).toNat < 128 := by simpa [fullJ] using h
theorem full_fill {t : Tab} {j : Nat} (h : fullJ t j = true) : fillJ t j = true := by
  have := full_lt h
  rw [fillJ, bne_iff_ne]
  intro e
  rw [e] at this
  exact absurd this (by decide)
theorem nFull_le (t : Tab) : nFull t ≤ nFill t := by
  unfold nFull nFill
  exact List.countP_mono_left fun _ _ h => full_fill h
theorem countP_upd (p q : Nat → Bool) (sl : Nat) : ∀ n, (∀ j, j ≠ sl → q j = p j) → (List.range n).countP q + (if sl < n ∧ p sl = true then 1 else 0) = (List.range n).countP p + (if sl < n ∧ q sl = true then 1 else 0)
  | 0, _ => by simp
  | n + 1, h => by
    have ih := countP_upd p q sl n h
    rw [List.range_succ, List.countP_append, List.countP_append, List.countP_singleton, List.countP_singleton]
    by_cases hn : sl = n
    · subst hn
      simp only [Nat.lt_irrefl, false_and, if_false] at ih
      simp only [Nat.lt_succ_self, true_and]
      omega
    · rw [h n (fun e => hn e.symm)]
      have e : sl < n + 1 ↔ sl < n := by omega
      simp only [e]
      omega
end Go.Proofs.Hc
