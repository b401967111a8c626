/- Who writes: what becomes of one that may be. Plain law, no program in sight. -/
import Derived.Test.YtmfajobocpaimaaGreatKHcs
import Derived.Test.YtmfajobocpaimaaGreatKHg
import Derived.Test.YtmfajobocpaimaaGreatKHxh
import Derived.Below
import Derived.BigQuiet
import Derived.Deep.Draws
import Derived.Deep.Light
import Derived.Deep.QuietTactic
import Derived.Deep.RegionHeld
import Derived.Laws.CopyRow
import Derived.Laws.Tables
import Derived.Lib.AppendZerosOnto
import Derived.Lib.Hide
import Derived.Lib.Tables
import Derived.Lib.Walk
import Derived.LoopIn
import Derived.LoopN
import Derived.LoopNIn
import Derived.Maps.AppendAt
import Derived.Maps.Views
import Derived.OwnWalkIn
import Derived.RangeFuncBox
import Derived.RangeFuncCalls
import Derived.RangeFuncRecord
import Derived.RangeFuncSeq
import Derived.Recover
import Derived.RegionTactic
import Derived.Shelf.Slices.Clone
import Derived.StillTail
import Derived.StillTailTactics
import Derived.TacticsInMore
import Derived.Test.YtmfajobocpaimaaGreatProg
import Derived.WalkKit
import Derived.WalkLawsBesides
import Derived.WalkMore
import Derived.WalkSpells
set_option linter.unusedSimpArgs false
set_option linter.unusedVariables false
namespace Go.Proofs.Hc
open Go.RowKit
/-- What holds of one that may be. -/
structure RightP (p : PenT) : Prop where
  ph0 : 0 ≤ p.ph
  ph1 : p.ph ≤ 16
  sl0 : 0 ≤ p.sl
  sl1 : p.sl < 128
  op0 : 2 ≤ p.op
  op1 : p.op ≤ 5
  cnt : oddB p.count = false
  grp : p.grp = 0 ∨ p.grp = 1
  slot0 : 0 ≤ p.slot
  slot1 : p.slot ≤ 15
  free0 : 0 ≤ p.free
  free1 : p.free ≤ 16
  left : p.ph = 2 → p.left ≠ 0#8
  goes : p.ph < 4 ∨ 13 < p.ph ∨ throughP (wantsP p) p.ph = true ∧ (wantsP p ≠ 1 ∨ 0 < p.free)
theorem rightP_iff (p : PenT) : rightP p = true ↔ RightP p := by
  unfold rightP
  constructor
  · intro h
    simp only [Bool.and_eq_true, Bool.or_eq_true, decide_eq_true_eq, beq_iff_eq, bne_iff_ne, Bool.not_eq_true', Bool.and_eq_false_iff, beq_eq_false_iff_ne] at h
    obtain ⟨⟨⟨⟨⟨⟨⟨⟨⟨h1, h2⟩, h3, h4⟩, h5, h6⟩, h7⟩, h8⟩, h9, h10⟩, h11, h12⟩, h13⟩, h14⟩ := h
    refine ⟨h1, h2, h3, h4, h5, h6, h7, h8, h9, h10, h11, h12, ?_, ?_⟩
    · intro e; rcases h13 with h | h
      · exact absurd e h
      · exact h
    · rcases h14 with (h | h) | h
      · exact .inl h
      · exact .inr (.inl h)
      · exact .inr (.inr h)
  · rintro ⟨h1, h2, h3, h4, h5, h6, h7, h8, h9, h10, h11, h12, h13, h14⟩
    simp only [Bool.and_eq_true, Bool.or_eq_true, decide_eq_true_eq, beq_iff_eq, bne_iff_ne, Bool.not_eq_true', Bool.and_eq_false_iff, beq_eq_false_iff_ne]
    refine ⟨⟨⟨⟨⟨⟨⟨⟨⟨h1, h2⟩, h3, h4⟩, h5, h6⟩, h7⟩, h8⟩, h9, h10⟩, h11, h12⟩, ?_⟩, ?_⟩
    · by_cases e : p.ph = 2
      · exact .inr (h13 e)
      · exact .inl e
    · rcases h14 with h | h | h
      · exact .inl (.inl h)
      · exact .inl (.inr h)
      · exact .inr h
theorem wantsP_cases (p : PenT) : wantsP p = 0 ∨ wantsP p = 1 ∨ wantsP p = 2 ∨ wantsP p = 3 := by have := wantsP_le p; omega
theorem head_lt {m : BitVec 8} {x : Nat} (h : (lanesOf m).head? = some x) : x < 8 := by
  have hm : x ∈ lanesOf m := List.mem_of_head? h
  unfold lanesOf at hm
  simpa using (List.mem_filter.1 hm).1
theorem lanes_ne {m : BitVec 8} (h : m ≠ 0#8) : ∃ x, (lanesOf m).head? = some x := by
  cases e : (lanesOf m).head? with
  | some x => exact ⟨x, rfl⟩
  | none =>
    exfalso; apply h
    rw [List.head?_eq_none_iff] at e
    apply BitVec.eq_of_getLsbD_eq
    intro i hi
    simp only [BitVec.getLsbD_zero]
    cases hb : m.getLsbD i with
    | false => rfl
    | true =>
      have : i ∈ lanesOf m := by unfold lanesOf; exact List.mem_filter.2 ⟨by simpa using hi, hb⟩
      rw [e] at this; cases this
theorem laneP_lt (m : BitVec 8) : laneP m < 8 := by
  unfold laneP
  cases h : (lanesOf m).head? with
  | none => simp
  | some x => simpa using head_lt h
theorem laneP_bit {m : BitVec 8} (h : m ≠ 0#8) : m.getLsbD (laneP m) = true := by
  obtain ⟨x, hx⟩ := lanes_ne h
  unfold laneP
  rw [hx]
  have hm : x ∈ lanesOf m := List.mem_of_head? hx
  unfold lanesOf at hm
  simpa using (List.mem_filter.1 hm).2
theorem groupP_lt (p : PenT) : groupP p < 2 := Nat.mod_lt _ (by decide)
theorem wants_ph (p : PenT) (x : Int) : wantsP { p with ph := x } = wantsP p := rfl
theorem RightP.decided {p : PenT} (h : RightP p) : RightP (decidedP p) := by
  have hw := wantsP_cases p
  have h0 : wantsP (decidedP p) = wantsP p := rfl
  obtain ⟨h1, h2, h3, h4, h5, h6, h7, h8, h9, h10, h11, h12, h13, h14⟩ := h
  have hph : (decidedP p).ph = if wantsP p = 0 then 14 else if wantsP p = 2 then 6 else if wantsP p = 1 ∧ p.free = 0 then 16 else 4 := rfl
  have hc : (decidedP p).ph = 14 ∨ (decidedP p).ph = 16 ∨ (decidedP p).ph = 6 ∧ wantsP p = 2 ∨ (decidedP p).ph = 4 ∧ (wantsP p = 1 ∧ p.free ≠ 0 ∨ wantsP p = 3) := by
    rw [hph]; repeat' split
    all_goals omega
  refine ⟨by omega, by omega, h3, h4, h5, h6, h7, h8, h9, h10, h11, h12, by omega, ?_⟩
  rcases hc with hc | hc | ⟨hc, hw2⟩ | ⟨hc, hw2⟩
  · omega
  · omega
  · refine .inr (.inr ⟨by rw [hc, h0, hw2]; rfl, .inl (by omega)⟩)
  · have hfr : (decidedP p).free = p.free := rfl
    refine .inr (.inr ⟨?_, ?_⟩)
    · rw [hc, h0]; rcases hw2 with ⟨e, -⟩ | e <;> (rw [e]; rfl)
    · rw [h0, hfr]; omega
theorem RightP.ph_ {p : PenT} (h : RightP p) {x : Int} (h0 : x = 0 ∨ x = 1 ∨ x = 3 ∨ 14 ≤ x ∧ x ≤ 16) : RightP { p with ph := x } := by
  obtain ⟨h1, h2, h3, h4, h5, h6, h7, h8, h9, h10, h11, h12, h13, h14⟩ := h
  exact ⟨by show 0 ≤ x; omega, by show x ≤ 16; omega, h3, h4, h5, h6, h7, h8, h9, h10, h11, h12, fun e => by have e' : x = 2 := e; omega, by show x < 4 ∨ 13 < x ∨ _; omega⟩
theorem RightP.on {p : PenT} (h : RightP p) : RightP (onP p) := by
  unfold onP
  split
  · rename_i hl
    have hl' : p.left ≠ 0#8 := by simpa using hl
    obtain ⟨h1, h2, h3, h4, h5, h6, h7, h8, h9, h10, h11, h12, h13, h14⟩ := h
    exact ⟨by show (0 : Int) ≤ 2; omega, by show (2 : Int) ≤ 16; omega, h3, h4, h5, h6, h7, h8, h9, h10, h11, h12, fun _ => hl', .inl (by show (2 : Int) < 4; omega)⟩
  · split
    · exact h.decided
    · obtain ⟨h1, h2, h3, h4, h5, h6, h7, h8, h9, h10, h11, h12, h13, h14⟩ := h
      exact ⟨by show (0 : Int) ≤ 1; omega, by show (1 : Int) ≤ 16; omega, h3, h4, h5, h6, h7, .inr rfl, h9, h10, h11, h12, fun e => by have e' : (1 : Int) = 2 := e; omega, .inl (by show (1 : Int) < 4; omega)⟩
theorem nextP_cases (w : Nat) (ph : Int) : nextP w ph = 14 ∨ (ph < nextP w ph ∧ nextP w ph ≤ 13 ∧ throughP w (nextP w ph) = true) := by
  unfold nextP
  cases h : ((List.range 14).map fun n : Nat => (n : Int)).find? fun n => decide (ph < n) && throughP w n with
  | none => exact .inl rfl
  | some x =>
    right
    have h1 := List.find?_some h
    have h2 := List.mem_of_find?_eq_some h
    simp only [Bool.and_eq_true, decide_eq_true_eq] at h1
    simp only [List.mem_map, List.mem_range] at h2
    obtain ⟨a, ha, rfl⟩ := h2
    exact ⟨h1.1, by show (a : Int) ≤ 13; omega, h1.2⟩
/-- The same but for what was read: nothing that is asked of it. -/
theorem RightP.read {p q : PenT} (h : RightP p) (hph : q.ph = p.ph) (hsl : q.sl = p.sl) (hop : q.op = p.op) (hc : oddB q.count = false) (hg : q.grp = 0 ∨ q.grp = 1)
    (hs0 : 0 ≤ q.slot) (hs1 : q.slot ≤ 15) (hf0 : 0 ≤ q.free) (hf1 : q.free ≤ 16) (hl : p.ph < 4) (h2 : p.ph ≠ 2) : RightP q := by
  obtain ⟨h1, h2', h3, h4, h5, h6, h7, h8, h9, h10, h11, h12, h13, h14⟩ := h
  exact ⟨by omega, by omega, by omega, by omega, by omega, by omega, hc, hg, hs0, hs1, hf0, hf1, fun e => absurd (hph ▸ e) h2, .inl (by omega)⟩
theorem through_sane {w : Nat} {x : Int} (h : throughP w x = true) (h5 : x = 4) : w = 1 ∨ w = 3 := by
  subst h5; unfold throughP at h; simpa using h
theorem RightP.take {p : PenT} (h : RightP p) (hph : p.ph ≤ 13) (w : BitVec 64) : RightP (takeP p w) := by
  have hg := groupP_lt p
  have hln := laneP_lt p.left
  unfold takeP
  split
  · split
    · exact h.ph_ (by omega)
    · rename_i e0 ew
      obtain ⟨h1, h2, h3, h4, h5, h6, h7, h8, h9, h10, h11, h12, h13, h14⟩ := h
      exact ⟨by show (0 : Int) ≤ 1; omega, by show (1 : Int) ≤ 16; omega, h3, h4, h5, h6, by simpa using ew, .inl rfl, h9, h10, h11, h12, fun e => by have e' : (1 : Int) = 2 := e; omega, .inl (by show (1 : Int) < 4; omega)⟩
  split
  · rename_i e0 e1
    unfold lookedP
    apply RightP.on
    have hs : RightP (seenP p w) := h.read rfl rfl rfl h.cnt h.grp h.slot0 h.slot1 h.free0 h.free1 (by omega) (by omega)
    have hgs : groupP (seenP p w) < 2 := groupP_lt _
    have hph1 : (seenP p w).ph = 1 := e1
    generalize seenP p w = q at *
    cases hx : (lanesOf (freeM w)).head? with
    | none => exact hs
    | some x =>
      have hx8 := head_lt hx
      unfold freeP
      simp only
      split
      · exact hs.read rfl rfl rfl hs.cnt hs.grp hs.slot0 hs.slot1 (by show (0 : Int) ≤ ((8 * groupP q + x + 1 : Nat) : Int); omega) (by show ((8 * groupP q + x + 1 : Nat) : Int) ≤ 16; omega) (by omega) (by omega)
      · exact hs
  split
  · split
    · have h' := h.ph_ (x := 3) (by omega)
      obtain ⟨h1, h2, h3, h4, h5, h6, h7, h8, h9, h10, h11, h12, h13, h14⟩ := h'
      exact ⟨h1, h2, h3, h4, h5, h6, h7, h8, by show (0 : Int) ≤ ((8 * groupP p + laneP p.left : Nat) : Int); omega, by show ((8 * groupP p + laneP p.left : Nat) : Int) ≤ 15; omega, h11, h12, h13, .inl (by show (3 : Int) < 4; omega)⟩
    · rename_i e0 e1 e2 ew
      have h' := h.ph_ (x := 0) (by omega)
      have key : onP { p with left := p.left &&& ~~~(1#8 <<< laneP p.left) } = onP { p with left := p.left &&& ~~~(1#8 <<< laneP p.left), ph := 0 } := by
        unfold onP decidedP; rfl
      rw [key]
      apply RightP.on
      exact h'.read rfl rfl rfl h.cnt h.grp h.slot0 h.slot1 h.free0 h.free1 (by show (0 : Int) < 4; omega) (by show (0 : Int) ≠ 2; omega)
  split
  · apply RightP.decided
    exact h.read rfl rfl rfl h.cnt h.grp h.slot0 h.slot1 h.free0 h.free1 (by omega) (by omega)
  split
  · rename_i e0 e1 e2 e3 e4
    have h14 := h.goes
    have hth : throughP (wantsP p) p.ph = true ∧ (wantsP p ≠ 1 ∨ 0 < p.free) := (h14.resolve_left (by omega)).resolve_left (by omega)
    have hw := through_sane hth.1 e4
    obtain ⟨h1, h2, h3, h4, h5, h6, h7, h8, h9, h10, h11, h12, h13, _⟩ := h
    obtain ⟨q, hq⟩ : ∃ q : PenT, q = { p with can := w, ph := if wantsP p == 1 && wasP p && w == 0#64 then 16 else 5 } := ⟨_, rfl⟩
    have hqp : q.ph = 16 ∨ q.ph = 5 := by rw [hq]; show (if _ then (16 : Int) else 5) = 16 ∨ (if _ then (16 : Int) else 5) = 5; split <;> simp
    have hwq : wantsP q = wantsP p := by rw [hq]; rfl
    have hfq : q.free = p.free := by rw [hq]
    rw [← hq]
    refine ⟨by omega, by omega, by rw [hq]; exact h3, by rw [hq]; exact h4, by rw [hq]; exact h5, by rw [hq]; exact h6, by rw [hq]; exact h7, by rw [hq]; exact h8, by rw [hq]; exact h9, by rw [hq]; exact h10, by omega, by omega, fun e => by omega, ?_⟩
    rcases hqp with e | e
    · omega
    · refine .inr (.inr ⟨?_, by rw [hwq, hfq]; exact hth.2⟩)
      rw [e, hwq]; rcases hw with e | e <;> (rw [e]; rfl)
  split
  · rename_i e0 e1 e2 e3 e4 e5
    have h14 := h.goes
    have hth : throughP (wantsP p) p.ph = true ∧ (wantsP p ≠ 1 ∨ 0 < p.free) := (h14.resolve_left (by omega)).resolve_left (by omega)
    obtain ⟨h1, h2, h3, h4, h5, h6, h7, h8, h9, h10, h11, h12, h13, _⟩ := h
    refine ⟨by show (0 : Int) ≤ 6; omega, by show (6 : Int) ≤ 16; omega, h3, h4, h5, h6, h7, h8, h9, h10, h11, h12, fun e => by have e' : (6 : Int) = 2 := e; omega, .inr (.inr ⟨?_, hth.2⟩)⟩
    have hw : wantsP p = 1 ∨ wantsP p = 3 := by have := hth.1; rw [e5] at this; unfold throughP at this; simpa using this
    show throughP (wantsP p) 6 = true
    rcases hw with e | e <;> (rw [e]; rfl)
  · have h14 := h.goes
    have hth : throughP (wantsP p) p.ph = true ∧ (wantsP p ≠ 1 ∨ 0 < p.free) := by have := h.ph0; exact (h14.resolve_left (by omega)).resolve_left (by omega)
    have hn := nextP_cases (wantsP p) p.ph
    have hp0 := h.ph0
    obtain ⟨h1, h2, h3, h4, h5, h6, h7, h8, h9, h10, h11, h12, h13, _⟩ := h
    refine ⟨by show (0 : Int) ≤ nextP _ _; omega, by show nextP _ _ ≤ 16; omega, h3, h4, h5, h6, h7, h8, h9, h10, h11, h12, fun e => by have e' : nextP _ _ = 2 := e; omega, ?_⟩
    rcases hn with e | ⟨_, _, e⟩
    · exact .inr (.inl (by show 13 < nextP _ _; omega))
    · exact .inr (.inr ⟨e, hth.2⟩)
/-- How far it still is. -/
def meas (p : PenT) : Nat :=
  if p.ph = 0 then 10000 else if p.ph = 1 then (if p.grp = 0 then 5000 else 4000) else if p.ph = 2 then (if p.grp = 0 then 4000 + p.left.toNat else 3000 + p.left.toNat) else (14 - p.ph).toNat
theorem meas_decided (p : PenT) : meas (decidedP p) ≤ 10 := by
  have hc : (decidedP p).ph = 14 ∨ (decidedP p).ph = 16 ∨ (decidedP p).ph = 6 ∨ (decidedP p).ph = 4 := by
    show (if wantsP p = 0 then (14 : Int) else if wantsP p = 2 then 6 else if wantsP p = 1 ∧ p.free = 0 then 16 else 4) = 14 ∨ (if wantsP p = 0 then (14 : Int) else if wantsP p = 2 then 6 else if wantsP p = 1 ∧ p.free = 0 then 16 else 4) = 16 ∨ (if wantsP p = 0 then (14 : Int) else if wantsP p = 2 then 6 else if wantsP p = 1 ∧ p.free = 0 then 16 else 4) = 6 ∨ (if wantsP p = 0 then (14 : Int) else if wantsP p = 2 then 6 else if wantsP p = 1 ∧ p.free = 0 then 16 else 4) = 4
    repeat' split
    all_goals omega
  unfold meas
  rcases hc with e | e | e | e <;> (rw [e]; simp)
theorem meas_on (p : PenT) (hg : p.grp = 0 ∨ p.grp = 1) : meas (onP p) ≤ (if p.grp = 0 then 4000 else 3000) + p.left.toNat := by
  unfold onP
  split
  · unfold meas; rcases hg with e | e <;> simp [e]
  · split
    · have := meas_decided p; split <;> omega
    · rename_i h1 h2
      have hg0 : p.grp = 0 := by rcases hg with e | e; exact e; simp [e] at h2
      simp [meas, hg0]
theorem left_less {m : BitVec 8} (h : m ≠ 0#8) : (m &&& ~~~(1#8 <<< laneP m)).toNat < m.toNat := by
  have key : ∀ (m : BitVec 8) (n : Nat), n < 8 → m.getLsbD n = true → (m &&& ~~~(1#8 <<< n)).toNat < m.toNat := by decide +kernel
  exact key m (laneP m) (laneP_lt m) (laneP_bit h)
theorem freeP_grp (p : PenT) (w : BitVec 64) (o : Option Nat) : (freeP p w o).grp = p.grp := by
  cases o with
  | none => rfl
  | some x => unfold freeP; simp only; split <;> rfl
theorem meas_take {p : PenT} (h : RightP p) (hph : p.ph ≤ 13) (w : BitVec 64) : meas (takeP p w) < meas p := by
  have hg := h.grp
  have h0 := h.ph0
  unfold takeP
  split
  · rename_i e0
    have hm : meas p = 10000 := by unfold meas; rw [if_pos e0]
    rw [hm]
    split
    · show (if (15 : Int) = 0 then 10000 else _) < 10000; simp [meas]
    · simp [meas]
  split
  · rename_i e0 e1
    have hm : meas p = if p.grp = 0 then 5000 else 4000 := by unfold meas; rw [if_neg e0, if_pos e1]
    rw [hm]
    unfold lookedP
    have hb : ∀ q : PenT, q.grp = p.grp → meas (onP q) < if p.grp = 0 then 5000 else 4000 := by
      intro q hq
      have := meas_on q (by rw [hq]; exact hg)
      have hl := q.left.isLt
      rw [hq] at this
      split at this <;> simp_all <;> omega
    exact hb _ (freeP_grp _ _ _)
  split
  · rename_i e0 e1 e2
    have hl := h.left e2
    have hm : meas p = (if p.grp = 0 then 4000 else 3000) + p.left.toNat := by unfold meas; rw [if_neg e0, if_neg e1, if_pos e2]; split <;> rfl
    rw [hm]
    split
    · show meas { p with slot := _, ph := 3 } < _
      have : meas { p with slot := ((8 * groupP p + laneP p.left : Nat) : Int), ph := 3 } = 11 := rfl
      rw [this]; split <;> omega
    · have h1 := meas_on { p with left := p.left &&& ~~~(1#8 <<< laneP p.left) } hg
      have h2 := left_less hl
      have h3 : meas (onP { p with left := p.left &&& ~~~(1#8 <<< laneP p.left) }) ≤ (if p.grp = 0 then 4000 else 3000) + (p.left &&& ~~~(1#8 <<< laneP p.left)).toNat := h1
      omega
  split
  · rename_i e0 e1 e2 e3
    have hm : meas p = 11 := by unfold meas; rw [if_neg e0, if_neg e1, if_neg e2, e3]; rfl
    have := meas_decided { p with val := w, found := true }
    omega
  split
  · rename_i e0 e1 e2 e3 e4
    have hm : meas p = 10 := by unfold meas; rw [if_neg e0, if_neg e1, if_neg e2, e4]; rfl
    rw [hm]
    split <;> (unfold meas; simp)
  split
  · rename_i e0 e1 e2 e3 e4 e5
    have hm : meas p = 9 := by unfold meas; rw [if_neg e0, if_neg e1, if_neg e2, e5]; rfl
    rw [hm]
    unfold meas; simp
  · rename_i e0 e1 e2 e3 e4 e5
    have hm : meas p = (14 - p.ph).toNat := by unfold meas; rw [if_neg e0, if_neg e1, if_neg e2]
    have hn := nextP_cases (wantsP p) p.ph
    have hm2 : meas { p with ph := nextP (wantsP p) p.ph } = (14 - nextP (wantsP p) p.ph).toNat := by
      unfold meas
      rw [if_neg (by show ¬ nextP _ _ = 0; omega), if_neg (by show ¬ nextP _ _ = 1; omega), if_neg (by show ¬ nextP _ _ = 2; omega)]
    rw [hm, hm2]
    omega
theorem slotP_range {p : PenT} (h : RightP p) (h4 : 4 ≤ p.ph) (h13 : p.ph ≤ 13) : 0 ≤ slotP p ∧ slotP p ≤ 15 := by
  have := h.goes
  have h1 := h.slot0
  have h2 := h.slot1
  have h3 := h.free1
  unfold slotP
  split
  · rename_i e
    have e' : wantsP p = 1 := by simpa using e
    omega
  · omega
theorem wordP_range {p : PenT} (h : RightP p) (h13 : p.ph ≤ 13) : 0 ≤ wordP p ∧ wordP p < 38 := by
  have hg := groupP_lt p
  have hl := laneP_lt p.left
  have h0 := h.ph0
  have h1 := h.slot0
  have h2 := h.slot1
  have hs : 4 ≤ p.ph → 0 ≤ slotP p ∧ slotP p ≤ 15 := fun e => slotP_range h e h13
  unfold wordP
  repeat' split
  all_goals omega
end Go.Proofs.Hc
