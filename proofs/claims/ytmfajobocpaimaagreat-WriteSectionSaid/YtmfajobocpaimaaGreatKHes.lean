/- Who opens closes: plain law of a pen's section. No program in sight. -/
import Derived.Test.YtmfajobocpaimaaGreatKHmet
import Derived.Test.YtmfajobocpaimaaGreatKHcg
import Derived.Test.YtmfajobocpaimaaGreatKHcs
import Derived.Test.YtmfajobocpaimaaGreatKHdh
import Derived.Test.YtmfajobocpaimaaGreatKHds
import Derived.Test.YtmfajobocpaimaaGreatKHdv
import Derived.Test.YtmfajobocpaimaaGreatKHm
import Derived.Test.YtmfajobocpaimaaGreatKHma
import Derived.Test.YtmfajobocpaimaaGreatKHnl
import Derived.Test.YtmfajobocpaimaaGreatKHnq
import Derived.Test.YtmfajobocpaimaaGreatKHns
import Derived.Test.YtmfajobocpaimaaGreatKHnt
import Derived.Test.YtmfajobocpaimaaGreatKHpb
import Derived.Test.YtmfajobocpaimaaGreatKHni
import Derived.Test.YtmfajobocpaimaaGreatKHxh
import Derived.Below
import Derived.BigQuiet
import Derived.Deep.Draws
import Derived.Deep.Light
import Derived.Deep.OwnRows
import Derived.Deep.QuietTactic
import Derived.Deep.RegionHeld
import Derived.IntWalk
import Derived.Laws.CopyOwn
import Derived.Laws.CopyRow
import Derived.Laws.StructEq
import Derived.Laws.Tables
import Derived.Lib.AppendZerosOnto
import Derived.Lib.Hide
import Derived.Lib.Tables
import Derived.Lib.Walk
import Derived.LoopIn
import Derived.LoopN
import Derived.LoopNIn
import Derived.Maps.AppendAt
import Derived.Maps.Views
import Derived.OwnWalkIn
import Derived.RangeFuncBox
import Derived.RangeFuncCalls
import Derived.RangeFuncRecord
import Derived.RangeFuncSeq
import Derived.Recover
import Derived.RegionTactic
import Derived.ScopeJumps
import Derived.Shelf.Slices.Clone
import Derived.StillTail
import Derived.StillTailTactics
import Derived.TacticsInMore
import Derived.Test.YtmfajobocpaimaaGreatProg
import Derived.WalkKit
import Derived.WalkLawsBesides
import Derived.WalkMore
import Derived.WalkSpells
import Derived.ChangeKeysEq
import Derived.Deep.Slices
import Derived.OpenShut
import Derived.ProofKit
set_option linter.unusedSimpArgs false
set_option linter.unusedVariables false
namespace Go.Proofs.Hc
open Go.RowKit
/-- How many lanes a mask has. -/
def popM (m : BitVec 8) : Nat := (List.range 8).countP fun i => m.getLsbD i
theorem popM_le : ∀ m : BitVec 8, popM m ≤ 8 := by decide +kernel
theorem popM_pos : ∀ m : BitVec 8, m ≠ 0#8 → 1 ≤ popM m := by decide +kernel
theorem popM_less {m : BitVec 8} (h : m ≠ 0#8) : popM (m &&& ~~~(1#8 <<< laneP m)) < popM m := by
  have key : ∀ (m : BitVec 8) (n : Nat), n < 8 → m.getLsbD n = true → popM (m &&& ~~~(1#8 <<< n)) < popM m := by decide +kernel
  exact key m (laneP m) (laneP_lt m) (laneP_bit h)
/-- How many accesses it still makes, at most. -/
def meas2 (p : PenT) : Nat :=
  if p.ph = 0 then 30 else if p.ph = 1 then (if p.grp = 0 then 29 else 20) else if p.ph = 2 then (if p.grp = 0 then 20 else 11) + popM p.left else (14 - p.ph).toNat
theorem meas2_decided (p : PenT) : meas2 (decidedP p) ≤ 10 := by
  have hc : (decidedP p).ph = 14 ∨ (decidedP p).ph = 16 ∨ (decidedP p).ph = 6 ∨ (decidedP p).ph = 4 := by
    show (if wantsP p = 0 then (14 : Int) else if wantsP p = 2 then 6 else if wantsP p = 1 ∧ p.free = 0 then 16 else 4) = 14 ∨ (if wantsP p = 0 then (14 : Int) else if wantsP p = 2 then 6 else if wantsP p = 1 ∧ p.free = 0 then 16 else 4) = 16 ∨ (if wantsP p = 0 then (14 : Int) else if wantsP p = 2 then 6 else if wantsP p = 1 ∧ p.free = 0 then 16 else 4) = 6 ∨ (if wantsP p = 0 then (14 : Int) else if wantsP p = 2 then 6 else if wantsP p = 1 ∧ p.free = 0 then 16 else 4) = 4
    repeat' split
    all_goals omega
  unfold meas2
  rcases hc with e | e | e | e <;> (rw [e]; simp)
theorem meas2_on (p : PenT) (hg : p.grp = 0 ∨ p.grp = 1) : meas2 (onP p) ≤ (if p.grp = 0 then 20 else 11) + popM p.left := by
  unfold onP
  split
  · unfold meas2; rcases hg with e | e <;> simp [e]
  · split
    · have := meas2_decided p; split <;> omega
    · rename_i h1 h2
      have hg0 : p.grp = 0 := by rcases hg with e | e; exact e; simp [e] at h2
      simp [meas2, hg0]
theorem meas2_take {p : PenT} (h : RightP p) (hph : p.ph ≤ 13) (w : BitVec 64) : meas2 (takeP p w) < meas2 p := by
  have hg := h.grp
  have h0 := h.ph0
  unfold takeP
  split
  · rename_i e0
    have hm : meas2 p = 30 := by unfold meas2; rw [if_pos e0]
    rw [hm]
    split
    · show (if (15 : Int) = 0 then 30 else _) < 30; simp [meas2]
    · simp [meas2]
  split
  · rename_i e0 e1
    have hm : meas2 p = if p.grp = 0 then 29 else 20 := by unfold meas2; rw [if_neg e0, if_pos e1]
    rw [hm]
    unfold lookedP
    have hb : ∀ q : PenT, q.grp = p.grp → meas2 (onP q) < if p.grp = 0 then 29 else 20 := by
      intro q hq
      have := meas2_on q (by rw [hq]; exact hg)
      have hl := popM_le q.left
      rw [hq] at this
      split at this <;> simp_all <;> omega
    exact hb _ (freeP_grp _ _ _)
  split
  · rename_i e0 e1 e2
    have hl := h.left e2
    have hm : meas2 p = (if p.grp = 0 then 20 else 11) + popM p.left := by unfold meas2; rw [if_neg e0, if_neg e1, if_pos e2]
    rw [hm]
    split
    · have h1 := popM_pos _ hl
      have : meas2 { p with slot := ((8 * groupP p + laneP p.left : Nat) : Int), ph := 3 } = 11 := rfl
      rw [this]; split <;> omega
    · have h1 := meas2_on { p with left := p.left &&& ~~~(1#8 <<< laneP p.left) } hg
      have h2 := popM_less hl
      have h3 : meas2 (onP { p with left := p.left &&& ~~~(1#8 <<< laneP p.left) }) ≤ (if p.grp = 0 then 20 else 11) + popM (p.left &&& ~~~(1#8 <<< laneP p.left)) := h1
      omega
  split
  · rename_i e0 e1 e2 e3
    have hm : meas2 p = 11 := by unfold meas2; rw [if_neg e0, if_neg e1, if_neg e2, e3]; rfl
    have := meas2_decided { p with val := w, found := true }
    omega
  split
  · rename_i e0 e1 e2 e3 e4
    have hm : meas2 p = 10 := by unfold meas2; rw [if_neg e0, if_neg e1, if_neg e2, e4]; rfl
    rw [hm]
    split <;> (unfold meas2; simp)
  split
  · rename_i e0 e1 e2 e3 e4 e5
    have hm : meas2 p = 9 := by unfold meas2; rw [if_neg e0, if_neg e1, if_neg e2, e5]; rfl
    rw [hm]
    unfold meas2; simp
  · rename_i e0 e1 e2 e3 e4 e5
    have hm : meas2 p = (14 - p.ph).toNat := by unfold meas2; rw [if_neg e0, if_neg e1, if_neg e2]
    have hn := nextP_cases (wantsP p) p.ph
    have hm2 : meas2 { p with ph := nextP (wantsP p) p.ph } = (14 - nextP (wantsP p) p.ph).toNat := by
      unfold meas2
      rw [if_neg (by show ¬ nextP _ _ = 0; omega), if_neg (by show ¬ nextP _ _ = 1; omega), if_neg (by show ¬ nextP _ _ = 2; omega)]
    rw [hm, hm2]
    omega
/-- Does it take effect with its next access? -/
def effB (p : PenT) : Bool := p.ph == 12 || p.ph == 8 && wantsP p == 2
theorem onP_count (p : PenT) : (onP p).count = p.count := by
  unfold onP
  split
  · rfl
  · split <;> rfl
theorem freeP_count (p : PenT) (w : BitVec 64) (o : Option Nat) : (freeP p w o).count = p.count := by
  cases o with
  | none => rfl
  | some x =>
    by_cases h : p.free = 0
    · rw [freeP_put p w x h]
    · rw [freeP_kept p w _ h]
theorem decidedP_phs (p : PenT) : (decidedP p).ph = 14 ∨ (decidedP p).ph = 16 ∨ (decidedP p).ph = 6 ∨ (decidedP p).ph = 4 := by
  show (if wantsP p = 0 then (14 : Int) else if wantsP p = 2 then 6 else if wantsP p = 1 ∧ p.free = 0 then 16 else 4) = 14 ∨ (if wantsP p = 0 then (14 : Int) else if wantsP p = 2 then 6 else if wantsP p = 1 ∧ p.free = 0 then 16 else 4) = 16 ∨ (if wantsP p = 0 then (14 : Int) else if wantsP p = 2 then 6 else if wantsP p = 1 ∧ p.free = 0 then 16 else 4) = 6 ∨ (if wantsP p = 0 then (14 : Int) else if wantsP p = 2 then 6 else if wantsP p = 1 ∧ p.free = 0 then 16 else 4) = 4
  repeat' split
  all_goals omega
theorem onP_phs (p : PenT) : 1 ≤ (onP p).ph ∧ (onP p).ph ≤ 6 ∨ 14 ≤ (onP p).ph := by
  unfold onP
  split
  · left; show (1 : Int) ≤ 2 ∧ (2 : Int) ≤ 6; omega
  · split
    · have := decidedP_phs p; omega
    · left; show (1 : Int) ≤ 1 ∧ (1 : Int) ≤ 6; omega
theorem take_low {p : PenT} (h1 : 1 ≤ p.ph) (h5 : p.ph ≤ 5) (w : BitVec 64) : (takeP p w).count = p.count ∧ (1 ≤ (takeP p w).ph ∧ (takeP p w).ph ≤ 6 ∨ 14 ≤ (takeP p w).ph) := by
  unfold takeP
  rw [if_neg (by omega)]
  split
  · unfold lookedP
    exact ⟨by rw [onP_count, freeP_count]; rfl, onP_phs _⟩
  split
  · split
    · exact ⟨rfl, .inl (by show (1 : Int) ≤ 3 ∧ (3 : Int) ≤ 6; omega)⟩
    · exact ⟨onP_count _, onP_phs _⟩
  split
  · have := decidedP_phs { p with val := w, found := true }
    exact ⟨rfl, by omega⟩
  split
  · refine ⟨rfl, ?_⟩
    show 1 ≤ (if _ then (16 : Int) else 5) ∧ (if _ then (16 : Int) else 5) ≤ 6 ∨ 14 ≤ (if _ then (16 : Int) else 5)
    split <;> omega
  · rw [if_pos (by omega)]
    exact ⟨rfl, .inl (by show (1 : Int) ≤ 6 ∧ (6 : Int) ≤ 6; omega)⟩
/-- Where one stands who writes in a section: the words, the pen, how often it took effect. -/
structure SecI (L0 : List (BitVec 64)) (B : Nat) (c0 : BitVec 64) (sl : Int) (l : List (BitVec 64)) (p : PenT) (eff : Nat) : Prop where
  right : rightP p = true
  psl : p.sl = sl
  len : l.length = L0.length
  st : (p.ph = 0 ∧ l = L0 ∧ eff = 0) ∨ (1 ≤ p.ph ∧ p.ph ≤ 6 ∧ p.count = c0 ∧ l = L0 ∧ eff = 0) ∨ (7 ≤ p.ph ∧ p.ph ≤ 13 ∧ p.count = c0 ∧ l[B]? = some (c0 + 1#64) ∧ eff = (if p.ph = 13 then 1 else 0)) ∨ (14 ≤ p.ph ∧ (l = L0 ∧ eff = 0 ∨ l[B]? = some (c0 + 2#64) ∧ eff = 1))
theorem SecI.step {L0 l : List (BitVec 64)} {B : Nat} {c0 : BitVec 64} {sl : Int} {p : PenT} {eff : Nat} (h : SecI L0 B c0 sl l p eff) (h13 : p.ph ≤ 13) (s0 : 0 ≤ sl) (hfit : 56 + 40 * sl ≤ (L0.length : Int)) (hB : (16 + 40 * sl).toNat = B) (hc : L0[B]? = some c0) (hev : oddB c0 = false) :
    ∃ a y, needP p = some a ∧ doP l a = some y ∧ stepP l p = some (y.1, takeP p y.2) ∧ SecI L0 B c0 sl y.1 (takeP p y.2) (eff + if effB p then 1 else 0) ∧ meas2 (takeP p y.2) < meas2 p ∧ (a.kind = 1 ∨ a.at_ = (B : Int) ∨ 7 ≤ p.ph) := by
  obtain ⟨hr, hsl, hlen, hst⟩ := h
  obtain ⟨a, y, ha, hy, hs, hyl, hr', -⟩ := stepP_goes hr h13 (l := l) (by rw [hsl, hlen]; exact hfit)
  have R := (rightP_iff p).1 hr
  have hm := meas2_take R h13 y.2
  have hsl' : (takeP p y.2).sl = sl := by rw [takeP_sl, hsl]
  have hlen' : y.1.length = L0.length := hyl.trans hlen
  have hae : a = if p.ph = 12 then ⟨4, 1, byP (wantsP p)⟩ else ⟨if 5 < p.ph then 2 else 1, 16 + 40 * p.sl + wordP p, if 5 < p.ph then whatP p else 0#64⟩ := by
    have := ha
    unfold needP at this
    rw [if_pos (by simp [hr, h13])] at this
    exact (Option.some.inj this).symm
  have hdo := hy
  unfold doP at hdo
  rcases hst with ⟨h0, rfl, rfl⟩ | ⟨h1, h6, hcnt, rfl, rfl⟩ | ⟨h7, h13', hcnt, hlB, rfl⟩ | ⟨h14, _⟩
  · rw [if_neg (by omega)] at hae
    have hw : wordP p = 0 := by unfold wordP; rw [if_pos (.inl h0)]
    have hat : a.at_.toNat = B := by rw [hae]; show (16 + 40 * p.sl + wordP p).toNat = B; rw [hw, hsl, ← hB, Int.add_zero]
    have hk : a.kind = 1 := by rw [hae]; show (if 5 < p.ph then (2 : Int) else 1) = 1; rw [if_neg (by omega)]
    rw [hat, hc] at hdo
    dsimp only at hdo
    rw [if_pos hk] at hdo
    have hdo := Option.some.inj hdo
    subst hdo
    refine ⟨a, _, ha, hy, hs, ⟨hr', hsl', hlen', .inr (.inl ?_)⟩, hm, .inl hk⟩
    have ht : takeP p c0 = { p with count := c0, grp := 0, ph := 1 } := by unfold takeP; rw [if_pos h0, hev, if_neg (by decide)]
    have he : effB p = false := by unfold effB; simp [h0]
    dsimp only
    rw [ht, he]
    exact ⟨by show (1 : Int) ≤ 1; omega, by show (1 : Int) ≤ 6; omega, rfl, rfl, rfl⟩
  · rw [if_neg (by omega)] at hae
    have he : effB p = false := by unfold effB; simp; omega
    by_cases h5 : p.ph ≤ 5
    · have hk : a.kind = 1 := by rw [hae]; show (if 5 < p.ph then (2 : Int) else 1) = 1; rw [if_neg (by omega)]
      split at hdo
      · cases hdo
      · rename_i x hx
        rw [if_pos hk] at hdo
        have hdo := Option.some.inj hdo
        subst hdo
        obtain ⟨hc', hph'⟩ := take_low h1 h5 x
        refine ⟨a, _, ha, hy, hs, ⟨hr', hsl', hlen', ?_⟩, hm, .inl hk⟩
        dsimp only
        rw [he]
        rcases hph' with ⟨g1, g6⟩ | g14
        · exact .inr (.inl ⟨g1, g6, hc'.trans hcnt, rfl, rfl⟩)
        · exact .inr (.inr (.inr ⟨g14, .inl ⟨rfl, rfl⟩⟩))
    · have hph : p.ph = 6 := by omega
      have hw : wordP p = 0 := by unfold wordP; rw [if_pos (.inr (.inl hph))]
      have hat : a.at_ = (B : Int) := by rw [hae]; show 16 + 40 * p.sl + wordP p = B; rw [hw, hsl]; omega
      have hk : a.kind = 2 := by rw [hae]; show (if 5 < p.ph then (2 : Int) else 1) = 2; rw [if_pos (by omega)]
      have hn : a.new = c0 + 1#64 := by rw [hae]; show (if 5 < p.ph then whatP p else 0#64) = _; rw [if_pos (by omega)]; unfold whatP; rw [if_pos hph, hcnt]
      rw [hat] at hdo
      rw [show ((B : Int)).toNat = B by omega, hc] at hdo
      dsimp only at hdo
      rw [hk, if_neg (by decide), if_pos rfl, hn] at hdo
      have hdo := Option.some.inj hdo
      subst hdo
      refine ⟨a, _, ha, hy, hs, ⟨hr', hsl', hlen', .inr (.inr (.inl ?_))⟩, hm, .inr (.inl hat)⟩
      have ht : takeP p c0 = { p with ph := nextP (wantsP p) p.ph } := takeP_store (by omega) c0
      have hwn : wantsP p = 1 ∨ wantsP p = 2 ∨ wantsP p = 3 := by
        have hg := ((R.goes.resolve_left (by omega)).resolve_left (by omega)).1
        rw [hph] at hg
        rcases wantsP_cases p with e | e | e | e
        · rw [e] at hg; exact absurd hg (by decide)
        · exact .inl e
        · exact .inr (.inl e)
        · exact .inr (.inr e)
      have hnx : nextP (wantsP p) p.ph = 7 ∨ nextP (wantsP p) p.ph = 8 ∨ nextP (wantsP p) p.ph = 9 := by
        rw [hph]
        rcases hwn with e | e | e <;> rw [e] <;> decide
      have hlB : B < l.length := (List.getElem?_eq_some_iff.1 hc).1
      dsimp only
      rw [ht, he]
      refine ⟨by show 7 ≤ nextP _ _; omega, by show nextP _ _ ≤ 13; omega, hcnt, by rw [List.getElem?_set, if_pos rfl, if_pos hlB], ?_⟩
      show 0 + (if false = true then 1 else 0) = if nextP (wantsP p) p.ph = 13 then 1 else 0
      rw [if_neg (by decide), if_neg (by omega)]
  · have hg := ((R.goes.resolve_left (by omega)).resolve_left (by omega)).1
    have hwt := wordP_range R h13
    have hw5 := wantsP_cases p
    have hB1 : 1 < B := by omega
    have hlBl : B < l.length := (List.getElem?_eq_some_iff.1 hlB).1
    by_cases h12 : p.ph = 12
    · rw [if_pos h12] at hae
      rw [hae] at hdo
      dsimp only at hdo
      split at hdo
      · cases hdo
      · rename_i x hx
        rw [if_neg (by decide), if_neg (by decide)] at hdo
        have hdo := Option.some.inj hdo
        subst hdo
        refine ⟨a, _, ha, hy, hs, ⟨hr', hsl', hlen', .inr (.inr (.inl ?_))⟩, hm, .inr (.inr h7)⟩
        have ht : takeP p x = { p with ph := nextP (wantsP p) p.ph } := takeP_store (by omega) x
        have he : effB p = true := by unfold effB; simp [h12]
        have hnx : nextP (wantsP p) p.ph = 13 := by
          rw [h12] at hg ⊢
          rcases hw5 with e | e | e | e <;> rw [e] at hg ⊢ <;> revert hg <;> decide
        dsimp only
        rw [ht, he]
        refine ⟨by show 7 ≤ nextP _ _; omega, by show nextP _ _ ≤ 13; omega, hcnt, by show (l.set 1 _)[B]? = _; rw [List.getElem?_set_ne (by omega)]; exact hlB, ?_⟩
        show (if p.ph = 13 then 1 else 0) + (if true = true then 1 else 0) = if nextP (wantsP p) p.ph = 13 then 1 else 0
        rw [if_neg (by omega), if_pos rfl, if_pos hnx]
    · rw [if_neg h12] at hae
      have hk : a.kind = 2 := by rw [hae]; show (if 5 < p.ph then (2 : Int) else 1) = 2; rw [if_pos (by omega)]
      have hat : a.at_ = 16 + 40 * p.sl + wordP p := by rw [hae]
      have hn : a.new = whatP p := by rw [hae]; show (if 5 < p.ph then whatP p else 0#64) = _; rw [if_pos (by omega)]
      split at hdo
      · cases hdo
      · rename_i x hx
        rw [hk, if_neg (by decide), if_pos rfl, hn, hat] at hdo
        have hdo := Option.some.inj hdo
        subst hdo
        have ht : takeP p x = { p with ph := nextP (wantsP p) p.ph } := takeP_store (by omega) x
        by_cases h13e : p.ph = 13
        · have hw : wordP p = 0 := by unfold wordP; rw [if_pos (.inr (.inr h13e))]
          have hwh : whatP p = c0 + 2#64 := by unfold whatP; rw [if_neg (by omega), if_pos h13e, hcnt]
          have hi : (16 + 40 * p.sl + wordP p).toNat = B := by rw [hw, hsl, ← hB, Int.add_zero]
          have he : effB p = false := by unfold effB; simp; omega
          have hnx : nextP (wantsP p) p.ph = 14 := by
            rw [h13e] at hg ⊢
            rcases hw5 with e | e | e | e <;> rw [e] at hg ⊢ <;> revert hg <;> decide
          refine ⟨a, _, ha, hy, hs, ⟨hr', hsl', hlen', .inr (.inr (.inr ?_))⟩, hm, .inr (.inr h7)⟩
          dsimp only
          rw [ht, he, hi, hwh]
          refine ⟨by show 14 ≤ nextP _ _; omega, .inr ⟨by rw [List.getElem?_set, if_pos rfl, if_pos hlBl], ?_⟩⟩
          rw [if_pos h13e, if_neg (by decide)]
        · have hi : (16 + 40 * p.sl + wordP p).toNat ≠ B := by
            have hw2 : 2 ≤ wordP p := by
              have hs := slotP_range R (by omega) (by omega)
              unfold wordP
              rw [if_neg (by omega), if_neg (by omega), if_neg (by omega), if_neg (by omega)]
              repeat' split
              all_goals omega
            rw [hsl]; omega
          have hnx : (nextP (wantsP p) p.ph = 13 ∧ p.ph = 8 ∧ wantsP p = 2) ∨ (7 ≤ nextP (wantsP p) p.ph ∧ nextP (wantsP p) p.ph ≤ 12 ∧ ¬ (p.ph = 8 ∧ wantsP p = 2)) := by
            have hcase : p.ph = 7 ∨ p.ph = 8 ∨ p.ph = 9 ∨ p.ph = 10 ∨ p.ph = 11 := by omega
            rcases hcase with e | e | e | e | e <;> rw [e] at hg ⊢ <;> rcases hw5 with f | f | f | f <;> rw [f] at hg ⊢ <;> revert hg <;> decide
          refine ⟨a, _, ha, hy, hs, ⟨hr', hsl', hlen', .inr (.inr (.inl ?_))⟩, hm, .inr (.inr h7)⟩
          dsimp only
          rw [ht]
          refine ⟨by show 7 ≤ nextP _ _; omega, by show nextP _ _ ≤ 13; omega, hcnt, by rw [List.getElem?_set_ne hi]; exact hlB, ?_⟩
          show (if p.ph = 13 then 1 else 0) + (if effB p = true then 1 else 0) = if nextP (wantsP p) p.ph = 13 then 1 else 0
          rw [if_neg h13e]
          rcases hnx with ⟨e, e8, e2⟩ | ⟨_, e12, hne⟩
          · have he : effB p = true := by unfold effB; simp [e8, e2]
            rw [he, if_pos rfl, if_pos e]
          · have he : effB p = false := by
              unfold effB
              simp only [Bool.or_eq_false_iff, Bool.and_eq_false_iff, beq_eq_false_iff_ne]
              refine ⟨h12, ?_⟩
              by_cases e8 : p.ph = 8
              · exact .inr fun e2 => hne ⟨e8, e2⟩
              · exact .inl e8
            rw [he, if_neg (by decide), if_neg (by omega)]
  · omega
end Go.Proofs.Hc
/- Package write: Effect; slices.Equal at rows that differ. -/
namespace Go.Proofs.Hc
open Go.RowKit
attribute [local go_sem] wrap_u64 wrap_u8 bits_xor64 bits_and64 bits_or64 bits_not64 bits_xor8 bits_and8 bits_or8 signed64 signed8 ofInt_N BitVec.ofInt_add BitVec.ofInt_mul ofInt_sub' ofInt8_N64 ofInt64_N8 wide8 eqN neN shr_pow shr1 shr7 shr56
attribute [local go_sem high] bits_com64 shl_wrap
attribute [local go_sem] cell_heap ice_heap cellAt_cells iceAt_cells setAt_cells rowAt_cells canLay_cells laidAt_cells size_onObj size_setCell rowRes_some layRes_true
attribute [local go_sem] load26 load73 load23 store26 build73
attribute [local go_sem ↓] lrow26 lrow73 lrow23 srow26 zero26 brow73 heap_alloc heap_drew heap_drewN heap_setCell heap_onObj
attribute [local go_sem] tcells_size hcells_size tcells_get hcells_get tcells_one hcells_one hcells_table tcells_table hcells_all hcells_ctrl tcells_ctrl
attribute [local go_sem] nn2 nm2 nn3 nm3 nn4 nm4 nn5 nm5 nn6 nm6 nn7 nm7 nn8 nm8
attribute [local go_sem] nn2 nm2 nn3 nm3 nn4 nm4 nn5 nm5 nn6 nm6 nn7 nm7 nn8 nm8
attribute [local go_sem] ofInt_N ofInt_pow8
attribute [local go_sem] Oper.semAt_some make_func1
attribute [local go_sem] pen_g0 pen_g1 pen_g2 pen_g3 pen_g4 pen_g5 pen_g6 pen_g7 pen_g8 pen_g9 pen_g10 pen_g11 pen_g12 pen_g13 pen_g14 pen_g15 pen_g16 pen_g17 penC_size penC_one penC_all
attribute [local irreducible] penC
attribute [local go_sem] pen_s0 pen_s1 pen_s2 pen_s3 pen_s4 pen_s5 pen_s6 pen_s7 pen_s8 pen_s9 pen_s10 pen_s11 pen_s12 pen_s13 pen_s14 pen_s15 pen_s16 pen_s17
attribute [local go_sem] build170 box170 boxPen loadPen storePen buildPen0
attribute [local go_sem ↓] brow170 lrowPen srowPen wzeroPen_run browPen
attribute [local go_sem high] wlaidAt_pen
set_option maxHeartbeats 2000000 in
set_option maxRecDepth 100000 in
theorem effect_any (p : PenT) (hr : rightP p = true) (w : World) : Calls Tryz.prog 58 #[.agg (penC p)] w fun e w' => e = .returned (.bool (effB p)) ∧ Ch [] w w' := by
  have K1 := fun w => check_pen p w
  rw [checkV_yes hr] at K1
  have C0 : Ch [] w (w.alloc (.cells (penC p) 71)) := (Ch.refl [] w).alloc _
  have b0 : (w.alloc (.cells (penC p) 71)).heap[w.heap.size]? = some (.cells (penC p) 71 (0, 0)) := by rw [heap_alloc, if_pos rfl]
  have T1 := fun g w hg => wants_any p g w hg
  have hE : effB p = (p.ph == 12 || p.ph == 8 && wantsP p == 2) := rfl
  obtain ⟨n, hn⟩ : ∃ n, wantsP p = n := ⟨_, rfl⟩
  rw [hn] at T1 hE
  have HE := Lib.hid hE
  have hn3 : (n : Int) ≤ 3 := by have := wantsP_le p; omega
  clear hr hE hn
  cases h12 : (p.ph == 12) with
  | true =>
    go_enter Tryz.func58, Tryz.ntmps58
    go_wp2_with fail
    obtain ⟨w0, hw0⟩ : ∃ W, w.alloc (.cells (penC p) 71) = W := ⟨_, rfl⟩
    rw [hw0] at C0 b0 ⊢
    clear hw0
    refine (K1 _).mono ?_
    rintro e w1 ⟨rfl, hc1⟩
    have b1 := hkeep hc1 b0
    have C1 := C0.trans hc1
    clear b0 C0 hc1
    go_wp2
    go_ret
    exact ⟨by rw [HE.out, h12]; rfl, C1⟩
  | false =>
    cases h8 : (p.ph == 8) with
    | false =>
      go_enter Tryz.func58, Tryz.ntmps58
      go_wp2_with fail
      obtain ⟨w0, hw0⟩ : ∃ W, w.alloc (.cells (penC p) 71) = W := ⟨_, rfl⟩
      rw [hw0] at C0 b0 ⊢
      clear hw0
      refine (K1 _).mono ?_
      rintro e w1 ⟨rfl, hc1⟩
      have b1 := hkeep hc1 b0
      have C1 := C0.trans hc1
      clear b0 C0 hc1
      go_wp2
      go_ret
      exact ⟨by rw [HE.out, h12, h8]; rfl, C1⟩
    | true =>
      have h2 : ((n : Int) == 2) = (n == 2) := by rw [Bool.eq_iff_iff]; simp; omega
      cases hn2 : (n == 2)
      all_goals
        rw [hn2] at h2
        go_enter Tryz.func58, Tryz.ntmps58
        go_wp2_with fail
        obtain ⟨w0, hw0⟩ : ∃ W, w.alloc (.cells (penC p) 71) = W := ⟨_, rfl⟩
        rw [hw0] at C0 b0 ⊢
        clear hw0
        refine (K1 _).mono ?_
        rintro e w1 ⟨rfl, hc1⟩
        have b1 := hkeep hc1 b0
        have C1 := C0.trans hc1
        clear b0 C0 hc1
        go_wp2_with fail
        have g2 : (w1.alloc (.cells (penC p) 170)).heap[w1.heap.size]? = some (.cells (penC p) 170 (0, 0)) := by rw [heap_alloc, if_pos rfl]
        have C2 : Ch [] w (w1.alloc (.cells (penC p) 170)) := C1.alloc _
        refine (T1 _ _ g2).mono ?_
        rintro e w3 ⟨rfl, hc3⟩
        go_wp2
        go_ret
        exact ⟨by rw [HE.out, h12, h8, hn2]; rfl, C2.trans hc3⟩
theorem first_diff : ∀ (l1 l2 : List (BitVec 64)), l1.length = l2.length → l1 ≠ l2 → ∃ (d : Nat) (x y : BitVec 64), l1[d]? = some x ∧ l2[d]? = some y ∧ x ≠ y ∧ ∀ j : Nat, j < d → l1[j]? = l2[j]?
  | [], [], _, h => absurd rfl h
  | a :: l1, b :: l2, hl, h => by
    by_cases hab : a = b
    · subst hab
      obtain ⟨d, x, y, h1, h2, h3, h4⟩ := first_diff l1 l2 (by simpa using hl) (fun e => h (by rw [e]))
      refine ⟨d + 1, x, y, by simpa using h1, by simpa using h2, h3, fun j hj => ?_⟩
      cases j with
      | zero => rfl
      | succ j => simpa using h4 j (by omega)
    · exact ⟨0, a, b, rfl, rfl, hab, fun j hj => by omega⟩
set_option maxHeartbeats 1000000 in
set_option maxRecDepth 100000 in
theorem eq_differ {l m : List (BitVec 64)} {n : Nat} (hn : n ≤ 900000) (hl : l.length = n) (hm : m.length = n) (hne : l ≠ m) (R R2 c d : Nat) (cur cur2 : Array Value) (h1 : WordsAt cur l) (h2 : WordsAt cur2 m) (w : World) (hb : w.heap[R]? = some (.cells cur 22 (0, 0))) (hb2 : w.heap[R2]? = some (.cells cur2 22 (0, 0))) :
    Calls Tryz.prog 46 #[.slice (some ⟨R, 0, none⟩) n c, .slice (some ⟨R2, 0, none⟩) n d] w fun e w' => e = .returned (.bool false) ∧ Ch [] w w' := by
  obtain ⟨f, x, y, hx, hy, hxy, hpre⟩ := first_diff l m (hl.trans hm.symm) hne
  have hfn : f < n := by have := (List.getElem?_eq_some_iff.1 hx).1; omega
  have hxc := h1 f x hx
  have hyc := h2 f y hy
  have hxyb : (x == y) = false := by simpa using hxy
  have hxyn : (x != y) = true := by simpa using hxy
  have HQ : Hid (∀ j, j < f → ∃ z, cur[j]? = some (U z) ∧ cur2[j]? = some (U z)) := Lib.hid (fun j hj => by
    obtain ⟨z, hz⟩ : ∃ z, l[j]? = some z := ⟨l[j]'(by omega), List.getElem?_eq_getElem (by omega)⟩
    exact ⟨z, h1 j z hz, h2 j z (by rw [← hpre j hj]; exact hz)⟩)
  have HX := Lib.hid hxc
  have HY := Lib.hid hyc
  have HB := Lib.hid hb
  have HB2 := Lib.hid hb2
  clear h1 h2 hx hy hpre hxc hyc hb hb2 hne hl hm hxy
  go_enter Tryz.func46, Tryz.ntmps46
  go_wp2
  go_loopw [13] (fun i wr => ∃ j : Nat, i = .int .i64 j ∧ j ≤ f ∧ Ch [] w wr) (fun i _ => f - (intOf i).toNat)
  case atStart => exact ⟨0, rfl, Nat.zero_le _, Ch.refl _ _⟩
  case round =>
    obtain ⟨j, hj, hjl, hcr⟩ := hrel
    subst hj
    have hrr : wr.heap[R]? = some (.cells cur 22 (0, 0)) := hkeep hcr HB.out
    have hqq : wr.heap[R2]? = some (.cells cur2 22 (0, 0)) := hkeep hcr HB2.out
    have hdec : decide (j < n) = true := by simp; omega
    have hjI : (j : Int) < n := by omega
    have hg0 : ∀ g : Gar wr, (g.1).heap[R2]? = some (.cells cur2 22 (0, 0)) := fun g => hkeep g.2 hqq
    have hg1 : ∀ g : Gar wr, (g.1).heap[R]? = some (.cells cur 22 (0, 0)) := fun g => hkeep g.2 hrr
    rcases Nat.lt_or_ge j f with hlt | hge
    · obtain ⟨z, hz1, hz2⟩ := HQ.out j hlt
      clear hjl
      go_wp2
      refine wp_region_gar (by kernel_rfl) (by kernel_rfl) ?_
      repeat (go_big_quiet_step (fail))
      refine wpQuiet_nil ?_
      rintro w1 ⟨g1, hw1⟩
      have hc1 : Ch [] w w1 := hcr.trans (by rw [hw1]; exact g1.2)
      clear hw1 g1 hg0 hg1
      go_wp2
      go_roundw
      case rel => exact ⟨j + 1, by go_num, hlt, hc1⟩
      case measure => simp [intOf]; omega
    · have hje : j = f := by omega
      have hz1 : cur[j]? = some (U x) := by rw [hje]; exact HX.out
      have hz2 : cur2[j]? = some (U y) := by rw [hje]; exact HY.out
      clear hje
      go_wp2
      refine wp_region_gar (by kernel_rfl) (by kernel_rfl) ?_
      repeat (go_big_quiet_step (fail))
      refine wpQuiet_nil ?_
      rintro w1 ⟨g1, hw1⟩
      have hc1 : Ch [] w w1 := hcr.trans (by rw [hw1]; exact g1.2)
      clear hw1 g1 hg0 hg1
      go_wp2
      go_ret
      exact ⟨rfl, hc1⟩
end Go.Proofs.Hc
