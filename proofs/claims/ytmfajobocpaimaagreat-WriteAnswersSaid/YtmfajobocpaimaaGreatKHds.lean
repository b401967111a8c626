/- One who writes, in cells that hold a table: how the key is looked for. Plain law, no program in sight. -/
import Derived.Test.YtmfajobocpaimaaGreatKHmet
import Derived.Test.YtmfajobocpaimaaGreatKHci
import Derived.Test.YtmfajobocpaimaaGreatKHcs
import Derived.Test.YtmfajobocpaimaaGreatKHdh
import Derived.Test.YtmfajobocpaimaaGreatKHg
import Derived.Test.YtmfajobocpaimaaGreatKHj
import Derived.Test.YtmfajobocpaimaaGreatKHlan
import Derived.Test.YtmfajobocpaimaaGreatKHm
import Derived.Test.YtmfajobocpaimaaGreatKHnl
import Derived.Test.YtmfajobocpaimaaGreatKHye
import Derived.Test.YtmfajobocpaimaaGreatKHpb
import Derived.Test.YtmfajobocpaimaaGreatKHrw
import Derived.Test.YtmfajobocpaimaaGreatKHni
import Derived.Test.YtmfajobocpaimaaGreatKHxh
import Derived.Below
import Derived.BigQuiet
import Derived.Deep.Draws
import Derived.Deep.Light
import Derived.Deep.OwnRows
import Derived.Deep.QuietTactic
import Derived.Deep.RegionHeld
import Derived.IntWalk
import Derived.Laws.CopyOwn
import Derived.Laws.CopyRow
import Derived.Laws.StructEq
import Derived.Laws.Tables
import Derived.Lib.AppendZerosOnto
import Derived.Lib.Hide
import Derived.Lib.Tables
import Derived.Lib.Walk
import Derived.LoopIn
import Derived.LoopN
import Derived.LoopNIn
import Derived.Maps.AppendAt
import Derived.Maps.Views
import Derived.OwnWalkIn
import Derived.RangeFuncBox
import Derived.RangeFuncCalls
import Derived.RangeFuncRecord
import Derived.RangeFuncSeq
import Derived.Recover
import Derived.RegionTactic
import Derived.ScopeJumps
import Derived.Shelf.Slices.Clone
import Derived.StillTail
import Derived.StillTailTactics
import Derived.TacticsInMore
import Derived.Test.YtmfajobocpaimaaGreatProg
import Derived.WalkKit
import Derived.WalkLawsBesides
import Derived.WalkMore
import Derived.WalkSpells
set_option linter.unusedSimpArgs false
set_option linter.unusedVariables false
namespace Go.Proofs.Hc
open Go.RowKit
/-- The words of a table that one who writes looks at lie at B. -/
structure TabAt (l : List (BitVec 64)) (B : Nat) (t : Tab) : Prop where
  cnt : l[B]? = some t.count
  can : l[B + 2]? = some (BitVec.ofInt 64 t.can)
  live : l[B + 3]? = some (BitVec.ofInt 64 t.live)
  ctrl : ∀ g, g < 2 → l[B + 4 + g]? = some (t.c g)
  key : ∀ j, j < 16 → l[B + 6 + j]? = some (t.k j)
  val : ∀ j, j < 16 → l[B + 22 + j]? = some (t.v j)
/-- The same call, by the same hash, in the same slab. -/
structure Alike (p q : PenT) : Prop where
  sl : p.sl = q.sl
  op : p.op = q.op
  key : p.key = q.key
  a : p.a = q.a
  b : p.b = q.b
  hash : p.hash = q.hash
  count : p.count = q.count
theorem Alike.refl (p : PenT) : Alike p p := ⟨rfl, rfl, rfl, rfl, rfl, rfl, rfl⟩
theorem Alike.trans {p q r : PenT} (h : Alike p q) (g : Alike q r) : Alike p r := ⟨h.sl.trans g.sl, h.op.trans g.op, h.key.trans g.key, h.a.trans g.a, h.b.trans g.b, h.hash.trans g.hash, h.count.trans g.count⟩
section
variable {l l' : List (BitVec 64)} {p p' : PenT} {k : Nat}
theorem RunsTo.load (h : RunsTo l p k l' p') (h0 : 0 ≤ p.ph) (h5 : p.ph ≤ 5) {w : BitVec 64} (hw : l[(16 + 40 * p.sl + wordP p).toNat]? = some w) : ∃ k1, k = k1 + 1 ∧ RunsTo l (takeP p w) k1 l' p' := by
  rcases h.inv with ⟨h13, _⟩ | ⟨a, y, k1, _, hk, ha, hy, hr⟩
  · omega
  · have e : a = ⟨1, 16 + 40 * p.sl + wordP p, 0#64⟩ := by
      have hp := needP_some ha
      unfold needP at ha
      rw [if_pos (by simp [hp.1, hp.2]), if_neg (by omega)] at ha
      have ha := (Option.some.inj ha).symm
      simpa only [show ¬ 5 < p.ph by omega, if_false] using ha
    subst e
    have e2 : doP l ⟨1, 16 + 40 * p.sl + wordP p, 0#64⟩ = some (l, w) := by
      unfold doP; dsimp only; rw [hw]; rfl
    rw [e2] at hy
    have hy := Option.some.inj hy
    subst hy
    exact ⟨k1, hk, hr⟩
theorem takeP_store {p : PenT} (h6 : 6 ≤ p.ph) (w : BitVec 64) : takeP p w = { p with ph := nextP (wantsP p) p.ph } := by
  unfold takeP
  rw [if_neg (by omega), if_neg (by omega), if_neg (by omega), if_neg (by omega), if_neg (by omega), if_neg (by omega)]
theorem RunsTo.store (h : RunsTo l p k l' p') (h6 : 6 ≤ p.ph) (h13 : p.ph ≤ 13) (h12 : p.ph ≠ 12) : ∃ k1, k = k1 + 1 ∧ RunsTo (l.set (16 + 40 * p.sl + wordP p).toNat (whatP p)) { p with ph := nextP (wantsP p) p.ph } k1 l' p' := by
  rcases h.inv with ⟨h13, _⟩ | ⟨a, y, k1, _, hk, ha, hy, hr⟩
  · omega
  · have e : a = ⟨2, 16 + 40 * p.sl + wordP p, whatP p⟩ := by
      have hp := needP_some ha
      unfold needP at ha
      rw [if_pos (by simp [hp.1, hp.2]), if_neg (by omega)] at ha
      have ha := (Option.some.inj ha).symm
      simpa only [show 5 < p.ph by omega, if_true] using ha
    subst e
    unfold doP at hy
    dsimp only at hy
    split at hy
    · cases hy
    · have hy := Option.some.inj hy
      rw [if_neg (by decide), if_pos rfl] at hy
      subst hy
      rw [takeP_store h6] at hr
      exact ⟨k1, hk, hr⟩
theorem RunsTo.add (h : RunsTo l p k l' p') (h12 : p.ph = 12) {x : BitVec 64} (hx : l[1]? = some x) : ∃ k1, k = k1 + 1 ∧ RunsTo (l.set 1 (x + byP (wantsP p))) { p with ph := nextP (wantsP p) p.ph } k1 l' p' := by
  rcases h.inv with ⟨h13, _⟩ | ⟨a, y, k1, _, hk, ha, hy, hr⟩
  · omega
  · have e : a = ⟨4, 1, byP (wantsP p)⟩ := by
      have hp := needP_some ha
      unfold needP at ha
      rw [if_pos (by simp [hp.1, hp.2]), if_pos h12] at ha
      exact (Option.some.inj ha).symm
    subst e
    have e2 : doP l ⟨4, 1, byP (wantsP p)⟩ = some (l.set 1 (x + byP (wantsP p)), x) := by
      unfold doP
      dsimp only
      rw [show (1 : Int).toNat = 1 by rfl, hx]
      dsimp only
      rw [if_neg (by decide), if_neg (by decide)]
    rw [e2] at hy
    have hy := Option.some.inj hy
    subst hy
    rw [takeP_store (by omega)] at hr
    exact ⟨k1, hk, hr⟩
theorem RunsTo.over (h : RunsTo l p k l' p') (h13 : 13 < p.ph) : l' = l ∧ p' = p ∧ k = 0 := by
  rcases h.inv with ⟨_, hk, hl, hp⟩ | ⟨a, y, k1, h2, _⟩
  · exact ⟨hl, hp, hk⟩
  · omega
end
theorem bit_rest : ∀ (m : BitVec 8) (n : Nat), n < 8 → ∀ x : Nat, x < 8 → (m &&& ~~~(1#8 <<< n)).getLsbD x = (m.getLsbD x && x != n) := by
  have h : ∀ n : Nat, n < 8 → ∀ x : Nat, x < 8 → (~~~(1#8 <<< n)).getLsbD x = (x != n) := by decide +kernel
  intro m n hn x hx
  rw [BitVec.getLsbD_and, h n hn x hx]
theorem groupP_like {r q : PenT} (h : r.hash = q.hash) (hg : r.grp = q.grp) : groupP r = groupP q := by unfold groupP; rw [h, hg]
theorem onP_zero {r : PenT} (h : r.left = 0#8) : onP r = if emptyM r.ctrl != 0#8 || r.grp == 1 then decidedP r else { r with grp := 1, ph := 1 } := by
  unfold onP
  rw [if_neg (by rw [h]; decide)]
theorem decidedP_ph (p : PenT) (x : Int) : decidedP { p with ph := x } = decidedP p := rfl
theorem onP_ph {r : PenT} (h : r.left = 0#8) (x : Int) : onP { r with left := 0#8, ph := x } = onP r := by
  rw [onP_zero h, onP_zero (r := { r with left := 0#8, ph := x }) rfl]
  have e : ({ r with left := 0#8, ph := x } : PenT) = { r with ph := x } := by rw [← h]
  rw [e, decidedP_ph]
/-- A group's candidates, one by one. -/
theorem lanes_run {l l' : List (BitVec 64)} {p p' : PenT} {B : Nat} {t : Tab} (hT : TabAt l B t) (hph : p.ph = 2) (hs : 0 ≤ p.sl) (hB : B = (16 + 40 * p.sl).toNat) :
    ∀ (n : Nat) (m : BitVec 8) (k : Nat), m.toNat ≤ n → m ≠ 0#8 → RunsTo l { p with left := m } k l' p' →
      (∃ x m' k1, x < 8 ∧ m.getLsbD x = true ∧ t.k (8 * groupP p + x) = p.key ∧ RunsTo l { p with left := m', slot := ((8 * groupP p + x : Nat) : Int), ph := 3 } k1 l' p') ∨
      ((∀ x, x < 8 → m.getLsbD x = true → t.k (8 * groupP p + x) ≠ p.key) ∧ ∃ k1, RunsTo l (onP { p with left := 0#8, ph := 1 }) k1 l' p') := by
  intro n
  induction n with
  | zero =>
    intro m k hm hm0 _
    exact absurd (BitVec.eq_of_toNat_eq (by simpa using hm)) hm0
  | succ n ih =>
    intro m k hm hm0 h
    have hg := groupP_lt p
    have hl := laneP_lt m
    have hword : wordP { p with left := m } = ((6 + 8 * groupP p + laneP m : Nat) : Int) := by
      unfold wordP
      dsimp only
      rw [if_neg (by omega), if_neg (by omega), if_pos hph]
      rfl
    have hload : l[(16 + 40 * ({ p with left := m } : PenT).sl + wordP { p with left := m }).toNat]? = some (t.k (8 * groupP p + laneP m)) := by
      rw [hword]
      have := hT.key (8 * groupP p + laneP m) (by omega)
      rw [← this]
      congr 1
      subst hB
      show (16 + 40 * p.sl + ((6 + 8 * groupP p + laneP m : Nat) : Int)).toNat = _
      omega
    obtain ⟨k1, rfl, hr⟩ := h.load (by show 0 ≤ p.ph; omega) (by show p.ph ≤ 5; omega) hload
    have htake : takeP { p with left := m } (t.k (8 * groupP p + laneP m)) = if t.k (8 * groupP p + laneP m) == p.key then { p with left := m, slot := ((8 * groupP p + laneP m : Nat) : Int), ph := 3 } else onP { p with left := m &&& ~~~(1#8 <<< laneP m) } := by
      unfold takeP
      dsimp only
      rw [if_neg (by omega), if_neg (by omega), if_pos hph]
      rfl
    rw [htake] at hr
    cases hk : (t.k (8 * groupP p + laneP m) == p.key) with
    | true =>
      rw [hk, if_pos rfl] at hr
      exact .inl ⟨laneP m, m, k1, hl, laneP_bit hm0, by simpa using hk, hr⟩
    | false =>
      rw [hk, if_neg (by decide)] at hr
      have hne : t.k (8 * groupP p + laneP m) ≠ p.key := by simpa using hk
      have hrest := fun x hx => bit_rest m (laneP m) hl x hx
      have hlt := left_less hm0
      generalize m &&& ~~~(1#8 <<< laneP m) = m1 at *
      by_cases h0 : m1 = 0#8
      · subst h0
        refine .inr ⟨fun x hx hb => ?_, k1, hr⟩
        have := hrest x hx
        rw [hb, BitVec.getLsbD_zero] at this
        have hxe : x = laneP m := by simpa using this
        rw [hxe]; exact hne
      · have e : onP { p with left := m1 } = { p with left := m1 } := by
          unfold onP
          rw [if_pos (by simpa using h0)]
          rw [← hph]
        rw [e] at hr
        rcases ih m1 k1 (by omega) h0 hr with ⟨x, m', k2, hx, hb, hk2, hr2⟩ | ⟨hno, k2, hr2⟩
        · refine .inl ⟨x, m', k2, hx, ?_, hk2, hr2⟩
          rw [hrest x hx] at hb
          exact (Bool.and_eq_true_iff.1 hb).1
        · refine .inr ⟨fun x hx hb => ?_, k2, hr2⟩
          by_cases hxe : x = laneP m
          · rw [hxe]; exact hne
          · exact hno x hx (by rw [hrest x hx, hb]; simpa using hxe)
/-- One who looked at a group's control word. -/
def lookR (q : PenT) (c : BitVec 64) : PenT := freeP (seenP q c) c (lanesOf (freeM c)).head?
theorem lookR_keeps (q : PenT) (c : BitVec 64) : Alike (lookR q c) q ∧ (lookR q c).grp = q.grp ∧ (lookR q c).ctrl = c ∧ (lookR q c).left = equalM c (hash2 q.hash) ∧ (lookR q c).found = q.found := by
  unfold lookR
  cases (lanesOf (freeM c)).head? with
  | none => exact ⟨⟨rfl, rfl, rfl, rfl, rfl, rfl, rfl⟩, rfl, rfl, rfl, rfl⟩
  | some x =>
    unfold freeP
    dsimp only
    split <;> exact ⟨⟨rfl, rfl, rfl, rfl, rfl, rfl, rfl⟩, rfl, rfl, rfl, rfl⟩
theorem lookR_free (q : PenT) (c : BitVec 64) : ((lookR q c).free = q.free ∧ (lookR q c).fctrl = q.fctrl ∧ (q.free ≠ 0 ∨ (lanesOf (freeM c)).head? = none)) ∨ ∃ x, q.free = 0 ∧ (lanesOf (freeM c)).head? = some x ∧ (lookR q c).free = ((8 * groupP q + x + 1 : Nat) : Int) ∧ (lookR q c).fctrl = c := by
  unfold lookR
  cases (lanesOf (freeM c)).head? with
  | none => exact .inl ⟨rfl, rfl, .inr rfl⟩
  | some x =>
    unfold freeP
    dsimp only
    by_cases h : q.free = 0
    · rw [if_pos (show (seenP q c).free = 0 from h)]
      exact .inr ⟨x, h, rfl, rfl, rfl⟩
    · rw [if_neg (show ¬ (seenP q c).free = 0 from h)]
      exact .inl ⟨rfl, rfl, .inl h⟩
theorem group_run {l l' : List (BitVec 64)} {q p' : PenT} {B k : Nat} {t : Tab} (hT : TabAt l B t) (hph : q.ph = 1) (hs : 0 ≤ q.sl) (hB : B = (16 + 40 * q.sl).toNat) (h : RunsTo l q k l' p') :
    (∃ x m' k1, x < 8 ∧ bt t (8 * groupP q + x) = hash2 q.hash ∧ t.k (8 * groupP q + x) = q.key ∧ RunsTo l { lookR q (t.c (groupP q)) with left := m', slot := ((8 * groupP q + x : Nat) : Int), ph := 3 } k1 l' p') ∨
    ((∀ x, x < 8 → bt t (8 * groupP q + x) = hash2 q.hash → t.k (8 * groupP q + x) ≠ q.key) ∧ ∃ k1, RunsTo l (onP { lookR q (t.c (groupP q)) with left := 0#8, ph := 1 }) k1 l' p') := by
  have hg := groupP_lt q
  have hword : wordP q = ((4 + groupP q : Nat) : Int) := by
    unfold wordP
    rw [if_neg (by omega), if_pos hph]
  have hload : l[(16 + 40 * q.sl + wordP q).toNat]? = some (t.c (groupP q)) := by
    rw [hword, ← hT.ctrl (groupP q) hg]
    congr 1
    subst hB
    omega
  obtain ⟨k1, rfl, hr⟩ := h.load (by omega) (by omega) hload
  have htake : takeP q (t.c (groupP q)) = onP (lookR q (t.c (groupP q))) := by
    unfold takeP
    rw [if_neg (by omega), if_pos hph]
    unfold lookedP lookR
    exact Eq.refl _
  rw [htake] at hr
  obtain ⟨hal, hgrp, hct, hlf, hfd⟩ := lookR_keeps q (t.c (groupP q))
  have hgg : groupP (lookR q (t.c (groupP q))) = groupP q := groupP_like hal.hash hgrp
  obtain ⟨r, hr0⟩ : ∃ r, lookR q (t.c (groupP q)) = r := ⟨_, rfl⟩
  rw [hr0] at hr hal hgrp hct hlf hfd hgg
  rw [hr0]
  clear hr0 htake
  have hbit : ∀ x, x < 8 → (r.left.getLsbD x = true ↔ bt t (8 * groupP q + x) = hash2 q.hash) := fun x hx => by
    rw [hlf, equalM_bit _ _ x hx, bt_at t _ x hx, beq_iff_eq]
  by_cases h0 : r.left = 0#8
  · refine .inr ⟨fun x hx hb => ?_, k1, ?_⟩
    · have := (hbit x hx).2 hb
      rw [h0, BitVec.getLsbD_zero] at this
      cases this
    · rw [← onP_ph h0 1] at hr
      exact hr
  · have e : onP r = { r with left := r.left, ph := 2 } := by
      unfold onP
      rw [if_pos (by simpa using h0)]
    rw [e] at hr
    obtain ⟨r2, hr2⟩ : ∃ r2 : PenT, r2 = { r with ph := 2 } := ⟨_, rfl⟩
    have e3 : ∀ m : BitVec 8, ({ r with left := m, ph := 2 } : PenT) = { r2 with left := m } := fun m => by rw [hr2]
    have e4 : ∀ (m : BitVec 8) (x : Int), ({ r2 with left := m, slot := x, ph := 3 } : PenT) = { r with left := m, slot := x, ph := 3 } := fun m x => by rw [hr2]
    have e5 : ({ r2 with left := 0#8, ph := 1 } : PenT) = { r with left := 0#8, ph := 1 } := by rw [hr2]
    have hph2 : r2.ph = 2 := by rw [hr2]
    have hsl2 : r2.sl = q.sl := by rw [hr2]; exact hal.sl
    have hgr2 : groupP r2 = groupP q := by rw [← hgg]; exact groupP_like (by rw [hr2]) (by rw [hr2])
    have hh2 : r2.key = q.key := by rw [hr2]; exact hal.key
    clear hr2
    rw [e3] at hr
    have := lanes_run hT hph2 (by rw [hsl2]; exact hs) (by rw [hsl2]; exact hB) r.left.toNat r.left k1 (Nat.le_refl _) h0 hr
    rw [hgr2] at this
    rcases this with ⟨x, m', k2, hx, hb, hk2, hr2⟩ | ⟨hno, k2, hr2⟩
    · rw [e4] at hr2
      exact .inl ⟨x, m', k2, hx, (hbit x hx).1 hb, hk2.trans hh2, hr2⟩
    · rw [e5] at hr2
      exact .inr ⟨fun x hx hb => hh2 ▸ hno x hx ((hbit x hx).2 hb), k2, hr2⟩
end Go.Proofs.Hc
/- One who writes, in cells that hold a table: what it comes to. Plain law, no program in sight. -/
namespace Go.Proofs.Hc
open Go.RowKit
/-- The free slot that was found, if one was. -/
def FreeIs (p : PenT) (t : Tab) : Option (Nat × Nat) → Prop
  | none => p.free = 0
  | some y => p.free = ((8 * y.1 + y.2 + 1 : Nat) : Int) ∧ p.fctrl = t.c y.1
theorem freeIs_look {q : PenT} {t : Tab} {o : Option (Nat × Nat)} (h : FreeIs q t o) : FreeIs (lookR q (t.c (groupP q))) t (o.or (freeIn t (groupP q))) := by
  rw [freeIn_eq]
  rcases lookR_free q (t.c (groupP q)) with ⟨h1, h2, h3⟩ | ⟨x, h0, hx, h1, h2⟩
  · cases o with
    | none =>
      have h0 : q.free = 0 := h
      rcases h3 with h3 | h3
      · exact absurd h0 h3
      · rw [h3]; exact h1.trans h0
    | some y => exact ⟨h1.trans h.1, h2.trans h.2⟩
  · cases o with
    | none => rw [hx]; exact ⟨h1, h2⟩
    | some y => have := h.1; omega
theorem freeAt_cons (t : Tab) (g : Nat) (l : List Nat) : freeAt t (g :: l) = (freeIn t g).or (freeAt t l) := by
  rw [freeAt, List.findSome?_cons, freeAt]
  cases freeIn t g <;> rfl
theorem freeAt_nil (t : Tab) : freeAt t [] = none := by rw [freeAt]; rfl
theorem val_run {l l' : List (BitVec 64)} {p p' : PenT} {B k j : Nat} {t : Tab} (hT : TabAt l B t) (hph : p.ph = 3) (hs : 0 ≤ p.sl) (hB : B = (16 + 40 * p.sl).toNat) (hj : j < 16) (hsl : p.slot = (j : Int)) (h : RunsTo l p k l' p') :
    ∃ k1, RunsTo l (decidedP { p with val := t.v j, found := true }) k1 l' p' := by
  have hload : l[(16 + 40 * p.sl + wordP p).toNat]? = some (t.v j) := by
    have hw : wordP p = 22 + p.slot := by unfold wordP; rw [if_neg (by omega), if_neg (by omega), if_neg (by omega), if_pos hph]
    rw [hw, ← hT.val j hj]
    congr 1
    subst hB
    omega
  obtain ⟨k1, rfl, hr⟩ := h.load (by omega) (by omega) hload
  have htake : takeP p (t.v j) = decidedP { p with val := t.v j, found := true } := by
    unfold takeP
    rw [if_neg (by omega), if_neg (by omega), if_neg (by omega), if_pos hph]
  rw [htake] at hr
  exact ⟨k1, hr⟩
/-- The key was found: what is decided on. -/
structure HitP (p q : PenT) (t : Tab) (j : Nat) : Prop where
  alike : Alike p q
  found : p.found = true
  val : p.val = t.v j
  slot : p.slot = (j : Int)
  ctrl : p.ctrl = t.c (j / 8)
theorem find_run {l l' : List (BitVec 64)} {q p' : PenT} {B k : Nat} {t : Tab} {s : BitVec 64} (hT : TabAt l B t) (hph : q.ph = 1) (hgr : q.grp = 0) (hfr : q.free = 0) (hfd : q.found = false) (hs : 0 ≤ q.sl) (hB : B = (16 + 40 * q.sl).toNat) (hh : q.hash = hashOf s q.key) (h : RunsTo l q k l' p') :
    (∃ (j : Nat) (p1 : PenT) (k1 : Nat), j < 16 ∧ bt t j = hash2 q.hash ∧ t.k j = q.key ∧ RunsTo l (decidedP p1) k1 l' p' ∧ HitP p1 q t j) ∨
    ((∀ g x, g ∈ rowT t s q.key → x < 8 → bt t (8 * g + x) = hash2 q.hash → t.k (8 * g + x) ≠ q.key) ∧ ∃ (p1 : PenT) (k1 : Nat), RunsTo l (decidedP p1) k1 l' p' ∧ Alike p1 q ∧ p1.found = false ∧ FreeIs p1 t (freeAt t (rowT t s q.key))) := by
  have hG : groupP q = gOf s q.key := by
    unfold groupP gOf
    rw [hgr, ← hh]
    have := g0_lt (hash1 q.hash)
    show (g0 (hash1 q.hash) + 0) % 2 = _
    omega
  have hGl := gOf_lt s q.key
  have hF0 : FreeIs q t none := hfr
  have hF1 := freeIs_look (t := t) hF0
  have hK1 := lookR_keeps q (t.c (groupP q))
  have hone := group_run hT hph hs hB h
  rw [hG] at hF1 hK1 hone
  rw [Option.none_or] at hF1
  obtain ⟨G, hGG⟩ : ∃ G, gOf s q.key = G := ⟨_, rfl⟩
  rw [hGG] at hF1 hK1 hone hG hGl
  obtain ⟨r, hr1⟩ : ∃ r, lookR q (t.c G) = r := ⟨_, rfl⟩
  rw [hr1] at hF1 hK1 hone
  obtain ⟨hal, hgrp, hct, -, hfd1⟩ := hK1
  rcases hone with ⟨x, m', k1, hx, hb, hk, hr⟩ | ⟨hno, k1, hr⟩
  · obtain ⟨k2, hr2⟩ := val_run (p := { r with left := m', slot := ((8 * G + x : Nat) : Int), ph := 3 }) (j := 8 * G + x) hT rfl (by show 0 ≤ r.sl; rw [hal.sl]; exact hs) (by show B = (16 + 40 * r.sl).toNat; rw [hal.sl]; exact hB) (by omega) rfl hr
    exact .inl ⟨8 * G + x, _, k2, by omega, hb, hk, hr2, ⟨⟨hal.sl, hal.op, hal.key, hal.a, hal.b, hal.hash, hal.count⟩, rfl, rfl, rfl, by rw [show (8 * G + x) / 8 = G by omega]; exact hct⟩⟩
  · have hrow : rowT t s q.key = if emptyM (t.c G) != 0#8 then [G] else [G, 1 - G] := by rw [rowT, hGG]
    cases he : (emptyM (t.c G) != 0#8) with
    | true =>
      rw [he, if_pos rfl] at hrow
      rw [hrow, freeAt_cons, freeAt_nil, Option.or_none]
      have e : onP { r with left := 0#8, ph := 1 } = decidedP { r with left := 0#8, ph := 1 } := by
        unfold onP
        rw [if_neg (by simp), if_pos (by show (emptyM r.ctrl != 0#8 || r.grp == 1) = true; rw [hct, he]; rfl)]
      rw [e] at hr
      refine .inr ⟨fun g x hg hx hb => ?_, _, k1, hr, ⟨hal.sl, hal.op, hal.key, hal.a, hal.b, hal.hash, hal.count⟩, hfd1.trans hfd, ?_⟩
      · have hg : g = G := by simpa using hg
        subst hg
        exact hno x hx hb
      · revert hF1
        cases freeIn t G with
        | none => exact fun h => h
        | some y => exact fun h => h
    | false =>
      rw [he, if_neg (by decide)] at hrow
      rw [hrow, freeAt_cons, freeAt_cons, freeAt_nil, Option.or_none]
      have e : onP { r with left := 0#8, ph := 1 } = { r with left := 0#8, grp := 1, ph := 1 } := by
        unfold onP
        rw [if_neg (by simp), if_neg (by show ¬ (emptyM r.ctrl != 0#8 || r.grp == 1) = true; rw [hct, he, hgrp, hgr]; decide)]
      rw [e] at hr
      have hq2 : ∃ q2 : PenT, q2 = { r with left := 0#8, grp := 1, ph := 1 } := ⟨_, rfl⟩
      obtain ⟨q2, hq2⟩ := hq2
      rw [← hq2] at hr
      have hal2 : Alike q2 q := by rw [hq2]; exact ⟨hal.sl, hal.op, hal.key, hal.a, hal.b, hal.hash, hal.count⟩
      have hF2 : FreeIs q2 t (freeIn t G) := by
        rw [hq2]
        revert hF1
        cases freeIn t G with
        | none => exact fun h => h
        | some y => exact fun h => h
      have hfd2 : q2.found = false := by rw [hq2]; exact hfd1.trans hfd
      have hph2 : q2.ph = 1 := by rw [hq2]
      have hgr2 : q2.grp = 1 := by rw [hq2]
      clear hq2 e
      have hG2 : groupP q2 = 1 - G := by
        unfold groupP
        rw [hgr2, hal2.hash, hh]
        unfold gOf at hGG
        rw [hGG]
        show (G + 1) % 2 = _
        omega
      have hF3 := freeIs_look (t := t) hF2
      have hK2 := lookR_keeps q2 (t.c (groupP q2))
      have htwo := group_run hT hph2 (by rw [hal2.sl]; exact hs) (by rw [hal2.sl]; exact hB) hr
      rw [hG2] at hF3 hK2 htwo
      obtain ⟨r2, hr2⟩ : ∃ r, lookR q2 (t.c (1 - G)) = r := ⟨_, rfl⟩
      rw [hr2] at hF3 hK2 htwo
      obtain ⟨hal3, hgrp3, hct3, -, hfd3⟩ := hK2
      have hal4 := hal3.trans hal2
      rw [hal2.hash, hal2.key] at htwo
      rcases htwo with ⟨x, m', k2, hx, hb, hk, hr3⟩ | ⟨hno2, k2, hr3⟩
      · obtain ⟨k3, hr4⟩ := val_run (p := { r2 with left := m', slot := ((8 * (1 - G) + x : Nat) : Int), ph := 3 }) (j := 8 * (1 - G) + x) hT rfl (by show 0 ≤ r2.sl; rw [hal4.sl]; exact hs) (by show B = (16 + 40 * r2.sl).toNat; rw [hal4.sl]; exact hB) (by omega) rfl hr3
        exact .inl ⟨8 * (1 - G) + x, _, k3, by omega, hb, hk, hr4, ⟨⟨hal4.sl, hal4.op, hal4.key, hal4.a, hal4.b, hal4.hash, hal4.count⟩, rfl, rfl, rfl, by rw [show (8 * (1 - G) + x) / 8 = 1 - G by omega]; exact hct3⟩⟩
      · have e : onP { r2 with left := 0#8, ph := 1 } = decidedP { r2 with left := 0#8, ph := 1 } := by
          unfold onP
          rw [if_neg (by simp), if_pos (by show (emptyM r2.ctrl != 0#8 || r2.grp == 1) = true; rw [hgrp3, hgr2]; simp)]
        rw [e] at hr3
        refine .inr ⟨fun g x hg hx hb => ?_, _, k2, hr3, ⟨hal4.sl, hal4.op, hal4.key, hal4.a, hal4.b, hal4.hash, hal4.count⟩, hfd3.trans hfd2, ?_⟩
        · have hg : g = G ∨ g = 1 - G := by simpa using hg
          rcases hg with rfl | rfl
          · exact hno x hx hb
          · exact hno2 x hx hb
        · revert hF3
          cases (freeIn t G).or (freeIn t (1 - G)) with
          | none => exact fun h => h
          | some y => exact fun h => h
end Go.Proofs.Hc
/- One who writes: its section, store by store. Plain law, no program in sight. -/
set_option linter.unusedSimpArgs false
namespace Go.Proofs.Hc
open Go.RowKit
section
variable {l l' : List (BitVec 64)} {q p' : PenT} {k : Nat}
theorem RunsTo.store_at {x : Int} (h : RunsTo l { q with ph := x } k l' p') (h6 : 6 ≤ x) (h13 : x ≤ 13) (h12 : x ≠ 12) {i : Nat} {w : BitVec 64} {y : Int} (hi : (16 + 40 * q.sl + wordP { q with ph := x }).toNat = i) (hw : whatP { q with ph := x } = w) (hy : nextP (wantsP q) x = y) :
    ∃ k1, RunsTo (l.set i w) { q with ph := y } k1 l' p' := by
  obtain ⟨k1, _, h1⟩ := h.store h6 h13 h12
  subst hi hw hy
  exact ⟨k1, h1⟩
theorem RunsTo.add_at (h : RunsTo l { q with ph := 12 } k l' p') {x y : BitVec 64} {n : Int} (hx : l[1]? = some x) (hy : x + byP (wantsP q) = y) (hn : nextP (wantsP q) 12 = n) : ∃ k1, RunsTo (l.set 1 y) { q with ph := n } k1 l' p' := by
  obtain ⟨k1, _, h1⟩ := h.add rfl hx
  subst hy hn
  exact ⟨k1, h1⟩
end
theorem slotP_ph (q : PenT) (x : Int) : slotP { q with ph := x } = slotP q := by unfold slotP; rw [wants_ph]
theorem wasP_ph (q : PenT) (x : Int) : wasP { q with ph := x } = wasP q := by unfold wasP; exact Eq.refl _
theorem markP_ph (q : PenT) (x : Int) : markP { q with ph := x } = markP q := by unfold markP; rw [wants_ph, slotP_ph]
theorem word_4 (q : PenT) : wordP { q with ph := 4 } = 2 := by unfold wordP; simp [slotP_ph]
theorem word_6 (q : PenT) : wordP { q with ph := 6 } = 0 := by unfold wordP; simp [slotP_ph]
theorem word_7 (q : PenT) : wordP { q with ph := 7 } = 6 + slotP q := by unfold wordP; simp [slotP_ph]
theorem word_8 (q : PenT) : wordP { q with ph := 8 } = 22 + slotP q := by unfold wordP; simp [slotP_ph]
theorem word_9 (q : PenT) : wordP { q with ph := 9 } = 4 + slotP q / 8 := by unfold wordP; simp [slotP_ph]
theorem word_10 (q : PenT) : wordP { q with ph := 10 } = 2 := by unfold wordP; simp [slotP_ph]
theorem word_11 (q : PenT) : wordP { q with ph := 11 } = 3 := by unfold wordP; simp [slotP_ph]
theorem word_13 (q : PenT) : wordP { q with ph := 13 } = 0 := by unfold wordP; simp [slotP_ph]
theorem what_6 (q : PenT) : whatP { q with ph := 6 } = q.count + 1#64 := by unfold whatP; simp [wants_ph, wasP_ph, markP_ph]
theorem what_7 (q : PenT) : whatP { q with ph := 7 } = q.key := by unfold whatP; simp [wants_ph, wasP_ph, markP_ph]
theorem what_8 (q : PenT) : whatP { q with ph := 8 } = if q.op = 4 then q.b else q.a := by unfold whatP; simp [wants_ph, wasP_ph, markP_ph]
theorem what_9 (q : PenT) : whatP { q with ph := 9 } = markP q := by unfold whatP; simp [wants_ph, wasP_ph, markP_ph]
theorem what_10 (q : PenT) : whatP { q with ph := 10 } = if wantsP q == 1 && wasP q then q.can - 1#64 else if wantsP q == 3 && emptyM q.ctrl != 0#8 then q.can + 1#64 else q.can := by unfold whatP; simp [wants_ph, wasP_ph, markP_ph]
theorem what_11 (q : PenT) : whatP { q with ph := 11 } = q.live + byP (wantsP q) := by unfold whatP; simp [wants_ph, wasP_ph, markP_ph]
theorem what_13 (q : PenT) : whatP { q with ph := 13 } = q.count + 2#64 := by unfold whatP; simp [wants_ph, wasP_ph, markP_ph]
theorem sec_set {l l' : List (BitVec 64)} {q p' : PenT} {k B j : Nat} (hs : 0 ≤ q.sl) (hB : B = (16 + 40 * q.sl).toNat) (hw : wantsP q = 2) (hj : q.slot = (j : Int)) (h : RunsTo l { q with ph := 6 } k l' p') :
    l' = ((l.set B (q.count + 1#64)).set (B + (22 + j)) (if q.op = 4 then q.b else q.a)).set B (q.count + 2#64) ∧ p' = { q with ph := 14 } := by
  have hsl : slotP q = (j : Int) := by unfold slotP; rw [hw, if_neg (by decide)]; exact hj
  obtain ⟨k1, h1⟩ := h.store_at (i := B) (y := 8) (by omega) (by omega) (by omega) (by rw [word_6]; omega) (what_6 q) (by rw [hw]; decide)
  obtain ⟨k2, h2⟩ := h1.store_at (i := B + (22 + j)) (y := 13) (by omega) (by omega) (by omega) (by rw [word_8]; omega) (what_8 q) (by rw [hw]; decide)
  obtain ⟨k3, h3⟩ := h2.store_at (i := B) (y := 14) (by omega) (by omega) (by omega) (by rw [word_13]; omega) (what_13 q) (by rw [hw]; decide)
  obtain ⟨e1, e2, _⟩ := h3.over (by show (13 : Int) < 14; omega)
  exact ⟨e1, e2⟩
theorem sec_put {l l' : List (BitVec 64)} {q p' : PenT} {k B j : Nat} {x : BitVec 64} (hs : 0 ≤ q.sl) (hB : B = (16 + 40 * q.sl).toNat) (hw : wantsP q = 1) (hj : q.free = (j : Int) + 1) (hx : l[1]? = some x) (h : RunsTo l { q with ph := 6 } k l' p') :
    l' = (((((((l.set B (q.count + 1#64)).set (B + (6 + j)) q.key).set (B + (22 + j)) (if q.op = 4 then q.b else q.a)).set (B + (4 + j / 8)) (markP q)).set (B + 2) (if wasP q then q.can - 1#64 else q.can)).set (B + 3) (q.live + 1#64)).set 1 (x + 1#64)).set B (q.count + 2#64) ∧ p' = { q with ph := 14 } := by
  have hsl : slotP q = (j : Int) := by unfold slotP; rw [hw, if_pos (by decide)]; omega
  obtain ⟨k1, h1⟩ := h.store_at (i := B) (y := 7) (by omega) (by omega) (by omega) (by rw [word_6]; omega) (what_6 q) (by rw [hw]; decide)
  obtain ⟨k2, h2⟩ := h1.store_at (i := B + (6 + j)) (y := 8) (by omega) (by omega) (by omega) (by rw [word_7]; omega) (what_7 q) (by rw [hw]; decide)
  obtain ⟨k3, h3⟩ := h2.store_at (i := B + (22 + j)) (y := 9) (by omega) (by omega) (by omega) (by rw [word_8]; omega) (what_8 q) (by rw [hw]; decide)
  obtain ⟨k4, h4⟩ := h3.store_at (i := B + (4 + j / 8)) (y := 10) (by omega) (by omega) (by omega) (by rw [word_9, hsl]; omega) (what_9 q) (by rw [hw]; decide)
  have hless : whatP { q with ph := 10 } = if wasP q then q.can - 1#64 else q.can := by
    rw [what_10, hw]
    cases wasP q <;> rfl
  obtain ⟨k5, h5⟩ := h4.store_at (i := B + 2) (y := 11) (by omega) (by omega) (by omega) (by rw [word_10]; omega) hless (by rw [hw]; decide)
  obtain ⟨k6, h6⟩ := h5.store_at (i := B + 3) (y := 12) (w := q.live + 1#64) (by omega) (by omega) (by omega) (by rw [word_11]; omega) (by rw [what_11, hw]; rfl) (by rw [hw]; decide)
  obtain ⟨k7, h7⟩ := h6.add_at (x := x) (y := x + 1#64) (n := 13) (by (repeat rw [List.getElem?_set_ne (by omega)]); exact hx) (by rw [hw]; rfl) (by rw [hw]; decide)
  obtain ⟨k8, h8⟩ := h7.store_at (i := B) (y := 14) (by omega) (by omega) (by omega) (by rw [word_13]; omega) (what_13 q) (by rw [hw]; decide)
  obtain ⟨e1, e2, _⟩ := h8.over (by show (13 : Int) < 14; omega)
  exact ⟨e1, e2⟩
theorem sec_drop {l l' : List (BitVec 64)} {q p' : PenT} {k B j : Nat} {x : BitVec 64} (hs : 0 ≤ q.sl) (hB : B = (16 + 40 * q.sl).toNat) (hw : wantsP q = 3) (hj : q.slot = (j : Int)) (hx : l[1]? = some x) (h : RunsTo l { q with ph := 6 } k l' p') :
    l' = (((((l.set B (q.count + 1#64)).set (B + (4 + j / 8)) (markP q)).set (B + 2) (if emptyM q.ctrl != 0#8 then q.can + 1#64 else q.can)).set (B + 3) (q.live - 1#64)).set 1 (x - 1#64)).set B (q.count + 2#64) ∧ p' = { q with ph := 14 } := by
  have hsl : slotP q = (j : Int) := by unfold slotP; rw [hw, if_neg (by decide)]; exact hj
  obtain ⟨k1, h1⟩ := h.store_at (i := B) (y := 9) (by omega) (by omega) (by omega) (by rw [word_6]; omega) (what_6 q) (by rw [hw]; decide)
  obtain ⟨k4, h4⟩ := h1.store_at (i := B + (4 + j / 8)) (y := 10) (by omega) (by omega) (by omega) (by rw [word_9, hsl]; omega) (what_9 q) (by rw [hw]; decide)
  have hless : whatP { q with ph := 10 } = if emptyM q.ctrl != 0#8 then q.can + 1#64 else q.can := by
    rw [what_10, hw, if_neg (by cases wasP q <;> decide)]
    cases (emptyM q.ctrl != 0#8) <;> rfl
  obtain ⟨k5, h5⟩ := h4.store_at (i := B + 2) (y := 11) (by omega) (by omega) (by omega) (by rw [word_10]; omega) hless (by rw [hw]; decide)
  obtain ⟨k6, h6⟩ := h5.store_at (i := B + 3) (y := 12) (w := q.live - 1#64) (by omega) (by omega) (by omega) (by rw [word_11]; omega) (by rw [what_11, hw, byP_drop _ (by decide), add_minus]) (by rw [hw]; decide)
  obtain ⟨k7, h7⟩ := h6.add_at (x := x) (y := x - 1#64) (n := 13) (by (repeat rw [List.getElem?_set_ne (by omega)]); exact hx) (by rw [hw, byP_drop _ (by decide), add_minus]) (by rw [hw]; decide)
  obtain ⟨k8, h8⟩ := h7.store_at (i := B) (y := 14) (by omega) (by omega) (by omega) (by rw [word_13]; omega) (what_13 q) (by rw [hw]; decide)
  obtain ⟨e1, e2, _⟩ := h8.over (by show (13 : Int) < 14; omega)
  exact ⟨e1, e2⟩
/-- The two loads ahead of a section. -/
theorem sec_can {l l' : List (BitVec 64)} {q p' : PenT} {k B : Nat} {t : Tab} (hT : TabAt l B t) (hs : 0 ≤ q.sl) (hB : B = (16 + 40 * q.sl).toNat) (h : RunsTo l { q with ph := 4 } k l' p') :
    ((wantsP q == 1 && wasP q && BitVec.ofInt 64 t.can == 0#64) = true ∧ l' = l ∧ p' = { q with can := BitVec.ofInt 64 t.can, ph := 16 }) ∨
    ((wantsP q == 1 && wasP q && BitVec.ofInt 64 t.can == 0#64) = false ∧ ∃ k1, RunsTo l { q with can := BitVec.ofInt 64 t.can, live := BitVec.ofInt 64 t.live, ph := 6 } k1 l' p') := by
  obtain ⟨k1, _, h1⟩ := h.load (by show (0 : Int) ≤ 4; omega) (by show (4 : Int) ≤ 5; omega) (w := BitVec.ofInt 64 t.can) (by
    rw [word_4, ← hT.can]; congr 1; subst hB; show (16 + 40 * q.sl + 2).toNat = _; omega)
  have ht : takeP { q with ph := 4 } (BitVec.ofInt 64 t.can) = { q with can := BitVec.ofInt 64 t.can, ph := if wantsP q == 1 && wasP q && BitVec.ofInt 64 t.can == 0#64 then 16 else 5 } := by
    unfold takeP
    rw [if_neg (by simp), if_neg (by simp), if_neg (by simp), if_neg (by simp), if_pos rfl, wants_ph, wasP_ph]
  rw [ht] at h1
  cases hb : (wantsP q == 1 && wasP q && BitVec.ofInt 64 t.can == 0#64) with
  | true =>
    rw [hb, if_pos rfl] at h1
    obtain ⟨e1, e2, _⟩ := h1.over (by show (13 : Int) < 16; omega)
    exact .inl ⟨rfl, e1, e2⟩
  | false =>
    rw [hb, if_neg (by decide)] at h1
    obtain ⟨k2, _, h2⟩ := h1.load (by show (0 : Int) ≤ 5; omega) (by show (5 : Int) ≤ 5; omega) (w := BitVec.ofInt 64 t.live) (by
      rw [← hT.live]; congr 1; subst hB; show (16 + 40 * q.sl + 3).toNat = _; omega)
    exact .inr ⟨rfl, k2, h2⟩
end Go.Proofs.Hc
