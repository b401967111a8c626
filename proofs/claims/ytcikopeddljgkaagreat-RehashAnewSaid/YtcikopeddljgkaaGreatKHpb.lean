/- What putting, setting and dropping do to a table that may be: plain law. -/
import Derived.Test.YtcikopeddljgkaaGreatKHcb
import Derived.Test.YtcikopeddljgkaaGreatKHd
import Derived.Test.YtcikopeddljgkaaGreatKHg
import Derived.Test.YtcikopeddljgkaaGreatKHdn
import Derived.Test.YtcikopeddljgkaaGreatKHj
import Derived.Test.YtcikopeddljgkaaGreatKHlan
import Derived.Test.YtcikopeddljgkaaGreatKHmet
import Derived.Test.YtcikopeddljgkaaGreatKHpa
import Derived.Test.YtcikopeddljgkaaGreatKHrw
import Derived.Test.YtcikopeddljgkaaGreatKHta
import Derived.Test.YtcikopeddljgkaaGreatKHtc
import Derived.Test.YtcikopeddljgkaaGreatKHtd
import Derived.Test.YtcikopeddljgkaaGreatKRn
import Derived.Test.YtcikopeddljgkaaGreatKHtj
import Derived.Test.YtcikopeddljgkaaGreatKHtv
import Derived.Test.YtcikopeddljgkaaGreatKHye
import Derived.Below
import Derived.BigQuiet
import Derived.Deep.Draws
import Derived.Deep.Light
import Derived.Deep.QuietTactic
import Derived.Deep.RegionHeld
import Derived.Laws.CopyRow
import Derived.Laws.Tables
import Derived.Lib.AppendZerosOnto
import Derived.Lib.Hide
import Derived.Lib.Tables
import Derived.Lib.Walk
import Derived.LoopIn
import Derived.LoopN
import Derived.LoopNIn
import Derived.Maps.AppendAt
import Derived.Maps.Views
import Derived.OwnWalkIn
import Derived.RangeFuncBox
import Derived.RangeFuncCalls
import Derived.RangeFuncRecord
import Derived.RangeFuncSeq
import Derived.Recover
import Derived.RegionTactic
import Derived.Shelf.Slices.Clone
import Derived.StillTail
import Derived.StillTailTactics
import Derived.TacticsInMore
import Derived.Test.YtcikopeddljgkaaGreatProg
import Derived.WalkKit
import Derived.WalkLawsBesides
import Derived.WalkMore
import Derived.WalkSpells
set_option linter.unusedSimpArgs false
set_option linter.unusedVariables false
namespace Go.Proofs.Hc
open Go.RowKit
/-- A group's bytes when a slot of it is given up. -/
def goneC (t : Tab) (j : Nat) : BitVec 64 := withB (t.c (j / 8)) (j % 8) (gone (t.c (j / 8)))
/-- A table that gave up a slot. -/
def dropT (t : Tab) (j : Nat) : Tab := { t with c := fun i => if i = j / 8 then goneC t j else t.c i, can := if emptyM (goneC t j) != 0#8 then t.can + 1 else t.can, live := t.live - 1 }
def dropE (t : Tab) (s k : BitVec 64) : Except Int At := (foundE t s k).map fun y => ⟨dropT t y.1, y.1, 0⟩
theorem mk_depth (a : BitVec 64) (b : Int) (c : BitVec 64) (d e : Int) (f g h : Nat → BitVec 64) : (Tab.mk a b c d e f g h).depth = b := rfl
theorem mk_pre (a : BitVec 64) (b : Int) (c : BitVec 64) (d e : Int) (f g h : Nat → BitVec 64) : (Tab.mk a b c d e f g h).pre = c := rfl
theorem mk_count (a : BitVec 64) (b : Int) (c : BitVec 64) (d e : Int) (f g h : Nat → BitVec 64) : (Tab.mk a b c d e f g h).count = a := rfl
theorem fill_depth (t : Tab) (s k v : BitVec 64) (sl : Nat) : (fillT t s k v sl).depth = t.depth := by unfold fillT; exact mk_depth _ _ _ _ _ _ _ _
theorem fill_pre (t : Tab) (s k v : BitVec 64) (sl : Nat) : (fillT t s k v sl).pre = t.pre := by unfold fillT; exact mk_pre _ _ _ _ _ _ _ _
theorem fill_count (t : Tab) (s k v : BitVec 64) (sl : Nat) : (fillT t s k v sl).count = t.count := by unfold fillT; exact mk_count _ _ _ _ _ _ _ _
theorem drop_depth (t : Tab) (sl : Nat) : (dropT t sl).depth = t.depth := by unfold dropT; exact mk_depth _ _ _ _ _ _ _ _
theorem drop_pre (t : Tab) (sl : Nat) : (dropT t sl).pre = t.pre := by unfold dropT; exact mk_pre _ _ _ _ _ _ _ _
theorem bt_with (t t' : Tab) (sl : Nat) (b : BitVec 8) (hc : t'.c = fun i => if i = sl / 8 then withB (t.c (sl / 8)) (sl % 8) b else t.c i) (j : Nat) : bt t' j = if j = sl then b else bt t j := by
  unfold bt
  rw [hc]
  dsimp only
  by_cases h : j / 8 = sl / 8
  · rw [if_pos h, byteAt_withB _ _ _ _ (by omega) (by omega), h]
    by_cases h2 : j % 8 = sl % 8
    · rw [if_pos h2, if_pos (by omega)]
    · rw [if_neg h2, if_neg (by intro e; rw [e] at h2; exact h2 rfl)]
  · rw [if_neg h, if_neg (by intro e; rw [e] at h; exact h rfl)]
theorem bt_fill (t : Tab) (s k v : BitVec 64) (sl j : Nat) : bt (fillT t s k v sl) j = if j = sl then hash2 (hashOf s k) else bt t j := bt_with t _ sl _ rfl j
theorem flatT_iff (t : Tab) : flatT t = true ↔ 0 ≤ t.depth ∧ t.depth ≤ 5 ∧ N (t.pre >>> t.depth.toNat) = 0 ∧ 0 ≤ t.can ∧ t.can ≤ 14 ∧ 0 ≤ t.live ∧ t.live ≤ 14 := by
  rw [flatT]
  simp only [Bool.and_eq_true, decide_eq_true_iff, beq_iff_eq]
  constructor
  · rintro ⟨⟨⟨⟨a, b⟩, c⟩, d, e⟩, f, g⟩; exact ⟨a, b, c, d, e, f, g⟩
  · rintro ⟨a, b, c, d, e, f, g⟩; exact ⟨⟨⟨⟨a, b⟩, c⟩, d, e⟩, f, g⟩
theorem flatT_of {t t' : Tab} (h : flatT t = true) (hd : t'.depth = t.depth) (hp : t'.pre = t.pre) (h1 : 0 ≤ t'.can) (h2 : t'.can ≤ 14) (h3 : 0 ≤ t'.live) (h4 : t'.live ≤ 14) : flatT t' = true := by
  obtain ⟨a, b, c, _⟩ := (flatT_iff t).1 h
  refine (flatT_iff t').2 ⟨?_, ?_, ?_, h1, h2, h3, h4⟩ <;> rw [hd]
  · exact a
  · exact b
  · rw [hp]; exact c
theorem hasT_iff (t : Tab) (h : BitVec 64) : hasT t h = true ↔ flatT t = true ∧ topT h t.depth = t.pre := by rw [hasT, Bool.and_eq_true, beq_iff_eq]
/-- From a slot's byte to its kind. -/
theorem hasT_of {t t' : Tab} {h : BitVec 64} (hh : hasT t h = true) (hf : flatT t' = true) (hd : t'.depth = t.depth) (hp : t'.pre = t.pre) : hasT t' h = true :=
  (hasT_iff t' h).2 ⟨hf, by rw [hd, hp]; exact ((hasT_iff t h).1 hh).2⟩
theorem free_iff (t : Tab) (g x : Nat) (hx : x < 8) : (freeM (t.c g)).getLsbD x = true ↔ bt t (8 * g + x) = 128#8 ∨ bt t (8 * g + x) = 254#8 := by
  rw [free_byte _ _ hx, bt_at t g x hx, Bool.or_eq_true, beq_iff_eq, beq_iff_eq]
/-- What holds of the slot in which a key is put. -/
structure Spot (t : Tab) (s k : BitVec 64) (sl : Nat) : Prop where
  lt : sl < 16
  free : bt t sl = 128#8 ∨ bt t sl = 254#8
  row : sl / 8 ∈ rowT t s k
  goes : hasT t (hashOf s k) = true
  not : ∀ j, j < 16 → fullJ t j = true → t.k j ≠ k
  can : bt t sl = 128#8 → 0 < t.can
theorem place_spot {t : Tab} {s k : BitVec 64} {sl : Nat} (h : placeT t s k = .ok sl) : Spot t s k sl := by
  obtain ⟨g, x, rfl, hg, hx, hr, -, hf, hgo, hn, hd⟩ := place_ok h
  refine ⟨by omega, (free_iff t g x hx).1 hf, by rw [show (8 * g + x) / 8 = g by omega]; exact hr, hgo, fun j hj hfj hk => ?_, fun he => ?_⟩
  · have := (hasKT_iff t k).2 ⟨j, hj, hfj, hk⟩
    rw [hn] at this; cases this
  · rcases hd with hd | hd
    · exfalso
      rw [bne_iff_ne, ne_eq, and_lane _ x hx, delM_bit _ x hx, ← bt_at t g x hx, he] at hd
      exact hd (by decide)
    · exact hd
theorem Spot.notfull {t : Tab} {s k : BitVec 64} {sl : Nat} (h : Spot t s k sl) : fullJ t sl = false := by
  rw [fullJ]
  rcases h.free with e | e <;> rw [e] <;> decide
theorem fill_full {t : Tab} (s k v : BitVec 64) (sl j : Nat) : fullJ (fillT t s k v sl) j = if j = sl then true else fullJ t j := by
  rw [fullJ, bt_fill]
  by_cases h : j = sl
  · rw [if_pos h, if_pos h]; simpa using hash2_lt (hashOf s k)
  · rw [if_neg h, if_neg h, fullJ]
theorem fill_fill {t : Tab} (s k v : BitVec 64) (sl j : Nat) : fillJ (fillT t s k v sl) j = if j = sl then true else fillJ t j := by
  rw [fillJ, bt_fill]
  by_cases h : j = sl
  · rw [if_pos h, if_pos h, bne_iff_ne]
    intro e
    have := hash2_lt (hashOf s k)
    rw [e] at this; exact absurd this (by decide)
  · rw [if_neg h, if_neg h, fillJ]
theorem fill_nFull {t : Tab} {s k : BitVec 64} {sl : Nat} (v : BitVec 64) (h : Spot t s k sl) : nFull (fillT t s k v sl) = nFull t + 1 := by
  have := countP_upd (fullJ t) (fullJ (fillT t s k v sl)) sl 16 (fun j hj => by rw [fill_full, if_neg hj])
  rw [h.notfull, fill_full, if_pos rfl, if_neg (by simp), if_pos ⟨h.lt, rfl⟩] at this
  unfold nFull
  exact this
theorem fill_nFill {t : Tab} {s k : BitVec 64} {sl : Nat} (v : BitVec 64) (h : Spot t s k sl) : nFill (fillT t s k v sl) = nFill t + if bt t sl = 128#8 then 1 else 0 := by
  have := countP_upd (fillJ t) (fillJ (fillT t s k v sl)) sl 16 (fun j hj => by rw [fill_fill, if_neg hj])
  rw [fill_fill, if_pos rfl, if_pos (show sl < 16 ∧ true = true from ⟨h.lt, rfl⟩)] at this
  have hlt := h.lt
  unfold nFill
  rcases h.free with e | e
  · rw [if_pos e]
    rw [if_neg (by rw [fillJ, e]; simp)] at this
    exact this
  · rw [if_neg (by rw [e]; decide)]
    rw [if_pos (by rw [fillJ, e]; exact ⟨hlt, by decide⟩)] at this
    omega
theorem fill_can {t : Tab} {s k : BitVec 64} {sl : Nat} (v : BitVec 64) : (fillT t s k v sl).can = if bt t sl = 128#8 then t.can - 1 else t.can := by
  show (if emptyM (t.c (sl / 8)) &&& laneM (sl % 8) != 0#8 then t.can - 1 else t.can) = _
  have e : (emptyM (t.c (sl / 8)) &&& laneM (sl % 8) != 0#8) = true ↔ bt t sl = 128#8 := by
    rw [bne_iff_ne, ne_eq, and_lane _ _ (by omega), emptyM_bit _ _ (by omega)]
    show ¬ (bt t sl == 128#8) = false ↔ _
    simp
  by_cases h : bt t sl = 128#8
  · rw [if_pos (e.2 h), if_pos h]
  · rw [if_neg (fun h2 => h (e.1 h2)), if_neg h]
theorem fill_hasE {t : Tab} {s k : BitVec 64} {sl : Nat} (v : BitVec 64) (g : Nat) (h : hasE (fillT t s k v sl) g = true) : hasE t g = true := by
  rw [hasE_iff] at h ⊢
  obtain ⟨x, hx, hb⟩ := h
  rw [bt_fill] at hb
  by_cases he : 8 * g + x = sl
  · rw [if_pos he] at hb
    have := hash2_lt (hashOf s k)
    rw [hb] at this; exact absurd this (by decide)
  · rw [if_neg he] at hb; exact ⟨x, hx, hb⟩
theorem May.fill {t : Tab} {s k : BitVec 64} {sl : Nat} (m : May t s) (v : BitVec 64) (h : Spot t s k sl) : May (fillT t s k v sl) s := by
  have hlt := h.lt
  have hnF := fill_nFull v h
  have hnf := fill_nFill v h
  have hcan := fill_can (t := t) (s := s) (k := k) (sl := sl) v
  have hcan' : (fillT t s k v sl).can = 14 - (nFill (fillT t s k v sl) : Int) := by
    rw [hcan, hnf, m.can]
    split
    · rw [show ((nFill t + 1 : Nat) : Int) = (nFill t : Int) + 1 by omega]; omega
    · rw [Nat.add_zero]
  have hlive' : (fillT t s k v sl).live = (nFull (fillT t s k v sl) : Int) := by
    rw [hnF]; show t.live + 1 = _; rw [m.live]; omega
  have hfl : flatT (fillT t s k v sl) = true := by
    obtain ⟨a, b, c, d, e, f, g⟩ := (flatT_iff t).1 m.flat
    have hle := nFull_le (fillT t s k v sl)
    have hc0 : 0 ≤ (fillT t s k v sl).can := by
      rw [hcan]
      split
      · have := h.can ‹_›; omega
      · exact d
    refine flatT_of m.flat (fill_depth ..) (fill_pre ..) hc0 ?_ ?_ ?_
    · rw [hcan']; clear hcan hcan' hnF hnf hlive' hc0; omega
    · rw [hlive']; clear hcan hcan' hnF hnf hlive' hc0; omega
    · rw [hlive']; rw [hcan'] at hc0; clear hcan hcan' hnF hnf hlive' f g d e; omega
  have hgoes : ∀ x, hasT t x = true → hasT (fillT t s k v sl) x = true := fun x hx => hasT_of hx hfl (fill_depth ..) (fill_pre ..)
  refine ⟨hfl, fun j hj => ?_, fun j hj hf => ?_, fun i j hi hj hfi hfj hk => ?_, hlive', hcan'⟩
  · rw [bt_fill]
    by_cases e : j = sl
    · rw [if_pos e]; exact .inl (hash2_lt _)
    · rw [if_neg e]; exact m.ok j hj
  · by_cases e : j = sl
    · have hk : (fillT t s k v sl).k j = k := by show (if j = sl then k else t.k j) = k; rw [if_pos e]
      rw [hk, bt_fill, if_pos e]
      exact ⟨rfl, hgoes _ h.goes, by rw [e]; exact row_mono (fun i _ => fill_hasE v i) h.row⟩
    · have hk : (fillT t s k v sl).k j = t.k j := by show (if j = sl then k else t.k j) = _; rw [if_neg e]
      rw [fill_full, if_neg e] at hf
      obtain ⟨a, b, c⟩ := m.slot j hj hf
      rw [hk, bt_fill, if_neg e]
      exact ⟨a, hgoes _ b, row_mono (fun i _ => fill_hasE v i) c⟩
  · change (if i = sl then k else t.k i) = (if j = sl then k else t.k j) at hk
    rw [fill_full] at hfi hfj
    by_cases ei : i = sl
    · by_cases ej : j = sl
      · omega
      · rw [if_pos ei, if_neg ej] at hk
        rw [if_neg ej] at hfj
        exact absurd hk.symm (h.not j hj hfj)
    · rw [if_neg ei] at hk hfi
      by_cases ej : j = sl
      · rw [if_pos ej] at hk
        exact absurd hk (h.not i hi hfi)
      · rw [if_neg ej] at hk hfj
        exact m.inj i j hi hj hfi hfj hk
theorem fill_pairs {t : Tab} {s k : BitVec 64} {sl : Nat} (v : BitVec 64) (h : Spot t s k sl) (p : BitVec 64 × BitVec 64) : p ∈ pairsT (fillT t s k v sl) ↔ p = (k, v) ∨ p ∈ pairsT t := by
  rw [mem_pairs, mem_pairs]
  constructor
  · rintro ⟨j, hj, hf, rfl⟩
    rw [fill_full] at hf
    have hk : (fillT t s k v sl).k j = if j = sl then k else t.k j := rfl
    have hv : (fillT t s k v sl).v j = if j = sl then v else t.v j := rfl
    rw [hk, hv]
    by_cases e : j = sl
    · rw [if_pos e, if_pos e]; exact .inl rfl
    · rw [if_neg e] at hf ⊢
      rw [if_neg e]
      exact .inr ⟨j, hj, hf, rfl⟩
  · rintro (rfl | ⟨j, hj, hf, rfl⟩)
    · refine ⟨sl, h.lt, by rw [fill_full, if_pos rfl], ?_⟩
      show _ = ((if sl = sl then k else t.k sl), (if sl = sl then v else t.v sl))
      rw [if_pos rfl, if_pos rfl]
    · have e : j ≠ sl := by rintro rfl; rw [h.notfull] at hf; cases hf
      refine ⟨j, hj, by rw [fill_full, if_neg e]; exact hf, ?_⟩
      show _ = ((if j = sl then k else t.k j), (if j = sl then v else t.v j))
      rw [if_neg e, if_neg e]
/-- A slot that is given up. -/
theorem bt_drop (t : Tab) (sl j : Nat) : bt (dropT t sl) j = if j = sl then gone (t.c (sl / 8)) else bt t j := bt_with t _ sl _ rfl j
theorem gone_eq (t : Tab) (g : Nat) : gone (t.c g) = if hasE t g = true then 128#8 else 254#8 := by
  rw [gone, hasE]
  by_cases h : emptyM (t.c g) = 0#8
  · rw [if_pos h, if_neg (by simpa using h)]
  · rw [if_neg h, if_pos (by simpa using h)]
theorem drop_full (t : Tab) (sl j : Nat) : fullJ (dropT t sl) j = if j = sl then false else fullJ t j := by
  rw [fullJ, bt_drop]
  by_cases h : j = sl
  · rw [if_pos h, if_pos h, gone_eq]; split <;> decide
  · rw [if_neg h, if_neg h, fullJ]
theorem drop_fill (t : Tab) (sl j : Nat) : fillJ (dropT t sl) j = if j = sl then !hasE t (sl / 8) else fillJ t j := by
  rw [fillJ, bt_drop]
  by_cases h : j = sl
  · rw [if_pos h, if_pos h, gone_eq]; cases hasE t (sl / 8) <;> decide
  · rw [if_neg h, if_neg h, fillJ]
theorem drop_hasE {t : Tab} {sl : Nat} (hf : fullJ t sl = true) (g : Nat) : hasE (dropT t sl) g = hasE t g := by
  rw [Bool.eq_iff_iff, hasE_iff, hasE_iff]
  constructor
  · rintro ⟨x, hx, hb⟩
    rw [bt_drop] at hb
    by_cases he : 8 * g + x = sl
    · rw [if_pos he, gone_eq] at hb
      have hg : sl / 8 = g := by omega
      rw [hg] at hb
      by_cases hE : hasE t g = true
      · exact (hasE_iff t g).1 hE
      · rw [if_neg hE] at hb; exact absurd hb (by decide)
    · rw [if_neg he] at hb; exact ⟨x, hx, hb⟩
  · rintro ⟨x, hx, hb⟩
    have he : 8 * g + x ≠ sl := by
      intro e
      rw [e] at hb
      have := full_lt hf
      rw [hb] at this; exact absurd this (by decide)
    exact ⟨x, hx, by rw [bt_drop, if_neg he]; exact hb⟩
theorem drop_can {t : Tab} {sl : Nat} (hf : fullJ t sl = true) : (dropT t sl).can = if hasE t (sl / 8) = true then t.can + 1 else t.can := by
  show (if emptyM (goneC t sl) != 0#8 then t.can + 1 else t.can) = _
  have h := drop_hasE hf (sl / 8)
  have e : hasE (dropT t sl) (sl / 8) = (emptyM (goneC t sl) != 0#8) := by
    rw [hasE]; show (emptyM (if sl / 8 = sl / 8 then goneC t sl else t.c (sl / 8)) != 0#8) = _; rw [if_pos rfl]
  rw [← e, h]
theorem drop_nFull {t : Tab} {sl : Nat} (hs : sl < 16) (hf : fullJ t sl = true) : nFull (dropT t sl) + 1 = nFull t := by
  have := countP_upd (fullJ t) (fullJ (dropT t sl)) sl 16 (fun j hj => by rw [drop_full, if_neg hj])
  rw [hf, drop_full, if_pos rfl, if_pos ⟨hs, rfl⟩, if_neg (by simp)] at this
  unfold nFull
  exact this
theorem drop_nFill {t : Tab} {sl : Nat} (hs : sl < 16) (hf : fullJ t sl = true) : nFill (dropT t sl) + (if hasE t (sl / 8) = true then 1 else 0) = nFill t := by
  have := countP_upd (fillJ t) (fillJ (dropT t sl)) sl 16 (fun j hj => by rw [drop_fill, if_neg hj])
  rw [full_fill hf, drop_fill, if_pos rfl, if_pos ⟨hs, rfl⟩] at this
  unfold nFill
  cases hE : hasE t (sl / 8) with
  | true => rw [hE] at this; simp only [Bool.not_true, Bool.false_eq_true, and_false, if_false] at this; rw [if_pos rfl]; omega
  | false => rw [hE] at this; simp only [Bool.not_false, and_true, hs, if_true] at this; rw [if_neg (by decide)]; omega
theorem May.drop {t : Tab} {s : BitVec 64} {sl : Nat} (m : May t s) (hs : sl < 16) (hf : fullJ t sl = true) : May (dropT t sl) s := by
  have h1 := drop_nFull hs hf
  have h2 := drop_nFill hs hf
  have h3 := drop_can hf
  have hcan' : (dropT t sl).can = 14 - (nFill (dropT t sl) : Int) := by
    rw [h3, m.can]
    cases hE : hasE t (sl / 8) with
    | true => rw [hE, if_pos rfl] at h2; rw [if_pos rfl]; omega
    | false => rw [hE, if_neg (by decide)] at h2; rw [if_neg (by decide)]; omega
  have hlive' : (dropT t sl).live = (nFull (dropT t sl) : Int) := by
    show t.live - 1 = _; rw [m.live]; omega
  have hfl : flatT (dropT t sl) = true := by
    obtain ⟨a, b, c, d, e, f, g⟩ := (flatT_iff t).1 m.flat
    have hle := nFull_le (dropT t sl)
    refine flatT_of m.flat (drop_depth ..) (drop_pre ..) ?_ (by rw [hcan']; omega) (by rw [hlive']; omega) ?_
    · rw [h3]; split <;> omega
    · show t.live - 1 ≤ 14; omega
  have hgoes : ∀ x, hasT t x = true → hasT (dropT t sl) x = true := fun x hx => hasT_of hx hfl (drop_depth ..) (drop_pre ..)
  refine ⟨hfl, fun j hj => ?_, fun j hj hfj => ?_, fun i j hi hj hfi hfj hk => ?_, hlive', hcan'⟩
  · rw [bt_drop]
    by_cases e : j = sl
    · rw [if_pos e, gone_eq]; split
      · exact .inr (.inl rfl)
      · exact .inr (.inr rfl)
    · rw [if_neg e]; exact m.ok j hj
  · rw [drop_full] at hfj
    by_cases e : j = sl
    · rw [if_pos e] at hfj; cases hfj
    · rw [if_neg e] at hfj
      obtain ⟨a, b, c⟩ := m.slot j hj hfj
      rw [bt_drop, if_neg e]
      exact ⟨a, hgoes _ b, row_mono (fun i _ h => by rw [← drop_hasE hf]; exact h) c⟩
  · rw [drop_full] at hfi hfj
    by_cases ei : i = sl
    · rw [if_pos ei] at hfi; cases hfi
    · by_cases ej : j = sl
      · rw [if_pos ej] at hfj; cases hfj
      · rw [if_neg ei] at hfi; rw [if_neg ej] at hfj
        exact m.inj i j hi hj hfi hfj hk
/-- Another value. -/
theorem May.set {t : Tab} {s : BitVec 64} (m : May t s) (j : Nat) (v : BitVec 64) : May (setT t j v) s :=
  ⟨m.flat, m.ok, m.slot, m.inj, by have h : nFull (setT t j v) = nFull t := by unfold nFull; rfl
                                   rw [h]; exact m.live, by have h : nFill (setT t j v) = nFill t := by unfold nFill; rfl
                                                            rw [h]; exact m.can⟩
/-- There is room while fewer than fourteen slots are filled. -/
theorem exists_empty {t : Tab} {s : BitVec 64} (m : May t s) (h : 0 < t.can) : ∃ j, j < 16 ∧ bt t j = 128#8 := by
  apply Classical.byContradiction
  intro hn
  have : nFill t = 16 := by
    unfold nFill
    have h2 : (List.range 16).countP (fillJ t) = (List.range 16).length := List.countP_eq_length.2 fun j hj => by
      rw [fillJ, bne_iff_ne]
      exact fun e => hn ⟨j, by simpa using hj, e⟩
    rw [h2]; rfl
  have h3 := m.can
  omega
theorem findSome_some {α β : Type} (f : α → Option β) : ∀ (l : List α) (g : α), g ∈ l → (f g).isSome = true → ∃ y, l.findSome? f = some y
  | g' :: l, g, hg, hf => by
    rw [List.findSome?_cons]
    cases h : f g' with
    | some y => exact ⟨y, rfl⟩
    | none =>
      rcases List.mem_cons.1 hg with rfl | hg
      · rw [h] at hf; cases hf
      · exact findSome_some f l g hg hf
theorem freeIn_some (t : Tab) (g : Nat) (h : hasE t g = true) : (freeIn t g).isSome = true := by
  obtain ⟨x, hx, hb⟩ := (hasE_iff t g).1 h
  rw [freeIn_eq, Option.isSome_map]
  have : x ∈ lanesOf (freeM (t.c g)) := (mem_lanes _ _).2 ⟨hx, (free_iff t g x hx).2 (.inl hb)⟩
  cases hl : lanesOf (freeM (t.c g)) with
  | nil => rw [hl] at this; cases this
  | cons y l => rfl
theorem place_room {t : Tab} {s k : BitVec 64} (m : May t s) (h : 0 < t.can) (hg : hasT t (hashOf s k) = true) (hk : hasKT t k = false) : ∃ sl, placeT t s k = .ok sl := by
  obtain ⟨j, hj, hb⟩ := exists_empty m h
  have hE : hasE t (j / 8) = true := (hasE_iff t _).2 ⟨j % 8, by omega, by rw [show 8 * (j / 8) + j % 8 = j by omega]; exact hb⟩
  have hex : ∃ g, g ∈ rowT t s k ∧ hasE t g = true := by
    cases hG : hasE t (gOf s k) with
    | true => exact ⟨_, (mem_row t s k _).2 (.inl rfl), hG⟩
    | false =>
      refine ⟨j / 8, (mem_row t s k _).2 (.inr ⟨hG, ?_⟩), hE⟩
      have h1 := gOf_lt s k
      have h2 : j / 8 ≠ gOf s k := by intro e; rw [e, hG] at hE; cases hE
      omega
  obtain ⟨g, hgr, hgE⟩ := hex
  obtain ⟨y, hy⟩ := findSome_some (freeIn t) _ g hgr (freeIn_some t g hgE)
  have hy' : freeAt t (rowT t s k) = some y := hy
  obtain ⟨g', x⟩ := y
  refine ⟨8 * g' + x, ?_⟩
  rw [placeT, if_pos hg, hk, if_neg (by decide), hy']
  dsimp only
  rw [if_pos (by rw [decide_eq_true h, Bool.or_true])]
end Go.Proofs.Hc
