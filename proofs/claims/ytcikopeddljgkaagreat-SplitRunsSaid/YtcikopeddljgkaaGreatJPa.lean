/- Layer 19, who writes: the model. Plain law, no program in sight. -/
import Derived.Test.YtcikopeddljgkaaGreatJHxr
import Derived.Test.YtcikopeddljgkaaGreatJHto
set_option linter.unusedSimpArgs false
set_option linter.unusedVariables false
namespace Go.Proofs.Hc
open Go.RowKit
structure PenT where
  ph : Int
  sl : Int
  op : Int
  key : BitVec 64
  a : BitVec 64
  b : BitVec 64
  hash : BitVec 64
  count : BitVec 64
  can : BitVec 64
  live : BitVec 64
  grp : Int
  ctrl : BitVec 64
  left : BitVec 8
  free : Int
  fctrl : BitVec 64
  slot : Int
  val : BitVec 64
  found : Bool
def penC (p : PenT) : Array Value := #[I p.ph, I p.sl, I p.op, U p.key, U p.a, U p.b, U p.hash, U p.count, U p.can, U p.live, I p.grp, U p.ctrl, Y p.left, I p.free, U p.fctrl, I p.slot, U p.val, .bool p.found]
def zeroPen : PenT := ⟨0, 0, 0, 0#64, 0#64, 0#64, 0#64, 0#64, 0#64, 0#64, 0, 0#64, 0#8, 0, 0#64, 0, 0#64, false⟩
theorem penC_size (p : PenT) : (penC p).size = 18 := rfl
theorem penC_one (p : PenT) : allOne (penC p) = true := by unfold allOne penC; simp [Value.oneCell']
theorem penC_all (p : PenT) : (penC p).extract 0 18 = penC p := by have := Array.extract_size (xs := penC p); rwa [penC_size] at this
def oddB (x : BitVec 64) : Bool := (x &&& 1#64) == 1#64
structure AccT where
  kind : Int
  at_ : Int
  new : BitVec 64
def doP (c : List (BitVec 64)) (x : AccT) : Option (List (BitVec 64) × BitVec 64) :=
  match c[x.at_.toNat]? with
  | none => none
  | some w => some (if x.kind = 1 then c else if x.kind = 2 then c.set x.at_.toNat x.new else c.set x.at_.toNat (w + x.new), w)
end Go.Proofs.Hc
namespace Go.Proofs.Hc
open Go.RowKit
theorem mk_depth (a : BitVec 64) (b : Int) (c : BitVec 64) (d e : Int) (f g h : Nat → BitVec 64) : (Tab.mk a b c d e f g h).depth = b := rfl
theorem mk_pre (a : BitVec 64) (b : Int) (c : BitVec 64) (d e : Int) (f g h : Nat → BitVec 64) : (Tab.mk a b c d e f g h).pre = c := rfl
theorem mk_count (a : BitVec 64) (b : Int) (c : BitVec 64) (d e : Int) (f g h : Nat → BitVec 64) : (Tab.mk a b c d e f g h).count = a := rfl
theorem fill_depth (t : Tab) (s k v : BitVec 64) (sl : Nat) : (fillT t s k v sl).depth = t.depth := by unfold fillT; exact mk_depth _ _ _ _ _ _ _ _
theorem fill_pre (t : Tab) (s k v : BitVec 64) (sl : Nat) : (fillT t s k v sl).pre = t.pre := by unfold fillT; exact mk_pre _ _ _ _ _ _ _ _
theorem fill_count (t : Tab) (s k v : BitVec 64) (sl : Nat) : (fillT t s k v sl).count = t.count := by unfold fillT; exact mk_count _ _ _ _ _ _ _ _
theorem bt_with (t t' : Tab) (sl : Nat) (b : BitVec 8) (hc : t'.c = fun i => if i = sl / 8 then withB (t.c (sl / 8)) (sl % 8) b else t.c i) (j : Nat) : bt t' j = if j = sl then b else bt t j := by
  unfold bt
  rw [hc]
  dsimp only
  by_cases h : j / 8 = sl / 8
  · rw [if_pos h, byteAt_withB _ _ _ _ (by omega) (by omega), h]
    by_cases h2 : j % 8 = sl % 8
    · rw [if_pos h2, if_pos (by omega)]
    · rw [if_neg h2, if_neg (by intro e; rw [e] at h2; exact h2 rfl)]
  · rw [if_neg h, if_neg (by intro e; rw [e] at h; exact h rfl)]
theorem bt_fill (t : Tab) (s k v : BitVec 64) (sl j : Nat) : bt (fillT t s k v sl) j = if j = sl then hash2 (hashOf s k) else bt t j := bt_with t _ sl _ rfl j
theorem flatT_iff (t : Tab) : flatT t = true ↔ 0 ≤ t.depth ∧ t.depth ≤ 5 ∧ N (t.pre >>> t.depth.toNat) = 0 ∧ 0 ≤ t.can ∧ t.can ≤ 14 ∧ 0 ≤ t.live ∧ t.live ≤ 14 := by
  rw [flatT]
  simp only [Bool.and_eq_true, decide_eq_true_iff, beq_iff_eq]
  constructor
  · rintro ⟨⟨⟨⟨a, b⟩, c⟩, d, e⟩, f, g⟩; exact ⟨a, b, c, d, e, f, g⟩
  · rintro ⟨a, b, c, d, e, f, g⟩; exact ⟨⟨⟨⟨a, b⟩, c⟩, d, e⟩, f, g⟩
theorem flatT_of {t t' : Tab} (h : flatT t = true) (hd : t'.depth = t.depth) (hp : t'.pre = t.pre) (h1 : 0 ≤ t'.can) (h2 : t'.can ≤ 14) (h3 : 0 ≤ t'.live) (h4 : t'.live ≤ 14) : flatT t' = true := by
  obtain ⟨a, b, c, _⟩ := (flatT_iff t).1 h
  refine (flatT_iff t').2 ⟨?_, ?_, ?_, h1, h2, h3, h4⟩ <;> rw [hd]
  · exact a
  · exact b
  · rw [hp]; exact c
theorem hasT_iff (t : Tab) (h : BitVec 64) : hasT t h = true ↔ flatT t = true ∧ topT h t.depth = t.pre := by rw [hasT, Bool.and_eq_true, beq_iff_eq]
theorem hasT_of {t t' : Tab} {h : BitVec 64} (hh : hasT t h = true) (hf : flatT t' = true) (hd : t'.depth = t.depth) (hp : t'.pre = t.pre) : hasT t' h = true :=
  (hasT_iff t' h).2 ⟨hf, by rw [hd, hp]; exact ((hasT_iff t h).1 hh).2⟩
theorem full_of_h2 {t : Tab} {j : Nat} {h : BitVec 64} (e : bt t j = hash2 h) : fullJ t j = true := by
  rw [fullJ, e]; simpa using hash2_lt h
theorem free_iff (t : Tab) (g x : Nat) (hx : x < 8) : (freeM (t.c g)).getLsbD x = true ↔ bt t (8 * g + x) = 128#8 ∨ bt t (8 * g + x) = 254#8 := by
  rw [free_byte _ _ hx, bt_at t g x hx, Bool.or_eq_true, beq_iff_eq, beq_iff_eq]
structure Spot (t : Tab) (s k : BitVec 64) (sl : Nat) : Prop where
  lt : sl < 16
  free : bt t sl = 128#8 ∨ bt t sl = 254#8
  row : sl / 8 ∈ rowT t s k
  goes : hasT t (hashOf s k) = true
  not : ∀ j, j < 16 → fullJ t j = true → t.k j ≠ k
  can : bt t sl = 128#8 → 0 < t.can
theorem place_spot {t : Tab} {s k : BitVec 64} {sl : Nat} (h : placeT t s k = .ok sl) : Spot t s k sl := by
  obtain ⟨g, x, rfl, hg, hx, hr, -, hf, hgo, hn, hd⟩ := place_ok h
  refine ⟨by omega, (free_iff t g x hx).1 hf, by rw [show (8 * g + x) / 8 = g by omega]; exact hr, hgo, fun j hj hfj hk => ?_, fun he => ?_⟩
  · have := (hasKT_iff t k).2 ⟨j, hj, hfj, hk⟩
    rw [hn] at this; cases this
  · rcases hd with hd | hd
    · exfalso
      rw [bne_iff_ne, ne_eq, and_lane _ x hx, delM_bit _ x hx, ← bt_at t g x hx, he] at hd
      exact hd (by decide)
    · exact hd
theorem Spot.notfull {t : Tab} {s k : BitVec 64} {sl : Nat} (h : Spot t s k sl) : fullJ t sl = false := by
  rw [fullJ]
  rcases h.free with e | e <;> rw [e] <;> decide
theorem fill_full {t : Tab} (s k v : BitVec 64) (sl j : Nat) : fullJ (fillT t s k v sl) j = if j = sl then true else fullJ t j := by
  rw [fullJ, bt_fill]
  by_cases h : j = sl
  · rw [if_pos h, if_pos h]; simpa using hash2_lt (hashOf s k)
  · rw [if_neg h, if_neg h, fullJ]
theorem fill_fill {t : Tab} (s k v : BitVec 64) (sl j : Nat) : fillJ (fillT t s k v sl) j = if j = sl then true else fillJ t j := by
  rw [fillJ, bt_fill]
  by_cases h : j = sl
  · rw [if_pos h, if_pos h, bne_iff_ne]
    intro e
    have := hash2_lt (hashOf s k)
    rw [e] at this; exact absurd this (by decide)
  · rw [if_neg h, if_neg h, fillJ]
theorem fill_nFull {t : Tab} {s k : BitVec 64} {sl : Nat} (v : BitVec 64) (h : Spot t s k sl) : nFull (fillT t s k v sl) = nFull t + 1 := by
  have := countP_upd (fullJ t) (fullJ (fillT t s k v sl)) sl 16 (fun j hj => by rw [fill_full, if_neg hj])
  rw [h.notfull, fill_full, if_pos rfl, if_neg (by simp), if_pos ⟨h.lt, rfl⟩] at this
  unfold nFull
  exact this
theorem fill_nFill {t : Tab} {s k : BitVec 64} {sl : Nat} (v : BitVec 64) (h : Spot t s k sl) : nFill (fillT t s k v sl) = nFill t + if bt t sl = 128#8 then 1 else 0 := by
  have := countP_upd (fillJ t) (fillJ (fillT t s k v sl)) sl 16 (fun j hj => by rw [fill_fill, if_neg hj])
  rw [fill_fill, if_pos rfl, if_pos (show sl < 16 ∧ true = true from ⟨h.lt, rfl⟩)] at this
  have hlt := h.lt
  unfold nFill
  rcases h.free with e | e
  · rw [if_pos e]
    rw [if_neg (by rw [fillJ, e]; simp)] at this
    exact this
  · rw [if_neg (by rw [e]; decide)]
    rw [if_pos (by rw [fillJ, e]; exact ⟨hlt, by decide⟩)] at this
    omega
theorem fill_can {t : Tab} {s k : BitVec 64} {sl : Nat} (v : BitVec 64) : (fillT t s k v sl).can = if bt t sl = 128#8 then t.can - 1 else t.can := by
  show (if emptyM (t.c (sl / 8)) &&& laneM (sl % 8) != 0#8 then t.can - 1 else t.can) = _
  have e : (emptyM (t.c (sl / 8)) &&& laneM (sl % 8) != 0#8) = true ↔ bt t sl = 128#8 := by
    rw [bne_iff_ne, ne_eq, and_lane _ _ (by omega), emptyM_bit _ _ (by omega)]
    show ¬ (bt t sl == 128#8) = false ↔ _
    simp
  by_cases h : bt t sl = 128#8
  · rw [if_pos (e.2 h), if_pos h]
  · rw [if_neg (fun h2 => h (e.1 h2)), if_neg h]
theorem fill_hasE {t : Tab} {s k : BitVec 64} {sl : Nat} (v : BitVec 64) (g : Nat) (h : hasE (fillT t s k v sl) g = true) : hasE t g = true := by
  rw [hasE_iff] at h ⊢
  obtain ⟨x, hx, hb⟩ := h
  rw [bt_fill] at hb
  by_cases he : 8 * g + x = sl
  · rw [if_pos he] at hb
    have := hash2_lt (hashOf s k)
    rw [hb] at this; exact absurd this (by decide)
  · rw [if_neg he] at hb; exact ⟨x, hx, hb⟩
theorem May.fill {t : Tab} {s k : BitVec 64} {sl : Nat} (m : May t s) (v : BitVec 64) (h : Spot t s k sl) : May (fillT t s k v sl) s := by
  have hlt := h.lt
  have hnF := fill_nFull v h
  have hnf := fill_nFill v h
  have hcan := fill_can (t := t) (s := s) (k := k) (sl := sl) v
  have hcan' : (fillT t s k v sl).can = 14 - (nFill (fillT t s k v sl) : Int) := by
    rw [hcan, hnf, m.can]
    split
    · rw [show ((nFill t + 1 : Nat) : Int) = (nFill t : Int) + 1 by omega]; omega
    · rw [Nat.add_zero]
  have hlive' : (fillT t s k v sl).live = (nFull (fillT t s k v sl) : Int) := by
    rw [hnF]; show t.live + 1 = _; rw [m.live]; omega
  have hfl : flatT (fillT t s k v sl) = true := by
    obtain ⟨a, b, c, d, e, f, g⟩ := (flatT_iff t).1 m.flat
    have hle := nFull_le (fillT t s k v sl)
    have hc0 : 0 ≤ (fillT t s k v sl).can := by
      rw [hcan]
      split
      · have := h.can ‹_›; omega
      · exact d
    refine flatT_of m.flat (fill_depth ..) (fill_pre ..) hc0 ?_ ?_ ?_
    · rw [hcan']; clear hcan hcan' hnF hnf hlive' hc0; omega
    · rw [hlive']; clear hcan hcan' hnF hnf hlive' hc0; omega
    · rw [hlive']; rw [hcan'] at hc0; clear hcan hcan' hnF hnf hlive' f g d e; omega
  have hgoes : ∀ x, hasT t x = true → hasT (fillT t s k v sl) x = true := fun x hx => hasT_of hx hfl (fill_depth ..) (fill_pre ..)
  refine ⟨hfl, fun j hj => ?_, fun j hj hf => ?_, fun i j hi hj hfi hfj hk => ?_, hlive', hcan'⟩
  · rw [bt_fill]
    by_cases e : j = sl
    · rw [if_pos e]; exact .inl (hash2_lt _)
    · rw [if_neg e]; exact m.ok j hj
  · by_cases e : j = sl
    · have hk : (fillT t s k v sl).k j = k := by show (if j = sl then k else t.k j) = k; rw [if_pos e]
      rw [hk, bt_fill, if_pos e]
      exact ⟨rfl, hgoes _ h.goes, by rw [e]; exact row_mono (fun i _ => fill_hasE v i) h.row⟩
    · have hk : (fillT t s k v sl).k j = t.k j := by show (if j = sl then k else t.k j) = _; rw [if_neg e]
      rw [fill_full, if_neg e] at hf
      obtain ⟨a, b, c⟩ := m.slot j hj hf
      rw [hk, bt_fill, if_neg e]
      exact ⟨a, hgoes _ b, row_mono (fun i _ => fill_hasE v i) c⟩
  · change (if i = sl then k else t.k i) = (if j = sl then k else t.k j) at hk
    rw [fill_full] at hfi hfj
    by_cases ei : i = sl
    · by_cases ej : j = sl
      · omega
      · rw [if_pos ei, if_neg ej] at hk
        rw [if_neg ej] at hfj
        exact absurd hk.symm (h.not j hj hfj)
    · rw [if_neg ei] at hk hfi
      by_cases ej : j = sl
      · rw [if_pos ej] at hk
        exact absurd hk (h.not i hi hfi)
      · rw [if_neg ej] at hk hfj
        exact m.inj i j hi hj hfi hfj hk
theorem fill_pairs {t : Tab} {s k : BitVec 64} {sl : Nat} (v : BitVec 64) (h : Spot t s k sl) (p : BitVec 64 × BitVec 64) : p ∈ pairsT (fillT t s k v sl) ↔ p = (k, v) ∨ p ∈ pairsT t := by
  rw [mem_pairs, mem_pairs]
  constructor
  · rintro ⟨j, hj, hf, rfl⟩
    rw [fill_full] at hf
    have hk : (fillT t s k v sl).k j = if j = sl then k else t.k j := rfl
    have hv : (fillT t s k v sl).v j = if j = sl then v else t.v j := rfl
    rw [hk, hv]
    by_cases e : j = sl
    · rw [if_pos e, if_pos e]; exact .inl rfl
    · rw [if_neg e] at hf ⊢
      rw [if_neg e]
      exact .inr ⟨j, hj, hf, rfl⟩
  · rintro (rfl | ⟨j, hj, hf, rfl⟩)
    · refine ⟨sl, h.lt, by rw [fill_full, if_pos rfl], ?_⟩
      show _ = ((if sl = sl then k else t.k sl), (if sl = sl then v else t.v sl))
      rw [if_pos rfl, if_pos rfl]
    · have e : j ≠ sl := by rintro rfl; rw [h.notfull] at hf; cases hf
      refine ⟨j, hj, by rw [fill_full, if_neg e]; exact hf, ?_⟩
      show _ = ((if j = sl then k else t.k j), (if j = sl then v else t.v j))
      rw [if_neg e, if_neg e]
theorem scan_some (f : Nat → Bool) : ∀ (l : List Nat) (n x : Nat), x ∈ l → f x = true → ∃ y, scan f n l = some y
  | y :: l, n, x, hx, hf => by
    rw [scan]
    by_cases h : f y = true
    · rw [if_pos h]; exact ⟨_, rfl⟩
    · rw [if_neg h]
      rcases List.mem_cons.1 hx with rfl | hx
      · exact absurd hf h
      · exact scan_some f l (n + 1) x hx hf
theorem mem_cand (t : Tab) (s k : BitVec 64) (j : Nat) : j ∈ (rowT t s k).flatMap (candG t (hash2 (hashOf s k))) ↔ j / 8 ∈ rowT t s k ∧ bt t j = hash2 (hashOf s k) := by
  rw [List.mem_flatMap]
  constructor
  · rintro ⟨g, hg, hj⟩
    unfold candG at hj
    obtain ⟨x, hx, rfl⟩ := List.mem_map.1 hj
    obtain ⟨hx, hb⟩ := (mem_lanes _ _).1 hx
    rw [equalM_bit _ _ _ hx, beq_iff_eq] at hb
    rw [bt_at t g x hx, show (8 * g + x) / 8 = g by omega]
    exact ⟨hg, hb⟩
  · rintro ⟨hg, hb⟩
    refine ⟨j / 8, hg, ?_⟩
    unfold candG
    refine List.mem_map.2 ⟨j % 8, (mem_lanes _ _).2 ⟨by omega, ?_⟩, by omega⟩
    rw [equalM_bit _ _ _ (by omega), beq_iff_eq]; exact hb
theorem found_of {t : Tab} {s k : BitVec 64} {j : Nat} (m : May t s) (hj : j < 16) (hf : fullJ t j = true) (hk : t.k j = k) : ∃ n, foundE t s k = .ok (j, n) := by
  obtain ⟨a, b, c⟩ := m.slot j hj hf
  rw [hk] at a b c
  obtain ⟨y, hy⟩ := scan_some (fun x => t.k x == k) _ 0 j ((mem_cand t s k j).2 ⟨c, a⟩) (by simpa using hk)
  have hy' : foundT t s k = some y := hy
  obtain ⟨h1, h2⟩ := scan_mem _ _ _ _ hy
  obtain ⟨h3, h4⟩ := (mem_cand t s k y.1).1 h1
  have hy16 : y.1 < 16 := foundT_lt hy'
  have : y.1 = j := m.inj _ _ hy16 hj (full_of_h2 h4) hf (by rw [hk]; simpa using h2)
  obtain ⟨y1, y2⟩ := y
  dsimp only at this
  subst this
  exact ⟨y2, foundE_some hy'⟩
theorem found_none {t : Tab} {s k : BitVec 64} (h : ∀ j, j < 16 → fullJ t j = true → t.k j ≠ k) : foundE t s k = .error 4 := by
  apply foundE_none
  apply scan_none
  intro y hy
  obtain ⟨h3, h4⟩ := (mem_cand t s k y).1 hy
  have hy16 : y < 16 := by have := row_bound t s k _ h3; omega
  have := h y hy16 (full_of_h2 h4)
  simpa using this
theorem exists_empty {t : Tab} {s : BitVec 64} (m : May t s) (h : 0 < t.can) : ∃ j, j < 16 ∧ bt t j = 128#8 := by
  apply Classical.byContradiction
  intro hn
  have : nFill t = 16 := by
    unfold nFill
    have h2 : (List.range 16).countP (fillJ t) = (List.range 16).length := List.countP_eq_length.2 fun j hj => by
      rw [fillJ, bne_iff_ne]
      exact fun e => hn ⟨j, by simpa using hj, e⟩
    rw [h2]; rfl
  have h3 := m.can
  omega
theorem findSome_some {α β : Type} (f : α → Option β) : ∀ (l : List α) (g : α), g ∈ l → (f g).isSome = true → ∃ y, l.findSome? f = some y
  | g' :: l, g, hg, hf => by
    rw [List.findSome?_cons]
    cases h : f g' with
    | some y => exact ⟨y, rfl⟩
    | none =>
      rcases List.mem_cons.1 hg with rfl | hg
      · rw [h] at hf; cases hf
      · exact findSome_some f l g hg hf
theorem freeIn_some (t : Tab) (g : Nat) (h : hasE t g = true) : (freeIn t g).isSome = true := by
  obtain ⟨x, hx, hb⟩ := (hasE_iff t g).1 h
  rw [freeIn_eq, Option.isSome_map]
  have : x ∈ lanesOf (freeM (t.c g)) := (mem_lanes _ _).2 ⟨hx, (free_iff t g x hx).2 (.inl hb)⟩
  cases hl : lanesOf (freeM (t.c g)) with
  | nil => rw [hl] at this; cases this
  | cons y l => rfl
theorem place_room {t : Tab} {s k : BitVec 64} (m : May t s) (h : 0 < t.can) (hg : hasT t (hashOf s k) = true) (hk : hasKT t k = false) : ∃ sl, placeT t s k = .ok sl := by
  obtain ⟨j, hj, hb⟩ := exists_empty m h
  have hE : hasE t (j / 8) = true := (hasE_iff t _).2 ⟨j % 8, by omega, by rw [show 8 * (j / 8) + j % 8 = j by omega]; exact hb⟩
  have hex : ∃ g, g ∈ rowT t s k ∧ hasE t g = true := by
    cases hG : hasE t (gOf s k) with
    | true => exact ⟨_, (mem_row t s k _).2 (.inl rfl), hG⟩
    | false =>
      refine ⟨j / 8, (mem_row t s k _).2 (.inr ⟨hG, ?_⟩), hE⟩
      have h1 := gOf_lt s k
      have h2 : j / 8 ≠ gOf s k := by intro e; rw [e, hG] at hE; cases hE
      omega
  obtain ⟨g, hgr, hgE⟩ := hex
  obtain ⟨y, hy⟩ := findSome_some (freeIn t) _ g hgr (freeIn_some t g hgE)
  have hy' : freeAt t (rowT t s k) = some y := hy
  obtain ⟨g', x⟩ := y
  refine ⟨8 * g' + x, ?_⟩
  rw [placeT, if_pos hg, hk, if_neg (by decide), hy']
  dsimp only
  rw [if_pos (by rw [decide_eq_true h, Bool.or_true])]
theorem place_goes_no {t : Tab} {s k : BitVec 64} (h : hasT t (hashOf s k) = false) : placeT t s k = .error 2 := by rw [placeT, h, if_neg (by decide)]
theorem place_has_yes {t : Tab} {s k : BitVec 64} (h : hasT t (hashOf s k) = true) (hk : hasKT t k = true) : placeT t s k = .error 5 := by rw [placeT, if_pos h, if_pos hk]
theorem place_cases (t : Tab) (s k : BitVec 64) : (hasT t (hashOf s k) = false ∧ placeT t s k = .error 2) ∨ (hasT t (hashOf s k) = true ∧ hasKT t k = true ∧ placeT t s k = .error 5) ∨
    (hasT t (hashOf s k) = true ∧ hasKT t k = false ∧ placeT t s k = .error 6) ∨ (hasT t (hashOf s k) = true ∧ hasKT t k = false ∧ ∃ sl, placeT t s k = .ok sl) := by
  cases hg : hasT t (hashOf s k) with
  | false => exact .inl ⟨rfl, place_goes_no hg⟩
  | true =>
    cases hk : hasKT t k with
    | true => exact .inr (.inl ⟨rfl, rfl, place_has_yes hg hk⟩)
    | false =>
      refine .inr (.inr ?_)
      rw [placeT, if_pos hg, hk, if_neg (by decide)]
      cases freeAt t (rowT t s k) with
      | none => exact .inl ⟨rfl, rfl, rfl⟩
      | some y =>
        dsimp only
        split
        · exact .inr ⟨rfl, rfl, _, rfl⟩
        · exact .inl ⟨rfl, rfl, rfl⟩
end Go.Proofs.Hc
namespace Go.Proofs.Hc
open Go.RowKit
def wd1 (t : Tab) : BitVec 64 := BitVec.ofInt 64 t.depth ||| t.pre * 256#64
def tword (t : Tab) (i : Nat) : BitVec 64 :=
  if i = 0 then t.count else if i = 1 then wd1 t else if i = 2 then BitVec.ofInt 64 t.can else if i = 3 then BitVec.ofInt 64 t.live
  else if i < 6 then t.c (i - 4) else if i < 22 then t.k (i - 6) else if i < 38 then t.v (i - 22) else 0#64
def twords (t : Tab) : List (BitVec 64) := (List.range 40).map (tword t)
theorem twords_len (t : Tab) : (twords t).length = 40 := by unfold twords; simp
theorem twords_get (t : Tab) (i : Nat) (h : i < 40) : (twords t)[i]? = some (tword t i) := by
  unfold twords
  rw [List.getElem?_map, List.getElem?_range h]
  rfl
theorem tw_c (t : Tab) (g : Nat) (h : g < 2) : tword t (4 + g) = t.c g := by
  unfold tword
  rw [if_neg (by omega), if_neg (by omega), if_neg (by omega), if_neg (by omega), if_pos (by omega), show 4 + g - 4 = g by omega]
theorem tw_k (t : Tab) (j : Nat) (h : j < 16) : tword t (6 + j) = t.k j := by
  unfold tword
  rw [if_neg (by omega), if_neg (by omega), if_neg (by omega), if_neg (by omega), if_neg (by omega), if_pos (by omega), show 6 + j - 6 = j by omega]
theorem tw_v (t : Tab) (j : Nat) (h : j < 16) : tword t (22 + j) = t.v j := by
  unfold tword
  rw [if_neg (by omega), if_neg (by omega), if_neg (by omega), if_neg (by omega), if_neg (by omega), if_neg (by omega), if_pos (by omega), show 22 + j - 22 = j by omega]
theorem doP_in {l : List (BitVec 64)} {a : AccT} (h : a.at_.toNat < l.length) : ∃ y, doP l a = some y ∧ y.1.length = l.length := by
  unfold doP
  rw [List.getElem?_eq_getElem h]
  refine ⟨_, rfl, ?_⟩
  dsimp only
  split
  · rfl
  · split <;> simp
end Go.Proofs.Hc
namespace Go.Proofs.Hc
open Go.RowKit
theorem of_int_small (d : Int) (h0 : 0 ≤ d) (h1 : d ≤ 200) : (BitVec.ofInt 64 d).toNat = d.toNat := by
  rw [BitVec.toNat_ofInt]; omega
theorem pre_small {t : Tab} (hf : flatT t = true) : t.pre.toNat < 32 := by
  obtain ⟨h0, h5, hp, _⟩ := (flatT_iff t).1 hf
  have h : (t.pre >>> t.depth.toNat).toNat = 0 := by
    have : N (t.pre >>> t.depth.toNat) = ((t.pre >>> t.depth.toNat).toNat : Int) := rfl
    omega
  rw [BitVec.toNat_ushiftRight, Nat.shiftRight_eq_div_pow] at h
  have hd : t.depth.toNat ≤ 5 := by omega
  have h2 : t.pre.toNat < 2 ^ t.depth.toNat := by
    rcases Nat.lt_or_ge t.pre.toNat (2 ^ t.depth.toNat) with h1 | h1
    · exact h1
    · have := Nat.div_pos h1 (Nat.two_pow_pos _)
      omega
  exact Nat.lt_of_lt_of_le h2 (Nat.pow_le_pow_right (by omega) hd)
theorem wd1_depth {t : Tab} (hf : flatT t = true) : wd1 t &&& 255#64 = BitVec.ofInt 64 t.depth := by
  have hp := pre_small hf
  obtain ⟨h0, h5, _⟩ := (flatT_iff t).1 hf
  have hd : t.depth = 0 ∨ t.depth = 1 ∨ t.depth = 2 ∨ t.depth = 3 ∨ t.depth = 4 ∨ t.depth = 5 := by omega
  have hpp : t.pre = BitVec.ofNat 64 t.pre.toNat := by simp
  unfold wd1
  generalize t.pre.toNat = n at hp hpp
  rw [hpp]
  have : ∀ n : Nat, n < 32 → ∀ d : Nat, d < 6 → (BitVec.ofInt 64 (d : Int) ||| BitVec.ofNat 64 n * 256#64) &&& 255#64 = BitVec.ofInt 64 (d : Int) := by decide +kernel
  rcases hd with h | h | h | h | h | h <;> rw [h]
  · exact this n hp 0 (by omega)
  · exact this n hp 1 (by omega)
  · exact this n hp 2 (by omega)
  · exact this n hp 3 (by omega)
  · exact this n hp 4 (by omega)
  · exact this n hp 5 (by omega)
theorem wd1_pre {t : Tab} (hf : flatT t = true) : wd1 t >>> 8 = t.pre := by
  have hp := pre_small hf
  obtain ⟨h0, h5, _⟩ := (flatT_iff t).1 hf
  have hd : t.depth = 0 ∨ t.depth = 1 ∨ t.depth = 2 ∨ t.depth = 3 ∨ t.depth = 4 ∨ t.depth = 5 := by omega
  have hpp : t.pre = BitVec.ofNat 64 t.pre.toNat := by simp
  unfold wd1
  generalize t.pre.toNat = n at hp hpp
  rw [hpp]
  have : ∀ n : Nat, n < 32 → ∀ d : Nat, d < 6 → (BitVec.ofInt 64 (d : Int) ||| BitVec.ofNat 64 n * 256#64) >>> 8 = BitVec.ofNat 64 n := by decide +kernel
  rcases hd with h | h | h | h | h | h <;> rw [h]
  · exact this n hp 0 (by omega)
  · exact this n hp 1 (by omega)
  · exact this n hp 2 (by omega)
  · exact this n hp 3 (by omega)
  · exact this n hp 4 (by omega)
  · exact this n hp 5 (by omega)
end Go.Proofs.Hc
namespace Go.Proofs.Hc
open Go.RowKit
attribute [local go_sem] zbu zcc zax zbf zbo zbd zbn zbp zbw signed64 signed8 zap BitVec.ofInt_add BitVec.ofInt_mul ofInt_sub' zbb zbc wide8 eqN neN zca shr1 shr7 shr56
attribute [local go_sem high] zbe zbv
attribute [local go_sem] zaw zby zaj zas zaf zaz zar zak zbm zal zay zba
attribute [local go_sem] load26 load73 load23 store26 build73
attribute [local go_sem ↓] lrow26 lrow73 lrow23 srow26 zero26 brow73 zae zbk zbg zaa zab
attribute [local go_sem] zai zav zat zbj zbl zbr zaq zau zbs zbi zbh
attribute [local go_sem] nn2 nm2 nn3 nm3 nn4 nm4 nn5 nm5 nn6 nm6 nn7 nm7 nn8 nm8
section
attribute [local go_sem] zap
theorem pen_g0 (p : PenT) : (penC p)[0]? = some (I p.ph) := rfl
theorem pen_g1 (p : PenT) : (penC p)[1]? = some (I p.sl) := rfl
theorem pen_g2 (p : PenT) : (penC p)[2]? = some (I p.op) := rfl
theorem pen_g3 (p : PenT) : (penC p)[3]? = some (U p.key) := rfl
theorem pen_g4 (p : PenT) : (penC p)[4]? = some (U p.a) := rfl
theorem pen_g5 (p : PenT) : (penC p)[5]? = some (U p.b) := rfl
theorem pen_g6 (p : PenT) : (penC p)[6]? = some (U p.hash) := rfl
theorem pen_g7 (p : PenT) : (penC p)[7]? = some (U p.count) := rfl
theorem pen_g8 (p : PenT) : (penC p)[8]? = some (U p.can) := rfl
theorem pen_g9 (p : PenT) : (penC p)[9]? = some (U p.live) := rfl
theorem pen_g10 (p : PenT) : (penC p)[10]? = some (I p.grp) := rfl
theorem pen_g11 (p : PenT) : (penC p)[11]? = some (U p.ctrl) := rfl
theorem pen_g12 (p : PenT) : (penC p)[12]? = some (Y p.left) := rfl
theorem pen_g13 (p : PenT) : (penC p)[13]? = some (I p.free) := rfl
theorem pen_g14 (p : PenT) : (penC p)[14]? = some (U p.fctrl) := rfl
theorem pen_g15 (p : PenT) : (penC p)[15]? = some (I p.slot) := rfl
theorem pen_g16 (p : PenT) : (penC p)[16]? = some (U p.val) := rfl
theorem pen_g17 (p : PenT) : (penC p)[17]? = some (.bool p.found) := rfl
theorem pen_s0 (p : PenT) (x : Int) : (penC p).setIfInBounds 0 (I x) = penC { p with ph := x } := rfl
theorem pen_s1 (p : PenT) (x : Int) : (penC p).setIfInBounds 1 (I x) = penC { p with sl := x } := rfl
theorem pen_s2 (p : PenT) (x : Int) : (penC p).setIfInBounds 2 (I x) = penC { p with op := x } := rfl
theorem pen_s3 (p : PenT) (x : BitVec 64) : (penC p).setIfInBounds 3 (U x) = penC { p with key := x } := rfl
theorem pen_s4 (p : PenT) (x : BitVec 64) : (penC p).setIfInBounds 4 (U x) = penC { p with a := x } := rfl
theorem pen_s5 (p : PenT) (x : BitVec 64) : (penC p).setIfInBounds 5 (U x) = penC { p with b := x } := rfl
theorem pen_s6 (p : PenT) (x : BitVec 64) : (penC p).setIfInBounds 6 (U x) = penC { p with hash := x } := rfl
theorem pen_s7 (p : PenT) (x : BitVec 64) : (penC p).setIfInBounds 7 (U x) = penC { p with count := x } := rfl
theorem pen_s8 (p : PenT) (x : BitVec 64) : (penC p).setIfInBounds 8 (U x) = penC { p with can := x } := rfl
theorem pen_s9 (p : PenT) (x : BitVec 64) : (penC p).setIfInBounds 9 (U x) = penC { p with live := x } := rfl
theorem pen_s10 (p : PenT) (x : Int) : (penC p).setIfInBounds 10 (I x) = penC { p with grp := x } := rfl
theorem pen_s11 (p : PenT) (x : BitVec 64) : (penC p).setIfInBounds 11 (U x) = penC { p with ctrl := x } := rfl
theorem pen_s12 (p : PenT) (x : BitVec 8) : (penC p).setIfInBounds 12 (Y x) = penC { p with left := x } := rfl
theorem pen_s13 (p : PenT) (x : Int) : (penC p).setIfInBounds 13 (I x) = penC { p with free := x } := rfl
theorem pen_s14 (p : PenT) (x : BitVec 64) : (penC p).setIfInBounds 14 (U x) = penC { p with fctrl := x } := rfl
theorem pen_s15 (p : PenT) (x : Int) : (penC p).setIfInBounds 15 (I x) = penC { p with slot := x } := rfl
theorem pen_s16 (p : PenT) (x : BitVec 64) : (penC p).setIfInBounds 16 (U x) = penC { p with val := x } := rfl
theorem pen_s17 (p : PenT) (x : Bool) : (penC p).setIfInBounds 17 (.bool x) = penC { p with found := x } := rfl
theorem boxPen (p : PenT) (w : World) : (Instr.box 123 (.agg (penC p))).run Tryz.prog w = .ok (.pointer (some ⟨w.heap.size, 0, none⟩)) (w.alloc (.cells (penC p) 123)) := rfl
theorem loadPen (g o : Nat) (w : World) : (loadRow 123 ⟨g, o, none⟩).run Tryz.prog w = rowRes Tryz.prog 123 g o w ((w.heap[g]?).bind (rowAt o 18)) :=
  run_row Tryz.underlying123 rfl (by kernel_rfl) g o w
theorem storePen (g o : Nat) (vs : Array Value) (w : World) : (storeRow 123 ⟨g, o, none⟩ (.agg vs)).run Tryz.prog w = layRes Tryz.prog 123 g o vs w (((w.heap[g]?).map (canLay o 18 vs)).getD false) :=
  run_lay (by kernel_rfl) g o vs w
theorem lrowPen (a : Addr) : loadVar 123 a = loadRow 123 a := rfl
theorem srowPen (a : Addr) (v : Value) : storeVar 123 a v = storeRow 123 a v := rfl
attribute [local go_sem] pen_g0 pen_g1 pen_g2 pen_g3 pen_g4 pen_g5 pen_g6 pen_g7 pen_g8 pen_g9 pen_g10 pen_g11 pen_g12 pen_g13 pen_g14 pen_g15 pen_g16 pen_g17 penC_size penC_one penC_all boxPen loadPen storePen
attribute [local go_sem ↓] lrowPen srowPen
attribute [local irreducible] penC
theorem rSlab_any (n : Int) (w : World) : Calls Tryz.prog 38 #[I n] w fun e w' => e = .returned (.bool (decide (0 ≤ n) && decide (n < 128))) ∧ w = w' := by
  rcases Int.lt_or_le n 0 with h | h
  · go_enter Tryz.func38, Tryz.ntmps38
    go_wp2
    go_ret
    exact ⟨by first | (simp; done) | (simp; omega), rfl⟩
  · rcases Int.lt_or_le n 128 with h2 | h2
    · go_enter Tryz.func38, Tryz.ntmps38
      go_wp2
      go_ret
      exact ⟨by simp [h, h2], rfl⟩
    · go_enter Tryz.func38, Tryz.ntmps38
      go_wp2
      go_ret
      exact ⟨by first | (simp [h]; done) | (simp [h]; omega), rfl⟩
theorem rCell_any (n k : Int) (h0 : 0 ≤ n) (h1 : n < 128) (h2 : 0 ≤ k) (h3 : k ≤ 40) (w : World) : Calls Tryz.prog 40 #[I n, I k] w fun e w' => e = .returned (I (16 + 40 * n + k)) ∧ w = w' := by
  go_enter Tryz.func40, Tryz.ntmps40
  go_wp2
  go_ret
  exact ⟨rfl, rfl⟩
end
end Go.Proofs.Hc
namespace Go.Proofs.Hc
open Go.RowKit
def wsL (ws : Nat → BitVec 64) : List (BitVec 64) := (List.range 40).map ws
def rlist (t : Tab) : List (BitVec 64) := rwords t 16 16 ++ [0#64, 0#64]
def rword (t : Tab) (i : Nat) : BitVec 64 := if i = 1 then BitVec.ofInt 64 t.depth + 256#64 * t.pre else tword t i
theorem rlist_eq (t : Tab) : rlist t = wsL (rword t) := by kernel_rfl
theorem wsL_congr {u v : Nat → BitVec 64} (h : ∀ i, i < 40 → u i = v i) : wsL u = wsL v := by
  unfold wsL
  exact List.map_congr_left fun i hi => h i (List.mem_range.1 hi)
theorem umod256 (x : BitVec 64) : x % 256#64 = x &&& 255#64 := by
  apply BitVec.eq_of_toNat_eq
  rw [BitVec.toNat_umod, BitVec.toNat_and]
  exact (Nat.and_two_pow_sub_one_eq_mod x.toNat 8).symm
theorem udiv256 (x : BitVec 64) : x / 256#64 = x >>> 8 := by
  apply BitVec.eq_of_toNat_eq
  rw [BitVec.toNat_udiv, BitVec.toNat_ushiftRight, Nat.shiftRight_eq_div_pow]
  rfl
theorem rlist_flat {t : Tab} (hf : flatT t = true) : rlist t = twords t := by
  rw [rlist_eq]
  refine wsL_congr fun i hi => ?_
  unfold rword
  by_cases h : i = 1
  · subst h
    rw [if_pos rfl]
    show _ = wd1 t
    have hp := pre_small hf
    obtain ⟨h0, h5, _⟩ := (flatT_iff t).1 hf
    have hd : t.depth = 0 ∨ t.depth = 1 ∨ t.depth = 2 ∨ t.depth = 3 ∨ t.depth = 4 ∨ t.depth = 5 := by omega
    have hpp : t.pre = BitVec.ofNat 64 t.pre.toNat := by simp
    unfold wd1
    generalize t.pre.toNat = n at hp hpp
    rw [hpp]
    have : ∀ n : Nat, n < 32 → ∀ d : Nat, d < 6 → BitVec.ofInt 64 (d : Int) + 256#64 * BitVec.ofNat 64 n = BitVec.ofInt 64 (d : Int) ||| BitVec.ofNat 64 n * 256#64 := by decide +kernel
    rcases hd with h | h | h | h | h | h <;> rw [h]
    · exact this n hp 0 (by omega)
    · exact this n hp 1 (by omega)
    · exact this n hp 2 (by omega)
    · exact this n hp 3 (by omega)
    · exact this n hp 4 (by omega)
    · exact this n hp 5 (by omega)
  · rw [if_neg h]
end Go.Proofs.Hc
namespace Go.Proofs.Hc
open Go.RowKit
structure PartT where
  ph : Int
  who : Int
  sl : Int
  t0 : Int
  t1 : Int
  seed : BitVec 64
  count : BitVec 64
  head : BitVec 64
  c : Nat → BitVec 64
  k : Nat → BitVec 64
  v : Nat → BitVec 64
  at_ : Int
  ws : Nat → BitVec 64
def zeroPart : PartT := ⟨0, 0, 0, 0, 0, 0#64, 0#64, 0#64, fun _ => 0#64, fun _ => 0#64, fun _ => 0#64, 0, fun _ => 0#64⟩
def inSlab (x : Int) : Bool := decide (0 ≤ x) && decide (x < 128)
def slabsS (a b c : Int) : Bool := (inSlab a && inSlab b && inSlab c) && (!(a == b) && !(a == c) && !(b == c))
def mostS (ph : Int) : Option Int := if ph = 2 then some 2 else if ph = 3 ∨ ph = 4 then some 16 else if ph = 6 then some 80 else none
def atS (p : PartT) : Bool := match mostS p.ph with
  | some n => decide (0 ≤ p.at_) && decide (p.at_ < n)
  | none => true
def rightS (p : PartT) : Bool := (decide (0 ≤ p.ph) && decide (p.ph ≤ 9)) && (decide (0 ≤ p.who) && decide (p.who < 8)) && slabsS p.sl p.t0 p.t1 && !oddB p.count && atS p
structure RightS (p : PartT) : Prop where
  ph0 : 0 ≤ p.ph
  ph9 : p.ph ≤ 9
  who0 : 0 ≤ p.who
  who7 : p.who < 8
  sl0 : 0 ≤ p.sl
  sl1 : p.sl < 128
  a0 : 0 ≤ p.t0
  a1 : p.t0 < 128
  b0 : 0 ≤ p.t1
  b1 : p.t1 < 128
  sa : p.sl ≠ p.t0
  sb : p.sl ≠ p.t1
  ab : p.t0 ≠ p.t1
  even : oddB p.count = false
  at2 : p.ph = 2 → 0 ≤ p.at_ ∧ p.at_ < 2
  at3 : p.ph = 3 ∨ p.ph = 4 → 0 ≤ p.at_ ∧ p.at_ < 16
  at6 : p.ph = 6 → 0 ≤ p.at_ ∧ p.at_ < 80
theorem slabsS_iff (a b c : Int) : slabsS a b c = true ↔ (0 ≤ a ∧ a < 128) ∧ (0 ≤ b ∧ b < 128) ∧ (0 ≤ c ∧ c < 128) ∧ a ≠ b ∧ a ≠ c ∧ b ≠ c := by
  unfold slabsS inSlab
  simp only [Bool.and_eq_true, decide_eq_true_eq, Bool.not_eq_true', beq_eq_false_iff_ne]
  constructor
  · rintro ⟨⟨⟨h1, h2⟩, h3⟩, ⟨h4, h5⟩, h6⟩; exact ⟨h1, h2, h3, h4, h5, h6⟩
  · rintro ⟨h1, h2, h3, h4, h5, h6⟩; exact ⟨⟨⟨h1, h2⟩, h3⟩, ⟨h4, h5⟩, h6⟩
theorem atS_iff (p : PartT) : atS p = true ↔ (p.ph = 2 → 0 ≤ p.at_ ∧ p.at_ < 2) ∧ (p.ph = 3 ∨ p.ph = 4 → 0 ≤ p.at_ ∧ p.at_ < 16) ∧ (p.ph = 6 → 0 ≤ p.at_ ∧ p.at_ < 80) := by
  unfold atS mostS
  by_cases h2 : p.ph = 2
  · rw [if_pos h2]
    simp only [Bool.and_eq_true, decide_eq_true_eq]
    exact ⟨fun h => ⟨fun _ => h, fun h' => by omega, fun h' => by omega⟩, fun h => h.1 h2⟩
  · rw [if_neg h2]
    by_cases h3 : p.ph = 3 ∨ p.ph = 4
    · rw [if_pos h3]
      simp only [Bool.and_eq_true, decide_eq_true_eq]
      exact ⟨fun h => ⟨fun h' => absurd h' h2, fun _ => h, fun h' => by omega⟩, fun h => h.2.1 h3⟩
    · rw [if_neg h3]
      by_cases h6 : p.ph = 6
      · rw [if_pos h6]
        simp only [Bool.and_eq_true, decide_eq_true_eq]
        exact ⟨fun h => ⟨fun h' => absurd h' h2, fun h' => absurd h' h3, fun _ => h⟩, fun h => h.2.2 h6⟩
      · rw [if_neg h6]
        exact ⟨fun _ => ⟨fun h' => absurd h' h2, fun h' => absurd h' h3, fun h' => absurd h' h6⟩, fun _ => rfl⟩
theorem zdk (p : PartT) : rightS p = true ↔ RightS p := by
  unfold rightS
  rw [Bool.and_eq_true, Bool.and_eq_true, Bool.and_eq_true, Bool.and_eq_true, slabsS_iff, atS_iff]
  simp only [Bool.and_eq_true, decide_eq_true_eq, Bool.not_eq_true']
  constructor
  · rintro ⟨⟨⟨⟨h1, h2⟩, h3, h4, h5, h6, h7, h8⟩, h9⟩, h10, h11, h12⟩
    exact ⟨h1.1, h1.2, h2.1, h2.2, h3.1, h3.2, h4.1, h4.2, h5.1, h5.2, h6, h7, h8, h9, h10, h11, h12⟩
  · intro h
    exact ⟨⟨⟨⟨⟨h.ph0, h.ph9⟩, h.who0, h.who7⟩, ⟨h.sl0, h.sl1⟩, ⟨h.a0, h.a1⟩, ⟨h.b0, h.b1⟩, h.sa, h.sb, h.ab⟩, h.even⟩, h.at2, h.at3, h.at6⟩
def whereS (p : PartT) : Int :=
  if p.ph = 1 then 17 + 40 * p.sl else if p.ph = 2 then 20 + 40 * p.sl + p.at_ else if p.ph = 3 then 22 + 40 * p.sl + p.at_ else if p.ph = 4 then 38 + 40 * p.sl + p.at_
  else if p.ph = 6 then 16 + 40 * (if p.at_ < 40 then p.t0 else p.t1) + p.at_ % 40 else 16 + 40 * p.sl
def needS (p : PartT) : Option AccT :=
  if rightS p && decide (p.ph ≤ 6) then some ⟨if p.ph = 5 ∨ p.ph = 6 then 2 else 1, whereS p, if p.ph = 5 then p.count + 1#64 else if p.ph = 6 then p.ws p.at_.toNat else 0#64⟩ else none
def gotS (p : PartT) : Tab := ⟨0#64, 0, 0#64, 0, 0, p.c, p.k, p.v⟩
def deepS (p : PartT) : Int := ((p.head &&& 255#64).toNat : Int)
def preS (p : PartT) : BitVec 64 := p.head >>> 8
def firstS (p : PartT) (h : BitVec 64) : Bool := hasT (bareT 0#64 (deepS p + 1) (2#64 * preS p)) h
def halfS (p : PartT) (i : Nat) : Except Int Tab :=
  match newE (deepS p + 1) (2#64 * preS p + BitVec.ofNat 64 i) with
  | .error e => .error e
  | .ok t => laidT p.seed t ((pairsT (gotS p)).filter fun x => firstS p (hashOf p.seed x.1) == (i == 0))
def halvesS (p : PartT) : Option (Nat → BitVec 64) :=
  match halfS p 0, halfS p 1 with
  | .ok a, .ok b => some fun i => if i < 40 then tword a i else tword b (i - 40)
  | _, _ => none
def nextS (p : PartT) (from_ : Nat) : Option Nat := (List.range 16).find? fun j => decide (from_ ≤ j) && fullJ (gotS p) j
def onS (p : PartT) (from_ : Nat) : PartT :=
  match nextS p from_ with
  | some j => { p with at_ := (j : Int), ph := 3 }
  | none => match halvesS p with
    | some ws => { p with ws := ws, ph := 5 }
    | none => { p with ph := 9 }
def headS (p : PartT) (w : BitVec 64) : PartT :=
  if decide (5 ≤ (w &&& 255#64).toNat) || ((w >>> 8) >>> (w &&& 255#64).toNat != 0#64) then { p with head := w, at_ := 0, ph := 9 } else { p with head := w, at_ := 0, ph := 2 }
def takeS (p : PartT) (w : BitVec 64) : PartT :=
  if p.ph = 0 then (if oddB w then { p with ph := 8 } else { p with ph := 1, count := w })
  else if p.ph = 1 then headS p w
  else if p.ph = 2 then (if p.at_ = 1 then onS { p with c := updW p.c 1 w, at_ := 2 } 0 else { p with c := updW p.c 0 w, at_ := 1 })
  else if p.ph = 3 then { p with k := updW p.k p.at_.toNat w, ph := 4 }
  else if p.ph = 4 then onS { p with v := updW p.v p.at_.toNat w } (p.at_.toNat + 1)
  else if p.ph = 5 then { p with at_ := 0, ph := 6 }
  else { p with at_ := p.at_ + 1, ph := if p.at_ = 79 then 7 else 6 }
def stepS (c : List (BitVec 64)) (p : PartT) : Option (List (BitVec 64) × PartT) :=
  match needS p with
  | none => some (c, p)
  | some x => (doP c x).map fun y => (y.1, takeS p y.2)
def manyS (p : PartT) : Int := if rightS p then (if p.ph = 5 then 81 else if p.ph = 6 then 80 - p.at_ else 0) else 0
end Go.Proofs.Hc
