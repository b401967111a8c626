/- Layer 22, in cells that hold a table: the whole run. Plain law, no program in sight. -/
import Derived.Test.YtcikopeddljgkaaGreatJPt
set_option linter.unusedSimpArgs false
set_option linter.unusedVariables false
namespace Go.Proofs.Hc
open Go.RowKit
section
variable {l : List (BitVec 64)} {p : PartT}
theorem RunsS.load (hr : RightS p) (h : p.ph ≤ 4) {w : BitVec 64} {k : Nat} {l' : List (BitVec 64)} {p' : PartT} (hw : l[(whereS p).toNat]? = some w) (hk : RunsS l (takeS p w) k l' p') : RunsS l p (k + 1) l' p' := by
  refine .step (y := (l, w)) (by omega) ((zdk p).2 hr) ?_ hk
  unfold doP accS
  dsimp only
  rw [hw, if_neg (by omega)]
  rfl
theorem RunsS.store (hr : RightS p) (h : p.ph = 5 ∨ p.ph = 6) {u x : BitVec 64} {j : Nat} (hj : j = (whereS p).toNat) (hx : x = if p.ph = 5 then p.count + 1#64 else p.ws p.at_.toNat) {k : Nat} {l' : List (BitVec 64)} {p' : PartT} (hw : l[j]? = some u) (hk : RunsS (l.set j x) (takeS p u) k l' p') : RunsS l p (k + 1) l' p' := by
  refine .step (y := (l.set j x, u)) (by omega) ((zdk p).2 hr) ?_ hk
  unfold doP accS
  dsimp only
  rw [← hj, hw, if_pos h]
  dsimp only
  rw [if_neg (by decide), if_pos rfl, hx]
  by_cases h5 : p.ph = 5
  · rw [if_pos h5, if_pos h5]
  · rw [if_neg h5, if_neg h5, if_pos (show p.ph = 6 by omega)]
end
structure GotTo (t : Tab) (who t0 t1 : Int) (s : BitVec 64) (f : Nat) (p : PartT) : Prop where
  who_ : p.who = who
  sl : p.sl = 0
  e0 : p.t0 = t0
  e1 : p.t1 = t1
  seed : p.seed = s
  count : p.count = t.count
  head : p.head = wd1 t
  c : ∀ g, g < 2 → p.c g = t.c g
  k : ∀ j, j < f → j < 16 → fullJ t j = true → p.k j = t.k j
  v : ∀ j, j < f → j < 16 → fullJ t j = true → p.v j = t.v j
structure SlabsS (who t0 t1 : Int) : Prop where
  w0 : 0 ≤ who
  w7 : who < 8
  a0 : 0 < t0
  a1 : t0 < 128
  b0 : 0 < t1
  b1 : t1 < 128
  ab : t0 ≠ t1
theorem right_ofS {who t0 t1 : Int} (S : SlabsS who t0 t1) {p : PartT} (hw : p.who = who) (hs : p.sl = 0) (h0 : p.t0 = t0) (h1 : p.t1 = t1) (hc : oddB p.count = false) (p0 : 0 ≤ p.ph) (p9 : p.ph ≤ 9)
    (a2 : p.ph = 2 → 0 ≤ p.at_ ∧ p.at_ < 2) (a3 : p.ph = 3 ∨ p.ph = 4 → 0 ≤ p.at_ ∧ p.at_ < 16) (a6 : p.ph = 6 → 0 ≤ p.at_ ∧ p.at_ < 80) : RightS p := by
  have := S.w0; have := S.w7; have := S.a0; have := S.a1; have := S.b0; have := S.b1; have := S.ab
  exact ⟨p0, p9, by omega, by omega, by omega, by omega, by omega, by omega, by omega, by omega, by omega, by omega, by omega, hc, a2, a3, a6⟩
theorem got_full {t : Tab} {who t0 t1 : Int} {s : BitVec 64} {f : Nat} {p : PartT} (h : GotTo t who t0 t1 s f p) (j : Nat) (hj : j < 16) : fullJ (gotS p) j = fullJ t j := by
  unfold fullJ bt
  have : (gotS p).c (j / 8) = t.c (j / 8) := h.c _ (by omega)
  rw [this]
def lastN (t : Tab) : Nat → Nat
  | 0 => 0
  | n + 1 => lastN t n + if fullJ t (15 - n) then 1 else 0
theorem lastN_all (t : Tab) : lastN t 16 = nFull t := by
  unfold nFull
  simp only [lastN, List.range, List.range.loop, List.countP_cons, List.countP_nil, Nat.reduceSub]
theorem next_end (p : PartT) : nextS p 16 = none := by
  unfold nextS
  rw [List.find?_eq_none]
  intro j hj
  rw [List.mem_range] at hj
  rw [decide_eq_false (by omega), Bool.false_and]
  decide
theorem next_full (p : PartT) (f : Nat) (hf : f < 16) (h : fullJ (gotS p) f = true) : nextS p f = some f := by
  unfold nextS
  rw [List.find?_range_eq_some]
  refine ⟨by rw [decide_eq_true (Nat.le_refl _), h]; rfl, List.mem_range.2 hf, fun j hj => ?_⟩
  rw [decide_eq_false (by omega), Bool.false_and]; rfl
theorem next_free (p : PartT) (f : Nat) (h : fullJ (gotS p) f = false) : nextS p f = nextS p (f + 1) := by
  unfold nextS
  have e : (fun j => decide (f ≤ j) && fullJ (gotS p) j) = fun j => decide (f + 1 ≤ j) && fullJ (gotS p) j := by
    funext j
    by_cases he : j = f
    · subst he; rw [h, Bool.and_false, Bool.and_false]
    · rw [show decide (f ≤ j) = decide (f + 1 ≤ j) from decide_eq_decide.2 (by omega)]
  rw [e]
theorem slots_run {t : Tab} {who t0 t1 : Int} {s : BitVec 64} {l l' : List (BitVec 64)} {k : Nat} (S : SlabsS who t0 t1) (hc : oddB t.count = false) (hl : ∀ i, i < 40 → l[16 + i]? = some (tword t i)) {P : PartT → Prop}
    (hk : ∀ p, GotTo t who t0 t1 s 16 p → ∃ p', RunsS l (onS p 16) k l' p' ∧ P p') :
    ∀ (n f : Nat) (p : PartT), f + n = 16 → GotTo t who t0 t1 s f p → ∃ p', RunsS l (onS p f) (2 * lastN t n + k) l' p' ∧ P p' := by
  intro n
  induction n with
  | zero =>
    intro f p hf hg
    have hf16 : f = 16 := by omega
    subst hf16
    rw [show 2 * lastN t 0 + k = k by unfold lastN; omega]
    exact hk p hg
  | succ n ih =>
    intro f p hf hg
    have hf16 : f < 16 := by omega
    have e15 : 15 - n = f := by omega
    have hfg := got_full hg f hf16
    unfold lastN
    rw [e15]
    cases hfl : fullJ t f with
    | false =>
      rw [if_neg (by decide), Nat.add_zero]
      rw [hfl] at hfg
      rw [onS_def, next_free p f hfg, ← onS_def]
      have hlt : ∀ j, j < f + 1 → fullJ t j = true → j < f := fun j h1 h3 => by
        rcases Nat.lt_or_ge j f with h | h
        · exact h
        · have e : j = f := by omega
          rw [e, hfl] at h3; cases h3
      exact ih (f + 1) p (by omega) ⟨hg.who_, hg.sl, hg.e0, hg.e1, hg.seed, hg.count, hg.head, hg.c, fun j h1 h2 h3 => hg.k j (hlt j h1 h3) h2 h3, fun j h1 h2 h3 => hg.v j (hlt j h1 h3) h2 h3⟩
    | true =>
      rw [if_pos rfl]
      rw [hfl] at hfg
      have e1 : onS p f = { p with at_ := (f : Int), ph := 3 } := by rw [onS_def, next_full p f hf16 hfg]; rfl
      rw [e1]
      have hkf : l[22 + f]? = some (t.k f) := by rw [← tw_k t f hf16, show 22 + f = 16 + (6 + f) by omega]; exact hl _ (by omega)
      have hvf : l[38 + f]? = some (t.v f) := by rw [← tw_v t f hf16, show 38 + f = 16 + (22 + f) by omega]; exact hl _ (by omega)
      obtain ⟨q, hq⟩ : ∃ q, ({ p with k := updW p.k f (t.k f), v := updW p.v f (t.v f), at_ := (f : Int), ph := 4 } : PartT) = q := ⟨_, rfl⟩
      have hgq : GotTo t who t0 t1 s (f + 1) q := by
        subst hq
        refine ⟨hg.who_, hg.sl, hg.e0, hg.e1, hg.seed, hg.count, hg.head, hg.c, fun j h1 h2 h3 => ?_, fun j h1 h2 h3 => ?_⟩
        · show updW p.k f (t.k f) j = t.k j
          unfold updW
          by_cases h : j = f
          · subst h; rw [if_pos rfl]
          · rw [if_neg h]; exact hg.k j (by omega) h2 h3
        · show updW p.v f (t.v f) j = t.v j
          unfold updW
          by_cases h : j = f
          · subst h; rw [if_pos rfl]
          · rw [if_neg h]; exact hg.v j (by omega) h2 h3
      obtain ⟨p', hrun, hP⟩ := ih (f + 1) q (by omega) hgq
      refine ⟨p', ?_, hP⟩
      have hsl := hg.sl
      rw [show 2 * (lastN t n + 1) + k = (2 * lastN t n + k + 1) + 1 by omega]
      refine RunsS.load (w := t.k f) (right_ofS (p := { p with at_ := (f : Int), ph := 3 }) S hg.who_ hg.sl hg.e0 hg.e1 (by rw [hg.count]; exact hc) (by show (0 : Int) ≤ 3; decide) (by show (3 : Int) ≤ 9; decide) (fun h => absurd h (by show ¬ (3 : Int) = 2; decide)) (fun _ => (show (0 : Int) ≤ (f : Int) ∧ (f : Int) < 16 by omega)) (fun h => absurd h (by show ¬ (3 : Int) = 6; decide))) (by show (3 : Int) ≤ 4; decide) ?_ ?_
      · have : (whereS { p with at_ := (f : Int), ph := 3 }).toNat = 22 + f := by
          unfold whereS
          rw [if_neg (by show ¬ (3 : Int) = 1; decide), if_neg (by show ¬ (3 : Int) = 2; decide), if_pos rfl]
          show (22 + 40 * p.sl + (f : Int)).toNat = _
          rw [hsl]; omega
        rw [this]; exact hkf
      have e2 : takeS { p with at_ := (f : Int), ph := 3 } (t.k f) = { p with k := updW p.k f (t.k f), at_ := (f : Int), ph := 4 } := by
        unfold takeS
        rw [if_neg (by show ¬ (3 : Int) = 0; decide), if_neg (by show ¬ (3 : Int) = 1; decide), if_neg (by show ¬ (3 : Int) = 2; decide), if_pos rfl]
        show ({ p with k := updW p.k (f : Int).toNat (t.k f), at_ := (f : Int), ph := 4 } : PartT) = _
        rw [Int.toNat_natCast]
      rw [e2]
      refine RunsS.load (w := t.v f) (right_ofS (p := { p with k := updW p.k f (t.k f), at_ := (f : Int), ph := 4 }) S hg.who_ hg.sl hg.e0 hg.e1 (by show oddB p.count = false; rw [hg.count]; exact hc) (by show (0 : Int) ≤ 4; decide) (by show (4 : Int) ≤ 9; decide) (fun h => absurd h (by show ¬ (4 : Int) = 2; decide)) (fun _ => (show (0 : Int) ≤ (f : Int) ∧ (f : Int) < 16 by omega)) (fun h => absurd h (by show ¬ (4 : Int) = 6; decide))) (by show (4 : Int) ≤ 4; decide) ?_ ?_
      · have : (whereS { p with k := updW p.k f (t.k f), at_ := (f : Int), ph := 4 }).toNat = 38 + f := by
          unfold whereS
          rw [if_neg (by show ¬ (4 : Int) = 1; decide), if_neg (by show ¬ (4 : Int) = 2; decide), if_neg (by show ¬ (4 : Int) = 3; decide), if_pos rfl]
          show (38 + 40 * p.sl + (f : Int)).toNat = _
          rw [hsl]; omega
        rw [this]; exact hvf
      have e3 : takeS { p with k := updW p.k f (t.k f), at_ := (f : Int), ph := 4 } (t.v f) = onS q (f + 1) := by
        unfold takeS
        rw [if_neg (by show ¬ (4 : Int) = 0; decide), if_neg (by show ¬ (4 : Int) = 1; decide), if_neg (by show ¬ (4 : Int) = 2; decide), if_neg (by show ¬ (4 : Int) = 3; decide), if_pos rfl]
        show onS { p with k := updW p.k f (t.k f), v := updW p.v (f : Int).toNat (t.v f), at_ := (f : Int), ph := 4 } ((f : Int).toNat + 1) = _
        rw [Int.toNat_natCast, hq]
      rw [e3]
      exact hrun
def posS (t0 t1 : Int) (m : Nat) : Nat := (16 + 40 * (if m < 40 then t0 else t1) + (m % 40 : Nat)).toNat
theorem posS_inj {who t0 t1 : Int} (S : SlabsS who t0 t1) {m n : Nat} (hm : m < 80) (hn : n < 80) (h : posS t0 t1 m = posS t0 t1 n) : m = n := by
  have := S.a0; have := S.b0; have := S.ab
  unfold posS at h
  by_cases h1 : m < 40
  · rw [if_pos h1] at h
    by_cases h2 : n < 40
    · rw [if_pos h2] at h; omega
    · rw [if_neg h2] at h; omega
  · rw [if_neg h1] at h
    by_cases h2 : n < 40
    · rw [if_pos h2] at h; omega
    · rw [if_neg h2] at h; omega
theorem posS_lt {who t0 t1 : Int} (S : SlabsS who t0 t1) {m : Nat} (hm : m < 80) {n : Nat} (h0 : 56 + 40 * t0 ≤ (n : Int)) (h1 : 56 + 40 * t1 ≤ (n : Int)) : posS t0 t1 m < n := by
  have := S.a0; have := S.b0
  unfold posS
  by_cases h : m < 40
  · rw [if_pos h]; omega
  · rw [if_neg h]; omega
theorem lay_run {who t0 t1 : Int} (S : SlabsS who t0 t1) : ∀ (n j : Nat) (l : List (BitVec 64)) (p : PartT), n + j = 80 → 0 < n → p.who = who → p.sl = 0 → p.t0 = t0 → p.t1 = t1 → oddB p.count = false → p.ph = 6 → p.at_ = (j : Int) → 56 + 40 * t0 ≤ (l.length : Int) → 56 + 40 * t1 ≤ (l.length : Int) →
    ∃ l' p', RunsS l p n l' p' ∧ p'.ph = 7 ∧ l'.length = l.length ∧ (∀ m, j ≤ m → m < 80 → l'[posS t0 t1 m]? = some (p.ws m)) ∧ (∀ i, (∀ m, j ≤ m → m < 80 → i ≠ posS t0 t1 m) → l'[i]? = l[i]?) := by
  intro n
  induction n with
  | zero => intro j l p _ h; omega
  | succ n ih =>
    intro j l p hj _ hw hs h0 h1 hc hp ha hl0 hl1
    have hj80 : j < 80 := by omega
    have hlt := posS_lt S hj80 hl0 hl1
    obtain ⟨u, hu⟩ : ∃ u, l[posS t0 t1 j]? = some u := ⟨l[posS t0 t1 j]'hlt, List.getElem?_eq_getElem hlt⟩
    have R : RightS p := right_ofS S hw hs h0 h1 hc (by omega) (by omega) (fun h => by omega) (fun h => by omega) (fun _ => by omega)
    have hwh : posS t0 t1 j = (whereS p).toNat := by
      have e1 : ¬ p.ph = 1 := by omega
      have e2 : ¬ p.ph = 2 := by omega
      have e3 : ¬ p.ph = 3 := by omega
      have e4 : ¬ p.ph = 4 := by omega
      unfold whereS posS
      rw [if_neg e1, if_neg e2, if_neg e3, if_neg e4, if_pos hp, h0, h1, ha]
      by_cases h : j < 40
      · rw [if_pos h, if_pos (by omega)]; rfl
      · rw [if_neg h, if_neg (by omega)]; rfl
    have ht : takeS p u = { p with at_ := ((j + 1 : Nat) : Int), ph := if j = 79 then 7 else 6 } := by
      unfold takeS
      rw [if_neg (by omega), if_neg (by omega), if_neg (by omega), if_neg (by omega), if_neg (by omega), if_neg (by omega), ha]
      by_cases h : j = 79
      · rw [if_pos h, if_pos (by omega)]; rfl
      · rw [if_neg h, if_neg (by omega)]; rfl
    have hx : p.ws j = if p.ph = 5 then p.count + 1#64 else p.ws p.at_.toNat := by rw [if_neg (by omega), ha, Int.toNat_natCast]
    rcases Nat.eq_zero_or_pos n with hn | hn
    · subst hn
      have hj79 : j = 79 := by omega
      refine ⟨l.set (posS t0 t1 j) (p.ws j), { p with at_ := ((j + 1 : Nat) : Int), ph := 7 }, ?_, rfl, by simp, fun m h1 h2 => ?_, fun i hi => ?_⟩
      · refine RunsS.store R (.inr hp) hwh hx hu ?_
        rw [ht, if_pos hj79]
        exact .done (by show (6 : Int) < 7; decide)
      · have : m = j := by omega
        subst this
        rw [List.getElem?_set, if_pos rfl, if_pos hlt]
      · rw [List.getElem?_set, if_neg (fun e => hi j (Nat.le_refl _) hj80 e.symm)]
    · have hj79 : j ≠ 79 := by omega
      obtain ⟨l', p', hrun, hph, hlen, hget, hoth⟩ := ih (j + 1) (l.set (posS t0 t1 j) (p.ws j)) { p with at_ := ((j + 1 : Nat) : Int), ph := 6 } (by omega) hn hw hs h0 h1 hc rfl rfl (by simpa using hl0) (by simpa using hl1)
      refine ⟨l', p', ?_, hph, by rw [hlen]; simp, fun m h1 h2 => ?_, fun i hi => ?_⟩
      · refine RunsS.store R (.inr hp) hwh hx hu ?_
        rw [ht, if_neg hj79]
        exact hrun
      · by_cases h : m = j
        · subst h
          rw [hoth _ (fun m' h3 h4 e => by have := posS_inj S h2 h4 e; omega), List.getElem?_set, if_pos rfl, if_pos hlt]
        · exact hget m (by omega) h2
      · rw [hoth i (fun m h3 h4 => hi m (by omega) h4), List.getElem?_set, if_neg (fun e => hi j (Nat.le_refl _) hj80 e.symm)]
def halfTS (t : Tab) (s : BitVec 64) (i : Nat) : Except Int Tab := laidT s (halfB t i) ((pairsT t).filter fun x => hasT (halfB t 0) (hashOf s x.1) == (i == 0))
def halvesTS (t : Tab) (s : BitVec 64) : Option T2 := joinE (halfTS t s 0) (halfTS t s 1)
theorem got_pairs {t : Tab} {who t0 t1 : Int} {s : BitVec 64} {p : PartT} (h : GotTo t who t0 t1 s 16 p) : pairsT (gotS p) = pairsT t := by
  unfold pairsT
  rw [slotsT_eq, slotsT_eq, List.map_map, List.map_map]
  have e : (List.range 16).filter (fullJ (gotS p)) = (List.range 16).filter (fullJ t) := List.filter_congr fun j hj => got_full h j (List.mem_range.1 hj)
  rw [e]
  refine List.map_congr_left fun j hj => ?_
  obtain ⟨h1, h2⟩ := List.mem_filter.1 hj
  have h1 := List.mem_range.1 h1
  show ((gotS p).k j, (gotS p).v j) = (t.k j, t.v j)
  have a : (gotS p).k j = t.k j := h.k j h1 h1 h2
  have b : (gotS p).v j = t.v j := h.v j h1 h1 h2
  rw [a, b]
theorem got_half {t : Tab} {who t0 t1 : Int} {s : BitVec 64} {p : PartT} (h : GotTo t who t0 t1 s 16 p) (hf : flatT t = true) (hd : t.depth < 5) (i : Nat) (hi : i < 2) : halfS p i = halfTS t s i := by
  obtain ⟨d0, d5, _⟩ := (flatT_iff t).1 hf
  have hdeep : deepS p = t.depth := by
    unfold deepS
    rw [h.head, wd1_depth hf, of_int_small _ d0 (by omega)]; omega
  have hpre : preS p = t.pre := by
    unfold preS
    rw [h.head]; exact wd1_pre hf
  have hb : ∀ i, bareS p i = halfB t i := fun i => by unfold bareS halfB; rw [hdeep, hpre]
  have h0 : bareT 0#64 (deepS p + 1) (2#64 * preS p) = halfB t 0 := by rw [← bareS_0, hb]
  have hfl : flatT (halfB t i) = true := half_flat hf hd i hi
  unfold halfS
  rw [newE_flat, show bareT 0#64 (deepS p + 1) (2#64 * preS p + BitVec.ofNat 64 i) = halfB t i from hb i, hfl, if_pos rfl, got_pairs h, h.seed]
  dsimp only
  unfold halfTS
  congr 2
  funext x
  show (hasT (bareT 0#64 (deepS p + 1) (2#64 * preS p)) (hashOf s x.1) == (i == 0)) = _
  rw [h0]
theorem got_halves {t : Tab} {who t0 t1 : Int} {s : BitVec 64} {p : PartT} (h : GotTo t who t0 t1 s 16 p) (hf : flatT t = true) (hd : t.depth < 5) : halvesS p = (halvesTS t s).map wordsS := by
  rw [halvesS_eq, got_half h hf hd 0 (by omega), got_half h hf hd 1 (by omega)]; rfl
theorem halfTS_laid {t : Tab} {s : BitVec 64} (m : May t s) (hd : t.depth < 5) (i : Nat) (hi : i < 2) : halfTS t s i = .ok (halfX t s i) := by
  rw [← halfX_eq ((may_iff t s).2 m) hd i hi]
  unfold halfTS halfL
  congr 1
  refine List.filter_congr fun x hx => ?_
  rcases (show i = 0 ∨ i = 1 by omega) with rfl | rfl
  · show (goesH t s 0 x == true) = goesH t s 0 x
    cases goesH t s 0 x <;> rfl
  · rw [goes_one m hd hx]
    show (goesH t s 0 x == false) = !goesH t s 0 x
    cases goesH t s 0 x <;> rfl
theorem halvesTS_laid {t : Tab} {s : BitVec 64} (m : May t s) (hd : t.depth < 5) : halvesTS t s = some ⟨halfX t s 0, halfX t s 1⟩ := by
  unfold halvesTS
  rw [halfTS_laid m hd 0 (by omega), halfTS_laid m hd 1 (by omega)]; rfl
def firstPartS (who t0 t1 : Int) (s : BitVec 64) : PartT := ⟨0, who, 0, t0, t1, s, 0#64, 0#64, fun _ => 0#64, fun _ => 0#64, fun _ => 0#64, 0, fun _ => 0#64⟩
theorem odd0 : oddB 0#64 = false := by decide
theorem split_odd {l : List (BitVec 64)} {t : Tab} {who t0 t1 : Int} {s : BitVec 64} (S : SlabsS who t0 t1) (hl : ∀ i, i < 40 → l[16 + i]? = some (tword t i)) (hc : oddB t.count = true) : ∃ p', RunsS l (firstPartS who t0 t1 s) 1 l p' ∧ p'.ph = 8 := by
  refine ⟨{ firstPartS who t0 t1 s with ph := 8 }, ?_, rfl⟩
  refine RunsS.load (k := 0) (w := t.count) (right_ofS (p := firstPartS who t0 t1 s) S rfl rfl rfl rfl odd0 (by show (0 : Int) ≤ 0; decide) (by show (0 : Int) ≤ 9; decide) (fun h => absurd h (by show ¬ (0 : Int) = 2; decide)) (fun h => absurd h (by show ¬ ((0 : Int) = 3 ∨ (0 : Int) = 4); decide)) (fun h => absurd h (by show ¬ (0 : Int) = 6; decide))) (by show (0 : Int) ≤ 4; decide) (hl 0 (by omega)) ?_
  have e : takeS (firstPartS who t0 t1 s) t.count = { firstPartS who t0 t1 s with ph := 8 } := by
    unfold takeS
    rw [if_pos (show (firstPartS who t0 t1 s).ph = 0 from rfl), if_pos hc]
  rw [e]
  exact .done (by show (6 : Int) < 8; decide)
theorem split_head {l l' : List (BitVec 64)} {t : Tab} {who t0 t1 : Int} {s : BitVec 64} {k : Nat} {p' : PartT} (S : SlabsS who t0 t1) (hl : ∀ i, i < 40 → l[16 + i]? = some (tword t i)) (hc : oddB t.count = false)
    (hk : RunsS l (headS { firstPartS who t0 t1 s with ph := 1, count := t.count } (wd1 t)) k l' p') : RunsS l (firstPartS who t0 t1 s) (k + 2) l' p' := by
  rw [show k + 2 = (k + 1) + 1 by omega]
  refine RunsS.load (w := t.count) (right_ofS (p := firstPartS who t0 t1 s) S rfl rfl rfl rfl odd0 (by show (0 : Int) ≤ 0; decide) (by show (0 : Int) ≤ 9; decide) (fun h => absurd h (by show ¬ (0 : Int) = 2; decide)) (fun h => absurd h (by show ¬ ((0 : Int) = 3 ∨ (0 : Int) = 4); decide)) (fun h => absurd h (by show ¬ (0 : Int) = 6; decide))) (by show (0 : Int) ≤ 4; decide) (hl 0 (by omega)) ?_
  have e : takeS (firstPartS who t0 t1 s) t.count = { firstPartS who t0 t1 s with ph := 1, count := t.count } := by
    unfold takeS
    rw [if_pos (show (firstPartS who t0 t1 s).ph = 0 from rfl), if_neg (by rw [hc]; decide)]
  rw [e]
  refine RunsS.load (w := wd1 t) (right_ofS (p := { firstPartS who t0 t1 s with ph := 1, count := t.count }) S rfl rfl rfl rfl hc (by show (0 : Int) ≤ 1; decide) (by show (1 : Int) ≤ 9; decide) (fun h => absurd h (by show ¬ (1 : Int) = 2; decide)) (fun h => absurd h (by show ¬ ((1 : Int) = 3 ∨ (1 : Int) = 4); decide)) (fun h => absurd h (by show ¬ (1 : Int) = 6; decide))) (by show (1 : Int) ≤ 4; decide) (hl 1 (by omega)) ?_
  have e : takeS { firstPartS who t0 t1 s with ph := 1, count := t.count } (wd1 t) = headS { firstPartS who t0 t1 s with ph := 1, count := t.count } (wd1 t) := by
    unfold takeS
    rw [if_neg (show ¬ (1 : Int) = 0 by decide), if_pos (show (1 : Int) = 1 from rfl)]
  rw [e]
  exact hk
theorem split_deep {l : List (BitVec 64)} {t : Tab} {who t0 t1 : Int} {s : BitVec 64} (S : SlabsS who t0 t1) (hl : ∀ i, i < 40 → l[16 + i]? = some (tword t i)) (hf : flatT t = true) (hc : oddB t.count = false) (hd : ¬ t.depth < 5) : ∃ p', RunsS l (firstPartS who t0 t1 s) 2 l p' ∧ p'.ph = 9 := by
  obtain ⟨d0, d5, _⟩ := (flatT_iff t).1 hf
  have e : headS { firstPartS who t0 t1 s with ph := 1, count := t.count } (wd1 t) = { firstPartS who t0 t1 s with ph := 9, count := t.count, head := wd1 t } := by
    unfold headS
    rw [if_pos]
    · rfl
    · rw [wd1_depth hf, of_int_small _ d0 (by omega), decide_eq_true (by omega)]; rfl
  refine ⟨{ firstPartS who t0 t1 s with ph := 9, count := t.count, head := wd1 t }, split_head (k := 0) S hl hc ?_, rfl⟩
  rw [e]
  exact .done (by show (6 : Int) < 9; decide)
theorem split_ctrl {l l' : List (BitVec 64)} {t : Tab} {who t0 t1 : Int} {s : BitVec 64} {k : Nat} (S : SlabsS who t0 t1) (hl : ∀ i, i < 40 → l[16 + i]? = some (tword t i)) (hf : flatT t = true) (hc : oddB t.count = false) (hd : t.depth < 5) {P : PartT → Prop}
    (hk : ∀ p, GotTo t who t0 t1 s 16 p → ∃ p', RunsS l (onS p 16) k l' p' ∧ P p') : ∃ p', RunsS l (firstPartS who t0 t1 s) (2 * nFull t + k + 4) l' p' ∧ P p' := by
  obtain ⟨d0, d5, hpz, _⟩ := (flatT_iff t).1 hf
  obtain ⟨q, hq⟩ : ∃ q : PartT, (⟨2, who, 0, t0, t1, s, t.count, wd1 t, updW (updW (fun _ => 0#64) 0 (t.c 0)) 1 (t.c 1), fun _ => 0#64, fun _ => 0#64, 2, fun _ => 0#64⟩ : PartT) = q := ⟨_, rfl⟩
  have hg : GotTo t who t0 t1 s 0 q := by
    subst hq
    refine ⟨rfl, rfl, rfl, rfl, rfl, rfl, rfl, fun g hg => ?_, fun j hj => by omega, fun j hj => by omega⟩
    show updW (updW (fun _ => 0#64) 0 (t.c 0)) 1 (t.c 1) g = t.c g
    unfold updW
    rcases (show g = 0 ∨ g = 1 by omega) with rfl | rfl
    · rw [if_neg (by decide), if_pos rfl]
    · rw [if_pos rfl]
  obtain ⟨p', hrun, hP⟩ := slots_run S hc hl hk 16 0 q (by omega) hg
  rw [lastN_all] at hrun
  refine ⟨p', ?_, hP⟩
  rw [show 2 * nFull t + k + 4 = (2 * nFull t + k + 2) + 2 by omega]
  refine split_head S hl hc ?_
  have e : headS { firstPartS who t0 t1 s with ph := 1, count := t.count } (wd1 t) = ⟨2, who, 0, t0, t1, s, t.count, wd1 t, fun _ => 0#64, fun _ => 0#64, fun _ => 0#64, 0, fun _ => 0#64⟩ := by
    have hz : t.pre >>> t.depth.toNat = 0#64 := BitVec.eq_of_toNat_eq (by
      have : N (t.pre >>> t.depth.toNat) = ((t.pre >>> t.depth.toNat).toNat : Int) := rfl
      show _ = 0
      omega)
    unfold headS
    rw [if_neg]
    · rfl
    · rw [wd1_depth hf, of_int_small _ d0 (by omega), wd1_pre hf, hz, decide_eq_false (by omega)]; decide
  rw [e]
  rw [show 2 * nFull t + k + 2 = (2 * nFull t + k + 1) + 1 by omega]
  have hA : ∀ (a : Int) (c : Nat → BitVec 64), 0 ≤ a → a < 2 → RightS ⟨2, who, 0, t0, t1, s, t.count, wd1 t, c, fun _ => 0#64, fun _ => 0#64, a, fun _ => 0#64⟩ := fun a c h0 h1 => right_ofS S rfl rfl rfl rfl hc (by show (0 : Int) ≤ 2; decide) (by show (2 : Int) ≤ 9; decide) (fun _ => ⟨h0, h1⟩) (fun h => absurd h (by show ¬ ((2 : Int) = 3 ∨ (2 : Int) = 4); decide)) (fun h => absurd h (by show ¬ (2 : Int) = 6; decide))
  refine RunsS.load (w := t.c 0) (hA 0 _ (by decide) (by decide)) (by show (2 : Int) ≤ 4; decide) ?_ ?_
  · rw [← tw_c t 0 (by omega)]; exact hl 4 (by omega)
  refine RunsS.load (w := t.c 1) (hA 1 (updW (fun _ => 0#64) 0 (t.c 0)) (by decide) (by decide)) (by show (2 : Int) ≤ 4; decide) ?_ ?_
  · rw [← tw_c t 1 (by omega)]; exact hl 5 (by omega)
  have e3 : takeS ⟨2, who, 0, t0, t1, s, t.count, wd1 t, updW (fun _ => 0#64) 0 (t.c 0), fun _ => 0#64, fun _ => 0#64, 1, fun _ => 0#64⟩ (t.c 1) = onS q 0 := by
    unfold takeS
    rw [if_neg (show ¬ (2 : Int) = 0 by decide), if_neg (show ¬ (2 : Int) = 1 by decide), if_pos (show (2 : Int) = 2 from rfl), if_pos (show (1 : Int) = 1 from rfl), hq]
  rw [e3]
  exact hrun
theorem split_good {l : List (BitVec 64)} {t : Tab} {who t0 t1 : Int} {s : BitVec 64} {x : T2} (S : SlabsS who t0 t1) (hl : ∀ i, i < 40 → l[16 + i]? = some (tword t i)) (hl0 : 56 + 40 * t0 ≤ (l.length : Int)) (hl1 : 56 + 40 * t1 ≤ (l.length : Int)) (hf : flatT t = true) (hc : oddB t.count = false) (hd : t.depth < 5) (hh : halvesTS t s = some x) :
    ∃ l' p', RunsS l (firstPartS who t0 t1 s) (85 + 2 * nFull t) l' p' ∧ p'.ph = 7 ∧ l'.length = l.length ∧ l'[16]? = some (t.count + 1#64) ∧ (∀ m, m < 80 → l'[posS t0 t1 m]? = some (wordsS x m)) ∧ (∀ i, i ≠ 16 → (∀ m, m < 80 → i ≠ posS t0 t1 m) → l'[i]? = l[i]?) := by
  have h16 : ∀ m, m < 80 → 16 ≠ posS t0 t1 m := fun m hm => by
    have := S.a0; have := S.b0
    unfold posS
    by_cases h : m < 40
    · rw [if_pos h]; omega
    · rw [if_neg h]; omega
  obtain ⟨l', hl'⟩ : ∃ l' : List (BitVec 64), l' = (List.range l.length).map fun i => if i = 16 then t.count + 1#64 else match (List.range 80).find? (fun m => posS t0 t1 m == i) with | some m => wordsS x m | none => l.getD i 0#64 := ⟨_, rfl⟩
  have hlen : l'.length = l.length := by rw [hl']; simp
  have hlen16 : 16 < l.length := by have := S.a0; omega
  have hfind : ∀ m, m < 80 → (List.range 80).find? (fun n => posS t0 t1 n == posS t0 t1 m) = some m := fun m hm => by
    rw [List.find?_range_eq_some]
    refine ⟨by simp, List.mem_range.2 hm, fun j hj => ?_⟩
    have : ¬ posS t0 t1 j = posS t0 t1 m := fun e => by have := posS_inj S (by omega) hm e; omega
    simpa using this
  have hnof : ∀ i, (∀ m, m < 80 → i ≠ posS t0 t1 m) → (List.range 80).find? (fun n => posS t0 t1 n == i) = none := fun i hi => by
    rw [List.find?_eq_none]
    intro m hm
    have := hi m (List.mem_range.1 hm)
    simpa using fun e : posS t0 t1 m = i => this e.symm
  have g16 : l'[16]? = some (t.count + 1#64) := by rw [hl', List.getElem?_map, List.getElem?_range hlen16]; rfl
  have gpos : ∀ m, m < 80 → l'[posS t0 t1 m]? = some (wordsS x m) := fun m hm => by
    rw [hl', List.getElem?_map, List.getElem?_range (posS_lt S hm hl0 hl1)]
    show some (if posS t0 t1 m = 16 then _ else _) = _
    rw [if_neg (fun e => h16 m hm e.symm), hfind m hm]
  have goth : ∀ i, i ≠ 16 → (∀ m, m < 80 → i ≠ posS t0 t1 m) → l'[i]? = l[i]? := fun i hi hm => by
    rcases Nat.lt_or_ge i l.length with h | h
    · rw [hl', List.getElem?_map, List.getElem?_range h]
      show some (if i = 16 then _ else _) = _
      rw [if_neg hi, hnof i hm, List.getElem?_eq_getElem h, List.getD_eq_getElem?_getD, List.getElem?_eq_getElem h]; rfl
    · rw [List.getElem?_eq_none (by omega), List.getElem?_eq_none h]
  have key : ∃ p', RunsS l (firstPartS who t0 t1 s) (2 * nFull t + 81 + 4) l' p' ∧ p'.ph = 7 := by
    refine split_ctrl (k := 81) S hl hf hc hd fun p hg => ?_
    have e : onS p 16 = { p with ws := wordsS x, ph := 5 } := by rw [onS_def, next_end, got_halves hg hf hd, hh]; rfl
    rw [e]
    obtain ⟨l2, p2, hrun, hph, hlen2, hget, hoth⟩ := lay_run S 80 0 (l.set 16 (t.count + 1#64)) { p with ws := wordsS x, ph := 6, at_ := 0 } (by omega) (by omega) hg.who_ hg.sl hg.e0 hg.e1 (by show oddB p.count = false; rw [hg.count]; exact hc) rfl rfl (by simpa using hl0) (by simpa using hl1)
    have el : l2 = l' := by
      apply List.ext_getElem?
      intro i
      by_cases hi : i = 16
      · subst hi
        rw [hoth 16 (fun m _ hm => h16 m hm), List.getElem?_set, if_pos rfl, if_pos hlen16, g16]
      · by_cases hm : ∃ m, m < 80 ∧ i = posS t0 t1 m
        · obtain ⟨m, hm, rfl⟩ := hm
          rw [hget m (Nat.zero_le _) hm, gpos m hm]
        · have hm' : ∀ m, m < 80 → i ≠ posS t0 t1 m := fun m h e => hm ⟨m, h, e⟩
          rw [hoth i (fun m _ h => hm' m h), goth i hi hm', List.getElem?_set, if_neg (fun e => hi e.symm)]
    rw [← el]
    refine ⟨p2, ?_, hph⟩
    refine RunsS.store (x := t.count + 1#64) (j := 16) (u := tword t 0) (right_ofS (p := { p with ws := wordsS x, ph := 5 }) S hg.who_ hg.sl hg.e0 hg.e1 (by show oddB p.count = false; rw [hg.count]; exact hc) (by show (0 : Int) ≤ 5; decide) (by show (5 : Int) ≤ 9; decide) (fun h => absurd h (by show ¬ (5 : Int) = 2; decide)) (fun h => absurd h (by show ¬ ((5 : Int) = 3 ∨ (5 : Int) = 4); decide)) (fun h => absurd h (by show ¬ (5 : Int) = 6; decide))) (.inl rfl) ?_ ?_ (hl 0 (by omega)) ?_
    · unfold whereS
      rw [if_neg (by show ¬ (5 : Int) = 1; decide), if_neg (by show ¬ (5 : Int) = 2; decide), if_neg (by show ¬ (5 : Int) = 3; decide), if_neg (by show ¬ (5 : Int) = 4; decide), if_neg (by show ¬ (5 : Int) = 6; decide)]
      show 16 = (16 + 40 * p.sl).toNat
      rw [hg.sl]; rfl
    · rw [if_pos (show (5 : Int) = 5 from rfl)]; show _ = p.count + 1#64; rw [hg.count]
    · have e2 : takeS { p with ws := wordsS x, ph := 5 } (tword t 0) = { p with ws := wordsS x, ph := 6, at_ := 0 } := by
        unfold takeS
        rw [if_neg (by show ¬ (5 : Int) = 0; decide), if_neg (by show ¬ (5 : Int) = 1; decide), if_neg (by show ¬ (5 : Int) = 2; decide), if_neg (by show ¬ (5 : Int) = 3; decide), if_neg (by show ¬ (5 : Int) = 4; decide), if_pos rfl]
      rw [e2]
      exact hrun
  obtain ⟨p', hrun, hph⟩ := key
  rw [show 2 * nFull t + 81 + 4 = 85 + 2 * nFull t by omega] at hrun
  exact ⟨l', p', hrun, hph, hlen, g16, gpos, goth⟩
end Go.Proofs.Hc
