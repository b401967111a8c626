/- Tables that may be, slot by slot: plain law, no program in sight. -/
import Derived.Test.YtcikopeddljgkaaGreatKHtw
set_option linter.unusedSimpArgs false
set_option linter.unusedVariables false
namespace Go.Proofs.Hc
open Go.RowKit
def bt (t : Tab) (j : Nat) : BitVec 8 := byteAt (t.c (j / 8)) (j % 8)
def fullJ (t : Tab) (j : Nat) : Bool := decide ((bt t j).toNat < 128)
def fillJ (t : Tab) (j : Nat) : Bool := bt t j != 128#8
@[irreducible] def nFull (t : Tab) : Nat := (List.range 16).countP (fullJ t)
@[irreducible] def nFill (t : Tab) : Nat := (List.range 16).countP (fillJ t)
theorem bt_at (t : Tab) (g x : Nat) (hx : x < 8) : bt t (8 * g + x) = byteAt (t.c g) x := by
  unfold bt
  rw [show (8 * g + x) / 8 = g by omega, show (8 * g + x) % 8 = x by omega]
theorem range16 : List.range 16 = (List.range 8).map (fun x => 8 * 0 + x) ++ (List.range 8).map (fun x => 8 * 1 + x) := by decide
theorem slotsOf_eq (t : Tab) (g : Nat) : slotsOf t g = (((List.range 8).map fun x => 8 * g + x).filter (fullJ t)).map fun j => (j, j / 8) := by
  unfold slotsOf lanesOf
  rw [List.filter_map, List.map_map]
  have h : (List.range 8).filter (fun i => (fullM (t.c g)).getLsbD i) = (List.range 8).filter (fullJ t ∘ fun x => 8 * g + x) := by
    apply List.filter_congr
    intro x hx
    have hx8 : x < 8 := by simpa using hx
    rw [fullM_bit _ _ hx8, Function.comp_apply, fullJ, bt_at t g x hx8]
  rw [h]
  apply List.map_congr_left
  intro x hx
  have hx8 : x < 8 := by simpa using (List.mem_filter.1 hx).1
  show (8 * g + x, g) = (8 * g + x, (8 * g + x) / 8)
  rw [show (8 * g + x) / 8 = g by omega]
theorem slotsT_eq (t : Tab) : slotsT t = ((List.range 16).filter (fullJ t)).map fun j => (j, j / 8) := by
  unfold slotsT
  rw [slotsOf_eq, slotsOf_eq, range16, List.filter_append, List.map_append]
theorem slotsT_len (t : Tab) : (slotsT t).length = nFull t := by
  rw [slotsT_eq, List.length_map, nFull, List.countP_eq_length_filter]
theorem mem_slotsT (t : Tab) (x : Nat × Nat) : x ∈ slotsT t ↔ x.1 < 16 ∧ fullJ t x.1 = true ∧ x.2 = x.1 / 8 := by
  rw [slotsT_eq, List.mem_map]
  constructor
  · rintro ⟨j, hj, rfl⟩
    obtain ⟨h1, h2⟩ := List.mem_filter.1 hj
    exact ⟨by simpa using h1, h2, rfl⟩
  · rintro ⟨h1, h2, h3⟩
    exact ⟨x.1, List.mem_filter.2 ⟨by simpa using h1, h2⟩, by rw [← h3]⟩
theorem ok_iff (t : Tab) : (ctrlOk (t.c 0) && ctrlOk (t.c 1)) = true ↔ ∀ j, j < 16 → (bt t j).toNat < 128 ∨ bt t j = 128#8 ∨ bt t j = 254#8 := by
  rw [Bool.and_eq_true, ctrlOk_iff, ctrlOk_iff]
  constructor
  · rintro ⟨h0, h1⟩ j hj
    unfold bt
    rcases Nat.lt_or_ge j 8 with h | h
    · rw [show j / 8 = 0 by omega]; exact h0 _ (by omega)
    · rw [show j / 8 = 1 by omega]; exact h1 _ (by omega)
  · intro h
    constructor
    · intro n hn; have := h (8 * 0 + n) (by omega); rwa [bt_at t 0 n hn] at this
    · intro n hn; have := h (8 * 1 + n) (by omega); rwa [bt_at t 1 n hn] at this
theorem filledL_eq (t : Tab) (g : Nat) (h : ctrlOk (t.c g) = true) : filledL (t.c g) = ((List.range 8).map fun x => 8 * g + x).countP (fillJ t) := by
  unfold filledL lanesOf
  rw [List.countP_map, List.countP_eq_length_filter]
  congr 1
  apply List.filter_congr
  intro x hx
  have hx8 : x < 8 := by simpa using hx
  rw [BitVec.getLsbD_or, fullM_bit _ _ hx8, delM_bit _ _ hx8, Function.comp_apply, fillJ, bt_at t g x hx8]
  rcases (ctrlOk_iff _).1 h x hx8 with h1 | h1 | h1
  · rw [decide_eq_true h1, Bool.true_or]
    have : byteAt (t.c g) x ≠ 128#8 := by intro e; rw [e] at h1; exact absurd h1 (by decide)
    simp [this]
  · rw [h1]; decide
  · rw [h1]; decide
theorem filled_eq (t : Tab) (h : (ctrlOk (t.c 0) && ctrlOk (t.c 1)) = true) : filledL (t.c 0) + filledL (t.c 1) = nFill t := by
  rw [Bool.and_eq_true] at h
  rw [filledL_eq t 0 h.1, filledL_eq t 1 h.2, nFill, range16, List.countP_append]
theorem slotOk_iff (t : Tab) (s : BitVec 64) (x : Nat × Nat) (hx : x.2 = x.1 / 8) : slotOk t s x = true ↔
    bt t x.1 = hash2 (hashOf s (t.k x.1)) ∧ hasT t (hashOf s (t.k x.1)) = true ∧ x.1 / 8 ∈ rowT t s (t.k x.1) := by
  unfold slotOk bt
  rw [Bool.and_eq_true, Bool.and_eq_true, beq_iff_eq, decide_eq_true_iff, hx]
theorem goodAll_iff (t : Tab) (s : BitVec 64) : ∀ (l : List (Nat × Nat)) (seen : List (BitVec 64)), goodAll t s seen l = true ↔
    (∀ x ∈ l, slotOk t s x = true) ∧ (∀ x ∈ l, t.k x.1 ∉ seen) ∧ (l.map fun x => t.k x.1).Nodup
  | [], seen => by simp [goodAll]
  | x :: l, seen => by
    rw [goodAll, Bool.and_eq_true, Bool.and_eq_true, goodAll_iff t s l, List.map_cons, List.nodup_cons]
    simp only [Bool.not_eq_true', List.mem_cons, forall_eq_or_imp, List.contains_eq_mem, decide_eq_false_iff_not, not_or, List.mem_map, not_exists, not_and]
    constructor
    · rintro ⟨⟨h1, h2⟩, h3, h4, h5⟩
      exact ⟨⟨h2, h3⟩, ⟨h1, fun y hy => (h4 y hy).2⟩, fun y hy => (h4 y hy).1, h5⟩
    · rintro ⟨⟨h2, h3⟩, ⟨h1, h4⟩, h6, h5⟩
      exact ⟨⟨h1, h2⟩, h3, fun y hy => ⟨h6 y hy, h4 y hy⟩, h5⟩
structure May (t : Tab) (s : BitVec 64) : Prop where
  flat : flatT t = true
  ok : ∀ j, j < 16 → (bt t j).toNat < 128 ∨ bt t j = 128#8 ∨ bt t j = 254#8
  slot : ∀ j, j < 16 → fullJ t j = true → bt t j = hash2 (hashOf s (t.k j)) ∧ hasT t (hashOf s (t.k j)) = true ∧ j / 8 ∈ rowT t s (t.k j)
  inj : ∀ i j, i < 16 → j < 16 → fullJ t i = true → fullJ t j = true → t.k i = t.k j → i = j
  live : t.live = (nFull t : Int)
  can : t.can = 14 - (nFill t : Int)
theorem nodup_filter_map {α : Type} [DecidableEq α] (p : Nat → Bool) (f : Nat → α) (n : Nat) : ((((List.range n).filter p).map f).Nodup) ↔ ∀ i j, i < n → j < n → p i = true → p j = true → f i = f j → i = j := by
  rw [List.Nodup, List.pairwise_map]
  constructor
  · intro h i j hi hj hpi hpj he
    have h2 : ((List.range n).filter p).Pairwise (fun a b => a ≠ b → f a ≠ f b) := List.Pairwise.imp (S := fun a b => a ≠ b → f a ≠ f b) (fun hab _ => hab) h
    have h3 : ((List.range n).filter p).Pairwise (flip fun a b => a ≠ b → f a ≠ f b) := List.Pairwise.imp (S := flip fun a b => a ≠ b → f a ≠ f b) (fun hab _ e => hab e.symm) h
    have hmi : i ∈ (List.range n).filter p := List.mem_filter.2 ⟨by simpa using hi, hpi⟩
    have hmj : j ∈ (List.range n).filter p := List.mem_filter.2 ⟨by simpa using hj, hpj⟩
    rcases Nat.lt_trichotomy i j with hlt | he | hlt
    · exact absurd he (List.Pairwise.forall_of_forall_of_flip (R := fun a b => a ≠ b → f a ≠ f b) (fun x _ h => absurd rfl h) h2 h3 hmi hmj (by omega))
    · exact he
    · exact absurd he (List.Pairwise.forall_of_forall_of_flip (R := fun a b => a ≠ b → f a ≠ f b) (fun x _ h => absurd rfl h) h2 h3 hmi hmj (by omega))
  · intro h
    refine List.Pairwise.imp_of_mem (R := fun a b => a < b) (fun {a b} ha hb hab he => ?_) ((List.pairwise_lt_range (n := n)).filter _)
    have h1 := List.mem_filter.1 ha
    have h2 := List.mem_filter.1 hb
    have := h a b (by simpa using h1.1) (by simpa using h2.1) h1.2 h2.2 he
    omega
theorem may_iff (t : Tab) (s : BitVec 64) : mayT t s = true ↔ May t s := by
  have hok := ok_iff t
  have hfl := filled_eq t
  rw [mayT]
  generalize (ctrlOk (t.c 0) && ctrlOk (t.c 1)) = co at *
  simp only [Bool.and_eq_true, beq_iff_eq]
  rw [goodAll_iff, slotsT_len]
  have hnd : ((slotsT t).map fun x => t.k x.1).Nodup ↔ ∀ i j, i < 16 → j < 16 → fullJ t i = true → fullJ t j = true → t.k i = t.k j → i = j := by
    rw [slotsT_eq, List.map_map]
    exact nodup_filter_map (fullJ t) t.k 16
  rw [hnd]
  constructor
  · rintro ⟨⟨⟨⟨h1, h2⟩, h3, -, h4⟩, h5⟩, h6⟩
    refine ⟨h1, hok.1 h2, fun j hj hf => ?_, h4, h5, ?_⟩
    · exact (slotOk_iff t s (j, j / 8) rfl).1 (h3 (j, j / 8) ((mem_slotsT t _).2 ⟨hj, hf, rfl⟩))
    · rw [← hfl h2]; exact h6
  · rintro ⟨h1, h2, h3, h4, h5, h6⟩
    have h2' := hok.2 h2
    refine ⟨⟨⟨⟨h1, h2'⟩, fun x hx => ?_, fun x _ => by simp, h4⟩, h5⟩, ?_⟩
    · obtain ⟨a, b, c⟩ := (mem_slotsT t x).1 hx
      exact (slotOk_iff t s x c).2 (h3 x.1 a b)
    · rw [hfl h2']; exact h6
def hasE (t : Tab) (g : Nat) : Bool := emptyM (t.c g) != 0#8
theorem mask_ne (m : BitVec 8) : (m != 0#8) = true ↔ ∃ x, x < 8 ∧ m.getLsbD x = true := by
  rw [bne_iff_ne]
  constructor
  · intro h
    apply Classical.byContradiction
    intro hn
    apply h
    apply BitVec.eq_of_getLsbD_eq
    intro i hi
    rw [BitVec.getLsbD_zero]
    cases hb : m.getLsbD i with
    | false => rfl
    | true => exact absurd ⟨i, hi, hb⟩ hn
  · rintro ⟨x, _, hx⟩ rfl
    rw [BitVec.getLsbD_zero] at hx; cases hx
theorem hasE_iff (t : Tab) (g : Nat) : hasE t g = true ↔ ∃ x, x < 8 ∧ bt t (8 * g + x) = 128#8 := by
  rw [hasE, mask_ne]
  constructor
  · rintro ⟨x, hx, h⟩; rw [emptyM_bit _ _ hx, beq_iff_eq] at h; exact ⟨x, hx, by rw [bt_at t g x hx]; exact h⟩
  · rintro ⟨x, hx, h⟩; rw [bt_at t g x hx] at h; exact ⟨x, hx, by rw [emptyM_bit _ _ hx, beq_iff_eq]; exact h⟩
theorem gOf_lt (s k : BitVec 64) : gOf s k < 2 := g0_lt _
theorem mem_row (t : Tab) (s k : BitVec 64) (g : Nat) : g ∈ rowT t s k ↔ g = gOf s k ∨ (hasE t (gOf s k) = false ∧ g = 1 - gOf s k) := by
  rw [rowT, ← hasE]
  cases hasE t (gOf s k) <;> simp
theorem row_mono {t t' : Tab} {s k : BitVec 64} {g : Nat} (h : ∀ i, i < 2 → hasE t' i = true → hasE t i = true) (hg : g ∈ rowT t s k) : g ∈ rowT t' s k := by
  rw [mem_row] at hg ⊢
  rcases hg with h1 | ⟨h1, h2⟩
  · exact .inl h1
  · refine .inr ⟨?_, h2⟩
    cases h3 : hasE t' (gOf s k) with
    | false => rfl
    | true => rw [h _ (gOf_lt s k) h3] at h1; cases h1
theorem hasKT_iff (t : Tab) (k : BitVec 64) : hasKT t k = true ↔ ∃ j, j < 16 ∧ fullJ t j = true ∧ t.k j = k := by
  rw [hasKT, List.any_eq_true]
  constructor
  · rintro ⟨x, hx, h⟩
    obtain ⟨a, b, c⟩ := (mem_slotsT t x).1 hx
    exact ⟨x.1, a, b, by simpa using h⟩
  · rintro ⟨j, hj, hf, h⟩
    exact ⟨(j, j / 8), (mem_slotsT t _).2 ⟨hj, hf, rfl⟩, by simpa using h⟩
theorem mem_pairs (t : Tab) (p : BitVec 64 × BitVec 64) : p ∈ pairsT t ↔ ∃ j, j < 16 ∧ fullJ t j = true ∧ p = (t.k j, t.v j) := by
  rw [pairsT, List.mem_map]
  constructor
  · rintro ⟨x, hx, rfl⟩
    obtain ⟨a, b, c⟩ := (mem_slotsT t x).1 hx
    exact ⟨x.1, a, b, rfl⟩
  · rintro ⟨j, hj, hf, rfl⟩
    exact ⟨(j, j / 8), (mem_slotsT t _).2 ⟨hj, hf, rfl⟩, rfl⟩
theorem pairs_len (t : Tab) : (pairsT t).length = nFull t := by rw [pairsT, List.length_map, slotsT_len]
theorem May.len {t : Tab} {s : BitVec 64} (h : May t s) : ((pairsT t).length : Int) = t.live := by rw [pairs_len, h.live]
theorem May.keys {t : Tab} {s : BitVec 64} (h : May t s) : ((pairsT t).map (·.1)).Nodup := by
  rw [pairsT, slotsT_eq, List.map_map, List.map_map]
  exact (nodup_filter_map (fullJ t) t.k 16).2 h.inj
theorem full_lt {t : Tab} {j : Nat} (h : fullJ t j = true) : (bt t j).toNat < 128 := by simpa [fullJ] using h
theorem full_fill {t : Tab} {j : Nat} (h : fullJ t j = true) : fillJ t j = true := by
  have := full_lt h
  rw [fillJ, bne_iff_ne]
  intro e
  rw [e] at this
  exact absurd this (by decide)
theorem nFull_le (t : Tab) : nFull t ≤ nFill t := by
  unfold nFull nFill
  exact List.countP_mono_left fun _ _ h => full_fill h
theorem countP_upd (p q : Nat → Bool) (sl : Nat) : ∀ n, (∀ j, j ≠ sl → q j = p j) → (List.range n).countP q + (if sl < n ∧ p sl = true then 1 else 0) = (List.range n).countP p + (if sl < n ∧ q sl = true then 1 else 0)
  | 0, _ => by simp
  | n + 1, h => by
    have ih := countP_upd p q sl n h
    rw [List.range_succ, List.countP_append, List.countP_append, List.countP_singleton, List.countP_singleton]
    by_cases hn : sl = n
    · subst hn
      simp only [Nat.lt_irrefl, false_and, if_false] at ih
      simp only [Nat.lt_succ_self, true_and]
      omega
    · rw [h n (fun e => hn e.symm)]
      have e : sl < n + 1 ↔ sl < n := by omega
      simp only [e]
      omega
end Go.Proofs.Hc
namespace Go.Proofs.Hc
open Go.RowKit
theorem mk_depth (a : BitVec 64) (b : Int) (c : BitVec 64) (d e : Int) (f g h : Nat → BitVec 64) : (Tab.mk a b c d e f g h).depth = b := rfl
theorem mk_pre (a : BitVec 64) (b : Int) (c : BitVec 64) (d e : Int) (f g h : Nat → BitVec 64) : (Tab.mk a b c d e f g h).pre = c := rfl
theorem mk_count (a : BitVec 64) (b : Int) (c : BitVec 64) (d e : Int) (f g h : Nat → BitVec 64) : (Tab.mk a b c d e f g h).count = a := rfl
theorem fill_depth (t : Tab) (s k v : BitVec 64) (sl : Nat) : (fillT t s k v sl).depth = t.depth := by unfold fillT; exact mk_depth _ _ _ _ _ _ _ _
theorem fill_pre (t : Tab) (s k v : BitVec 64) (sl : Nat) : (fillT t s k v sl).pre = t.pre := by unfold fillT; exact mk_pre _ _ _ _ _ _ _ _
theorem fill_count (t : Tab) (s k v : BitVec 64) (sl : Nat) : (fillT t s k v sl).count = t.count := by unfold fillT; exact mk_count _ _ _ _ _ _ _ _
theorem bt_with (t t' : Tab) (sl : Nat) (b : BitVec 8) (hc : t'.c = fun i => if i = sl / 8 then withB (t.c (sl / 8)) (sl % 8) b else t.c i) (j : Nat) : bt t' j = if j = sl then b else bt t j := by
  unfold bt
  rw [hc]
  dsimp only
  by_cases h : j / 8 = sl / 8
  · rw [if_pos h, byteAt_withB _ _ _ _ (by omega) (by omega), h]
    by_cases h2 : j % 8 = sl % 8
    · rw [if_pos h2, if_pos (by omega)]
    · rw [if_neg h2, if_neg (by intro e; rw [e] at h2; exact h2 rfl)]
  · rw [if_neg h, if_neg (by intro e; rw [e] at h; exact h rfl)]
theorem bt_fill (t : Tab) (s k v : BitVec 64) (sl j : Nat) : bt (fillT t s k v sl) j = if j = sl then hash2 (hashOf s k) else bt t j := bt_with t _ sl _ rfl j
theorem flatT_iff (t : Tab) : flatT t = true ↔ 0 ≤ t.depth ∧ t.depth ≤ 5 ∧ N (t.pre >>> t.depth.toNat) = 0 ∧ 0 ≤ t.can ∧ t.can ≤ 14 ∧ 0 ≤ t.live ∧ t.live ≤ 14 := by
  rw [flatT]
  simp only [Bool.and_eq_true, decide_eq_true_iff, beq_iff_eq]
  constructor
  · rintro ⟨⟨⟨⟨a, b⟩, c⟩, d, e⟩, f, g⟩; exact ⟨a, b, c, d, e, f, g⟩
  · rintro ⟨a, b, c, d, e, f, g⟩; exact ⟨⟨⟨⟨a, b⟩, c⟩, d, e⟩, f, g⟩
theorem flatT_of {t t' : Tab} (h : flatT t = true) (hd : t'.depth = t.depth) (hp : t'.pre = t.pre) (h1 : 0 ≤ t'.can) (h2 : t'.can ≤ 14) (h3 : 0 ≤ t'.live) (h4 : t'.live ≤ 14) : flatT t' = true := by
  obtain ⟨a, b, c, _⟩ := (flatT_iff t).1 h
  refine (flatT_iff t').2 ⟨?_, ?_, ?_, h1, h2, h3, h4⟩ <;> rw [hd]
  · exact a
  · exact b
  · rw [hp]; exact c
theorem hasT_iff (t : Tab) (h : BitVec 64) : hasT t h = true ↔ flatT t = true ∧ topT h t.depth = t.pre := by rw [hasT, Bool.and_eq_true, beq_iff_eq]
theorem hasT_of {t t' : Tab} {h : BitVec 64} (hh : hasT t h = true) (hf : flatT t' = true) (hd : t'.depth = t.depth) (hp : t'.pre = t.pre) : hasT t' h = true :=
  (hasT_iff t' h).2 ⟨hf, by rw [hd, hp]; exact ((hasT_iff t h).1 hh).2⟩
theorem free_iff (t : Tab) (g x : Nat) (hx : x < 8) : (freeM (t.c g)).getLsbD x = true ↔ bt t (8 * g + x) = 128#8 ∨ bt t (8 * g + x) = 254#8 := by
  rw [free_byte _ _ hx, bt_at t g x hx, Bool.or_eq_true, beq_iff_eq, beq_iff_eq]
structure Spot (t : Tab) (s k : BitVec 64) (sl : Nat) : Prop where
  lt : sl < 16
  free : bt t sl = 128#8 ∨ bt t sl = 254#8
  row : sl / 8 ∈ rowT t s k
  goes : hasT t (hashOf s k) = true
  not : ∀ j, j < 16 → fullJ t j = true → t.k j ≠ k
  can : bt t sl = 128#8 → 0 < t.can
theorem place_spot {t : Tab} {s k : BitVec 64} {sl : Nat} (h : placeT t s k = .ok sl) : Spot t s k sl := by
  obtain ⟨g, x, rfl, hg, hx, hr, -, hf, hgo, hn, hd⟩ := place_ok h
  refine ⟨by omega, (free_iff t g x hx).1 hf, by rw [show (8 * g + x) / 8 = g by omega]; exact hr, hgo, fun j hj hfj hk => ?_, fun he => ?_⟩
  · have := (hasKT_iff t k).2 ⟨j, hj, hfj, hk⟩
    rw [hn] at this; cases this
  · rcases hd with hd | hd
    · exfalso
      rw [bne_iff_ne, ne_eq, and_lane _ x hx, delM_bit _ x hx, ← bt_at t g x hx, he] at hd
      exact hd (by decide)
    · exact hd
theorem Spot.notfull {t : Tab} {s k : BitVec 64} {sl : Nat} (h : Spot t s k sl) : fullJ t sl = false := by
  rw [fullJ]
  rcases h.free with e | e <;> rw [e] <;> decide
theorem fill_full {t : Tab} (s k v : BitVec 64) (sl j : Nat) : fullJ (fillT t s k v sl) j = if j = sl then true else fullJ t j := by
  rw [fullJ, bt_fill]
  by_cases h : j = sl
  · rw [if_pos h, if_pos h]; simpa using hash2_lt (hashOf s k)
  · rw [if_neg h, if_neg h, fullJ]
theorem fill_fill {t : Tab} (s k v : BitVec 64) (sl j : Nat) : fillJ (fillT t s k v sl) j = if j = sl then true else fillJ t j := by
  rw [fillJ, bt_fill]
  by_cases h : j = sl
  · rw [if_pos h, if_pos h, bne_iff_ne]
    intro e
    have := hash2_lt (hashOf s k)
    rw [e] at this; exact absurd this (by decide)
  · rw [if_neg h, if_neg h, fillJ]
theorem fill_nFull {t : Tab} {s k : BitVec 64} {sl : Nat} (v : BitVec 64) (h : Spot t s k sl) : nFull (fillT t s k v sl) = nFull t + 1 := by
  have := countP_upd (fullJ t) (fullJ (fillT t s k v sl)) sl 16 (fun j hj => by rw [fill_full, if_neg hj])
  rw [h.notfull, fill_full, if_pos rfl, if_neg (by simp), if_pos ⟨h.lt, rfl⟩] at this
  unfold nFull
  exact this
theorem fill_nFill {t : Tab} {s k : BitVec 64} {sl : Nat} (v : BitVec 64) (h : Spot t s k sl) : nFill (fillT t s k v sl) = nFill t + if bt t sl = 128#8 then 1 else 0 := by
  have := countP_upd (fillJ t) (fillJ (fillT t s k v sl)) sl 16 (fun j hj => by rw [fill_fill, if_neg hj])
  rw [fill_fill, if_pos rfl, if_pos (show sl < 16 ∧ true = true from ⟨h.lt, rfl⟩)] at this
  have hlt := h.lt
  unfold nFill
  rcases h.free with e | e
  · rw [if_pos e]
    rw [if_neg (by rw [fillJ, e]; simp)] at this
    exact this
  · rw [if_neg (by rw [e]; decide)]
    rw [if_pos (by rw [fillJ, e]; exact ⟨hlt, by decide⟩)] at this
    omega
theorem fill_can {t : Tab} {s k : BitVec 64} {sl : Nat} (v : BitVec 64) : (fillT t s k v sl).can = if bt t sl = 128#8 then t.can - 1 else t.can := by
  show (if emptyM (t.c (sl / 8)) &&& laneM (sl % 8) != 0#8 then t.can - 1 else t.can) = _
  have e : (emptyM (t.c (sl / 8)) &&& laneM (sl % 8) != 0#8) = true ↔ bt t sl = 128#8 := by
    rw [bne_iff_ne, ne_eq, and_lane _ _ (by omega), emptyM_bit _ _ (by omega)]
    show ¬ (bt t sl == 128#8) = false ↔ _
    simp
  by_cases h : bt t sl = 128#8
  · rw [if_pos (e.2 h), if_pos h]
  · rw [if_neg (fun h2 => h (e.1 h2)), if_neg h]
theorem fill_hasE {t : Tab} {s k : BitVec 64} {sl : Nat} (v : BitVec 64) (g : Nat) (h : hasE (fillT t s k v sl) g = true) : hasE t g = true := by
  rw [hasE_iff] at h ⊢
  obtain ⟨x, hx, hb⟩ := h
  rw [bt_fill] at hb
  by_cases he : 8 * g + x = sl
  · rw [if_pos he] at hb
    have := hash2_lt (hashOf s k)
    rw [hb] at this; exact absurd this (by decide)
  · rw [if_neg he] at hb; exact ⟨x, hx, hb⟩
theorem May.fill {t : Tab} {s k : BitVec 64} {sl : Nat} (m : May t s) (v : BitVec 64) (h : Spot t s k sl) : May (fillT t s k v sl) s := by
  have hlt := h.lt
  have hnF := fill_nFull v h
  have hnf := fill_nFill v h
  have hcan := fill_can (t := t) (s := s) (k := k) (sl := sl) v
  have hcan' : (fillT t s k v sl).can = 14 - (nFill (fillT t s k v sl) : Int) := by
    rw [hcan, hnf, m.can]
    split
    · rw [show ((nFill t + 1 : Nat) : Int) = (nFill t : Int) + 1 by omega]; omega
    · rw [Nat.add_zero]
  have hlive' : (fillT t s k v sl).live = (nFull (fillT t s k v sl) : Int) := by
    rw [hnF]; show t.live + 1 = _; rw [m.live]; omega
  have hfl : flatT (fillT t s k v sl) = true := by
    obtain ⟨a, b, c, d, e, f, g⟩ := (flatT_iff t).1 m.flat
    have hle := nFull_le (fillT t s k v sl)
    have hc0 : 0 ≤ (fillT t s k v sl).can := by
      rw [hcan]
      split
      · have := h.can ‹_›; omega
      · exact d
    refine flatT_of m.flat (fill_depth ..) (fill_pre ..) hc0 ?_ ?_ ?_
    · rw [hcan']; clear hcan hcan' hnF hnf hlive' hc0; omega
    · rw [hlive']; clear hcan hcan' hnF hnf hlive' hc0; omega
    · rw [hlive']; rw [hcan'] at hc0; clear hcan hcan' hnF hnf hlive' f g d e; omega
  have hgoes : ∀ x, hasT t x = true → hasT (fillT t s k v sl) x = true := fun x hx => hasT_of hx hfl (fill_depth ..) (fill_pre ..)
  refine ⟨hfl, fun j hj => ?_, fun j hj hf => ?_, fun i j hi hj hfi hfj hk => ?_, hlive', hcan'⟩
  · rw [bt_fill]
    by_cases e : j = sl
    · rw [if_pos e]; exact .inl (hash2_lt _)
    · rw [if_neg e]; exact m.ok j hj
  · by_cases e : j = sl
    · have hk : (fillT t s k v sl).k j = k := by show (if j = sl then k else t.k j) = k; rw [if_pos e]
      rw [hk, bt_fill, if_pos e]
      exact ⟨rfl, hgoes _ h.goes, by rw [e]; exact row_mono (fun i _ => fill_hasE v i) h.row⟩
    · have hk : (fillT t s k v sl).k j = t.k j := by show (if j = sl then k else t.k j) = _; rw [if_neg e]
      rw [fill_full, if_neg e] at hf
      obtain ⟨a, b, c⟩ := m.slot j hj hf
      rw [hk, bt_fill, if_neg e]
      exact ⟨a, hgoes _ b, row_mono (fun i _ => fill_hasE v i) c⟩
  · change (if i = sl then k else t.k i) = (if j = sl then k else t.k j) at hk
    rw [fill_full] at hfi hfj
    by_cases ei : i = sl
    · by_cases ej : j = sl
      · omega
      · rw [if_pos ei, if_neg ej] at hk
        rw [if_neg ej] at hfj
        exact absurd hk.symm (h.not j hj hfj)
    · rw [if_neg ei] at hk hfi
      by_cases ej : j = sl
      · rw [if_pos ej] at hk
        exact absurd hk (h.not i hi hfi)
      · rw [if_neg ej] at hk hfj
        exact m.inj i j hi hj hfi hfj hk
theorem fill_pairs {t : Tab} {s k : BitVec 64} {sl : Nat} (v : BitVec 64) (h : Spot t s k sl) (p : BitVec 64 × BitVec 64) : p ∈ pairsT (fillT t s k v sl) ↔ p = (k, v) ∨ p ∈ pairsT t := by
  rw [mem_pairs, mem_pairs]
  constructor
  · rintro ⟨j, hj, hf, rfl⟩
    rw [fill_full] at hf
    have hk : (fillT t s k v sl).k j = if j = sl then k else t.k j := rfl
    have hv : (fillT t s k v sl).v j = if j = sl then v else t.v j := rfl
    rw [hk, hv]
    by_cases e : j = sl
    · rw [if_pos e, if_pos e]; exact .inl rfl
    · rw [if_neg e] at hf ⊢
      rw [if_neg e]
      exact .inr ⟨j, hj, hf, rfl⟩
  · rintro (rfl | ⟨j, hj, hf, rfl⟩)
    · refine ⟨sl, h.lt, by rw [fill_full, if_pos rfl], ?_⟩
      show _ = ((if sl = sl then k else t.k sl), (if sl = sl then v else t.v sl))
      rw [if_pos rfl, if_pos rfl]
    · have e : j ≠ sl := by rintro rfl; rw [h.notfull] at hf; cases hf
      refine ⟨j, hj, by rw [fill_full, if_neg e]; exact hf, ?_⟩
      show _ = ((if j = sl then k else t.k j), (if j = sl then v else t.v j))
      rw [if_neg e, if_neg e]
theorem exists_empty {t : Tab} {s : BitVec 64} (m : May t s) (h : 0 < t.can) : ∃ j, j < 16 ∧ bt t j = 128#8 := by
  apply Classical.byContradiction
  intro hn
  have : nFill t = 16 := by
    unfold nFill
    have h2 : (List.range 16).countP (fillJ t) = (List.range 16).length := List.countP_eq_length.2 fun j hj => by
      rw [fillJ, bne_iff_ne]
      exact fun e => hn ⟨j, by simpa using hj, e⟩
    rw [h2]; rfl
  have h3 := m.can
  omega
theorem findSome_some {α β : Type} (f : α → Option β) : ∀ (l : List α) (g : α), g ∈ l → (f g).isSome = true → ∃ y, l.findSome? f = some y
  | g' :: l, g, hg, hf => by
    rw [List.findSome?_cons]
    cases h : f g' with
    | some y => exact ⟨y, rfl⟩
    | none =>
      rcases List.mem_cons.1 hg with rfl | hg
      · rw [h] at hf; cases hf
      · exact findSome_some f l g hg hf
theorem freeIn_some (t : Tab) (g : Nat) (h : hasE t g = true) : (freeIn t g).isSome = true := by
  obtain ⟨x, hx, hb⟩ := (hasE_iff t g).1 h
  rw [freeIn_eq, Option.isSome_map]
  have : x ∈ lanesOf (freeM (t.c g)) := (mem_lanes _ _).2 ⟨hx, (free_iff t g x hx).2 (.inl hb)⟩
  cases hl : lanesOf (freeM (t.c g)) with
  | nil => rw [hl] at this; cases this
  | cons y l => rfl
theorem place_room {t : Tab} {s k : BitVec 64} (m : May t s) (h : 0 < t.can) (hg : hasT t (hashOf s k) = true) (hk : hasKT t k = false) : ∃ sl, placeT t s k = .ok sl := by
  obtain ⟨j, hj, hb⟩ := exists_empty m h
  have hE : hasE t (j / 8) = true := (hasE_iff t _).2 ⟨j % 8, by omega, by rw [show 8 * (j / 8) + j % 8 = j by omega]; exact hb⟩
  have hex : ∃ g, g ∈ rowT t s k ∧ hasE t g = true := by
    cases hG : hasE t (gOf s k) with
    | true => exact ⟨_, (mem_row t s k _).2 (.inl rfl), hG⟩
    | false =>
      refine ⟨j / 8, (mem_row t s k _).2 (.inr ⟨hG, ?_⟩), hE⟩
      have h1 := gOf_lt s k
      have h2 : j / 8 ≠ gOf s k := by intro e; rw [e, hG] at hE; cases hE
      omega
  obtain ⟨g, hgr, hgE⟩ := hex
  obtain ⟨y, hy⟩ := findSome_some (freeIn t) _ g hgr (freeIn_some t g hgE)
  have hy' : freeAt t (rowT t s k) = some y := hy
  obtain ⟨g', x⟩ := y
  refine ⟨8 * g' + x, ?_⟩
  rw [placeT, if_pos hg, hk, if_neg (by decide), hy']
  dsimp only
  rw [if_pos (by rw [decide_eq_true h, Bool.or_true])]
theorem place_goes_no {t : Tab} {s k : BitVec 64} (h : hasT t (hashOf s k) = false) : placeT t s k = .error 2 := by rw [placeT, h, if_neg (by decide)]
theorem place_has_yes {t : Tab} {s k : BitVec 64} (h : hasT t (hashOf s k) = true) (hk : hasKT t k = true) : placeT t s k = .error 5 := by rw [placeT, if_pos h, if_pos hk]
theorem place_cases (t : Tab) (s k : BitVec 64) : (hasT t (hashOf s k) = false ∧ placeT t s k = .error 2) ∨ (hasT t (hashOf s k) = true ∧ hasKT t k = true ∧ placeT t s k = .error 5) ∨
    (hasT t (hashOf s k) = true ∧ hasKT t k = false ∧ placeT t s k = .error 6) ∨ (hasT t (hashOf s k) = true ∧ hasKT t k = false ∧ ∃ sl, placeT t s k = .ok sl) := by
  cases hg : hasT t (hashOf s k) with
  | false => exact .inl ⟨rfl, place_goes_no hg⟩
  | true =>
    cases hk : hasKT t k with
    | true => exact .inr (.inl ⟨rfl, rfl, place_has_yes hg hk⟩)
    | false =>
      refine .inr (.inr ?_)
      rw [placeT, if_pos hg, hk, if_neg (by decide)]
      cases freeAt t (rowT t s k) with
      | none => exact .inl ⟨rfl, rfl, rfl⟩
      | some y =>
        dsimp only
        split
        · exact .inr ⟨rfl, rfl, _, rfl⟩
        · exact .inl ⟨rfl, rfl, rfl⟩
end Go.Proofs.Hc
