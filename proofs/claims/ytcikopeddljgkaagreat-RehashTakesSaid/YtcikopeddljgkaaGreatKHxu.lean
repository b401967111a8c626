/- Tables laid anew, and halves: plain law. -/
import Derived.Test.YtcikopeddljgkaaGreatKHxs
set_option linter.unusedSimpArgs false
set_option linter.unusedVariables false
set_option maxHeartbeats 2000000
set_option maxRecDepth 100000
namespace Go.Proofs.Hc
open Go.RowKit
def Clean (t : Tab) : Prop := ∀ j, j < 16 → bt t j ≠ 254#8
theorem clean_nFill {t : Tab} {s : BitVec 64} (m : May t s) (h : Clean t) : nFill t = nFull t := by
  unfold nFill nFull
  apply List.countP_congr
  intro j hj
  have hj16 : j < 16 := by simpa using hj
  rw [fillJ, fullJ, bne_iff_ne, decide_eq_true_iff]
  rcases m.ok j hj16 with e | e | e
  · exact ⟨fun _ => e, fun _ h => by rw [h] at e; exact absurd e (by decide)⟩
  · rw [e]; exact ⟨fun h => absurd rfl h, fun h => absurd h (by decide)⟩
  · exact absurd e (h j hj16)
theorem clean_can {t : Tab} {s : BitVec 64} (m : May t s) (h : Clean t) : t.can = 14 - t.live := by rw [m.can, m.live, clean_nFill m h]
theorem Clean.fill {t : Tab} (h : Clean t) (s k v : BitVec 64) (sl : Nat) : Clean (fillT t s k v sl) := by
  intro j hj
  rw [bt_fill]
  split
  · intro e
    have := hash2_lt (hashOf s k)
    rw [e] at this; exact absurd this (by decide)
  · exact h j hj
theorem bt_bare (c : BitVec 64) (d : Int) (p : BitVec 64) (j : Nat) : bt (bareT c d p) j = 128#8 := byteAt_tops _ (by omega)
theorem clean_bare (c : BitVec 64) (d : Int) (p : BitVec 64) : Clean (bareT c d p) := fun j _ => by rw [bt_bare]; decide
theorem bare_full (c : BitVec 64) (d : Int) (p : BitVec 64) (j : Nat) : fullJ (bareT c d p) j = false := by rw [fullJ, bt_bare]; decide
theorem bare_pairs (c : BitVec 64) (d : Int) (p : BitVec 64) (q : BitVec 64 × BitVec 64) : ¬ q ∈ pairsT (bareT c d p) := by
  rw [mem_pairs]
  rintro ⟨j, _, hf, _⟩
  rw [bare_full] at hf; cases hf
theorem bare_flat {c : BitVec 64} {d : Int} {p : BitVec 64} (h0 : 0 ≤ d) (h5 : d ≤ 5) (hp : N (p >>> d.toNat) = 0) : flatT (bareT c d p) = true :=
  (flatT_iff _).2 ⟨h0, h5, hp, by show (0 : Int) ≤ 14; omega, by show (14 : Int) ≤ 14; omega, by show (0 : Int) ≤ 0; omega, by show (0 : Int) ≤ 14; omega⟩
theorem bare_may {c : BitVec 64} {d : Int} {p : BitVec 64} (s : BitVec 64) (h : flatT (bareT c d p) = true) : May (bareT c d p) s := by
  have h1 : nFull (bareT c d p) = 0 := by
    unfold nFull
    rw [List.countP_eq_zero]
    intro j _
    rw [bare_full]; simp
  have h2 : nFill (bareT c d p) = 0 := by
    unfold nFill
    rw [List.countP_eq_zero]
    intro j _
    rw [fillJ, bt_bare]; decide
  refine ⟨h, fun j _ => .inr (.inl (bt_bare c d p j)), fun j _ hf => ?_, fun i j _ _ hf => ?_, ?_, ?_⟩
  · rw [bare_full] at hf; cases hf
  · rw [bare_full] at hf; cases hf
  · rw [h1]; rfl
  · rw [h2]; rfl
theorem has_fill {t : Tab} {s k v : BitVec 64} {sl : Nat} (m : May (fillT t s k v sl) s) {h : BitVec 64} (hh : hasT t h = true) : hasT (fillT t s k v sl) h = true :=
  hasT_of hh m.flat (fill_depth ..) (fill_pre ..)
structure Laid (s : BitVec 64) (t0 : Tab) (l : List (BitVec 64 × BitVec 64)) (x : Tab) : Prop where
  eq : laidT s t0 l = .ok x
  may : May x s
  clean : Clean x
  mem : ∀ q, q ∈ pairsT x ↔ q ∈ l ∨ q ∈ pairsT t0
  live : x.live = t0.live + l.length
  depth : x.depth = t0.depth
  pre : x.pre = t0.pre
  count : x.count = t0.count
theorem laid_ok {s : BitVec 64} : ∀ (l : List (BitVec 64 × BitVec 64)) (t0 : Tab), May t0 s → Clean t0 → (∀ p ∈ l, hasT t0 (hashOf s p.1) = true) → ((l.map (·.1)).Nodup) → (∀ p ∈ l, ∀ q ∈ pairsT t0, q.1 ≠ p.1) → t0.live + l.length ≤ 14 → ∃ x, Laid s t0 l x
  | [], t0, m, hc, _, _, _, _ => ⟨t0, rfl, m, hc, fun q => by simp, by simp, rfl, rfl, rfl⟩
  | p :: l, t0, m, hc, hg, hn, hd, hl => by
    have hcan := clean_can m hc
    rw [List.length_cons] at hl
    rw [List.map_cons, List.nodup_cons] at hn
    have hno : hasKT t0 p.1 = false := by
      cases h : hasKT t0 p.1 with
      | false => rfl
      | true =>
        obtain ⟨j, hj, hf, hk⟩ := (hasKT_iff t0 p.1).1 h
        exact absurd hk (hd p (by simp) (t0.k j, t0.v j) ((mem_pairs t0 _).2 ⟨j, hj, hf, rfl⟩))
    obtain ⟨sl, hsl⟩ := place_room m (by omega) (hg p (by simp)) hno
    have hsp := place_spot hsl
    have m' := m.fill p.2 hsp
    have hp' := fill_pairs p.2 hsp
    obtain ⟨x, hx⟩ := laid_ok l (fillT t0 s p.1 p.2 sl) m' (hc.fill _ _ _ _) (fun q hq => has_fill m' (hg q (by simp [hq]))) hn.2 (fun q hq r hr => by
      rcases (hp' r).1 hr with rfl | hr
      · intro e; exact hn.1 (List.mem_map.2 ⟨q, hq, e.symm⟩)
      · exact hd q (by simp [hq]) r hr) (by show t0.live + 1 + _ ≤ 14; omega)
    refine ⟨x, ?_, hx.may, hx.clean, fun q => ?_, ?_, hx.depth.trans (fill_depth ..), hx.pre.trans (fill_pre ..), hx.count.trans (fill_count ..)⟩
    · rw [laidT_ok hsl]; exact hx.eq
    · rw [hx.mem q, hp' q, List.mem_cons]
      constructor
      · rintro (h | h | h)
        · exact .inl (.inr h)
        · exact .inl (.inl h)
        · exact .inr h
      · rintro ((h | h) | h)
        · exact .inr (.inl h)
        · exact .inl h
        · exact .inr (.inr h)
    · rw [hx.live]; show t0.live + 1 + (l.length : Int) = _; rw [List.length_cons]; omega
theorem live_le {t : Tab} {s : BitVec 64} (m : May t s) : ((pairsT t).length : Int) ≤ 14 := by
  rw [m.len]; exact ((flatT_iff t).1 m.flat).2.2.2.2.2.2
theorem anew_ok {t : Tab} {s : BitVec 64} (m : May t s) : ∃ x, Laid s (bareT t.count t.depth t.pre) (pairsT t) x := by
  obtain ⟨a, b, c, _⟩ := (flatT_iff t).1 m.flat
  have hfl := bare_flat (c := t.count) a b c
  refine laid_ok _ _ (bare_may s hfl) (clean_bare _ _ _) (fun p hp => ?_) m.keys (fun p _ q hq => absurd hq (bare_pairs _ _ _ q)) ?_
  · obtain ⟨j, hj, hf, rfl⟩ := (mem_pairs t p).1 hp
    exact (hasT_iff _ _).2 ⟨hfl, ((hasT_iff _ _).1 (m.slot j hj hf).2.1).2⟩
  · show (0 : Int) + _ ≤ 14
    have := live_le m
    omega
end Go.Proofs.Hc
namespace Go.Proofs.Hc
open Go.RowKit
structure NormT (t : Tab) : Prop where
  c : ∀ i, ¬ i < 2 → t.c i = 0#64
  k : ∀ i, ¬ i < 16 → t.k i = 0#64
  v : ∀ i, ¬ i < 16 → t.v i = 0#64
def normT (t : Tab) : Tab := { t with c := fun i => if i < 2 then t.c i else 0#64, k := fun i => if i < 16 then t.k i else 0#64, v := fun i => if i < 16 then t.v i else 0#64 }
theorem normT_norm (t : Tab) : NormT (normT t) := ⟨fun i h => if_neg h, fun i h => if_neg h, fun i h => if_neg h⟩
theorem cells_same {t t' : Tab} (h : ∀ i, i < 39 → t.cell i = t'.cell i) : tcells t = tcells t' := by
  apply Array.ext_getElem?; intro i
  rw [zat, zat]
  by_cases hi : i < 39
  · rw [if_pos hi, if_pos hi, h i hi]
  · rw [if_neg hi, if_neg hi]
theorem normT_cells (t : Tab) : tcells (normT t) = tcells t := by
  refine cells_same fun i hi => ?_
  match i, hi with
  | 0, _ => rfl
  | 1, _ => rfl
  | 2, _ => rfl
  | 3, _ => rfl
  | 4, _ => rfl
  | 5, _ => rfl
  | 6, _ => rfl
  | i + 7, hi =>
    show (if i < 16 then U ((normT t).k i) else U ((normT t).v (i - 16))) = if i < 16 then U (t.k i) else U (t.v (i - 16))
    by_cases h : i < 16
    · rw [if_pos h, if_pos h]
      show U (if i < 16 then t.k i else 0#64) = _
      rw [if_pos h]
    · rw [if_neg h, if_neg h]
      show U (if i - 16 < 16 then t.v (i - 16) else 0#64) = _
      rw [if_pos (by omega)]
theorem of_int_small (d : Int) (h0 : 0 ≤ d) (h1 : d ≤ 200) : (BitVec.ofInt 64 d).toNat = d.toNat := by
  rw [BitVec.toNat_ofInt]; omega
theorem pre_small {t : Tab} (hf : flatT t = true) : t.pre.toNat < 32 := by
  obtain ⟨h0, h5, hp, _⟩ := (flatT_iff t).1 hf
  have h : (t.pre >>> t.depth.toNat).toNat = 0 := by
    have : N (t.pre >>> t.depth.toNat) = ((t.pre >>> t.depth.toNat).toNat : Int) := rfl
    omega
  rw [BitVec.toNat_ushiftRight, Nat.shiftRight_eq_div_pow] at h
  have hd : t.depth.toNat ≤ 5 := by omega
  have h2 : t.pre.toNat < 2 ^ t.depth.toNat := by
    rcases Nat.lt_or_ge t.pre.toNat (2 ^ t.depth.toNat) with h1 | h1
    · exact h1
    · have := Nat.div_pos h1 (Nat.two_pow_pos _)
      omega
  exact Nat.lt_of_lt_of_le h2 (Nat.pow_le_pow_right (by omega) hd)
theorem wd1_depth {t : Tab} (hf : flatT t = true) : wd1 t &&& 255#64 = BitVec.ofInt 64 t.depth := by
  have hp := pre_small hf
  obtain ⟨h0, h5, _⟩ := (flatT_iff t).1 hf
  have hd : t.depth = 0 ∨ t.depth = 1 ∨ t.depth = 2 ∨ t.depth = 3 ∨ t.depth = 4 ∨ t.depth = 5 := by omega
  have hpp : t.pre = BitVec.ofNat 64 t.pre.toNat := by simp
  unfold wd1
  generalize t.pre.toNat = n at hp hpp
  rw [hpp]
  have : ∀ n : Nat, n < 32 → ∀ d : Nat, d < 6 → (BitVec.ofInt 64 (d : Int) ||| BitVec.ofNat 64 n * 256#64) &&& 255#64 = BitVec.ofInt 64 (d : Int) := by decide +kernel
  rcases hd with h | h | h | h | h | h <;> rw [h]
  · exact this n hp 0 (by omega)
  · exact this n hp 1 (by omega)
  · exact this n hp 2 (by omega)
  · exact this n hp 3 (by omega)
  · exact this n hp 4 (by omega)
  · exact this n hp 5 (by omega)
theorem wd1_pre {t : Tab} (hf : flatT t = true) : wd1 t >>> 8 = t.pre := by
  have hp := pre_small hf
  obtain ⟨h0, h5, _⟩ := (flatT_iff t).1 hf
  have hd : t.depth = 0 ∨ t.depth = 1 ∨ t.depth = 2 ∨ t.depth = 3 ∨ t.depth = 4 ∨ t.depth = 5 := by omega
  have hpp : t.pre = BitVec.ofNat 64 t.pre.toNat := by simp
  unfold wd1
  generalize t.pre.toNat = n at hp hpp
  rw [hpp]
  have : ∀ n : Nat, n < 32 → ∀ d : Nat, d < 6 → (BitVec.ofInt 64 (d : Int) ||| BitVec.ofNat 64 n * 256#64) >>> 8 = BitVec.ofNat 64 n := by decide +kernel
  rcases hd with h | h | h | h | h | h <;> rw [h]
  · exact this n hp 0 (by omega)
  · exact this n hp 1 (by omega)
  · exact this n hp 2 (by omega)
  · exact this n hp 3 (by omega)
  · exact this n hp 4 (by omega)
  · exact this n hp 5 (by omega)
theorem read_eq {t : Tab} (hf : flatT t = true) : readTab (tword t) = normT t := by
  obtain ⟨h0, h5, _, c0, c1, l0, l1⟩ := (flatT_iff t).1 hf
  have e1 : ((tword t 1 &&& 255#64).toNat : Int) = t.depth := by
    show ((wd1 t &&& 255#64).toNat : Int) = _
    rw [wd1_depth hf, of_int_small _ h0 (by omega)]; omega
  have e2 : tword t 1 >>> 8 = t.pre := wd1_pre hf
  have e3 : ((tword t 2).toNat : Int) = t.can := by
    show ((BitVec.ofInt 64 t.can).toNat : Int) = _
    rw [of_int_small _ c0 (by omega)]; omega
  have e4 : ((tword t 3).toNat : Int) = t.live := by
    show ((BitVec.ofInt 64 t.live).toNat : Int) = _
    rw [of_int_small _ l0 (by omega)]; omega
  have e5 : (fun g => if g < 2 then tword t (4 + g) else 0#64) = fun i => if i < 2 then t.c i else 0#64 := by
    funext g
    by_cases h : g < 2
    · rw [if_pos h, if_pos h, tw_c t g h]
    · rw [if_neg h, if_neg h]
  have e6 : (fun j => if j < 16 then tword t (6 + j) else 0#64) = fun i => if i < 16 then t.k i else 0#64 := by
    funext g
    by_cases h : g < 16
    · rw [if_pos h, if_pos h, tw_k t g h]
    · rw [if_neg h, if_neg h]
  have e7 : (fun j => if j < 16 then tword t (22 + j) else 0#64) = fun i => if i < 16 then t.v i else 0#64 := by
    funext g
    by_cases h : g < 16
    · rw [if_pos h, if_pos h, tw_v t g h]
    · rw [if_neg h, if_neg h]
  unfold readTab normT
  rw [e1, e2, e3, e4, e5, e6, e7]
  rfl
theorem normT_id {t : Tab} (h : NormT t) : normT t = t := by
  obtain ⟨cn, d, p, cc, li, c, k, v⟩ := t
  unfold normT
  dsimp only
  congr 1
  · funext i
    by_cases hi : i < 2
    · rw [if_pos hi]
    · rw [if_neg hi]; exact (h.c i hi).symm
  · funext i
    by_cases hi : i < 16
    · rw [if_pos hi]
    · rw [if_neg hi]; exact (h.k i hi).symm
  · funext i
    by_cases hi : i < 16
    · rw [if_pos hi]
    · rw [if_neg hi]; exact (h.v i hi).symm
theorem normT_flat (t : Tab) : flatT (normT t) = flatT t := rfl
theorem read_ok {t : Tab} (hf : flatT t = true) : readOk (tword t) = true := by
  obtain ⟨h0, h5, _, c0, c1, l0, l1⟩ := (flatT_iff t).1 hf
  unfold readOk
  rw [read_eq hf, normT_flat, hf]
  have e3 : (tword t 2).toNat = t.can.toNat := of_int_small _ c0 (by omega)
  have e4 : (tword t 3).toNat = t.live.toNat := of_int_small _ l0 (by omega)
  have e5 : tword t 38 = 0#64 := rfl
  have e6 : tword t 39 = 0#64 := rfl
  rw [e3, e4, e5, e6]
  simp
  omega
theorem anewT_flat {t x : Tab} {s : BitVec 64} (hm : mayT t s = true) (hx : anewT t s = .ok x) : flatT x = true := by
  obtain ⟨y, hy⟩ := anew_ok ((may_iff t s).1 hm)
  have h2 : anewT t s = .ok y := by unfold anewT; exact hy.eq
  rw [hx] at h2
  cases h2
  exact hy.may.flat
section
variable {l : List (BitVec 64)} {p : LayT}
theorem RunsL.load (hr : rightL p = true) (h : p.ph = 0 ∨ p.ph = 2) (hs : p.sl = 0) {w : BitVec 64} {k : Nat} {l' : List (BitVec 64)} {p' : LayT} (hw : l[16 + (if p.ph = 2 then p.at_.toNat else 0)]? = some w) (hk : RunsL l (takeL p w) k l' p') : RunsL l p (k + 1) l' p' := by
  have R := (zdc p).1 hr
  refine .step (a := ⟨1, 16 + 40 * p.sl + (if p.ph = 2 ∨ p.ph = 3 then p.at_ else 0), 0#64⟩) (y := (l, w)) (by omega) hr ?_ ?_ hk
  · unfold needL
    rw [if_pos (by simp [hr]; omega), if_pos h]
    rw [if_neg (show ¬ p.ph = 1 by omega), if_neg (show ¬ p.ph = 3 by omega), if_neg (show ¬ p.ph = 4 by omega)]
  · unfold doP
    dsimp only
    have e : (16 + 40 * p.sl + (if p.ph = 2 ∨ p.ph = 3 then p.at_ else 0)).toNat = 16 + (if p.ph = 2 then p.at_.toNat else 0) := by
      have ha := R.at_
      rw [hs]
      by_cases h2 : p.ph = 2
      · rw [if_pos (.inl h2), if_pos h2]; omega
      · rw [if_neg (by omega), if_neg h2]; omega
    rw [e, hw]
    rfl
theorem RunsL.store (hr : rightL p = true) (h : p.ph = 1 ∨ p.ph = 3 ∨ p.ph = 4) (hs : p.sl = 0) {k : Nat} {l' : List (BitVec 64)} {p' : LayT} {j : Nat} (hj : j = 16 + (if p.ph = 3 then p.at_.toNat else 0)) {u x : BitVec 64} (hw : l[j]? = some u)
    (hx : x = if p.ph = 1 then p.count + 1#64 else if p.ph = 3 then p.ws p.at_.toNat else p.count + 2#64) (hk : RunsL (l.set j x) (takeL p u) k l' p') : RunsL l p (k + 1) l' p' := by
  have R := (zdc p).1 hr
  have ha := R.at_
  have e : (16 + 40 * p.sl + (if p.ph = 2 ∨ p.ph = 3 then p.at_ else 0)).toNat = j := by
    rw [hs, hj]
    by_cases h2 : p.ph = 3
    · rw [if_pos (.inr h2), if_pos h2]; omega
    · rw [if_neg (by omega), if_neg h2]; omega
  refine .step (a := ⟨2, 16 + 40 * p.sl + (if p.ph = 2 ∨ p.ph = 3 then p.at_ else 0), x⟩) (y := (l.set j x, u)) (by omega) hr ?_ ?_ hk
  · unfold needL
    rw [if_pos (by simp [hr]; omega), if_neg (show ¬ (p.ph = 0 ∨ p.ph = 2) by omega), hx]
    by_cases h1 : p.ph = 1
    · rw [if_pos h1, if_pos h1]
    · rw [if_neg h1, if_neg h1]
      by_cases h3 : p.ph = 3
      · rw [if_pos h3, if_pos h3]
      · rw [if_neg h3, if_neg h3, if_pos (show p.ph = 4 by omega)]
  · unfold doP
    dsimp only
    rw [e, hw]
    rfl
end
theorem right_of {ph at_ : Int} {s c : BitVec 64} {ws : Nat → BitVec 64} {b : Bool} {who : Int} (w0 : 0 ≤ who) (w7 : who < 8) (h0 : 0 ≤ ph) (h6 : ph ≤ 6) (hc : oddB c = false) (ha : 1 ≤ at_ ∧ at_ < 40 ∨ ph ≠ 2 ∧ ph ≠ 3) : rightL ⟨ph, who, 0, s, c, at_, ws, b⟩ = true :=
  (zdc _).2 ⟨h0, h6, w0, w7, (by decide : (0 : Int) ≤ 0), (by decide : (0 : Int) < 128), hc, ha⟩
def readW (t : Tab) (j : Nat) : Nat → BitVec 64 := fun i => if 1 ≤ i ∧ i < j then tword t i else 0#64
theorem readW_upd (t : Tab) (j : Nat) (h : 1 ≤ j) : updW (readW t j) j (tword t j) = readW t (j + 1) := by
  funext i
  unfold updW readW
  by_cases e : i = j
  · subst e; rw [if_pos rfl, if_pos (by omega)]
  · rw [if_neg e]
    by_cases h2 : 1 ≤ i ∧ i < j
    · rw [if_pos h2, if_pos (by omega)]
    · rw [if_neg h2, if_neg (by omega)]
theorem readW_all (t : Tab) : updW (readW t 40) 0 t.count = tword t := by
  funext i
  unfold updW readW
  by_cases e : i = 0
  · subst e; rfl
  · rw [if_neg e]
    by_cases h2 : 1 ≤ i ∧ i < 40
    · rw [if_pos h2]
    · rw [if_neg h2]
      unfold tword
      rw [if_neg e, if_neg (by omega), if_neg (by omega), if_neg (by omega), if_neg (by omega), if_neg (by omega), if_neg (by omega)]
theorem takeL_read {p : LayT} {t : Tab} (h : p.ph = 2) (hw : p.ws = readW t p.at_.toNat) (h1 : 1 ≤ p.at_) (h2 : p.at_ < 39) : takeL p (tword t p.at_.toNat) = { p with ws := readW t (p.at_.toNat + 1), at_ := p.at_ + 1 } := by
  unfold takeL
  rw [if_neg (by omega), if_neg (by omega), if_pos h, if_neg (by omega), hw, readW_upd t _ (by omega)]
theorem takeL_readall {p : LayT} {t : Tab} (h : p.ph = 2) (hw : p.ws = readW t 39) (h1 : p.at_ = 39) (hc : p.count = t.count) : takeL p (tword t 39) = laidL { p with ws := tword t, at_ := 40 } := by
  unfold takeL
  rw [if_neg (by omega), if_neg (by omega), if_pos h, if_pos h1, hw, hc, readW_upd t 39 (by omega), readW_all]
theorem read_run {l l' : List (BitVec 64)} {t : Tab} {who : Int} {s : BitVec 64} {k : Nat} {p' : LayT} (w0 : 0 ≤ who) (w7 : who < 8) (hl : ∀ i, 1 ≤ i → i < 40 → l[16 + i]? = some (tword t i)) (hc : oddB t.count = false)
    (hk : RunsL l (laidL ⟨2, who, 0, s, t.count, 40, tword t, false⟩) k l' p') : ∀ (n j : Nat), n + j = 39 → 1 ≤ j → RunsL l ⟨2, who, 0, s, t.count, (j : Int), readW t j, false⟩ (n + 1 + k) l' p' := by
  intro n
  induction n with
  | zero =>
    intro j hj h1
    have hj39 : j = 39 := by omega
    subst hj39
    rw [show 0 + 1 + k = k + 1 by omega]
    refine RunsL.load (right_of w0 w7 (by decide) (by decide) hc (.inl (by decide))) (.inr rfl) rfl (w := tword t 39) (hl 39 (by omega) (by omega)) ?_
    rw [takeL_readall (t := t) rfl rfl rfl rfl]
    exact hk
  | succ n ih =>
    intro j hj h1
    rw [show n + 1 + 1 + k = (n + 1 + k) + 1 by omega]
    refine RunsL.load (right_of w0 w7 (by decide) (by decide) hc (.inl (by omega))) (.inr rfl) rfl (w := tword t j) (hl j (by omega) (by omega)) ?_
    have := takeL_read (p := ⟨2, who, 0, s, t.count, (j : Int), readW t j, false⟩) (t := t) rfl rfl (by show (1 : Int) ≤ j; omega) (by show (j : Int) < 39; omega)
    simp only [Int.toNat_natCast] at this
    rw [this]
    exact ih (j + 1) (by omega) (by omega)
theorem write_run {t : Tab} {who : Int} {s c : BitVec 64} {ws : Nat → BitVec 64} (w0 : 0 ≤ who) (w7 : who < 8) (hc : oddB c = false) : ∀ (n j : Nat) (l : List (BitVec 64)), n + j = 39 → 1 ≤ j → 56 ≤ l.length →
    ∃ l', RunsL l ⟨3, who, 0, s, c, (j : Int), ws, false⟩ (n + 2) l' ⟨5, who, 0, s, c, 40, ws, false⟩ ∧ l'.length = l.length ∧ ∀ i, l'[i]? = if i = 16 then some (c + 2#64) else if 16 + j ≤ i ∧ i < 56 then some (ws (i - 16)) else l[i]? := by
  intro n
  induction n with
  | zero =>
    intro j l hj h1 hl
    have hj39 : j = 39 := by omega
    subst hj39
    obtain ⟨u, hu⟩ : ∃ u, l[55]? = some u := ⟨l[55]'(by omega), List.getElem?_eq_getElem (by omega)⟩
    obtain ⟨v, hv⟩ : ∃ v, (l.set 55 (ws 39))[16]? = some v := ⟨(l.set 55 (ws 39))[16]'(by simp; omega), List.getElem?_eq_getElem (by simp; omega)⟩
    refine ⟨(l.set 55 (ws 39)).set 16 (c + 2#64), ?_, by simp, fun i => ?_⟩
    · refine RunsL.store (right_of w0 w7 (by decide) (by decide) hc (.inl (by decide))) (.inr (.inl rfl)) rfl (j := 55) (x := ws 39) rfl hu rfl ?_
      show RunsL _ ⟨4, who, 0, s, c, 40, ws, false⟩ _ _ _
      refine RunsL.store (right_of w0 w7 (by decide) (by decide) hc (.inr (by decide))) (.inr (.inr rfl)) rfl (j := 16) (x := c + 2#64) rfl hv rfl ?_
      show RunsL _ ⟨5, who, 0, s, c, 40, ws, false⟩ _ _ _
      exact .done (by show (4 : Int) < 5; decide)
    · rw [List.getElem?_set, List.getElem?_set]
      by_cases h : i = 16
      · subst h; rw [if_pos rfl, if_pos (by simp; omega), if_pos rfl]
      · rw [if_neg (fun e => h e.symm), if_neg h]
        by_cases h2 : i = 55
        · subst h2; rw [if_pos rfl, if_pos (by omega), if_pos (by omega)]
        · rw [if_neg (fun e => h2 e.symm), if_neg (by omega)]
  | succ n ih =>
    intro j l hj h1 hl
    obtain ⟨u, hu⟩ : ∃ u, l[16 + j]? = some u := ⟨l[16 + j]'(by omega), List.getElem?_eq_getElem (by omega)⟩
    obtain ⟨l', hrun, hlen, hget⟩ := ih (j + 1) (l.set (16 + j) (ws j)) (by omega) (by omega) (by simp; omega)
    refine ⟨l', ?_, by rw [hlen, List.length_set], fun i => ?_⟩
    · rw [show n + 1 + 2 = (n + 2) + 1 by omega]
      refine RunsL.store (right_of w0 w7 (by decide) (by decide) hc (.inl (by omega))) (.inr (.inl rfl)) rfl (j := 16 + j) (x := ws j) ?_ hu ?_ ?_
      · show 16 + j = 16 + (j : Int).toNat; omega
      · show ws j = ws (j : Int).toNat; rw [Int.toNat_natCast]
      · have e : takeL ⟨3, who, 0, s, c, (j : Int), ws, false⟩ u = ⟨3, who, 0, s, c, ((j + 1 : Nat) : Int), ws, false⟩ := by
          unfold takeL
          dsimp only
          rw [if_neg (by decide), if_neg (by decide), if_neg (by decide), if_pos rfl, if_neg (by omega)]
          rfl
        rw [e]
        exact hrun
    · rw [hget i, List.getElem?_set]
      by_cases h : i = 16
      · rw [if_pos h, if_pos h]
      · rw [if_neg h, if_neg h]
        by_cases h2 : 16 + (j + 1) ≤ i ∧ i < 56
        · rw [if_pos h2, if_pos (by omega)]
        · rw [if_neg h2]
          by_cases h3 : 16 + j = i
          · subst h3
            rw [if_pos rfl, if_pos (by omega), if_pos (by omega), show 16 + j - 16 = j by omega]
          · rw [if_neg h3, if_neg (by omega)]
theorem rehash_odd {l : List (BitVec 64)} {t : Tab} {who : Int} {s : BitVec 64} (w0 : 0 ≤ who) (w7 : who < 8) (hl : l[16]? = some t.count) (hc : oddB t.count = true) : RunsL l (firstL who 0 s) 1 l ⟨6, who, 0, s, 0#64, 0, fun _ => 0#64, false⟩ := by
  refine RunsL.load (right_of w0 w7 (by decide) (by decide) (by decide) (.inr (by decide))) (.inl rfl) rfl (w := t.count) hl ?_
  have e : takeL (firstL who 0 s) t.count = ⟨6, who, 0, s, 0#64, 0, fun _ => 0#64, false⟩ := by
    unfold takeL
    rw [if_pos (show (firstL who 0 s).ph = 0 from rfl), if_pos hc]
    rfl
  show RunsL l (takeL (firstL who 0 s) t.count) _ _ _
  rw [e]
  exact .done (by show (4 : Int) < 6; decide)
theorem opened {l l' : List (BitVec 64)} {t : Tab} {who : Int} {s : BitVec 64} {k : Nat} {p' : LayT} (w0 : 0 ≤ who) (w7 : who < 8) (hl : ∀ i, i < 40 → l[16 + i]? = some (tword t i)) (hc : oddB t.count = false)
    (hk : RunsL (l.set 16 (t.count + 1#64)) (laidL ⟨2, who, 0, s, t.count, 40, tword t, false⟩) k l' p') : RunsL l (firstL who 0 s) (k + 41) l' p' := by
  have h16 : l[16]? = some t.count := hl 0 (by omega)
  refine RunsL.load (k := k + 40) (right_of w0 w7 (by decide) (by decide) (by decide) (.inr (by decide))) (.inl rfl) rfl (w := t.count) h16 ?_
  have e : takeL (firstL who 0 s) t.count = ⟨1, who, 0, s, t.count, 0, fun _ => 0#64, false⟩ := by
    unfold takeL
    rw [if_pos (show (firstL who 0 s).ph = 0 from rfl), if_neg (by rw [hc]; decide)]
    rfl
  show RunsL l (takeL (firstL who 0 s) t.count) _ _ _
  rw [e]
  refine RunsL.store (k := k + 39) (right_of w0 w7 (by decide) (by decide) hc (.inr (by decide))) (.inl rfl) rfl (j := 16) (x := t.count + 1#64) rfl h16 rfl ?_
  have e2 : takeL ⟨1, who, 0, s, t.count, 0, fun _ => 0#64, false⟩ t.count = ⟨2, who, 0, s, t.count, ((1 : Nat) : Int), readW t 1, false⟩ := by
    unfold takeL
    dsimp only
    rw [if_neg (by decide), if_pos rfl]
    have : readW t 1 = fun _ => 0#64 := by funext i; unfold readW; rw [if_neg (by omega)]
    rw [this]
    rfl
  rw [e2]
  have := read_run (l := l.set 16 (t.count + 1#64)) (t := t) (s := s) w0 w7 (fun i h1 h2 => by rw [List.getElem?_set, if_neg (by omega)]; exact hl i h2) hc hk 38 1 rfl (by omega)
  rw [show k + 39 = 38 + 1 + k by omega]
  exact this
theorem rehash_bad {l : List (BitVec 64)} {t : Tab} {who : Int} {s : BitVec 64} (w0 : 0 ≤ who) (w7 : who < 8) (hlen : 56 ≤ l.length) (hf : flatT t = true) (hn : NormT t) (hl : ∀ i, i < 40 → l[16 + i]? = some (tword t i)) (hc : oddB t.count = false) (hm : mayT t s = false) :
    RunsL l (firstL who 0 s) 42 (l.set 16 (t.count + 2#64)) ⟨5, who, 0, s, t.count, 40, tword t, true⟩ := by
  refine opened w0 w7 (k := 1) hl hc ?_
  have e : laidL ⟨2, who, 0, s, t.count, 40, tword t, false⟩ = ⟨4, who, 0, s, t.count, 40, tword t, true⟩ := by
    unfold laidL
    dsimp only
    rw [read_eq hf, normT_id hn, hm, Bool.and_false, if_neg (by decide)]
  rw [e]
  obtain ⟨v, hv⟩ : ∃ v, (l.set 16 (t.count + 1#64))[16]? = some v := ⟨(l.set 16 (t.count + 1#64))[16]'(by simp; omega), List.getElem?_eq_getElem (by simp; omega)⟩
  refine RunsL.store (right_of w0 w7 (by decide) (by decide) hc (.inr (by decide))) (.inr (.inr rfl)) rfl (j := 16) (x := t.count + 2#64) rfl hv rfl ?_
  rw [List.set_set]
  exact .done (by show (4 : Int) < 5; decide)
theorem rehash_good {l : List (BitVec 64)} {t x : Tab} {who : Int} {s : BitVec 64} (w0 : 0 ≤ who) (w7 : who < 8) (hlen : 56 ≤ l.length) (hf : flatT t = true) (hn : NormT t) (hl : ∀ i, i < 40 → l[16 + i]? = some (tword t i)) (hc : oddB t.count = false) (hm : mayT t s = true) (hx : anewT t s = .ok x) :
    RunsL l (firstL who 0 s) 81 (laidW l 16 { x with count := t.count + 2#64 }) ⟨5, who, 0, s, t.count, 40, tword x, false⟩ := by
  refine opened w0 w7 (k := 40) hl hc ?_
  have e : laidL ⟨2, who, 0, s, t.count, 40, tword t, false⟩ = ⟨3, who, 0, s, t.count, ((1 : Nat) : Int), tword x, false⟩ := by
    unfold laidL
    dsimp only
    rw [read_eq hf, normT_id hn, hm, Bool.and_true, read_ok hf, if_pos rfl, hx, okOr_ok]
    rfl
  rw [e]
  obtain ⟨l', hrun, hlen', hget⟩ := write_run (t := t) (s := s) (ws := tword x) w0 w7 hc 38 1 (l.set 16 (t.count + 1#64)) rfl (by omega) (by simp; omega)
  have e2 : laidW l 16 { x with count := t.count + 2#64 } = l' := by
    apply List.ext_getElem?
    intro i
    rw [laidW_get _ (by omega), hget, List.getElem?_set, tws_count]
    by_cases h : i = 16
    · subst h; rw [if_pos (by omega), if_pos (by omega), if_pos rfl]
    · rw [if_neg h]
      by_cases h2 : 16 + 1 ≤ i ∧ i < 56
      · rw [if_pos (by omega), if_neg (by omega), if_pos h2]
      · rw [if_neg (by omega), if_neg h2, if_neg (by omega)]
  rw [e2]
  exact hrun
end Go.Proofs.Hc
namespace Go.Proofs.Hc
open Go.RowKit
attribute [local go_sem] zbs zca zax zbc zbn zba zbm zbo zbu signed64 signed8 zar BitVec.ofInt_add BitVec.ofInt_mul ofInt_sub' zay zaz wide8 eqN neN zbz shr1 shr7 shr56
attribute [local go_sem high] zbb zbt
attribute [local go_sem] zag zbw zah zas zad zbe zaq zal zbl zan zbd zbf
attribute [local go_sem] load26 load73 load23 store26 build73
attribute [local go_sem ↓] lrow26 lrow73 lrow23 srow26 zero26 brow73 zac zaw zbg zaa zab
attribute [local go_sem] zai zav zat zbj zbk zbp zao zau zbq zbi zbh
attribute [local go_sem] nn2 nm2 nn3 nm3 nn4 nm4 nn5 nm5 nn6 nm6 nn7 nm7 nn8 nm8
section
attribute [local go_sem] loadA loadT2 storeA storeT2 zdj zdk zcj zdi zcd zce zct zcl zcy zco zcg zcz zcp zdh zdg
attribute [local go_sem ↓] lrowA lrowT2 srowA srowT2 browA zdf zcx
attribute [local go_sem] box26 zbx cell0 cell1 cell2 cell3 cell4 cell5 cell6
attribute [local go_sem] zar build_zero
attribute [local go_sem] loadP storeP allOne_pair
attribute [local go_sem ↓] lrowP srowP zeroP brow26
attribute [local go_sem high] zcb laidAt_p
attribute [local irreducible] tcells
theorem place_err_ne {t : Tab} {s k : BitVec 64} {c : Int} (hP : placeT t s k = .error c) : (c != 0) = true := by
  rcases place_cases t s k with ⟨_, h⟩ | ⟨_, _, h⟩ | ⟨_, _, h⟩ | ⟨_, _, sl, h⟩
  all_goals
    rw [hP] at h
    first | (cases h; done) | (cases h; decide)
theorem pair_ch (W : World) (a b x y : Value) : Ch [] W (World.onObj (W.alloc (.cells #[a, b] 31)) W.heap.size (laidAt 0 #[x, y])) := ((Ch.refl [] W).alloc _).onObj (.inr (Nat.le_refl _)) _
theorem tab_ch (W : World) (a b : Tab) : Ch [] W (World.onObj (W.alloc (.cells (tcells a) 26)) W.heap.size (laidAt 0 (tcells b))) := ((Ch.refl [] W).alloc _).onObj (.inr (Nat.le_refl _)) _
theorem rPuts_any (t : Tab) (s : BitVec 64) (l : List (BitVec 64 × BitVec 64)) (a : Option Addr) (c : Nat) (cur : Array Value) (w : World) (m0 : May t s) (hn : l.length ≤ 900)
    (hp : PairsAt cur l) (ha : 0 < l.length → ∃ r, a = some ⟨r, 0, none⟩) (hr : ∀ r, a = some ⟨r, 0, none⟩ → w.heap[r]? = some (.cells cur 31 (0, 0))) :
    Calls Tryz.prog 21 #[U s, .agg (tcells t), .slice a l.length c] w fun e w' => e = .returned (tupOr (fun v => .agg (tcells v)) (.agg (tcells zeroT)) (laidT s t l)) ∧ Ch [] w w' := by
  have HR := Lib.hid hr
  have HA := Lib.hid ha
  have HP := Lib.hid hp
  clear hr ha hp
  obtain ⟨W0, hW0⟩ : ∃ W0, (w.alloc (.cells (tcells t) 26)).alloc (.cells (tcells zeroT) 26) = W0 := ⟨_, rfl⟩
  have hC0 : Ch [] w W0 := by rw [← hW0]; exact ((Ch.refl [] w).alloc _).alloc _
  have b0 : W0.heap[w.heap.size]? = some (.cells (tcells t) 26 (0, 0)) := by rw [← hW0]; simp [go_sem]
  have b1 : W0.heap[w.heap.size + 1]? = some (.cells (tcells zeroT) 26 (0, 0)) := by rw [← hW0]; simp [go_sem]
  go_enter Tryz.func21, Tryz.ntmps21
  go_wp2
  clear hW0
  obtain ⟨B, hB⟩ : ∃ B, w.heap.size = B := ⟨_, rfl⟩
  rw [hB] at b0 b1 ⊢
  have HB := Lib.hid hB
  have HRB : Hid (∀ r, a = some ⟨r, 0, none⟩ → r < B) := Lib.hid fun r h => by have := (Array.getElem?_eq_some_iff.1 (HR.out r h)).1; omega
  clear hB
  go_loopw [15] (fun i wr => ∃ (m : Nat) (tm : Tab), i = .int .i64 m ∧ m ≤ l.length ∧ May tm s ∧ laidT s t l = laidT s tm (l.drop m) ∧ wr.heap[B]? = some (.cells (tcells tm) 26 (0, 0)) ∧ Ch [B] W0 wr) (fun i _ => l.length - (intOf i).toNat)
  case atStart => exact ⟨0, t, rfl, Nat.zero_le _, m0, by rw [List.drop_zero], b0, Ch.refl _ _⟩
  case round =>
    obtain ⟨m, tm, hm, hml, hmay, hlaid, hxm, hcm⟩ := hrel
    subst hm
    have HL := Lib.hid hlaid
    have HMAY := Lib.hid hmay
    clear hlaid hmay b0
    have e1 := hkeepS hcm (show B + 1 ∉ [B] by simp) b1
    clear b1
    rcases Nat.lt_or_ge m l.length with hlt | hge
    · obtain ⟨r, hra⟩ := HA.out (by omega)
      obtain ⟨p, hpm, hdrop⟩ := drop_one hlt
      have hrow := HP.out m p hpm
      have hrow' : rowAt (m * 2) 2 (.cells cur 31 (0, 0)) = some #[U p.1, U p.2] := by rw [Nat.mul_comm]; exact hrow
      subst hra
      have hrB := HRB.out r rfl
      have hrr : wr.heap[r]? = some (.cells cur 31 (0, 0)) := by
        have h1 := HR.out r rfl
        have h2 := hkeep hC0 h1
        exact hkeepS hcm (by simp; omega) h2
      have hdec : decide (m < l.length) = true := by simpa using hlt
      have hne : ¬ B = wr.heap.size := by have := (Array.getElem?_eq_some_iff.1 hxm).1; omega
      have hne2 : ¬ r = wr.heap.size := by have := (Array.getElem?_eq_some_iff.1 hrr).1; omega
      have HD := Lib.hid hdrop
      clear hdrop hpm
      go_wp2_with fail
      have q0 := hkeep (pair_ch wr (U 0#64) (U 0#64) (U p.1) (U p.2)) hxm
      have q1 := hkeep (pair_ch wr (U 0#64) (U 0#64) (U p.1) (U p.2)) e1
      have qC := hcm.pure (pair_ch wr (U 0#64) (U 0#64) (U p.1) (U p.2))
      clear hxm e1 hcm hrr
      generalize World.onObj (wr.alloc (.cells #[U 0#64, U 0#64] 31)) wr.heap.size (laidAt 0 #[U p.1, U p.2]) = W1 at *
      cases hP : placeT tm s p.1 with
      | error e0 =>
        have HPP := Lib.hid hP
        have he0 := place_err_ne hP
        refine (rPut_err tm s p.1 p.2 e0 HMAY.out hP W1).mono ?_
        clear hP
        rintro e w2 ⟨rfl, hc2⟩
        have d1 := hkeep hc2 q1
        have dC := qC.pure hc2
        clear q0 q1 qC hc2
        have hn1 : ¬ B + 1 = w2.heap.size := by have := (Array.getElem?_eq_some_iff.1 d1).1; omega
        go_wp2
        refine bodyPost_ret (v := .tuple #[.agg (tcells zeroT), I e0]) (results_c0t Tryz.results21 _ _ _ rfl rfl (run_loadVar_row _ _ 26 26 (tcells zeroT) (0, 0) _ ?_ Tryz.underlying26 rfl (by rw [zai]; kernel_rfl))) rfl ⟨by rw [HL.out, HD.out, laidT_err HPP.out]; rfl, ?_⟩
        · rw [zab, if_pos rfl, hkeep (tab_ch w2 zeroT zeroT) d1, Option.map_some, zcb]
        · exact (hC0.trans2 (dC.pure (tab_ch w2 zeroT zeroT)) (by rw [HB.out]; simp)).onObj (.inr (by rw [HB.out]; omega)) _
      | ok sl =>
        have HPP := Lib.hid hP
        have HM2 := Lib.hid (HMAY.out.fill p.2 (place_spot hP))
        refine (rPut_ok tm s p.1 p.2 sl HMAY.out hP W1).mono ?_
        clear hP
        rintro e w2 ⟨rfl, hc2⟩
        have d0 := hkeep hc2 q0
        have dC := qC.pure hc2
        clear q0 q1 qC hc2
        have HLK : Hid (laidT s t l = laidT s (fillT tm s p.1 p.2 sl) (l.drop (m + 1))) := Lib.hid (by rw [HL.out, HD.out, laidT_ok HPP.out])
        generalize fillT tm s p.1 p.2 sl = tf at *
        clear HPP
        have hn0 : ¬ B = w2.heap.size := by have := (Array.getElem?_eq_some_iff.1 d0).1; omega
        go_wp2
        go_roundw
        case rel =>
          refine ⟨m + 1, tf, by go_num, hlt, HM2.out, HLK.out, ?_, (dC.pure (tab_ch w2 zeroT tf)).onObj (.inl (by simp)) _⟩
          rw [zab, if_pos rfl, hkeep (tab_ch w2 zeroT tf) d0, Option.map_some, zcb]
        case measure => simp [intOf]; omega
    · have hme : m = l.length := Nat.le_antisymm hml hge
      have hdec : decide (m < l.length) = false := by simpa using hge
      have HM := Lib.hid hme
      clear hme hge
      go_wp2
      refine bodyPost_ret (v := .tuple #[.agg (tcells tm), I 0]) (results_c0t Tryz.results21 _ _ _ rfl rfl (run_loadVar_row _ _ 26 26 (tcells tm) (0, 0) _ ?_ Tryz.underlying26 rfl (by rw [zai]; kernel_rfl))) rfl ⟨?_, ?_⟩
      · rw [zab, if_pos rfl, e1, Option.map_some, zcb]
      · rw [HL.out, HM.out, List.drop_length, laidT_nil]; rfl
      · exact (hC0.trans2 hcm (by rw [HB.out]; simp)).onObj (.inr (by rw [HB.out]; omega)) _
end
end Go.Proofs.Hc
