/- Layer 20, in cells that hold a table: the whole run. Plain law, no program in sight. -/
import Derived.Test.YtcikopeddljgkaaGreatKHcb
import Derived.Test.YtcikopeddljgkaaGreatKSb
import Derived.Test.YtcikopeddljgkaaGreatKHdn
import Derived.Test.YtcikopeddljgkaaGreatKHma
import Derived.Test.YtcikopeddljgkaaGreatKHmet
import Derived.Test.YtcikopeddljgkaaGreatKHpa
import Derived.Test.YtcikopeddljgkaaGreatKHpb
import Derived.Test.YtcikopeddljgkaaGreatKHtr2
import Derived.Test.YtcikopeddljgkaaGreatKHtw
import Derived.Test.YtcikopeddljgkaaGreatKRb
import Derived.Test.YtcikopeddljgkaaGreatKRu
import Derived.Test.YtcikopeddljgkaaGreatKRv
import Derived.Below
import Derived.BigQuiet
import Derived.Deep.Draws
import Derived.Deep.Light
import Derived.Deep.OwnRows
import Derived.Deep.QuietTactic
import Derived.Deep.RegionHeld
import Derived.IntWalk
import Derived.Laws.CopyOwn
import Derived.Laws.CopyRow
import Derived.Laws.StructEq
import Derived.Laws.Tables
import Derived.Lib.AppendZerosOnto
import Derived.Lib.Hide
import Derived.Lib.Tables
import Derived.Lib.Walk
import Derived.LoopIn
import Derived.LoopN
import Derived.LoopNIn
import Derived.Maps.AppendAt
import Derived.Maps.Views
import Derived.OwnWalkIn
import Derived.RangeFuncBox
import Derived.RangeFuncCalls
import Derived.RangeFuncRecord
import Derived.RangeFuncSeq
import Derived.Recover
import Derived.RegionTactic
import Derived.ScopeJumps
import Derived.Shelf.Slices.Clone
import Derived.StillTail
import Derived.StillTailTactics
import Derived.TacticsInMore
import Derived.Test.YtcikopeddljgkaaGreatProg
import Derived.WalkKit
import Derived.WalkLawsBesides
import Derived.WalkMore
import Derived.WalkSpells
set_option linter.unusedSimpArgs false
set_option linter.unusedVariables false
namespace Go.Proofs.Hc
set_option linter.unusedVariables false
open Go.RowKit
/-- Nothing behind a table's slots. -/
structure NormT (t : Tab) : Prop where
  c : ∀ i, ¬ i < 2 → t.c i = 0#64
  k : ∀ i, ¬ i < 16 → t.k i = 0#64
  v : ∀ i, ¬ i < 16 → t.v i = 0#64
def normT (t : Tab) : Tab := { t with c := fun i => if i < 2 then t.c i else 0#64, k := fun i => if i < 16 then t.k i else 0#64, v := fun i => if i < 16 then t.v i else 0#64 }
theorem normT_norm (t : Tab) : NormT (normT t) := ⟨fun i h => if_neg h, fun i h => if_neg h, fun i h => if_neg h⟩
theorem cells_same {t t' : Tab} (h : ∀ i, i < 39 → t.cell i = t'.cell i) : tcells t = tcells t' := by
  apply Array.ext_getElem?; intro i
  rw [tcells_get, tcells_get]
  by_cases hi : i < 39
  · rw [if_pos hi, if_pos hi, h i hi]
  · rw [if_neg hi, if_neg hi]
theorem normT_cells (t : Tab) : tcells (normT t) = tcells t := by
  refine cells_same fun i hi => ?_
  match i, hi with
  | 0, _ => rfl
  | 1, _ => rfl
  | 2, _ => rfl
  | 3, _ => rfl
  | 4, _ => rfl
  | 5, _ => rfl
  | 6, _ => rfl
  | i + 7, hi =>
    show (if i < 16 then U ((normT t).k i) else U ((normT t).v (i - 16))) = if i < 16 then U (t.k i) else U (t.v (i - 16))
    by_cases h : i < 16
    · rw [if_pos h, if_pos h]
      show U (if i < 16 then t.k i else 0#64) = _
      rw [if_pos h]
    · rw [if_neg h, if_neg h]
      show U (if i - 16 < 16 then t.v (i - 16) else 0#64) = _
      rw [if_pos (by omega)]
theorem of_int_small (d : Int) (h0 : 0 ≤ d) (h1 : d ≤ 200) : (BitVec.ofInt 64 d).toNat = d.toNat := by
  rw [BitVec.toNat_ofInt]; omega
theorem pre_small {t : Tab} (hf : flatT t = true) : t.pre.toNat < 32 := by
  obtain ⟨h0, h5, hp, _⟩ := (flatT_iff t).1 hf
  have h : (t.pre >>> t.depth.toNat).toNat = 0 := by
    have : N (t.pre >>> t.depth.toNat) = ((t.pre >>> t.depth.toNat).toNat : Int) := rfl
    omega
  rw [BitVec.toNat_ushiftRight, Nat.shiftRight_eq_div_pow] at h
  have hd : t.depth.toNat ≤ 5 := by omega
  have h2 : t.pre.toNat < 2 ^ t.depth.toNat := by
    rcases Nat.lt_or_ge t.pre.toNat (2 ^ t.depth.toNat) with h1 | h1
    · exact h1
    · have := Nat.div_pos h1 (Nat.two_pow_pos _)
      omega
  exact Nat.lt_of_lt_of_le h2 (Nat.pow_le_pow_right (by omega) hd)
theorem wd1_depth {t : Tab} (hf : flatT t = true) : wd1 t &&& 255#64 = BitVec.ofInt 64 t.depth := by
  have hp := pre_small hf
  obtain ⟨h0, h5, _⟩ := (flatT_iff t).1 hf
  have hd : t.depth = 0 ∨ t.depth = 1 ∨ t.depth = 2 ∨ t.depth = 3 ∨ t.depth = 4 ∨ t.depth = 5 := by omega
  have hpp : t.pre = BitVec.ofNat 64 t.pre.toNat := by simp
  unfold wd1
  generalize t.pre.toNat = n at hp hpp
  rw [hpp]
  have : ∀ n : Nat, n < 32 → ∀ d : Nat, d < 6 → (BitVec.ofInt 64 (d : Int) ||| BitVec.ofNat 64 n * 256#64) &&& 255#64 = BitVec.ofInt 64 (d : Int) := by decide +kernel
  rcases hd with h | h | h | h | h | h <;> rw [h]
  · exact this n hp 0 (by omega)
  · exact this n hp 1 (by omega)
  · exact this n hp 2 (by omega)
  · exact this n hp 3 (by omega)
  · exact this n hp 4 (by omega)
  · exact this n hp 5 (by omega)
theorem wd1_pre {t : Tab} (hf : flatT t = true) : wd1 t >>> 8 = t.pre := by
  have hp := pre_small hf
  obtain ⟨h0, h5, _⟩ := (flatT_iff t).1 hf
  have hd : t.depth = 0 ∨ t.depth = 1 ∨ t.depth = 2 ∨ t.depth = 3 ∨ t.depth = 4 ∨ t.depth = 5 := by omega
  have hpp : t.pre = BitVec.ofNat 64 t.pre.toNat := by simp
  unfold wd1
  generalize t.pre.toNat = n at hp hpp
  rw [hpp]
  have : ∀ n : Nat, n < 32 → ∀ d : Nat, d < 6 → (BitVec.ofInt 64 (d : Int) ||| BitVec.ofNat 64 n * 256#64) >>> 8 = BitVec.ofNat 64 n := by decide +kernel
  rcases hd with h | h | h | h | h | h <;> rw [h]
  · exact this n hp 0 (by omega)
  · exact this n hp 1 (by omega)
  · exact this n hp 2 (by omega)
  · exact this n hp 3 (by omega)
  · exact this n hp 4 (by omega)
  · exact this n hp 5 (by omega)
/-- The words of a table are read as it. -/
theorem read_eq {t : Tab} (hf : flatT t = true) : readTab (tword t) = normT t := by
  obtain ⟨h0, h5, _, c0, c1, l0, l1⟩ := (flatT_iff t).1 hf
  have e1 : ((tword t 1 &&& 255#64).toNat : Int) = t.depth := by
    show ((wd1 t &&& 255#64).toNat : Int) = _
    rw [wd1_depth hf, of_int_small _ h0 (by omega)]; omega
  have e2 : tword t 1 >>> 8 = t.pre := wd1_pre hf
  have e3 : ((tword t 2).toNat : Int) = t.can := by
    show ((BitVec.ofInt 64 t.can).toNat : Int) = _
    rw [of_int_small _ c0 (by omega)]; omega
  have e4 : ((tword t 3).toNat : Int) = t.live := by
    show ((BitVec.ofInt 64 t.live).toNat : Int) = _
    rw [of_int_small _ l0 (by omega)]; omega
  have e5 : (fun g => if g < 2 then tword t (4 + g) else 0#64) = fun i => if i < 2 then t.c i else 0#64 := by
    funext g
    by_cases h : g < 2
    · rw [if_pos h, if_pos h, tw_c t g h]
    · rw [if_neg h, if_neg h]
  have e6 : (fun j => if j < 16 then tword t (6 + j) else 0#64) = fun i => if i < 16 then t.k i else 0#64 := by
    funext g
    by_cases h : g < 16
    · rw [if_pos h, if_pos h, tw_k t g h]
    · rw [if_neg h, if_neg h]
  have e7 : (fun j => if j < 16 then tword t (22 + j) else 0#64) = fun i => if i < 16 then t.v i else 0#64 := by
    funext g
    by_cases h : g < 16
    · rw [if_pos h, if_pos h, tw_v t g h]
    · rw [if_neg h, if_neg h]
  unfold readTab normT
  rw [e1, e2, e3, e4, e5, e6, e7]
  rfl
theorem normT_id {t : Tab} (h : NormT t) : normT t = t := by
  obtain ⟨cn, d, p, cc, li, c, k, v⟩ := t
  unfold normT
  dsimp only
  congr 1
  · funext i
    by_cases hi : i < 2
    · rw [if_pos hi]
    · rw [if_neg hi]; exact (h.c i hi).symm
  · funext i
    by_cases hi : i < 16
    · rw [if_pos hi]
    · rw [if_neg hi]; exact (h.k i hi).symm
  · funext i
    by_cases hi : i < 16
    · rw [if_pos hi]
    · rw [if_neg hi]; exact (h.v i hi).symm
theorem normT_flat (t : Tab) : flatT (normT t) = flatT t := rfl
theorem read_ok {t : Tab} (hf : flatT t = true) : readOk (tword t) = true := by
  obtain ⟨h0, h5, _, c0, c1, l0, l1⟩ := (flatT_iff t).1 hf
  unfold readOk
  rw [read_eq hf, normT_flat, hf]
  have e3 : (tword t 2).toNat = t.can.toNat := of_int_small _ c0 (by omega)
  have e4 : (tword t 3).toNat = t.live.toNat := of_int_small _ l0 (by omega)
  have e5 : tword t 38 = 0#64 := rfl
  have e6 : tword t 39 = 0#64 := rfl
  rw [e3, e4, e5, e6]
  simp
  omega
/-- What is laid anew is flat. -/
theorem anewT_flat {t x : Tab} {s : BitVec 64} (hm : mayT t s = true) (hx : anewT t s = .ok x) : flatT x = true := by
  obtain ⟨y, hy⟩ := anew_ok ((may_iff t s).1 hm)
  have h2 : anewT t s = .ok y := by unfold anewT; exact hy.eq
  rw [hx] at h2
  cases h2
  exact hy.may.flat
section
variable {l : List (BitVec 64)} {p : LayT}
theorem RunsL.load (hr : rightL p = true) (h : p.ph = 0 ∨ p.ph = 2) (hs : p.sl = 0) {w : BitVec 64} {k : Nat} {l' : List (BitVec 64)} {p' : LayT} (hw : l[16 + (if p.ph = 2 then p.at_.toNat else 0)]? = some w) (hk : RunsL l (takeL p w) k l' p') : RunsL l p (k + 1) l' p' := by
  have R := (rightL_iff p).1 hr
  refine .step (a := ⟨1, 16 + 40 * p.sl + (if p.ph = 2 ∨ p.ph = 3 then p.at_ else 0), 0#64⟩) (y := (l, w)) (by omega) hr ?_ ?_ hk
  · unfold needL
    rw [if_pos (by simp [hr]; omega), if_pos h]
    rw [if_neg (show ¬ p.ph = 1 by omega), if_neg (show ¬ p.ph = 3 by omega), if_neg (show ¬ p.ph = 4 by omega)]
  · unfold doP
    dsimp only
    have e : (16 + 40 * p.sl + (if p.ph = 2 ∨ p.ph = 3 then p.at_ else 0)).toNat = 16 + (if p.ph = 2 then p.at_.toNat else 0) := by
      have ha := R.at_
      rw [hs]
      by_cases h2 : p.ph = 2
      · rw [if_pos (.inl h2), if_pos h2]; omega
      · rw [if_neg (by omega), if_neg h2]; omega
    rw [e, hw]
    rfl
theorem RunsL.store (hr : rightL p = true) (h : p.ph = 1 ∨ p.ph = 3 ∨ p.ph = 4) (hs : p.sl = 0) {k : Nat} {l' : List (BitVec 64)} {p' : LayT} {j : Nat} (hj : j = 16 + (if p.ph = 3 then p.at_.toNat else 0)) {u x : BitVec 64} (hw : l[j]? = some u)
    (hx : x = if p.ph = 1 then p.count + 1#64 else if p.ph = 3 then p.ws p.at_.toNat else p.count + 2#64) (hk : RunsL (l.set j x) (takeL p u) k l' p') : RunsL l p (k + 1) l' p' := by
  have R := (rightL_iff p).1 hr
  have ha := R.at_
  have e : (16 + 40 * p.sl + (if p.ph = 2 ∨ p.ph = 3 then p.at_ else 0)).toNat = j := by
    rw [hs, hj]
    by_cases h2 : p.ph = 3
    · rw [if_pos (.inr h2), if_pos h2]; omega
    · rw [if_neg (by omega), if_neg h2]; omega
  refine .step (a := ⟨2, 16 + 40 * p.sl + (if p.ph = 2 ∨ p.ph = 3 then p.at_ else 0), x⟩) (y := (l.set j x, u)) (by omega) hr ?_ ?_ hk
  · unfold needL
    rw [if_pos (by simp [hr]; omega), if_neg (show ¬ (p.ph = 0 ∨ p.ph = 2) by omega), hx]
    by_cases h1 : p.ph = 1
    · rw [if_pos h1, if_pos h1]
    · rw [if_neg h1, if_neg h1]
      by_cases h3 : p.ph = 3
      · rw [if_pos h3, if_pos h3]
      · rw [if_neg h3, if_neg h3, if_pos (show p.ph = 4 by omega)]
  · unfold doP
    dsimp only
    rw [e, hw]
    rfl
end
theorem right_of {ph at_ : Int} {s c : BitVec 64} {ws : Nat → BitVec 64} {b : Bool} {who : Int} (w0 : 0 ≤ who) (w7 : who < 8) (h0 : 0 ≤ ph) (h6 : ph ≤ 6) (hc : oddB c = false) (ha : 1 ≤ at_ ∧ at_ < 40 ∨ ph ≠ 2 ∧ ph ≠ 3) : rightL ⟨ph, who, 0, s, c, at_, ws, b⟩ = true :=
  (rightL_iff _).2 ⟨h0, h6, w0, w7, (by decide : (0 : Int) ≤ 0), (by decide : (0 : Int) < 128), hc, ha⟩
/-- The words that were read ahead of the j-th one. -/
def readW (t : Tab) (j : Nat) : Nat → BitVec 64 := fun i => if 1 ≤ i ∧ i < j then tword t i else 0#64
theorem readW_upd (t : Tab) (j : Nat) (h : 1 ≤ j) : updW (readW t j) j (tword t j) = readW t (j + 1) := by
  funext i
  unfold updW readW
  by_cases e : i = j
  · subst e; rw [if_pos rfl, if_pos (by omega)]
  · rw [if_neg e]
    by_cases h2 : 1 ≤ i ∧ i < j
    · rw [if_pos h2, if_pos (by omega)]
    · rw [if_neg h2, if_neg (by omega)]
theorem readW_all (t : Tab) : updW (readW t 40) 0 t.count = tword t := by
  funext i
  unfold updW readW
  by_cases e : i = 0
  · subst e; rfl
  · rw [if_neg e]
    by_cases h2 : 1 ≤ i ∧ i < 40
    · rw [if_pos h2]
    · rw [if_neg h2]
      unfold tword
      rw [if_neg e, if_neg (by omega), if_neg (by omega), if_neg (by omega), if_neg (by omega), if_neg (by omega), if_neg (by omega)]
theorem takeL_read {p : LayT} {t : Tab} (h : p.ph = 2) (hw : p.ws = readW t p.at_.toNat) (h1 : 1 ≤ p.at_) (h2 : p.at_ < 39) : takeL p (tword t p.at_.toNat) = { p with ws := readW t (p.at_.toNat + 1), at_ := p.at_ + 1 } := by
  unfold takeL
  rw [if_neg (by omega), if_neg (by omega), if_pos h, if_neg (by omega), hw, readW_upd t _ (by omega)]
theorem takeL_readall {p : LayT} {t : Tab} (h : p.ph = 2) (hw : p.ws = readW t 39) (h1 : p.at_ = 39) (hc : p.count = t.count) : takeL p (tword t 39) = laidL { p with ws := tword t, at_ := 40 } := by
  unfold takeL
  rw [if_neg (by omega), if_neg (by omega), if_pos h, if_pos h1, hw, hc, readW_upd t 39 (by omega), readW_all]
/-- Reading. -/
theorem read_run {l l' : List (BitVec 64)} {t : Tab} {who : Int} {s : BitVec 64} {k : Nat} {p' : LayT} (w0 : 0 ≤ who) (w7 : who < 8) (hl : ∀ i, 1 ≤ i → i < 40 → l[16 + i]? = some (tword t i)) (hc : oddB t.count = false)
    (hk : RunsL l (laidL ⟨2, who, 0, s, t.count, 40, tword t, false⟩) k l' p') : ∀ (n j : Nat), n + j = 39 → 1 ≤ j → RunsL l ⟨2, who, 0, s, t.count, (j : Int), readW t j, false⟩ (n + 1 + k) l' p' := by
  intro n
  induction n with
  | zero =>
    intro j hj h1
    have hj39 : j = 39 := by omega
    subst hj39
    rw [show 0 + 1 + k = k + 1 by omega]
    refine RunsL.load (right_of w0 w7 (by decide) (by decide) hc (.inl (by decide))) (.inr rfl) rfl (w := tword t 39) (hl 39 (by omega) (by omega)) ?_
    rw [takeL_readall (t := t) rfl rfl rfl rfl]
    exact hk
  | succ n ih =>
    intro j hj h1
    rw [show n + 1 + 1 + k = (n + 1 + k) + 1 by omega]
    refine RunsL.load (right_of w0 w7 (by decide) (by decide) hc (.inl (by omega))) (.inr rfl) rfl (w := tword t j) (hl j (by omega) (by omega)) ?_
    have := takeL_read (p := ⟨2, who, 0, s, t.count, (j : Int), readW t j, false⟩) (t := t) rfl rfl (by show (1 : Int) ≤ j; omega) (by show (j : Int) < 39; omega)
    simp only [Int.toNat_natCast] at this
    rw [this]
    exact ih (j + 1) (by omega) (by omega)
/-- Writing, and closing. -/
theorem write_run {t : Tab} {who : Int} {s c : BitVec 64} {ws : Nat → BitVec 64} (w0 : 0 ≤ who) (w7 : who < 8) (hc : oddB c = false) : ∀ (n j : Nat) (l : List (BitVec 64)), n + j = 39 → 1 ≤ j → 56 ≤ l.length →
    ∃ l', RunsL l ⟨3, who, 0, s, c, (j : Int), ws, false⟩ (n + 2) l' ⟨5, who, 0, s, c, 40, ws, false⟩ ∧ l'.length = l.length ∧ ∀ i, l'[i]? = if i = 16 then some (c + 2#64) else if 16 + j ≤ i ∧ i < 56 then some (ws (i - 16)) else l[i]? := by
  intro n
  induction n with
  | zero =>
    intro j l hj h1 hl
    have hj39 : j = 39 := by omega
    subst hj39
    obtain ⟨u, hu⟩ : ∃ u, l[55]? = some u := ⟨l[55]'(by omega), List.getElem?_eq_getElem (by omega)⟩
    obtain ⟨v, hv⟩ : ∃ v, (l.set 55 (ws 39))[16]? = some v := ⟨(l.set 55 (ws 39))[16]'(by simp; omega), List.getElem?_eq_getElem (by simp; omega)⟩
    refine ⟨(l.set 55 (ws 39)).set 16 (c + 2#64), ?_, by simp, fun i => ?_⟩
    · refine RunsL.store (right_of w0 w7 (by decide) (by decide) hc (.inl (by decide))) (.inr (.inl rfl)) rfl (j := 55) (x := ws 39) rfl hu rfl ?_
      show RunsL _ ⟨4, who, 0, s, c, 40, ws, false⟩ _ _ _
      refine RunsL.store (right_of w0 w7 (by decide) (by decide) hc (.inr (by decide))) (.inr (.inr rfl)) rfl (j := 16) (x := c + 2#64) rfl hv rfl ?_
      show RunsL _ ⟨5, who, 0, s, c, 40, ws, false⟩ _ _ _
      exact .done (by show (4 : Int) < 5; decide)
    · rw [List.getElem?_set, List.getElem?_set]
      by_cases h : i = 16
      · subst h; rw [if_pos rfl, if_pos (by simp; omega), if_pos rfl]
      · rw [if_neg (fun e => h e.symm), if_neg h]
        by_cases h2 : i = 55
        · subst h2; rw [if_pos rfl, if_pos (by omega), if_pos (by omega)]
        · rw [if_neg (fun e => h2 e.symm), if_neg (by omega)]
  | succ n ih =>
    intro j l hj h1 hl
    obtain ⟨u, hu⟩ : ∃ u, l[16 + j]? = some u := ⟨l[16 + j]'(by omega), List.getElem?_eq_getElem (by omega)⟩
    obtain ⟨l', hrun, hlen, hget⟩ := ih (j + 1) (l.set (16 + j) (ws j)) (by omega) (by omega) (by simp; omega)
    refine ⟨l', ?_, by rw [hlen, List.length_set], fun i => ?_⟩
    · rw [show n + 1 + 2 = (n + 2) + 1 by omega]
      refine RunsL.store (right_of w0 w7 (by decide) (by decide) hc (.inl (by omega))) (.inr (.inl rfl)) rfl (j := 16 + j) (x := ws j) ?_ hu ?_ ?_
      · show 16 + j = 16 + (j : Int).toNat; omega
      · show ws j = ws (j : Int).toNat; rw [Int.toNat_natCast]
      · have e : takeL ⟨3, who, 0, s, c, (j : Int), ws, false⟩ u = ⟨3, who, 0, s, c, ((j + 1 : Nat) : Int), ws, false⟩ := by
          unfold takeL
          dsimp only
          rw [if_neg (by decide), if_neg (by decide), if_neg (by decide), if_pos rfl, if_neg (by omega)]
          rfl
        rw [e]
        exact hrun
    · rw [hget i, List.getElem?_set]
      by_cases h : i = 16
      · rw [if_pos h, if_pos h]
      · rw [if_neg h, if_neg h]
        by_cases h2 : 16 + (j + 1) ≤ i ∧ i < 56
        · rw [if_pos h2, if_pos (by omega)]
        · rw [if_neg h2]
          by_cases h3 : 16 + j = i
          · subst h3
            rw [if_pos rfl, if_pos (by omega), if_pos (by omega), show 16 + j - 16 = j by omega]
          · rw [if_neg h3, if_neg (by omega)]
/-- Who lays a table anew in cells that hold one. -/
theorem rehash_odd {l : List (BitVec 64)} {t : Tab} {who : Int} {s : BitVec 64} (w0 : 0 ≤ who) (w7 : who < 8) (hl : l[16]? = some t.count) (hc : oddB t.count = true) : RunsL l (firstL who 0 s) 1 l ⟨6, who, 0, s, 0#64, 0, fun _ => 0#64, false⟩ := by
  refine RunsL.load (right_of w0 w7 (by decide) (by decide) (by decide) (.inr (by decide))) (.inl rfl) rfl (w := t.count) hl ?_
  have e : takeL (firstL who 0 s) t.count = ⟨6, who, 0, s, 0#64, 0, fun _ => 0#64, false⟩ := by
    unfold takeL
    rw [if_pos (show (firstL who 0 s).ph = 0 from rfl), if_pos hc]
    rfl
  show RunsL l (takeL (firstL who 0 s) t.count) _ _ _
  rw [e]
  exact .done (by show (4 : Int) < 6; decide)
theorem opened {l l' : List (BitVec 64)} {t : Tab} {who : Int} {s : BitVec 64} {k : Nat} {p' : LayT} (w0 : 0 ≤ who) (w7 : who < 8) (hl : ∀ i, i < 40 → l[16 + i]? = some (tword t i)) (hc : oddB t.count = false)
    (hk : RunsL (l.set 16 (t.count + 1#64)) (laidL ⟨2, who, 0, s, t.count, 40, tword t, false⟩) k l' p') : RunsL l (firstL who 0 s) (k + 41) l' p' := by
  have h16 : l[16]? = some t.count := hl 0 (by omega)
  refine RunsL.load (k := k + 40) (right_of w0 w7 (by decide) (by decide) (by decide) (.inr (by decide))) (.inl rfl) rfl (w := t.count) h16 ?_
  have e : takeL (firstL who 0 s) t.count = ⟨1, who, 0, s, t.count, 0, fun _ => 0#64, false⟩ := by
    unfold takeL
    rw [if_pos (show (firstL who 0 s).ph = 0 from rfl), if_neg (by rw [hc]; decide)]
    rfl
  show RunsL l (takeL (firstL who 0 s) t.count) _ _ _
  rw [e]
  refine RunsL.store (k := k + 39) (right_of w0 w7 (by decide) (by decide) hc (.inr (by decide))) (.inl rfl) rfl (j := 16) (x := t.count + 1#64) rfl h16 rfl ?_
  have e2 : takeL ⟨1, who, 0, s, t.count, 0, fun _ => 0#64, false⟩ t.count = ⟨2, who, 0, s, t.count, ((1 : Nat) : Int), readW t 1, false⟩ := by
    unfold takeL
    dsimp only
    rw [if_neg (by decide), if_pos rfl]
    have : readW t 1 = fun _ => 0#64 := by funext i; unfold readW; rw [if_neg (by omega)]
    rw [this]
    rfl
  rw [e2]
  have := read_run (l := l.set 16 (t.count + 1#64)) (t := t) (s := s) w0 w7 (fun i h1 h2 => by rw [List.getElem?_set, if_neg (by omega)]; exact hl i h2) hc hk 38 1 rfl (by omega)
  rw [show k + 39 = 38 + 1 + k by omega]
  exact this
theorem rehash_bad {l : List (BitVec 64)} {t : Tab} {who : Int} {s : BitVec 64} (w0 : 0 ≤ who) (w7 : who < 8) (hlen : 56 ≤ l.length) (hf : flatT t = true) (hn : NormT t) (hl : ∀ i, i < 40 → l[16 + i]? = some (tword t i)) (hc : oddB t.count = false) (hm : mayT t s = false) :
    RunsL l (firstL who 0 s) 42 (l.set 16 (t.count + 2#64)) ⟨5, who, 0, s, t.count, 40, tword t, true⟩ := by
  refine opened w0 w7 (k := 1) hl hc ?_
  have e : laidL ⟨2, who, 0, s, t.count, 40, tword t, false⟩ = ⟨4, who, 0, s, t.count, 40, tword t, true⟩ := by
    unfold laidL
    dsimp only
    rw [read_eq hf, normT_id hn, hm, Bool.and_false, if_neg (by decide)]
  rw [e]
  obtain ⟨v, hv⟩ : ∃ v, (l.set 16 (t.count + 1#64))[16]? = some v := ⟨(l.set 16 (t.count + 1#64))[16]'(by simp; omega), List.getElem?_eq_getElem (by simp; omega)⟩
  refine RunsL.store (right_of w0 w7 (by decide) (by decide) hc (.inr (by decide))) (.inr (.inr rfl)) rfl (j := 16) (x := t.count + 2#64) rfl hv rfl ?_
  rw [List.set_set]
  exact .done (by show (4 : Int) < 5; decide)
theorem rehash_good {l : List (BitVec 64)} {t x : Tab} {who : Int} {s : BitVec 64} (w0 : 0 ≤ who) (w7 : who < 8) (hlen : 56 ≤ l.length) (hf : flatT t = true) (hn : NormT t) (hl : ∀ i, i < 40 → l[16 + i]? = some (tword t i)) (hc : oddB t.count = false) (hm : mayT t s = true) (hx : anewT t s = .ok x) :
    RunsL l (firstL who 0 s) 81 (laidW l 16 { x with count := t.count + 2#64 }) ⟨5, who, 0, s, t.count, 40, tword x, false⟩ := by
  refine opened w0 w7 (k := 40) hl hc ?_
  have e : laidL ⟨2, who, 0, s, t.count, 40, tword t, false⟩ = ⟨3, who, 0, s, t.count, ((1 : Nat) : Int), tword x, false⟩ := by
    unfold laidL
    dsimp only
    rw [read_eq hf, normT_id hn, hm, Bool.and_true, read_ok hf, if_pos rfl, hx, okOr_ok]
    rfl
  rw [e]
  obtain ⟨l', hrun, hlen', hget⟩ := write_run (t := t) (s := s) (ws := tword x) w0 w7 hc 38 1 (l.set 16 (t.count + 1#64)) rfl (by omega) (by simp; omega)
  have e2 : laidW l 16 { x with count := t.count + 2#64 } = l' := by
    apply List.ext_getElem?
    intro i
    rw [laidW_get _ (by omega), hget, List.getElem?_set, tws_count]
    by_cases h : i = 16
    · subst h; rw [if_pos (by omega), if_pos (by omega), if_pos rfl]
    · rw [if_neg h]
      by_cases h2 : 16 + 1 ≤ i ∧ i < 56
      · rw [if_pos (by omega), if_neg (by omega), if_pos h2]
      · rw [if_neg (by omega), if_neg h2, if_neg (by omega)]
  rw [e2]
  exact hrun
end Go.Proofs.Hc
