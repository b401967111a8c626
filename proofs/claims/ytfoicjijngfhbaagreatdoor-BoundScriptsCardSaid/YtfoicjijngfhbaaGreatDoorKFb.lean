/- PURE: the reference's rising keys are the sorted ones; its deepest. -/
import Derived.Test.YtfoicjijngfhbaaGreatDoorKBo
import Derived.Test.YtfoicjijngfhbaaGreatDoorKDa
import Derived.Test.YtfoicjijngfhbaaGreatDoorKDn
import Derived.Test.YtfoicjijngfhbaaGreatDoorKEg
import Derived.Test.YtfoicjijngfhbaaGreatDoorKEk
import Derived.Test.YtfoicjijngfhbaaGreatDoorKHm
import Derived.Below
import Derived.BigQuiet
import Derived.Deep.Cut
import Derived.Deep.Draws
import Derived.Deep.OwnRows
import Derived.Deep.QuietTactic
import Derived.Deep.RegionHeld
import Derived.Laws.AppendOwn
import Derived.Laws.Bits64
import Derived.Laws.Bits64b
import Derived.Laws.CopyOwn
import Derived.Laws.CopyRow
import Derived.Laws.EntriesVeiled
import Derived.Laws.IdiomCopy
import Derived.Laws.Tables
import Derived.Lib.AppendZerosOnto
import Derived.Lib.BitFns
import Derived.Lib.Hide
import Derived.Lib.Slices
import Derived.Lib.Small
import Derived.Lib.Strings
import Derived.Lib.Tables
import Derived.Lib.Walk
import Derived.LoopIn
import Derived.LoopNIn
import Derived.Maps.RangeWalk
import Derived.Maps.Views
import Derived.OwnWalkIn
import Derived.RangeFuncCalls
import Derived.RangeFuncRecord
import Derived.RangeFuncSeq
import Derived.Recover
import Derived.Sort.AssemblyPlain
import Derived.Sort.Defs
import Derived.Sort.LotC
import Derived.Sort.LotD1
import Derived.Sort.LotD5
import Derived.Sort.LotD6
import Derived.Sort.Walk13a
import Derived.StillTail
import Derived.TacticsInMore
import Derived.Test.YtfoicjijngfhbaaGreatDoorProg
import Derived.WalkKit
import Derived.WalkLawsBesides
set_option linter.unusedSimpArgs false
set_option linter.unusedVariables false
namespace Go.Proofs.Hc
set_option linter.unusedVariables false
/-- Where a key belongs. -/
def posU (out : List (BitVec 64)) (x : BitVec 64) : Nat := (out.takeWhile fun y => ltW y x).length
def insP (out : List (BitVec 64)) (x : BitVec 64) : List (BitVec 64) := if out[posU out x]? = some x then out else out.take (posU out x) ++ x :: out.drop (posU out x)
theorem posU_le (out : List (BitVec 64)) (x : BitVec 64) : posU out x ≤ out.length := by
  unfold posU
  exact (List.takeWhile_sublist _).length_le
theorem take_pos (out : List (BitVec 64)) (x : BitVec 64) : out.take (posU out x) = out.takeWhile fun y => ltW y x := by
  unfold posU
  exact (List.prefix_iff_eq_take.1 (List.takeWhile_prefix _)).symm
theorem drop_pos (out : List (BitVec 64)) (x : BitVec 64) : out.drop (posU out x) = out.dropWhile fun y => ltW y x := by
  have h := List.takeWhile_append_dropWhile (p := fun y => ltW y x) (l := out)
  have h2 := List.take_append_drop (posU out x) out
  rw [take_pos] at h2
  exact List.append_cancel_left (h2.trans h.symm)
theorem pos_lt {out : List (BitVec 64)} {x : BitVec 64} {j : Nat} (h : j < posU out x) : ∃ y, out[j]? = some y ∧ ltW y x = true := by
  have hl := posU_le out x
  refine ⟨_, List.getElem?_eq_getElem (by omega), ?_⟩
  have h1 : out[j] ∈ out.take (posU out x) := by
    rw [List.mem_take_iff_getElem]
    exact ⟨j, by omega, rfl⟩
  rw [take_pos] at h1
  exact (List.all_eq_true.1 (List.all_takeWhile (p := fun y => ltW y x) (l := out))) _ h1
theorem pos_stop {out : List (BitVec 64)} {x : BitVec 64} (h : posU out x < out.length) : ∃ y, out[posU out x]? = some y ∧ ltW y x = false := by
  refine ⟨_, List.getElem?_eq_getElem h, ?_⟩
  have h1 := List.drop_eq_getElem_cons h
  rw [drop_pos] at h1
  have h2 := List.head?_dropWhile_not (fun y => ltW y x) out
  rw [h1] at h2
  simp only [List.head?_cons] at h2
  simpa using h2
theorem pos_is {out : List (BitVec 64)} {x : BitVec 64} {k : Nat} (hk : k ≤ out.length) (hl : ∀ j, j < k → ∃ y, out[j]? = some y ∧ ltW y x = true) (hs : k = out.length ∨ ∃ y, out[k]? = some y ∧ ltW y x = false) : posU out x = k := by
  rcases Nat.lt_trichotomy (posU out x) k with h | h | h
  · obtain ⟨y, h1, h2⟩ := pos_stop (show posU out x < out.length by omega)
    obtain ⟨y', h3, h4⟩ := hl _ h
    rw [h1] at h3
    obtain rfl := Option.some.inj h3
    rw [h2] at h4
    cases h4
  · exact h
  · rcases hs with rfl | ⟨y, h1, h2⟩
    · have := posU_le out x
      omega
    · obtain ⟨y', h3, h4⟩ := pos_lt h
      rw [h1] at h3
      obtain rfl := Option.some.inj h3
      rw [h2] at h4
      cases h4
/-- Rising. -/
def risesW (l : List (BitVec 64)) : Prop := l.Pairwise fun a b => ltW a b = true
theorem insP_rises {out : List (BitVec 64)} {x : BitVec 64} (h : risesW out) : risesW (insP out x) := by
  unfold insP
  split
  · exact h
  · next hne =>
    have hall : ∀ a ∈ out.take (posU out x), ltW a x = true := by
      rw [take_pos]
      exact fun a ha => (List.all_eq_true.1 (List.all_takeWhile (p := fun y => ltW y x) (l := out))) a ha
    have hsplit : risesW (out.take (posU out x) ++ out.drop (posU out x)) := by rw [List.take_append_drop]; exact h
    obtain ⟨s1, s2, s3⟩ := List.pairwise_append.1 hsplit
    have hge : ∀ b ∈ out.drop (posU out x), ltW x b = true := by
      intro b hb
      rcases Nat.lt_or_ge (posU out x) out.length with hlt | hge
      · obtain ⟨y, h1, h2⟩ := pos_stop hlt
        have hxy : ltW x y = true := by
          cases hc : ltW x y with
          | true => rfl
          | false =>
            have := ltW_eq x y hc h2
            exact absurd (by rw [h1, this]) hne
        have hd := List.drop_eq_getElem_cons hlt
        have hy : out[posU out x] = y := by
          rw [List.getElem?_eq_getElem hlt] at h1
          exact Option.some.inj h1
        rw [hd, hy] at hb s2
        rcases List.mem_cons.1 hb with rfl | hb
        · exact hxy
        · exact swoW.trans _ _ _ hxy ((List.pairwise_cons.1 s2).1 b hb)
      · rw [List.drop_eq_nil_of_le hge] at hb
        cases hb
    refine List.pairwise_append.2 ⟨s1, List.pairwise_cons.2 ⟨hge, s2⟩, ?_⟩
    intro a ha b hb
    rcases List.mem_cons.1 hb with rfl | hb
    · exact hall a ha
    · exact s3 a ha b hb
theorem insP_mem (out : List (BitVec 64)) (x k : BitVec 64) : k ∈ insP out x ↔ k = x ∨ k ∈ out := by
  unfold insP
  split
  · next h =>
    have := List.mem_of_getElem? h
    constructor
    · exact fun h => .inr h
    · rintro (rfl | h)
      · exact this
      · exact h
  · constructor
    · intro h
      rcases List.mem_append.1 h with h | h
      · exact .inr (List.mem_of_mem_take h)
      · rcases List.mem_cons.1 h with h | h
        · exact .inl h
        · exact .inr (List.mem_of_mem_drop h)
    · rintro (rfl | h)
      · simp
      · rw [← List.take_append_drop (posU out x) out] at h
        rcases List.mem_append.1 h with h | h
        · exact List.mem_append.2 (.inl h)
        · exact List.mem_append.2 (.inr (List.mem_cons.2 (.inr h)))
theorem insP_len (out : List (BitVec 64)) (x : BitVec 64) : (insP out x).length ≤ out.length + 1 := by
  unfold insP
  split
  · omega
  · rw [List.length_append, List.length_cons, List.length_take, List.length_drop]
    have := posU_le out x
    omega
/-- The reference's keys. -/
def stepR (out : List (BitVec 64)) (c : CallT) : List (BitVec 64) := if c.comes then insP out c.k else out
def comesR (l : List CallT) : List (BitVec 64) := l.foldl stepR []
theorem comesR_snoc (l : List CallT) (c : CallT) : comesR (l ++ [c]) = stepR (comesR l) c := by
  unfold comesR
  rw [List.foldl_append]
  rfl
theorem comesR_len (l : List CallT) : (comesR l).length ≤ l.length := by
  have key : ∀ (l : List CallT) (o : List (BitVec 64)), (l.foldl stepR o).length ≤ o.length + l.length := by
    intro l
    induction l with
    | nil => intro o; simp
    | cons c l ih =>
      intro o
      have h1 := ih (stepR o c)
      have h2 : (stepR o c).length ≤ o.length + 1 := by
        unfold stepR
        split
        · exact insP_len _ _
        · omega
      rw [List.foldl_cons, List.length_cons]
      omega
  have := key l []
  simpa [comesR] using this
theorem comesR_facts (l : List CallT) : risesW (comesR l) ∧ ∀ k, k ∈ comesR l ↔ cntL l k ≠ 0 := by
  have key : ∀ (l : List CallT) (o : List (BitVec 64)), risesW o → risesW (l.foldl stepR o) ∧ ∀ k, k ∈ l.foldl stepR o ↔ (k ∈ o ∨ k ∈ (l.filter CallT.comes).map CallT.k) := by
    intro l
    induction l with
    | nil => intro o h; exact ⟨h, fun k => by simp⟩
    | cons c l ih =>
      intro o h
      have h1 : risesW (stepR o c) := by
        unfold stepR
        split
        · exact insP_rises h
        · exact h
      obtain ⟨a, b⟩ := ih (stepR o c) h1
      refine ⟨a, fun k => ?_⟩
      rw [List.foldl_cons, b k]
      unfold stepR
      cases hc : c.comes with
      | true => simp [insP_mem, hc, or_assoc, or_left_comm]
      | false => simp [hc]
  obtain ⟨a, b⟩ := key l [] List.Pairwise.nil
  exact ⟨a, fun k => by rw [comesR, b k, cntL_ne]; simp⟩
theorem rises_nodup {l : List (BitVec 64)} (h : risesW l) : l.Nodup := by
  refine h.imp fun hab e => ?_
  rw [e, swoW.irrefl] at hab
  cases hab
theorem comesR_eq (l : List CallT) : comesR l = keysL l := by
  obtain ⟨h1, h2⟩ := comesR_facts l
  have hle : ∀ a b : BitVec 64, ltW a b = true → (!ltW b a) = true := fun a b h => by
    rw [show ltW b a = false from ltW_false.2 (by have := ltW_true.1 h; omega)]
    rfl
  have s1 : (comesR l).Pairwise fun a b => (!ltW b a) = true := h1.imp fun h => hle _ _ h
  have s2 : (keysL l).Pairwise fun a b => (!ltW b a) = true := sortW_sorted _
  refine List.Perm.eq_of_pairwise (le := fun a b => (!ltW b a) = true) ?_ s1 s2 ((List.perm_ext_iff_of_nodup (rises_nodup h1) (keys_nodup l)).2 fun k => by rw [h2 k, keys_mem])
  intro a b _ _ h1 h2
  simp only [Bool.not_eq_true'] at h1 h2
  exact ltW_eq a b h2 h1
end Go.Proofs.Hc
