/- Law 29: a script that came in, opened, with its picks. -/
import Derived.Test.YtfoicjijngfhbaaGreatDoorKBk
import Derived.Test.YtfoicjijngfhbaaGreatDoorKDa
import Derived.Test.YtfoicjijngfhbaaGreatDoorKFm
import Derived.Test.YtfoicjijngfhbaaGreatDoorKEf
import Derived.Test.YtfoicjijngfhbaaGreatDoorKEk
import Derived.Test.YtfoicjijngfhbaaGreatDoorKFe
import Derived.Test.YtfoicjijngfhbaaGreatDoorKFf
import Derived.Test.YtfoicjijngfhbaaGreatDoorKFi
import Derived.Test.YtfoicjijngfhbaaGreatDoorKHm
import Derived.Below
import Derived.BigQuiet
import Derived.Deep.Cut
import Derived.Deep.CutRange
import Derived.Deep.Draws
import Derived.Deep.OwnRows
import Derived.Deep.QuietTactic
import Derived.Deep.RegionHeld
import Derived.Deep.Slices
import Derived.Laws.AppendOwn
import Derived.Laws.Bits64
import Derived.Laws.Bits64b
import Derived.Laws.CopyOwn
import Derived.Laws.CopyRow
import Derived.Laws.EntriesVeiled
import Derived.Laws.IdiomCopy
import Derived.Laws.Tables
import Derived.Lib.AppendZerosOnto
import Derived.Lib.BitFns
import Derived.Lib.Hide
import Derived.Lib.Slices
import Derived.Lib.Small
import Derived.Lib.Strings
import Derived.Lib.Tables
import Derived.Lib.Walk
import Derived.LoopIn
import Derived.LoopNIn
import Derived.Maps.RangeWalk
import Derived.Maps.Views
import Derived.OpenShut
import Derived.OwnWalkIn
import Derived.ProofKit
import Derived.RangeFuncCalls
import Derived.RangeFuncRecord
import Derived.RangeFuncSeq
import Derived.Recover
import Derived.ScopeJumps
import Derived.Sort.AssemblyPlain
import Derived.Sort.Defs
import Derived.Sort.LotC
import Derived.Sort.LotD1
import Derived.Sort.LotD5
import Derived.Sort.LotD6
import Derived.Sort.Walk13a
import Derived.StillTail
import Derived.TacticsInMore
import Derived.Test.YtfoicjijngfhbaaGreatDoorProg
import Derived.WalkKit
import Derived.WalkLawsBesides
set_option linter.unusedSimpArgs false
set_option linter.unusedVariables false
namespace Go.Proofs.Hc
open Go.ChangeShapes Go.WideShapes Go.ChangeAt Go.RowKit
set_option linter.unusedVariables false
section
variable {H : Type} {enc : TypeId × Value → H} {w : World} {base : Nat} {spare : Nat → Bool} {held : Bool}
theorem listC_open {fuel : Nat} {v : Value} {x : DataW H × List MemPlace} (h : DataW.trod enc Tryz.prog w 0 (fun _ => true) held fuel 45 [v] = some x) : ∃ s : ListT, v = s.val ∧ RowAt w s.a s.l ∧ s.l.length ≤ s.c ∧ (s.a = none → s.c = 0) ∧ s.c ≤ 9223372036854775807 := by
  rcases Go.Deep.open_slice Tryz.underlying45 h with ⟨hcs, _⟩ | ⟨a, len, cap, m, n, D, Pl, hcs, _, hl, hm, hmm, rfl, hel⟩
  · obtain rfl : v = .slice none 0 0 := by simpa using hcs
    exact ⟨⟨none, 0, []⟩, rfl, .inl rfl, Nat.zero_le _, fun _ => rfl, by decide⟩
  · obtain rfl : v = .slice (some a) len cap := by simpa using hcs
    simp only [if_true] at hmm
    subst hmm
    unfold maxLen at hm
    rcases Nat.eq_zero_or_pos len with h0 | hpos
    · subst h0
      exact ⟨⟨some a, m, []⟩, rfl, .inl rfl, Nat.zero_le _, (fun h => by cases h), hm⟩
    · have hall : ∀ j, j < len → ∃ c : CallT, ∀ t, t < 4 → w.cell? ((a.add (j * 4)).add t) = (CallT.cells c)[t]? := by
        intro j hj
        obtain ⟨cs', h1, h2⟩ := hel j (by omega)
        obtain ⟨c, rfl⟩ := callB_open h2
        rw [cellsB_call] at h1
        exact ⟨c, (World.cells?_some h1).2.2⟩
      obtain ⟨f, hf⟩ := Go.Deep.choose_lt hall
      obtain ⟨b, off, spot⟩ := a
      obtain rfl : spot = none := by
        have e0 := hf 0 hpos 0 (by omega)
        have := World.cell?_spot (e0.trans (show (CallT.cells (f 0))[0]? = some (I (f 0).op) from rfl))
        simpa [Addr.add] using this
      refine ⟨⟨some ⟨b, off, none⟩, m, (List.range len).map f⟩, ?_, .inr ⟨b, off, rfl, fun j u hj => ?_⟩, ?_, (fun h => by cases h), hm⟩
      · show _ = Value.slice _ ((List.range len).map f).length m
        simp
      · obtain ⟨c, h1, h2⟩ := crow_at _ j u hj
        rw [List.getElem?_map] at h1
        obtain ⟨q, hq, rfl⟩ := Option.map_eq_some_iff.1 h1
        obtain ⟨hq1, hq2⟩ := List.getElem?_eq_some_iff.1 hq
        simp at hq1 hq2
        subst hq2
        have h3 := hf (j / 4) (by omega) (j % 4) (Nat.mod_lt _ (by omega))
        have ha : ((⟨b, off, none⟩ : Addr).add (j / 4 * 4)).add (j % 4) = ⟨b, off + j, none⟩ := by
          have e : off + j / 4 * 4 + j % 4 = off + j := by omega
          unfold Addr.add
          split <;> split <;> simp_all
        rw [ha, h2] at h3
        exact h3
      · simpa using hl
theorem listsC_open {fuel : Nat} {a : Option Addr} {n c : Nat} {x : DataW H × List MemPlace} (h : DataW.trod enc Tryz.prog w 0 (fun _ => true) held fuel 23 [.slice a n c] = some x) (hs : ∀ b, a = some b → b.spot = none) :
    ∃ (la : Option (Nat × Nat)) (ls : List ListT), a = adr la ∧ n = ls.length ∧ ((la = none ∧ ls = []) ∨ ∃ L o, la = some (L, o) ∧ ListsAt w L o ls) ∧ (∀ x ∈ ls, x.l.length ≤ x.c ∧ (x.a = none → x.c = 0)) ∧ ls.length ≤ 9223372036854775807 ∧ ∀ x ∈ ls, x.c ≤ 9223372036854775807 := by
  rcases Go.Deep.open_slice Tryz.underlying23 h with ⟨hcs, _⟩ | ⟨b, len, cap, m, n', D, Pl, hcs, _, hl, hm, hmm, rfl, hel⟩
  · simp at hcs
    obtain ⟨rfl, rfl, rfl⟩ := hcs
    exact ⟨none, [], rfl, rfl, .inl ⟨rfl, rfl⟩, (fun x hx => by cases hx), by decide, (fun x hx => by cases hx)⟩
  · simp at hcs
    obtain ⟨rfl, rfl, rfl⟩ := hcs
    simp only [if_true] at hmm
    subst hmm
    unfold maxLen at hm
    have hsp := hs b rfl
    obtain ⟨L, o, spot⟩ := b
    dsimp only at hsp
    subst hsp
    have hall : ∀ j, j < n → ∃ s : ListT, w.cell? ⟨L, o + j, none⟩ = some s.val ∧ RowAt w s.a s.l ∧ s.l.length ≤ s.c ∧ (s.a = none → s.c = 0) ∧ s.c ≤ 9223372036854775807 := by
      intro j hj
      obtain ⟨cs', h1, h2⟩ := hel j (by omega)
      rw [cellsB_list] at h1
      obtain ⟨_, hlen, h3⟩ := World.cells?_some h1
      match cs', hlen with
      | [v], _ =>
        obtain ⟨s, rfl, hr, hsz⟩ := listC_open h2
        refine ⟨s, ?_, hr, hsz⟩
        have e0 := h3 0 (by omega)
        have ha : ((⟨L, o, none⟩ : Addr).add (j * 1)).add 0 = ⟨L, o + j, none⟩ := by
          unfold Addr.add
          split <;> split <;> simp_all
        rw [ha] at e0
        simpa using e0
    obtain ⟨f, hf⟩ := Go.Deep.choose_lt hall
    refine ⟨some (L, o), (List.range n).map f, rfl, by simp, .inr ⟨L, o, rfl, fun i s hi => ?_⟩, fun x hx => ?_, by simp; omega, fun x hx => ?_⟩
    · rw [List.getElem?_map] at hi
      obtain ⟨q, hq, rfl⟩ := Option.map_eq_some_iff.1 hi
      obtain ⟨hq1, hq2⟩ := List.getElem?_eq_some_iff.1 hq
      simp at hq1 hq2
      subst hq2
      exact ⟨(hf i hq1).1, (hf i hq1).2.1⟩
    · obtain ⟨i, hi, rfl⟩ := List.mem_map.1 hx
      exact ⟨(hf i (by simpa using hi)).2.2.1, (hf i (by simpa using hi)).2.2.2.1⟩
    · obtain ⟨i, hi, rfl⟩ := List.mem_map.1 hx
      exact (hf i (by simpa using hi)).2.2.2.2
/-- The picks. -/
theorem words_open {fuel : Nat} {a : Option Addr} {n c : Nat} {x : DataW H × List MemPlace} (h : DataW.trod enc Tryz.prog w 0 (fun _ => true) held fuel 24 [.slice a n c] = some x) :
    ∃ ps : List (BitVec 64), KW w a ps ∧ ps.length = n ∧ n ≤ c ∧ (a = none → c = 0) ∧ c ≤ 9223372036854775807 := by
  rcases Go.Deep.open_slice1 Tryz.underlying24 cellsB_u64 h with ⟨hcs, _⟩ | ⟨b, len, cap, m, n', V, D, Pl, hcs, _, hl, hm, hmm, rfl, hel⟩
  · simp at hcs
    obtain ⟨rfl, rfl, rfl⟩ := hcs
    exact ⟨[], .inl rfl, rfl, Nat.le_refl _, fun _ => rfl, by decide⟩
  · simp at hcs
    obtain ⟨rfl, rfl, rfl⟩ := hcs
    simp only [if_true] at hmm
    subst hmm
    unfold maxLen at hm
    rcases Nat.eq_zero_or_pos n with h0 | hpos
    · subst h0
      exact ⟨[], .inl rfl, rfl, hl, (fun h => by cases h), hm⟩
    · have hall : ∀ j, j < n → ∃ u : BitVec 64, w.cell? (b.add j) = some (U u) := by
        intro j hj
        obtain ⟨h1, h2⟩ := hel j (by omega)
        obtain ⟨k, hk, _, hw⟩ := DataW.trod_int Tryz.underlying22 h2
        have hv : V j = .int .u64 k := by simpa using hk
        exact ⟨BitVec.ofInt 64 k, by rw [UB_of hw, ← hv]; exact h1⟩
      obtain ⟨f, hf⟩ := Go.Deep.choose_lt hall
      obtain ⟨q, off, spot⟩ := b
      obtain rfl : spot = none := by
        have := World.cell?_spot (hf 0 hpos)
        simpa [Addr.add] using this
      refine ⟨(List.range n).map f, .inr ⟨q, off, rfl, fun j u hj => ?_⟩, by simp, hl, (fun h => by cases h), hm⟩
      rw [List.getElem?_map] at hj
      obtain ⟨i, hi, rfl⟩ := Option.map_eq_some_iff.1 hj
      obtain ⟨hi1, hi2⟩ := List.getElem?_eq_some_iff.1 hi
      simp at hi1 hi2
      subst hi2
      have h3 := hf j hi1
      have ha : (⟨q, off, none⟩ : Addr).add j = ⟨q, off + j, none⟩ := by
        unfold Addr.add
        split <;> simp_all
      rw [ha] at h3
      exact h3
set_option maxRecDepth 100000 in
/-- A script that came in. -/
theorem open_scriptC {r : Reach} {b0 : Nat} {v : Value} {d : DataW H} {p : List MemPlace} (hv : Value.okWide Tryz.prog w r b0 26 v) (h : DataW.Trod enc Tryz.prog w 0 (fun _ => true) held 26 v d p) :
    ∃ (s : ScT) (ps : List (BitVec 64)), v = .agg (scC s) ∧ InSc w s ps := by
  simp only [Value.okWide, scriptB_under] at hv
  obtain ⟨cs, rfl, hsz, ts, hts, _, hok⟩ := hv
  obtain rfl := Option.some.inj (scriptB_cells.symm.trans hts)
  obtain ⟨fuel, hf⟩ := h
  have hf' : DataW.trod enc Tryz.prog w 0 (fun _ => true) held fuel 26 cs.toList = some (d, p) := hf
  obtain ⟨xs, n, _, hx0, hlen, hxl, hx⟩ := DataW.trod_struct scriptB_under hf'
  have rd := fieldB_at (n := n) (cs := cs.toList) scriptB_fields hxl hx
  have hlen := hlen.trans cellsB_script
  obtain ⟨y0, _, e0⟩ := rd 0 _ _ rfl
  obtain ⟨m0, h0, w0⟩ := rdB_int Tryz.underlying3 cellsB_int e0
  obtain ⟨y1, _, e1⟩ := rd 1 _ _ rfl
  obtain ⟨m1, h1, w1⟩ := rdB_int Tryz.underlying3 cellsB_int e1
  obtain ⟨y2, _, e2⟩ := rd 2 _ _ rfl
  obtain ⟨m2, h2, w2⟩ := rdB_int Tryz.underlying22 cellsB_u64 e2
  obtain ⟨y3, hy3, e3⟩ := rd 3 _ _ rfl
  obtain ⟨y4, _, e4⟩ := rd 4 _ _ rfl
  rw [cellsB_lists] at e3
  rw [cellsB_words] at e4
  obtain ⟨v3, hv3⟩ : ∃ v, (cs.toList.drop 3).take 1 = [v] := by
    match hc : cs.toList, hlen with
    | [_, _, _, v, _], _ => exact ⟨v, rfl⟩
  obtain ⟨v4, hv4⟩ : ∃ v, (cs.toList.drop 4).take 1 = [v] := by
    match hc : cs.toList, hlen with
    | [_, _, _, _, v], _ => exact ⟨v, rfl⟩
  have g3 := one_cellB hv3
  have g4 := one_cellB hv4
  rw [hv3] at e3
  rw [hv4] at e4
  obtain ⟨a3, n3, c3, rfl⟩ : ∃ a n c, v3 = .slice a n c := by
    rcases Go.Deep.open_slice Tryz.underlying23 e3 with ⟨hcs, _⟩ | ⟨b, len, cap, m, n', D, Pl, hcs, _⟩
    · exact ⟨_, _, _, by simpa using hcs⟩
    · exact ⟨_, _, _, by simpa using hcs⟩
  obtain ⟨a4, n4, c4, rfl⟩ : ∃ a n c, v4 = .slice a n c := by
    rcases Go.Deep.open_slice Tryz.underlying24 e4 with ⟨hcs, _⟩ | ⟨b, len, cap, m, n', D, Pl, hcs, _⟩
    · exact ⟨_, _, _, by simpa using hcs⟩
    · exact ⟨_, _, _, by simpa using hcs⟩
  have hsp : ∀ b, a3 = some b → b.spot = none := by
    intro b hb
    subst hb
    obtain ⟨u, hu, hok3⟩ := hok 3 _ (by rw [← Array.getElem?_toList]; exact g3)
    obtain rfl : 23 = u := by simpa using hu
    simp only [Cell.okWide, Cell.ok, Tryz.underlying23] at hok3
    exact hok3.2.2.2.1
  obtain ⟨la, ls, rfl, rfl, hls, hcaps, hm1, hm2⟩ := listsC_open e3 hsp
  obtain ⟨ps, hps, hpl, hpc, hpn, hpm⟩ := words_open e4
  refine ⟨⟨m0, m1, BitVec.ofInt 64 m2, la, c3, ls, a4, n4, c4⟩, ps, ?_, ⟨hls, hcaps, ⟨hm1, hm2⟩, hps, hpl, hpc, hpn, hpm⟩⟩
  refine congrArg Value.agg (Array.ext' ?_)
  unfold scC
  rw [UB_of w2]
  apply List.ext_getElem?
  intro i
  match i with
  | 0 => rw [h0]; rfl
  | 1 => rw [h1]; rfl
  | 2 => rw [h2]; rfl
  | 3 => rw [g3]; rfl
  | 4 => rw [g4]; rfl
  | k + 5 => rw [List.getElem?_eq_none (by omega), List.getElem?_eq_none (by simp)]
end
end Go.Proofs.Hc
