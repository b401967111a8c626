/- A map from words to numbers that counts. -/
import Derived.Test.YtfoicjijngfhbaaDoorKBlBm
import Derived.Maps.Views
import Derived.Maps.RangeWalk
set_option linter.unusedSimpArgs false
set_option linter.unusedVariables false
namespace Go.Proofs.Hc
open Go.RowKit
set_option linter.unusedVariables false
noncomputable abbrev mapR : Value → Option (DataW Unit × List MemPlace) := plainElem Tryd.prog 3
theorem keyLawB : Go.Maps.Keyed Tryd.prog 32 := Go.Maps.int_keyed Tryd.underlying32
theorem wf_u64B (k : BitVec 64) : (Lit.int .u64 (N k)).wf = true := by
  have h := k.isLt
  have h2 : (IntKind.u64.max : Int) = 18446744073709551615 := by decide
  have h3 : (IntKind.u64.min : Int) = 0 := by decide
  simp [Lit.wf, N, h2, h3]; omega
theorem zeroIntB (w : World) : (zeroValue 3).run Tryd.prog w = .ok (.int .i64 0) w := by kernel_rfl
/-- The datum D counts f: it has the keys at which f is not nought. -/
def Counts (D : DataW Unit) (f : BitVec 64 → Int) : Prop := ∀ k : BitVec 64, D.atKey (.int .u64 (N k)) (.lit (.int .i64 0)) = .lit (.int .i64 (f k)) ∧ Maps.has D (.int .u64 (N k)) = decide (f k ≠ 0)
/-- Block bm is a map of at most n entries that counts f. -/
def CntAt (w : World) (bm n : Nat) (f : BitVec 64 → Int) : Prop := ∃ D : DataW Unit, w.ownsMap Tryd.prog 32 mapR bm n D ∧ Counts D f
theorem cnt_made (w : World) : CntAt (w.alloc (.map #[] 0)) w.heap.size 0 fun _ => 0 := ⟨.map [], World.ownsMap_made _ _ _ _, fun _ => ⟨rfl, rfl⟩⟩
theorem cnt_look {w : World} {bm n : Nat} {f : BitVec 64 → Int} (h : CntAt w bm n f) (k : BitVec 64) :
    (Instr.lookup 62 (.map (some bm)) (U k) false).run Tryd.prog w = .ok (I (f k)) w := by
  obtain ⟨D, ho, hf⟩ := h
  obtain ⟨c, hr, hc, _⟩ := ho.lookup_int keyLawB Tryd.underlying62 Tryd.underlying3 (zeroIntB _) (Go.Maps.keyOf_int_mk Tryd.underlying32 (wf_u64B k))
  rw [(hf k).1] at hc
  have : f k = c := by simpa using hc
  rw [this]; exact hr
theorem cnt_put {w : World} {bm n : Nat} {f : BitVec 64 → Int} (h : CntAt w bm n f) (hn : n < 1000000) (k : BitVec 64) (x : Int) (h0 : x ≠ 0) (hx : (Lit.int .i64 x).wf = true) :
    ∃ w', (Instr.mapUpdate 62 (.map (some bm)) (U k) (I x)).run Tryd.prog w = .ok () w' ∧ CntAt w' bm (n + 1) (fun j => if j = k then x else f j) ∧ Ch [bm] w w' ∧ w'.heap.size = w.heap.size := by
  obtain ⟨D, ho, hf⟩ := h
  have hm : Go.Maps.IsMap D := ⟨_, ho.choose_spec.choose_spec.2.2.2⟩
  obtain ⟨es, clock, hb, F, hs, hD⟩ := ho
  obtain ⟨es', clock', hrun, F', hput, _⟩ := Go.Maps.fit_store (R' := mapR) keyLawB Tryd.underlying62 hb F (Nat.lt_of_le_of_lt hs (by unfold maxLen; omega)) (fun _ _ _ _ hz => hz) (Go.Maps.keyOf_int_mk Tryd.underlying32 (wf_u64B k)) (plainElem_int (H := Unit) Tryd.underlying3 hx)
  obtain ⟨w', hr, ho', hg⟩ := World.ownsMap.update ⟨es, clock, hb, F, hs, hD⟩ keyLawB Tryd.underlying62 (by unfold maxLen; omega) (Go.Maps.keyOf_int_mk Tryd.underlying32 (wf_u64B k)) (plainElem_int (H := Unit) Tryd.underlying3 hx)
  refine ⟨w', hr, ⟨_, ho', fun j => ⟨?_, ?_⟩⟩, Ch.of_grown hg (fun b hb => by simpa using hb.symm), ?_⟩
  · show _ = DataW.lit (Lit.int .i64 (if j = k then x else f j))
    by_cases hj : j = k
    · subst hj
      rw [if_pos rfl]
      exact Go.Maps.atKey_put_same hm (Go.Maps.Keyed.key keyLawB (Go.Maps.keyOf_int_mk Tryd.underlying32 (wf_u64B j))) _ _
    · have hne : Lit.int .u64 (N j) ≠ Lit.int .u64 (N k) := fun e => hj ((N_inj _ _).1 (by simpa using e))
      rw [if_neg hj, Go.Maps.atKey_put_other hne]
      exact (hf j).1
  · show _ = decide ((if j = k then x else f j) ≠ 0)
    by_cases hj : j = k
    · subst hj
      rw [if_pos rfl, Go.Maps.has_put_same hm (Go.Maps.Keyed.key keyLawB (Go.Maps.keyOf_int_mk Tryd.underlying32 (wf_u64B j)))]
      exact (decide_eq_true h0).symm
    · have hne : Lit.int .u64 (N j) ≠ Lit.int .u64 (N k) := fun e => hj ((N_inj _ _).1 (by simpa using e))
      rw [if_neg hj, Go.Maps.has_put_other hne]
      exact (hf j).2
  · have h1 := hrun.symm.trans hr
    have h2 : w' = _ := (Result.ok.inj h1).2.symm
    rw [h2]; simp [Go.ChangeMaps.setBlock]
theorem cnt_ch {w w' : World} {bm n : Nat} {f : BitVec 64 → Int} {S : List Nat} (h : CntAt w bm n f) (c : Ch S w w') (hS : bm ∉ S) : CntAt w' bm n f := by
  obtain ⟨D, ⟨es, clock, hb, r⟩, hf⟩ := h
  exact ⟨D, ⟨es, clock, (c.block bm (Array.getElem?_eq_some_iff.1 hb).1 hS).trans hb, r⟩, hf⟩
theorem cnt_lt {w : World} {bm n : Nat} {f : BitVec 64 → Int} (h : CntAt w bm n f) : bm < w.heap.size := by
  obtain ⟨D, ⟨es, clock, hb, r⟩, hf⟩ := h
  exact (Array.getElem?_eq_some_iff.1 hb).1
theorem cnt_mono {w : World} {bm n m : Nat} {f : BitVec 64 → Int} (h : CntAt w bm n f) (hm : n ≤ m) : CntAt w bm m f := by
  obtain ⟨D, ⟨es, clock, hb, F, hs, hD⟩, hf⟩ := h
  exact ⟨D, ⟨es, clock, hb, F, Nat.le_trans hs hm, hD⟩, hf⟩
/-- A row of four cells. -/
theorem row4_of {w : World} {b o : Nat} {v0 v1 v2 v3 : Value} (h0 : w.cell? ⟨b, o, none⟩ = some v0) (h1 : w.cell? ⟨b, o + 1, none⟩ = some v1) (h2 : w.cell? ⟨b, o + 2, none⟩ = some v2) (h3 : w.cell? ⟨b, o + 3, none⟩ = some v3) :
    (w.heap[b]?).bind (rowAt o 4) = some #[v0, v1, v2, v3] := by
  unfold World.cell? at h0 h1 h2 h3
  cases hb : w.heap[b]? with
  | none => rw [hb] at h0; cases h0
  | some ob =>
    rw [hb] at h0 h1 h2 h3
    cases ob with
    | cells c t fr =>
      simp at h0 h1 h2 h3
      have hs : o + 3 < c.size := (Array.getElem?_eq_some_iff.1 h3).1
      rw [Option.bind_some, rowAt_cells, if_pos (by omega)]
      congr 1
      apply Array.ext_getElem?
      intro i
      rw [Array.getElem?_extract]
      match i with
      | 0 => rw [if_pos (by omega)]; simpa using h0
      | 1 => rw [if_pos (by omega)]; simpa using h1
      | 2 => rw [if_pos (by omega)]; simpa using h2
      | 3 => rw [if_pos (by omega)]; simpa using h3
      | k + 4 => rw [if_neg (by omega)]; rfl
    | _ => simp at h0
theorem row_in {w : World} {b o : Nat} {l : List CallT} (h : RowIn w b o l) {i : Nat} {c : CallT} (hi : l[i]? = some c) : (w.heap[b]?).bind (rowAt (o + i * 4) 4) = some #[I c.op, U c.k, U c.x, U c.y] := by
  have g : ∀ j u, (CallT.cells c)[j]? = some u → (crow l)[i * 4 + j]? = some u := fun j u hj => by
    obtain ⟨hlt, he⟩ := List.getElem?_eq_some_iff.1 hi
    have hcr : crow l = crow (l.take i) ++ (CallT.cells c ++ crow (l.drop (i + 1))) := by
      have : l = l.take i ++ (c :: l.drop (i + 1)) := by rw [← he, ← List.drop_eq_getElem_cons hlt, List.take_append_drop]
      conv => lhs; rw [this]
      rw [crow_append]
      rfl
    have hlen : (crow (l.take i)).length = i * 4 := by rw [crow_len, List.length_take, Nat.min_eq_left (by omega)]
    have hj4 : j < (CallT.cells c).length := (List.getElem?_eq_some_iff.1 hj).1
    rw [hcr, List.getElem?_append_right (by omega), hlen, Nat.add_sub_cancel_left, List.getElem?_append_left hj4]
    exact hj
  have r : ∀ j u, (CallT.cells c)[j]? = some u → w.cell? ⟨b, o + i * 4 + j, none⟩ = some u := fun j u hj => by
    have := h _ _ (g j u hj)
    rw [← Nat.add_assoc] at this
    exact this
  exact row4_of (r 0 _ rfl) (r 1 _ rfl) (r 2 _ rfl) (r 3 _ rfl)
end Go.Proofs.Hc
