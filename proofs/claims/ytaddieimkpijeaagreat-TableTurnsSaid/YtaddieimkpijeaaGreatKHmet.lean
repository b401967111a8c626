/- A map from words to numbers that the call makes: what it holds, as a function. -/
import Derived.Test.YtaddieimkpijeaaGreatKHmHtHu
import Derived.Maps.Views
set_option linter.unusedSimpArgs false
set_option linter.unusedVariables false
namespace Go.Proofs.Hc
open Go.RowKit

/-- Block bm is a map of at most n entries that holds f (0 where there is none). -/
def MetAt (w : World) (bm n : Nat) (f : BitVec 64 → Int) : Prop :=
  ∃ D : DataW Unit, w.ownsMap Tryz.prog 22 (plainElem Tryz.prog 3) bm n D ∧ ∀ k : BitVec 64, D.atKey (.int .u64 (N k)) (.lit (.int .i64 0)) = .lit (.int .i64 (f k))
theorem keyLaw : Go.Maps.Keyed Tryz.prog 22 := Go.Maps.int_keyed Tryz.underlying22
theorem wf_u64 (k : BitVec 64) : (Lit.int .u64 (N k)).wf = true := by
  have h := k.isLt
  have h2 : (IntKind.u64.max : Int) = 18446744073709551615 := by decide
  have h3 : (IntKind.u64.min : Int) = 0 := by decide
  simp [Lit.wf, N, h2, h3]; omega
theorem zeroInt (w : World) : (zeroValue 3).run Tryz.prog w = .ok (.int .i64 0) w := by kernel_rfl
theorem met_made (w : World) : MetAt (w.alloc (.map #[] 0)) w.heap.size 0 fun _ => 0 :=
  ⟨.map [], World.ownsMap_made _ _ _ _, fun _ => rfl⟩
theorem met_look {w : World} {bm n : Nat} {f : BitVec 64 → Int} (h : MetAt w bm n f) (k : BitVec 64) :
    (Instr.lookup 151 (.map (some bm)) (U k) false).run Tryz.prog w = .ok (I (f k)) w := by
  obtain ⟨D, ho, hf⟩ := h
  obtain ⟨c, hr, hc, _⟩ := ho.lookup_int keyLaw Tryz.underlying151 Tryz.underlying3 (zeroInt _) (Go.Maps.keyOf_int_mk Tryz.underlying22 (wf_u64 k))
  rw [hf k] at hc
  have : f k = c := by simpa using hc
  rw [this]; exact hr
theorem met_put {w : World} {bm n : Nat} {f : BitVec 64 → Int} (h : MetAt w bm n f) (hn : n < 1000) (k : BitVec 64) (x : Int) (hx : (Lit.int .i64 x).wf = true) :
    ∃ w', (Instr.mapUpdate 151 (.map (some bm)) (U k) (I x)).run Tryz.prog w = .ok () w' ∧ MetAt w' bm (n + 1) (fun j => if j = k then x else f j) ∧ Ch [bm] w w' ∧ w'.heap.size = w.heap.size := by
  obtain ⟨D, ho, hf⟩ := h
  have hm : Go.Maps.IsMap D := ⟨_, ho.choose_spec.choose_spec.2.2.2⟩
  obtain ⟨es, clock, hb, F, hs, hD⟩ := ho
  obtain ⟨es', clock', hrun, F', hput, _⟩ := Go.Maps.fit_store (R' := plainElem Tryz.prog 3) keyLaw Tryz.underlying151 hb F (Nat.lt_of_le_of_lt hs (by unfold maxLen; omega)) (fun _ _ _ _ hz => hz) (Go.Maps.keyOf_int_mk Tryz.underlying22 (wf_u64 k)) (plainElem_int (H := Unit) Tryz.underlying3 hx)
  obtain ⟨w', hr, ho', hg⟩ := World.ownsMap.update ⟨es, clock, hb, F, hs, hD⟩ keyLaw Tryz.underlying151 (by unfold maxLen; omega) (Go.Maps.keyOf_int_mk Tryz.underlying22 (wf_u64 k)) (plainElem_int (H := Unit) Tryz.underlying3 hx)
  refine ⟨w', hr, ⟨_, ho', fun j => ?_⟩, Ch.of_grown hg (fun b hb => by simpa using hb.symm), ?_⟩
  · show _ = DataW.lit (Lit.int .i64 (if j = k then x else f j))
    by_cases hj : j = k
    · subst hj
      rw [if_pos rfl]
      exact Go.Maps.atKey_put_same hm (Go.Maps.Keyed.key keyLaw (Go.Maps.keyOf_int_mk Tryz.underlying22 (wf_u64 j))) _ _
    · have hne : Lit.int .u64 (N j) ≠ Lit.int .u64 (N k) := fun e => hj ((N_inj _ _).1 (by simpa using e))
      rw [if_neg hj, Go.Maps.atKey_put_other hne]
      exact hf j
  · have h1 := hrun.symm.trans hr
    have h2 : w' = _ := (Result.ok.inj h1).2.symm
    rw [h2]; simp [Go.ChangeMaps.setBlock]
theorem met_ch {w w' : World} {bm n : Nat} {f : BitVec 64 → Int} {S : List Nat} (h : MetAt w bm n f) (c : Ch S w w') (hS : bm ∉ S) : MetAt w' bm n f := by
  obtain ⟨D, ⟨es, clock, hb, r⟩, hf⟩ := h
  exact ⟨D, ⟨es, clock, (c.block bm (Array.getElem?_eq_some_iff.1 hb).1 hS).trans hb, r⟩, hf⟩
end Go.Proofs.Hc
