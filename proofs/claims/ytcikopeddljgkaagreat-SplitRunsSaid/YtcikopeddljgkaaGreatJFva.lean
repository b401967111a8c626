/- SplitRuns returns true for every row of words, every one who splits, every three slabs and every seed, and every beginning of a split, and its arguments read behind the call as they read before. Conditions: none. -/
import Derived.Test.YtcikopeddljgkaaGreatJFvb
import Derived.Test.YtcikopeddljgkaaGreatJWo0
set_option linter.unusedSimpArgs false
set_option linter.unusedVariables false
set_option maxRecDepth 100000
namespace Go.Proofs.YtcikopeddljgkaaGreat
open Go.ChangeShapes Go.WideShapes Go.ChangeAt Go.RowKit Go.Proofs.Hc
theorem runs22w_laidOut : laidOutB Tryz.prog = true := by kernel_rfl
theorem runs22w_own : ownKnob Tryz.prog.godebug = none := by kernel_rfl
theorem runs22w_lifted (os : Os) (started : os.Started) (H : Type) (enc : TypeId × Value → H) :
    ReturnsInHanded {} Tryz.checked os 4 .any (Rows.splitRunsSpec.pre6 enc Tryz.prog Tryz.f4 Rows.splitRunsRow.domain false) (Rows.splitRunsSpec.post enc Tryz.prog Tryz.f4 false true false false) := by
  refine returnsInHanded_of_change (C := Tryz.checked) runs22w_own started (by kernel_rfl) Tryz.func4
    (ChangeSpec.witness6 (enc := enc) (C := Tryz.checked) false ⟨#[], #[.slice none 0 0, .agg #[.int .i64 0, .int .i64 0, .int .i64 0, .int .i64 0, .int .u64 0], .agg (partC zeroPart)], []⟩ 8 (by kernel_rfl) (by kernel_rfl) (by kernel_rfl) (by kernel_rfl)) ?_
  intro W base args ds gs before hval0 hW hcnd _
  have hval : ∀ (j : Nat) t v, Tryz.f4.params[j]? = some t → args[j]? = some v → Value.okWide Tryz.prog W .any base t v := hval0
  have hW' := hW
  obtain ⟨p, q, hA0, hV, rfl, hfz, hnd⟩ := hW
  have hA : DataW.TrodAll enc Tryz.prog W 0 (fun _ => true) true Tryz.f4.params.toList args.toList ds p := hA0
  rw [Tryz.params4] at hA hval
  obtain ⟨v0, vs0, d0, ds0, p0, q0, hargs, rfl, rfl, h0, r0⟩ := trodAll_cons hA
  obtain ⟨v1, vs1, d1, ds1, p1, q1, rfl, rfl, rfl, h1, r1⟩ := trodAll_cons r0
  obtain ⟨v2, vs2, d2, ds2, p2, q2, rfl, rfl, rfl, h2, r2⟩ := trodAll_cons r1
  obtain ⟨rfl, rfl, rfl⟩ := trodAll_nil r2
  obtain rfl : args = #[v0, v1, v2] := by cases args; simp_all
  obtain ⟨rfl, rfl⟩ := trodVars_none hV
  have lt0 : ∀ x ∈ p0, x.block < W.heap.size := by obtain ⟨m, hm⟩ := h0; exact DataW.trod_lt m _ _ _ hm
  have lt1 : ∀ x ∈ p1, x.block < W.heap.size := by obtain ⟨m, hm⟩ := h1; exact DataW.trod_lt m _ _ _ hm
  have lt2 : ∀ x ∈ p2, x.block < W.heap.size := by obtain ⟨m, hm⟩ := h2; exact DataW.trod_lt m _ _ _ hm
  obtain ⟨ka, kl, kc, ks, rfl, hkc, hkc2, hkn, hk⟩ := open_words (hval 0 44 v0 rfl rfl) h0
  obtain ⟨wh, sl, sa, sb, sd, rfl⟩ := open_by (hval 1 47 v1 rfl rfl) h1
  obtain ⟨l, rfl⟩ := open_part (hval 2 51 v2 rfl rfl) h2
  clear hA0 hval0
  refine (runsLaw22 ka kl kc ks wh sl sa sb sd l W hkc hkc2 hkn hk).mono fun e W' ⟨he, hc⟩ => ?_
  subst he
  have bel := hc.below_nil
  exact ⟨_, rfl, _, _, _, [], _, [], hW', trodAll_mk1 (shut_bool Tryz.underlying4 _), (trodAll_cons_mk (Below.trod runs22w_laidOut (by kernel_rfl) (of_decide_eq_true (by kernel_rfl)) h0 bel lt0) (trodAll_cons_mk (Below.trod runs22w_laidOut (by kernel_rfl) (of_decide_eq_true (by kernel_rfl)) h1 bel lt1) (trodAll_cons_mk (Below.trod runs22w_laidOut (by kernel_rfl) (of_decide_eq_true (by kernel_rfl)) h2 bel lt2) trodAll_mk0))), rfl, bel.frame _, fun h => by cases h⟩
theorem runs22w_over : Rows.splitRunsRow.holds Tryz.pinned (OpenSpec.ofChange Rows.splitRunsSpec) :=
  OpenClaim.holds_of_wide 4 Tryz.f4 rfl rfl rfl rfl rfl rfl rfl ⟨rfl, rfl, rfl, rfl, rfl⟩ rfl rfl rfl rfl rfl runs22w_named Tryz.func4 runs22w_closed runs22w_inst runs22w_wrap
    (fun os started H enc _ => runs22w_lifted os started H enc)
theorem runs22_holds : Rows.SplitRunsSaid := runs22w_over
#print axioms runs22_holds
end Go.Proofs.YtcikopeddljgkaaGreat
