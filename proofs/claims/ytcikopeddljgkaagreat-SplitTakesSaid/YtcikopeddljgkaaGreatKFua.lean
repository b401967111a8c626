/- SplitTakes returns true for every one who splits a table, every row of what accesses came to and every row of words, and its arguments read behind the call as they read before. Conditions: none. -/
import Derived.Test.YtcikopeddljgkaaGreatKFub
import Derived.Test.YtcikopeddljgkaaGreatKWm
set_option linter.unusedSimpArgs false
set_option linter.unusedVariables false
set_option maxRecDepth 100000
namespace Go.Proofs.YtcikopeddljgkaaGreat
open Go.ChangeShapes Go.WideShapes Go.ChangeAt Go.RowKit Go.Proofs.Hc
theorem takes22_laidOut : laidOutB Tryz.prog = true := by kernel_rfl
theorem takes22_own : ownKnob Tryz.prog.godebug = none := by kernel_rfl
theorem takes22_lifted (os : Os) (started : os.Started) (H : Type) (enc : TypeId × Value → H) :
    ReturnsInHanded {} Tryz.checked os 8 .any (Rows.splitTakesSpec.pre6 enc Tryz.prog Tryz.f8 Rows.splitTakesRow.domain false) (Rows.splitTakesSpec.post enc Tryz.prog Tryz.f8 false true false false) := by
  refine returnsInHanded_of_change (C := Tryz.checked) takes22_own started (by kernel_rfl) Tryz.func8
    (ChangeSpec.witness6 (enc := enc) (C := Tryz.checked) false ⟨#[], #[.agg (partC zeroPart), .slice none 0 0, .slice none 0 0], []⟩ 8 (by kernel_rfl) (by kernel_rfl) (by kernel_rfl) (by kernel_rfl)) ?_
  intro W base args ds gs before hval0 hW hcnd _
  have hval : ∀ (j : Nat) t v, Tryz.f8.params[j]? = some t → args[j]? = some v → Value.okWide Tryz.prog W .any base t v := hval0
  have hW' := hW
  obtain ⟨p, q, hA0, hV, rfl, hfz, hnd⟩ := hW
  have hA : DataW.TrodAll enc Tryz.prog W 0 (fun _ => true) true Tryz.f8.params.toList args.toList ds p := hA0
  rw [Tryz.params8] at hA hval
  obtain ⟨v0, vs0, d0, ds0, p0, q0, hargs, rfl, rfl, h0, r0⟩ := trodAll_cons hA
  obtain ⟨v1, vs1, d1, ds1, p1, q1, rfl, rfl, rfl, h1, r1⟩ := trodAll_cons r0
  obtain ⟨v2, vs2, d2, ds2, p2, q2, rfl, rfl, rfl, h2, r2⟩ := trodAll_cons r1
  obtain ⟨rfl, rfl, rfl⟩ := trodAll_nil r2
  obtain rfl : args = #[v0, v1, v2] := by cases args; simp_all
  obtain ⟨rfl, rfl⟩ := trodVars_none hV
  have lt0 : ∀ x ∈ p0, x.block < W.heap.size := by obtain ⟨m, hm⟩ := h0; exact DataW.trod_lt m _ _ _ hm
  have lt1 : ∀ x ∈ p1, x.block < W.heap.size := by obtain ⟨m, hm⟩ := h1; exact DataW.trod_lt m _ _ _ hm
  have lt2 : ∀ x ∈ p2, x.block < W.heap.size := by obtain ⟨m, hm⟩ := h2; exact DataW.trod_lt m _ _ _ hm
  obtain ⟨l, rfl⟩ := open_part (hval 0 51 v0 rfl rfl) h0
  obtain ⟨sa, sn, sc, ps, rfl, hsn, hsi⟩ := open_seens (hval 1 84 v1 rfl rfl) h1
  obtain ⟨ka, kl, kc, ks, rfl, hkc, hkc2, hkn, hk⟩ := open_words (hval 2 44 v2 rfl rfl) h2
  clear hA0 hval0
  refine (takesLaw22 l sa sn sc ps ka kl kc ks W hsn hsi hkc hkc2 hkn hk).mono fun e W' ⟨he, hc⟩ => ?_
  subst he
  have bel := hc.below_nil
  exact ⟨_, rfl, _, _, _, [], _, [], hW', trodAll_mk1 (shut_bool Tryz.underlying4 _), (trodAll_cons_mk (Below.trod takes22_laidOut (by kernel_rfl) (of_decide_eq_true (by kernel_rfl)) h0 bel lt0) (trodAll_cons_mk (Below.trod takes22_laidOut (by kernel_rfl) (of_decide_eq_true (by kernel_rfl)) h1 bel lt1) (trodAll_cons_mk (Below.trod takes22_laidOut (by kernel_rfl) (of_decide_eq_true (by kernel_rfl)) h2 bel lt2) trodAll_mk0))), rfl, bel.frame _, fun h => by cases h⟩
theorem takes22_over : Rows.splitTakesRow.holds Tryz.pinned (OpenSpec.ofChange Rows.splitTakesSpec) :=
  OpenClaim.holds_of_wide 8 Tryz.f8 rfl rfl rfl rfl rfl rfl rfl ⟨rfl, rfl, rfl, rfl, rfl⟩ rfl rfl rfl rfl rfl takes22_named Tryz.func8 takes22_closed takes22_inst takes22_wrap
    (fun os started H enc _ => takes22_lifted os started H enc)
theorem takes22_holds : Rows.SplitTakesSaid := takes22_over
#print axioms takes22_holds
end Go.Proofs.YtcikopeddljgkaaGreat
