/- WriteAnswers returns true for every table by a seed in a slab and every call, and its arguments read behind the call as they read before. Conditions: none. -/
import Derived.Test.YtmfajobocpaimaaGreatKHdk
import Derived.Test.YtmfajobocpaimaaGreatKHec
import Derived.Test.YtmfajobocpaimaaGreatKHej
import Derived.Test.YtmfajobocpaimaaGreatKHeq
import Derived.Test.YtmfajobocpaimaaGreatKHm
import Derived.Test.YtmfajobocpaimaaGreatKHni
import Derived.Below
import Derived.BigQuiet
import Derived.ChangeKeysEq
import Derived.Deep.Draws
import Derived.Deep.Light
import Derived.Deep.OwnRows
import Derived.Deep.QuietTactic
import Derived.Deep.RegionHeld
import Derived.Deep.Slices
import Derived.IntWalk
import Derived.Laws.CopyOwn
import Derived.Laws.CopyRow
import Derived.Laws.StructEq
import Derived.Laws.Tables
import Derived.Lib.AppendZerosOnto
import Derived.Lib.Hide
import Derived.Lib.Tables
import Derived.Lib.Walk
import Derived.LoopIn
import Derived.LoopN
import Derived.LoopNIn
import Derived.Maps.AppendAt
import Derived.Maps.Views
import Derived.OpenShut
import Derived.OwnWalkIn
import Derived.ProofKit
import Derived.RangeFuncBox
import Derived.RangeFuncCalls
import Derived.RangeFuncRecord
import Derived.RangeFuncSeq
import Derived.Recover
import Derived.RegionTactic
import Derived.ScopeJumps
import Derived.Shelf.Slices.Clone
import Derived.StillTail
import Derived.StillTailTactics
import Derived.TacticsInMore
import Derived.Test.YtmfajobocpaimaaGreatProg
import Derived.Test.YtmfajobocpaimaaGreatRows
import Derived.WalkKit
import Derived.WalkLawsBesides
import Derived.WalkMore
import Derived.WalkSpells
set_option linter.unusedSimpArgs false
set_option linter.unusedVariables false
namespace Go.Proofs.YtmfajobocpaimaaGreat
open Go.ChangeShapes Go.WideShapes Go.ChangeAt Go.RowKit Go.Proofs.Hc
set_option linter.unusedVariables false
theorem answers_laidOut : laidOutB Tryz.prog = true := by kernel_rfl
theorem answers_own : ownKnob Tryz.prog.godebug = none := by kernel_rfl
set_option maxRecDepth 100000 in
theorem answers_lifted (os : Os) (started : os.Started) (H : Type) (enc : TypeId × Value → H) :
    ReturnsInHanded {} Tryz.checked os 12 .any (Rows.writeAnswersSpec.pre6 enc Tryz.prog Tryz.f12 Rows.writeAnswersRow.domain false) (Rows.writeAnswersSpec.post enc Tryz.prog Tryz.f12 false true false false) := by
  refine returnsInHanded_of_change (C := Tryz.checked) answers_own started (by kernel_rfl) Tryz.func12
    (ChangeSpec.witness6 (enc := enc) (C := Tryz.checked) false ⟨#[], #[.agg (workC 0#64 0 zeroT), .agg (callC 0 0#64 0#64 0#64)], []⟩ 8 (by kernel_rfl) (by kernel_rfl) (by kernel_rfl) (by kernel_rfl)) ?_
  intro W base args ds gs before hval0 hW hcnd _
  have hval : ∀ (j : Nat) t v, Tryz.f12.params[j]? = some t → args[j]? = some v → Value.okWide Tryz.prog W .any base t v := hval0
  have hW' := hW
  obtain ⟨p, q, hA0, hV, rfl, hfz, hnd⟩ := hW
  have hA : DataW.TrodAll enc Tryz.prog W 0 (fun _ => true) true Tryz.f12.params.toList args.toList ds p := hA0
  rw [Tryz.params12] at hA hval
  obtain ⟨v0, vs0, d0, ds0, p0, q0, hargs, rfl, rfl, h0, r0⟩ := trodAll_cons hA
  obtain ⟨v1, vs1, d1, ds1, p1, q1, rfl, rfl, rfl, h1, r1⟩ := trodAll_cons r0
  obtain ⟨rfl, rfl, rfl⟩ := trodAll_nil r1
  obtain rfl : args = #[v0, v1] := by cases args; simp_all
  obtain ⟨rfl, rfl⟩ := trodVars_none hV
  have lt0 : ∀ x ∈ p0, x.block < W.heap.size := by obtain ⟨m, hm⟩ := h0; exact DataW.trod_lt m _ _ _ hm
  have lt1 : ∀ x ∈ p1, x.block < W.heap.size := by obtain ⟨m, hm⟩ := h1; exact DataW.trod_lt m _ _ _ hm
  obtain ⟨s, sl, t, rfl⟩ := open_work (hval 0 88 v0 rfl rfl) h0
  obtain ⟨op, key, a, b, rfl⟩ := open_call (hval 1 68 v1 rfl rfl) h1
  clear hA0 hval0
  refine (answersLaw s sl op t key a b W).mono fun e W' ⟨he, hc⟩ => ?_
  subst he
  have bel := hc.below_nil
  exact ⟨_, rfl, _, _, _, [], _, [], hW', trodAll_mk1 (shut_bool Tryz.underlying4 _), (trodAll_cons_mk (Below.trod answers_laidOut (by kernel_rfl) (of_decide_eq_true (by kernel_rfl)) h0 bel lt0) (trodAll_cons_mk (Below.trod answers_laidOut (by kernel_rfl) (of_decide_eq_true (by kernel_rfl)) h1 bel lt1) trodAll_mk0)), rfl, bel.frame _, fun h => by cases h⟩
theorem answers_over : Rows.writeAnswersRow.holds Tryz.pinned (OpenSpec.ofChange Rows.writeAnswersSpec) :=
  OpenClaim.holds_of_wide 12 Tryz.f12 rfl rfl rfl rfl rfl rfl rfl ⟨rfl, rfl, rfl, rfl, rfl⟩ rfl rfl rfl rfl rfl (by kernel_rfl) Tryz.func12 (by kernel_rfl)
    (of_decide_eq_true (by kernel_rfl)) (by unfold Func.isWrapper; first | (rw [if_pos (by decide +kernel)]; kernel_rfl) | (rw [if_neg (by decide +kernel)]; exact ⟨rfl, rfl⟩))
    (fun os started H enc _ => answers_lifted os started H enc)
theorem answers_holds : Rows.WriteAnswersSaid := answers_over
#print axioms answers_holds
end Go.Proofs.YtmfajobocpaimaaGreat
