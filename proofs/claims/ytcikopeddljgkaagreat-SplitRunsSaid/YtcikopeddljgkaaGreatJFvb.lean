/- the facts of SplitRuns' row: of their own, for the kernel's memory -/
import Derived.OpenShut
import Derived.ProofKit
import Derived.Test.YtcikopeddljgkaaGreatRows
import Derived.WalkKit
set_option linter.unusedSimpArgs false
set_option linter.unusedVariables false
namespace Go.Proofs.YtcikopeddljgkaaGreat
open Go.ChangeShapes Go.WideShapes Go.ChangeAt Go.RowKit
theorem runs22w_closed : joinedFacts Tryz.pinned.checked.prog 4 Tryz.f4 Rows.splitRunsSpec Rows.splitRunsRow = true := by kernel_rfl
theorem runs22w_named : Tryz.pinned.checked.prog.funcNamed Rows.splitRunsRow.func = some 4 := by kernel_rfl
theorem runs22w_inst : Tryz.f4.isInstance Tryz.pinned.checked.prog Rows.splitRunsRow.origin Rows.splitRunsRow.targs := of_decide_eq_true (by kernel_rfl)
theorem runs22w_wrap : Tryz.f4.isWrapper Tryz.pinned.checked.prog Rows.splitRunsRow.wrapper Rows.splitRunsRow.mainSum := by unfold Func.isWrapper; first | (rw [if_pos (by decide +kernel)]; kernel_rfl) | (rw [if_neg (by decide +kernel)]; exact ⟨rfl, rfl⟩)
end Go.Proofs.YtcikopeddljgkaaGreat
