/- the facts of SplitShuts' row: of their own, for the kernel's memory -/
import Derived.OpenShut
import Derived.ProofKit
import Derived.Test.YtcikopeddljgkaaGreatRows
import Derived.WalkKit
set_option linter.unusedSimpArgs false
set_option linter.unusedVariables false
namespace Go.Proofs.YtcikopeddljgkaaGreat
open Go.ChangeShapes Go.WideShapes Go.ChangeAt Go.RowKit
theorem shuts_closed : joinedFacts Tryz.pinned.checked.prog 9 Tryz.f9 Rows.splitShutsSpec Rows.splitShutsRow = true := by kernel_rfl
theorem shuts_named : Tryz.pinned.checked.prog.funcNamed Rows.splitShutsRow.func = some 9 := by kernel_rfl
theorem shuts_inst : Tryz.f9.isInstance Tryz.pinned.checked.prog Rows.splitShutsRow.origin Rows.splitShutsRow.targs := of_decide_eq_true (by kernel_rfl)
theorem shuts_wrap : Tryz.f9.isWrapper Tryz.pinned.checked.prog Rows.splitShutsRow.wrapper Rows.splitShutsRow.mainSum := by unfold Func.isWrapper; first | (rw [if_pos (by decide +kernel)]; kernel_rfl) | (rw [if_neg (by decide +kernel)]; exact ⟨rfl, rfl⟩)
end Go.Proofs.YtcikopeddljgkaaGreat
