/- the facts of SplitTakes' row: of their own, for the kernel's memory -/
import Derived.OpenShut
import Derived.ProofKit
import Derived.Test.YtcikopeddljgkaaGreatRows
import Derived.WalkKit
set_option linter.unusedSimpArgs false
set_option linter.unusedVariables false
namespace Go.Proofs.YtcikopeddljgkaaGreat
open Go.ChangeShapes Go.WideShapes Go.ChangeAt Go.RowKit
theorem takes22_closed : joinedFacts Tryz.pinned.checked.prog 8 Tryz.f8 Rows.splitTakesSpec Rows.splitTakesRow = true := by kernel_rfl
theorem takes22_named : Tryz.pinned.checked.prog.funcNamed Rows.splitTakesRow.func = some 8 := by kernel_rfl
theorem takes22_inst : Tryz.f8.isInstance Tryz.pinned.checked.prog Rows.splitTakesRow.origin Rows.splitTakesRow.targs := of_decide_eq_true (by kernel_rfl)
theorem takes22_wrap : Tryz.f8.isWrapper Tryz.pinned.checked.prog Rows.splitTakesRow.wrapper Rows.splitTakesRow.mainSum := by unfold Func.isWrapper; first | (rw [if_pos (by decide +kernel)]; kernel_rfl) | (rw [if_neg (by decide +kernel)]; exact ⟨rfl, rfl⟩)
end Go.Proofs.YtcikopeddljgkaaGreat
