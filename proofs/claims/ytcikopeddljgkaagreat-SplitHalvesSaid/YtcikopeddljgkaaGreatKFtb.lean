/- the facts of SplitHalves' row: of their own, for the kernel's memory -/
import Derived.OpenShut
import Derived.ProofKit
import Derived.Test.YtcikopeddljgkaaGreatRows
import Derived.WalkKit
set_option linter.unusedSimpArgs false
set_option linter.unusedVariables false
namespace Go.Proofs.YtcikopeddljgkaaGreat
open Go.ChangeShapes Go.WideShapes Go.ChangeAt Go.RowKit
theorem halves22_closed : joinedFacts Tryz.pinned.checked.prog 7 Tryz.f7 Rows.splitHalvesSpec Rows.splitHalvesRow = true := by kernel_rfl
theorem halves22_named : Tryz.pinned.checked.prog.funcNamed Rows.splitHalvesRow.func = some 7 := by kernel_rfl
theorem halves22_inst : Tryz.f7.isInstance Tryz.pinned.checked.prog Rows.splitHalvesRow.origin Rows.splitHalvesRow.targs := of_decide_eq_true (by kernel_rfl)
theorem halves22_wrap : Tryz.f7.isWrapper Tryz.pinned.checked.prog Rows.splitHalvesRow.wrapper Rows.splitHalvesRow.mainSum := by unfold Func.isWrapper; first | (rw [if_pos (by decide +kernel)]; kernel_rfl) | (rw [if_neg (by decide +kernel)]; exact ⟨rfl, rfl⟩)
end Go.Proofs.YtcikopeddljgkaaGreat
