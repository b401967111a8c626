/- the facts of RehashAnew' row: of their own, for the kernel's memory -/
import Derived.OpenShut
import Derived.ProofKit
import Derived.Test.YtcikopeddljgkaaGreatRows
import Derived.WalkKit
set_option linter.unusedSimpArgs false
set_option linter.unusedVariables false
namespace Go.Proofs.YtcikopeddljgkaaGreat
open Go.ChangeShapes Go.WideShapes Go.ChangeAt Go.RowKit
theorem anew_closed : joinedFacts Tryz.pinned.checked.prog 5 Tryz.f5 Rows.rehashAnewSpec Rows.rehashAnewRow = true := by kernel_rfl
theorem anew_named : Tryz.pinned.checked.prog.funcNamed Rows.rehashAnewRow.func = some 5 := by kernel_rfl
theorem anew_inst : Tryz.f5.isInstance Tryz.pinned.checked.prog Rows.rehashAnewRow.origin Rows.rehashAnewRow.targs := of_decide_eq_true (by kernel_rfl)
theorem anew_wrap : Tryz.f5.isWrapper Tryz.pinned.checked.prog Rows.rehashAnewRow.wrapper Rows.rehashAnewRow.mainSum := by unfold Func.isWrapper; first | (rw [if_pos (by decide +kernel)]; kernel_rfl) | (rw [if_neg (by decide +kernel)]; exact ⟨rfl, rfl⟩)
end Go.Proofs.YtcikopeddljgkaaGreat
