/- the facts of RehashRuns' row: of their own, for the kernel's memory -/
import Derived.OpenShut
import Derived.ProofKit
import Derived.Test.YtcikopeddljgkaaGreatRows
import Derived.WalkKit
set_option linter.unusedSimpArgs false
set_option linter.unusedVariables false
namespace Go.Proofs.YtcikopeddljgkaaGreat
open Go.ChangeShapes Go.WideShapes Go.ChangeAt Go.RowKit
theorem rruns_closed : joinedFacts Tryz.pinned.checked.prog 6 Tryz.f6 Rows.rehashRunsSpec Rows.rehashRunsRow = true := by kernel_rfl
theorem rruns_named : Tryz.pinned.checked.prog.funcNamed Rows.rehashRunsRow.func = some 6 := by kernel_rfl
theorem rruns_inst : Tryz.f6.isInstance Tryz.pinned.checked.prog Rows.rehashRunsRow.origin Rows.rehashRunsRow.targs := of_decide_eq_true (by kernel_rfl)
theorem rruns_wrap : Tryz.f6.isWrapper Tryz.pinned.checked.prog Rows.rehashRunsRow.wrapper Rows.rehashRunsRow.mainSum := by unfold Func.isWrapper; first | (rw [if_pos (by decide +kernel)]; kernel_rfl) | (rw [if_neg (by decide +kernel)]; exact ⟨rfl, rfl⟩)
end Go.Proofs.YtcikopeddljgkaaGreat
