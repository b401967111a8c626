/- the facts of RehashHides' row: of their own, for the kernel's memory -/
import Derived.OpenShut
import Derived.ProofKit
import Derived.Test.YtcikopeddljgkaaGreatRows
import Derived.WalkKit
set_option linter.unusedSimpArgs false
set_option linter.unusedVariables false
namespace Go.Proofs.YtcikopeddljgkaaGreat
open Go.ChangeShapes Go.WideShapes Go.ChangeAt Go.RowKit
theorem hides_closed : joinedFacts Tryz.pinned.checked.prog 11 Tryz.f11 Rows.rehashHidesSpec Rows.rehashHidesRow = true := by kernel_rfl
theorem hides_named : Tryz.pinned.checked.prog.funcNamed Rows.rehashHidesRow.func = some 11 := by kernel_rfl
theorem hides_inst : Tryz.f11.isInstance Tryz.pinned.checked.prog Rows.rehashHidesRow.origin Rows.rehashHidesRow.targs := of_decide_eq_true (by kernel_rfl)
theorem hides_wrap : Tryz.f11.isWrapper Tryz.pinned.checked.prog Rows.rehashHidesRow.wrapper Rows.rehashHidesRow.mainSum := by unfold Func.isWrapper; first | (rw [if_pos (by decide +kernel)]; kernel_rfl) | (rw [if_neg (by decide +kernel)]; exact ⟨rfl, rfl⟩)
end Go.Proofs.YtcikopeddljgkaaGreat
