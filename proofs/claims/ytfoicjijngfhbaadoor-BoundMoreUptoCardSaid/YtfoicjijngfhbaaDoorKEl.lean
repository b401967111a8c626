/- the facts of BoundMore's row: of their own, for the kernel's memory -/
import Derived.Test.YtfoicjijngfhbaaDoorRows
import Derived.WalkKit
import Derived.ProofKit
import Derived.OpenShut
set_option linter.unusedSimpArgs false
set_option linter.unusedVariables false
namespace Go.Proofs.YtfoicjijngfhbaaDoor
open Go.ChangeShapes Go.WideShapes Go.ChangeAt Go.RowKit
theorem more29_closed : joinedFacts Tryd.pinned.checked.prog 4 Tryd.f4 (Rows.OpenSpec.upto Rows.boundMoreSpec).bare Rows.boundMoreUptoRow = true := by kernel_rfl
theorem more29_named : Tryd.pinned.checked.prog.funcNamed Rows.boundMoreUptoRow.func = some 4 := by kernel_rfl
theorem more29_inst : Tryd.f4.isInstance Tryd.pinned.checked.prog Rows.boundMoreUptoRow.origin Rows.boundMoreUptoRow.targs := of_decide_eq_true (by kernel_rfl)
theorem more29_wrap : Tryd.f4.isWrapper Tryd.pinned.checked.prog Rows.boundMoreUptoRow.wrapper Rows.boundMoreUptoRow.mainSum := by unfold Func.isWrapper; first | (rw [if_pos (by decide +kernel)]; kernel_rfl) | (rw [if_neg (by decide +kernel)]; exact ⟨rfl, rfl⟩)
end Go.Proofs.YtfoicjijngfhbaaDoor
