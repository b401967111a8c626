import Derived.Test.YtcikopeddljgkaaDoorRows
import Derived.WalkKit
import Derived.ProofKit
import Derived.OpenShut
/- the facts of BoundNumbers' row: of their own, for the kernel's memory -/
namespace Go.Proofs.YtcikopeddljgkaaDoor
open Go.ChangeShapes Go.WideShapes Go.ChangeAt Go.RowKit
theorem numbers29_closed : joinedFacts Tryd.pinned.checked.prog 3 Tryd.f3 Rows.boundNumbersSpec Rows.boundNumbersRow = true := by kernel_rfl
theorem numbers29_named : Tryd.pinned.checked.prog.funcNamed Rows.boundNumbersRow.func = some 3 := by kernel_rfl
theorem numbers29_inst : Tryd.f3.isInstance Tryd.pinned.checked.prog Rows.boundNumbersRow.origin Rows.boundNumbersRow.targs := of_decide_eq_true (by kernel_rfl)
theorem numbers29_wrap : Tryd.f3.isWrapper Tryd.pinned.checked.prog Rows.boundNumbersRow.wrapper Rows.boundNumbersRow.mainSum := by unfold Func.isWrapper; first | (rw [if_pos (by decide +kernel)]; kernel_rfl) | (rw [if_neg (by decide +kernel)]; exact ⟨rfl, rfl⟩)
end Go.Proofs.YtcikopeddljgkaaDoor
