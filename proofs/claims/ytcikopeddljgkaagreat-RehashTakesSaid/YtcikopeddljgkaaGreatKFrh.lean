/- the facts of RehashTakes' row: of their own, for the kernel's memory -/
import Derived.OpenShut
import Derived.ProofKit
import Derived.Test.YtcikopeddljgkaaGreatRows
import Derived.WalkKit
set_option linter.unusedSimpArgs false
set_option linter.unusedVariables false
namespace Go.Proofs.YtcikopeddljgkaaGreat
open Go.ChangeShapes Go.WideShapes Go.ChangeAt Go.RowKit
theorem rtakes_closed : joinedFacts Tryz.pinned.checked.prog 10 Tryz.f10 Rows.rehashTakesSpec Rows.rehashTakesRow = true := by kernel_rfl
theorem rtakes_named : Tryz.pinned.checked.prog.funcNamed Rows.rehashTakesRow.func = some 10 := by kernel_rfl
theorem rtakes_inst : Tryz.f10.isInstance Tryz.pinned.checked.prog Rows.rehashTakesRow.origin Rows.rehashTakesRow.targs := of_decide_eq_true (by kernel_rfl)
theorem rtakes_wrap : Tryz.f10.isWrapper Tryz.pinned.checked.prog Rows.rehashTakesRow.wrapper Rows.rehashTakesRow.mainSum := by unfold Func.isWrapper; first | (rw [if_pos (by decide +kernel)]; kernel_rfl) | (rw [if_neg (by decide +kernel)]; exact ⟨rfl, rfl⟩)
end Go.Proofs.YtcikopeddljgkaaGreat
