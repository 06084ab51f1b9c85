/- Closed facts of the row of 'laws.FnExactDivideQSums'. No condition. -/
import Derived.Test.YtocknokodgnlbaaRows
import Derived.WalkKit
import Derived.ProofKit
import Derived.OpenShut
namespace Go.Proofs.Ytocknokodgnlbaa.fnExactDivideQSums
open Go.ChangeShapes Go.WideShapes Go.ChangeAt Go.RowKit
theorem named : Try.pinned.checked.prog.funcNamed Rows.fnExactDivideQSumsRow.func = some 7 := by kernel_rfl
theorem joined : joinedFacts Try.pinned.checked.prog 7 Try.f7 Rows.fnExactDivideQSumsSpec Rows.fnExactDivideQSumsRow = true := by kernel_rfl
theorem inst : Try.f7.isInstance Try.pinned.checked.prog Rows.fnExactDivideQSumsRow.origin Rows.fnExactDivideQSumsRow.targs := of_decide_eq_true (by kernel_rfl)
theorem wrap : Try.f7.isWrapper Try.pinned.checked.prog Rows.fnExactDivideQSumsRow.wrapper Rows.fnExactDivideQSumsRow.mainSum := by unfold Func.isWrapper; first | (rw [if_pos (by decide +kernel)]; kernel_rfl) | (rw [if_neg (by decide +kernel)]; exact ⟨rfl, rfl⟩)
end Go.Proofs.Ytocknokodgnlbaa.fnExactDivideQSums
