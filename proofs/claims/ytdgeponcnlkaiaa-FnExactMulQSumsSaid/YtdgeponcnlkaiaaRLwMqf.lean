/- Closed facts of the row of 'laws.FnExactMulQSums'. No condition. -/
import Derived.Test.YtdgeponcnlkaiaaRows
import Derived.WalkKit
import Derived.ProofKit
import Derived.OpenShut
namespace Go.Proofs.Ytdgeponcnlkaiaa.fnExactMulQSums
open Go.ChangeShapes Go.WideShapes Go.ChangeAt Go.RowKit
theorem named : Try.pinned.checked.prog.funcNamed Rows.fnExactMulQSumsRow.func = some 14 := by kernel_rfl
theorem joined : joinedFacts Try.pinned.checked.prog 14 Try.f14 Rows.fnExactMulQSumsSpec Rows.fnExactMulQSumsRow = true := by kernel_rfl
theorem inst : Try.f14.isInstance Try.pinned.checked.prog Rows.fnExactMulQSumsRow.origin Rows.fnExactMulQSumsRow.targs := of_decide_eq_true (by kernel_rfl)
theorem wrap : Try.f14.isWrapper Try.pinned.checked.prog Rows.fnExactMulQSumsRow.wrapper Rows.fnExactMulQSumsRow.mainSum := by unfold Func.isWrapper; first | (rw [if_pos (by decide +kernel)]; kernel_rfl) | (rw [if_neg (by decide +kernel)]; exact ⟨rfl, rfl⟩)
end Go.Proofs.Ytdgeponcnlkaiaa.fnExactMulQSums
