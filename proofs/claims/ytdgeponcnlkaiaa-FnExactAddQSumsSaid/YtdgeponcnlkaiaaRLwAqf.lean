/- Closed facts of the row of 'laws.FnExactAddQSums'. No condition. -/
import Derived.Test.YtdgeponcnlkaiaaRows
import Derived.WalkKit
import Derived.ProofKit
import Derived.OpenShut
namespace Go.Proofs.Ytdgeponcnlkaiaa.fnExactAddQSums
open Go.ChangeShapes Go.WideShapes Go.ChangeAt Go.RowKit
theorem named : Try.pinned.checked.prog.funcNamed Rows.fnExactAddQSumsRow.func = some 6 := by kernel_rfl
theorem joined : joinedFacts Try.pinned.checked.prog 6 Try.f6 Rows.fnExactAddQSumsSpec Rows.fnExactAddQSumsRow = true := by kernel_rfl
theorem inst : Try.f6.isInstance Try.pinned.checked.prog Rows.fnExactAddQSumsRow.origin Rows.fnExactAddQSumsRow.targs := of_decide_eq_true (by kernel_rfl)
theorem wrap : Try.f6.isWrapper Try.pinned.checked.prog Rows.fnExactAddQSumsRow.wrapper Rows.fnExactAddQSumsRow.mainSum := by unfold Func.isWrapper; first | (rw [if_pos (by decide +kernel)]; kernel_rfl) | (rw [if_neg (by decide +kernel)]; exact ⟨rfl, rfl⟩)
end Go.Proofs.Ytdgeponcnlkaiaa.fnExactAddQSums
