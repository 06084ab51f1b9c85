/- Closed facts of the row of 'laws.FnExactRankTwoTerms'. No condition. -/
import Derived.Test.YtocknokodgnlbaaRows
import Derived.WalkKit
import Derived.ProofKit
import Derived.OpenShut
namespace Go.Proofs.Ytocknokodgnlbaa.fnExactRankTwoTerms
open Go.ChangeShapes Go.WideShapes Go.ChangeAt Go.RowKit
theorem named : Try.pinned.checked.prog.funcNamed Rows.fnExactRankTwoTermsRow.func = some 9 := by kernel_rfl
theorem joined : joinedFacts Try.pinned.checked.prog 9 Try.f9 Rows.fnExactRankTwoTermsSpec Rows.fnExactRankTwoTermsRow = true := by kernel_rfl
theorem inst : Try.f9.isInstance Try.pinned.checked.prog Rows.fnExactRankTwoTermsRow.origin Rows.fnExactRankTwoTermsRow.targs := of_decide_eq_true (by kernel_rfl)
theorem wrap : Try.f9.isWrapper Try.pinned.checked.prog Rows.fnExactRankTwoTermsRow.wrapper Rows.fnExactRankTwoTermsRow.mainSum := by unfold Func.isWrapper; first | (rw [if_pos (by decide +kernel)]; kernel_rfl) | (rw [if_neg (by decide +kernel)]; exact ⟨rfl, rfl⟩)
end Go.Proofs.Ytocknokodgnlbaa.fnExactRankTwoTerms
