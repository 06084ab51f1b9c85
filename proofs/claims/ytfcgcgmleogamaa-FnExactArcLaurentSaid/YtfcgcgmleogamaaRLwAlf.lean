/- Closed facts of the row of 'laws.FnExactArcLaurent'. No condition. -/
import Derived.Test.YtfcgcgmleogamaaRows
import Derived.WalkKit
import Derived.ProofKit
import Derived.OpenShut
namespace Go.Proofs.Ytfcgcgmleogamaa.fnExactArcLaurent
open Go.ChangeShapes Go.WideShapes Go.ChangeAt Go.RowKit
theorem named : Try.pinned.checked.prog.funcNamed Rows.fnExactArcLaurentRow.func = some 8 := by kernel_rfl
theorem joined : joinedFacts Try.pinned.checked.prog 8 Try.f8 Rows.fnExactArcLaurentSpec Rows.fnExactArcLaurentRow = true := by kernel_rfl
theorem inst : Try.f8.isInstance Try.pinned.checked.prog Rows.fnExactArcLaurentRow.origin Rows.fnExactArcLaurentRow.targs := of_decide_eq_true (by kernel_rfl)
theorem wrap : Try.f8.isWrapper Try.pinned.checked.prog Rows.fnExactArcLaurentRow.wrapper Rows.fnExactArcLaurentRow.mainSum := by unfold Func.isWrapper; first | (rw [if_pos (by decide +kernel)]; kernel_rfl) | (rw [if_neg (by decide +kernel)]; exact ⟨rfl, rfl⟩)
end Go.Proofs.Ytfcgcgmleogamaa.fnExactArcLaurent
