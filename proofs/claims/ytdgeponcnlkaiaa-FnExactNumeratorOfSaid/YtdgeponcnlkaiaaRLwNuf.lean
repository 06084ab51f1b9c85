/- Closed facts of the row of 'laws.FnExactNumeratorOf'. No condition. -/
import Derived.Test.YtdgeponcnlkaiaaRows
import Derived.WalkKit
import Derived.ProofKit
import Derived.OpenShut
namespace Go.Proofs.Ytdgeponcnlkaiaa.fnExactNumeratorOf
open Go.ChangeShapes Go.WideShapes Go.ChangeAt Go.RowKit
theorem named : Try.pinned.checked.prog.funcNamed Rows.fnExactNumeratorOfRow.func = some 9 := by kernel_rfl
theorem joined : joinedFacts Try.pinned.checked.prog 9 Try.f9 Rows.fnExactNumeratorOfSpec Rows.fnExactNumeratorOfRow = true := by kernel_rfl
theorem inst : Try.f9.isInstance Try.pinned.checked.prog Rows.fnExactNumeratorOfRow.origin Rows.fnExactNumeratorOfRow.targs := of_decide_eq_true (by kernel_rfl)
theorem wrap : Try.f9.isWrapper Try.pinned.checked.prog Rows.fnExactNumeratorOfRow.wrapper Rows.fnExactNumeratorOfRow.mainSum := by unfold Func.isWrapper; first | (rw [if_pos (by decide +kernel)]; kernel_rfl) | (rw [if_neg (by decide +kernel)]; exact ⟨rfl, rfl⟩)
end Go.Proofs.Ytdgeponcnlkaiaa.fnExactNumeratorOf
