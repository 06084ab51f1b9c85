/- Closed facts of the row of 'laws.FnExactClassicalOf'. No condition. -/
import Derived.Test.YtdgeponcnlkaiaaRows
import Derived.WalkKit
import Derived.ProofKit
import Derived.OpenShut
namespace Go.Proofs.Ytdgeponcnlkaiaa.fnExactClassicalOf
open Go.ChangeShapes Go.WideShapes Go.ChangeAt Go.RowKit
theorem named : Try.pinned.checked.prog.funcNamed Rows.fnExactClassicalOfRow.func = some 12 := by kernel_rfl
theorem joined : joinedFacts Try.pinned.checked.prog 12 Try.f12 Rows.fnExactClassicalOfSpec Rows.fnExactClassicalOfRow = true := by kernel_rfl
theorem inst : Try.f12.isInstance Try.pinned.checked.prog Rows.fnExactClassicalOfRow.origin Rows.fnExactClassicalOfRow.targs := of_decide_eq_true (by kernel_rfl)
theorem wrap : Try.f12.isWrapper Try.pinned.checked.prog Rows.fnExactClassicalOfRow.wrapper Rows.fnExactClassicalOfRow.mainSum := by unfold Func.isWrapper; first | (rw [if_pos (by decide +kernel)]; kernel_rfl) | (rw [if_neg (by decide +kernel)]; exact ⟨rfl, rfl⟩)
end Go.Proofs.Ytdgeponcnlkaiaa.fnExactClassicalOf
