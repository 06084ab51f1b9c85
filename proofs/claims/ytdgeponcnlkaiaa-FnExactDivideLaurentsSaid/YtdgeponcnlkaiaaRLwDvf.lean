/- Closed facts of the row of 'laws.FnExactDivideLaurents'. No condition. -/
import Derived.Test.YtdgeponcnlkaiaaRows
import Derived.WalkKit
import Derived.ProofKit
import Derived.OpenShut
namespace Go.Proofs.Ytdgeponcnlkaiaa.fnExactDivideLaurents
open Go.ChangeShapes Go.WideShapes Go.ChangeAt Go.RowKit
theorem named : Try.pinned.checked.prog.funcNamed Rows.fnExactDivideLaurentsRow.func = some 10 := by kernel_rfl
theorem joined : joinedFacts Try.pinned.checked.prog 10 Try.f10 Rows.fnExactDivideLaurentsSpec Rows.fnExactDivideLaurentsRow = true := by kernel_rfl
theorem inst : Try.f10.isInstance Try.pinned.checked.prog Rows.fnExactDivideLaurentsRow.origin Rows.fnExactDivideLaurentsRow.targs := of_decide_eq_true (by kernel_rfl)
theorem wrap : Try.f10.isWrapper Try.pinned.checked.prog Rows.fnExactDivideLaurentsRow.wrapper Rows.fnExactDivideLaurentsRow.mainSum := by unfold Func.isWrapper; first | (rw [if_pos (by decide +kernel)]; kernel_rfl) | (rw [if_neg (by decide +kernel)]; exact ⟨rfl, rfl⟩)
end Go.Proofs.Ytdgeponcnlkaiaa.fnExactDivideLaurents
