/- Closed facts of the row of 'laws.FnExactSessionOk'. No condition. -/
import Derived.Test.YtbhkonnakkhibaaGreatRows
import Derived.WalkKit
import Derived.ProofKit
import Derived.OpenShut
namespace Go.Proofs.YtbhkonnakkhibaaGreat.fnExactSessionOk
open Go.ChangeShapes Go.WideShapes Go.ChangeAt Go.RowKit
theorem named : Tryz.pinned.checked.prog.funcNamed Rows.fnExactSessionOkRow.func = some 6 := by kernel_rfl
theorem joined : joinedFacts Tryz.pinned.checked.prog 6 Tryz.f6 Rows.fnExactSessionOkSpec Rows.fnExactSessionOkRow = true := by kernel_rfl
theorem inst : Tryz.f6.isInstance Tryz.pinned.checked.prog Rows.fnExactSessionOkRow.origin Rows.fnExactSessionOkRow.targs := of_decide_eq_true (by kernel_rfl)
theorem wrap : Tryz.f6.isWrapper Tryz.pinned.checked.prog Rows.fnExactSessionOkRow.wrapper Rows.fnExactSessionOkRow.mainSum := by unfold Func.isWrapper; first | (rw [if_pos (by decide +kernel)]; kernel_rfl) | (rw [if_neg (by decide +kernel)]; exact ⟨rfl, rfl⟩)
end Go.Proofs.YtbhkonnakkhibaaGreat.fnExactSessionOk
