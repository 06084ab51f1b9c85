/- Closed facts of the row of 'laws.FnExactFPolynomialsOf'. No condition. -/
import Derived.Test.YtbhkonnakkhibaaGreatRows
import Derived.WalkKit
import Derived.ProofKit
import Derived.OpenShut
namespace Go.Proofs.YtbhkonnakkhibaaGreat.fnExactFPolynomialsOf
open Go.ChangeShapes Go.WideShapes Go.ChangeAt Go.RowKit
theorem named : Tryz.pinned.checked.prog.funcNamed Rows.fnExactFPolynomialsOfRow.func = some 3 := by kernel_rfl
theorem joined : joinedFacts Tryz.pinned.checked.prog 3 Tryz.f3 Rows.fnExactFPolynomialsOfSpec Rows.fnExactFPolynomialsOfRow = true := by kernel_rfl
theorem inst : Tryz.f3.isInstance Tryz.pinned.checked.prog Rows.fnExactFPolynomialsOfRow.origin Rows.fnExactFPolynomialsOfRow.targs := of_decide_eq_true (by kernel_rfl)
theorem wrap : Tryz.f3.isWrapper Tryz.pinned.checked.prog Rows.fnExactFPolynomialsOfRow.wrapper Rows.fnExactFPolynomialsOfRow.mainSum := by unfold Func.isWrapper; first | (rw [if_pos (by decide +kernel)]; kernel_rfl) | (rw [if_neg (by decide +kernel)]; exact ⟨rfl, rfl⟩)
end Go.Proofs.YtbhkonnakkhibaaGreat.fnExactFPolynomialsOf
