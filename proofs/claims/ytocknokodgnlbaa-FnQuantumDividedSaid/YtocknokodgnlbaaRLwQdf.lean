/- Closed facts of the row of 'laws.FnQuantumDivided'. No condition. -/
import Derived.Test.YtocknokodgnlbaaRows
import Derived.WalkKit
import Derived.ProofKit
import Derived.OpenShut
namespace Go.Proofs.Ytocknokodgnlbaa.fnQuantumDivided
open Go.ChangeShapes Go.WideShapes Go.ChangeAt Go.RowKit
theorem named : Try.pinned.checked.prog.funcNamed Rows.fnQuantumDividedRow.func = some 6 := by kernel_rfl
theorem joined : joinedFacts Try.pinned.checked.prog 6 Try.f6 Rows.fnQuantumDividedSpec Rows.fnQuantumDividedRow = true := by kernel_rfl
theorem inst : Try.f6.isInstance Try.pinned.checked.prog Rows.fnQuantumDividedRow.origin Rows.fnQuantumDividedRow.targs := of_decide_eq_true (by kernel_rfl)
theorem wrap : Try.f6.isWrapper Try.pinned.checked.prog Rows.fnQuantumDividedRow.wrapper Rows.fnQuantumDividedRow.mainSum := by unfold Func.isWrapper; first | (rw [if_pos (by decide +kernel)]; kernel_rfl) | (rw [if_neg (by decide +kernel)]; exact ⟨rfl, rfl⟩)
end Go.Proofs.Ytocknokodgnlbaa.fnQuantumDivided
