/- Closed facts of the row of 'laws.FnExactQuantumVariables'. No condition. -/
import Derived.Test.YtncfmemhjahpeaaGreatRows
import Derived.WalkKit
import Derived.ProofKit
import Derived.OpenShut
namespace Go.Proofs.YtncfmemhjahpeaaGreat.fnExactQuantumVariables
open Go.ChangeShapes Go.WideShapes Go.ChangeAt Go.RowKit
theorem named : Tryz.pinned.checked.prog.funcNamed Rows.fnExactQuantumVariablesRow.func = some 5 := by kernel_rfl
theorem joined : joinedFacts Tryz.pinned.checked.prog 5 Tryz.f5 Rows.fnExactQuantumVariablesSpec Rows.fnExactQuantumVariablesRow = true := by kernel_rfl
theorem inst : Tryz.f5.isInstance Tryz.pinned.checked.prog Rows.fnExactQuantumVariablesRow.origin Rows.fnExactQuantumVariablesRow.targs := of_decide_eq_true (by kernel_rfl)
theorem wrap : Tryz.f5.isWrapper Tryz.pinned.checked.prog Rows.fnExactQuantumVariablesRow.wrapper Rows.fnExactQuantumVariablesRow.mainSum := by unfold Func.isWrapper; first | (rw [if_pos (by decide +kernel)]; kernel_rfl) | (rw [if_neg (by decide +kernel)]; exact ⟨rfl, rfl⟩)
end Go.Proofs.YtncfmemhjahpeaaGreat.fnExactQuantumVariables
