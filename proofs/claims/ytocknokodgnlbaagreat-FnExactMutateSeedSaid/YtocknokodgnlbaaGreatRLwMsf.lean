/- Closed facts of the row of 'laws.FnExactMutateSeed'. No condition. -/
import Derived.Test.YtocknokodgnlbaaGreatRows
import Derived.WalkKit
import Derived.ProofKit
import Derived.OpenShut
namespace Go.Proofs.YtocknokodgnlbaaGreat.fnExactMutateSeed
open Go.ChangeShapes Go.WideShapes Go.ChangeAt Go.RowKit
theorem named : Tryz.pinned.checked.prog.funcNamed Rows.fnExactMutateSeedRow.func = some 3 := by kernel_rfl
theorem joined : joinedFacts Tryz.pinned.checked.prog 3 Tryz.f3 Rows.fnExactMutateSeedSpec Rows.fnExactMutateSeedRow = true := by kernel_rfl
theorem inst : Tryz.f3.isInstance Tryz.pinned.checked.prog Rows.fnExactMutateSeedRow.origin Rows.fnExactMutateSeedRow.targs := of_decide_eq_true (by kernel_rfl)
theorem wrap : Tryz.f3.isWrapper Tryz.pinned.checked.prog Rows.fnExactMutateSeedRow.wrapper Rows.fnExactMutateSeedRow.mainSum := by unfold Func.isWrapper; first | (rw [if_pos (by decide +kernel)]; kernel_rfl) | (rw [if_neg (by decide +kernel)]; exact ⟨rfl, rfl⟩)
end Go.Proofs.YtocknokodgnlbaaGreat.fnExactMutateSeed
