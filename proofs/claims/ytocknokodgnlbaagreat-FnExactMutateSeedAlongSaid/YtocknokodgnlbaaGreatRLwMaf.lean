/- Closed facts of the row of 'laws.FnExactMutateSeedAlong'. No condition. -/
import Derived.Test.YtocknokodgnlbaaGreatRows
import Derived.WalkKit
import Derived.ProofKit
import Derived.OpenShut
namespace Go.Proofs.YtocknokodgnlbaaGreat.fnExactMutateSeedAlong
open Go.ChangeShapes Go.WideShapes Go.ChangeAt Go.RowKit
theorem named : Tryz.pinned.checked.prog.funcNamed Rows.fnExactMutateSeedAlongRow.func = some 4 := by kernel_rfl
theorem joined : joinedFacts Tryz.pinned.checked.prog 4 Tryz.f4 Rows.fnExactMutateSeedAlongSpec Rows.fnExactMutateSeedAlongRow = true := by kernel_rfl
theorem inst : Tryz.f4.isInstance Tryz.pinned.checked.prog Rows.fnExactMutateSeedAlongRow.origin Rows.fnExactMutateSeedAlongRow.targs := of_decide_eq_true (by kernel_rfl)
theorem wrap : Tryz.f4.isWrapper Tryz.pinned.checked.prog Rows.fnExactMutateSeedAlongRow.wrapper Rows.fnExactMutateSeedAlongRow.mainSum := by unfold Func.isWrapper; first | (rw [if_pos (by decide +kernel)]; kernel_rfl) | (rw [if_neg (by decide +kernel)]; exact ⟨rfl, rfl⟩)
end Go.Proofs.YtocknokodgnlbaaGreat.fnExactMutateSeedAlong
