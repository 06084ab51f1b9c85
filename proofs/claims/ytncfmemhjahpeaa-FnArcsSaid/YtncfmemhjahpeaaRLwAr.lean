/- 'laws.FnArcs' answers true for all arguments. No condition. -/
import Derived.Test.YtncfmemhjahpeaaRows
import Derived.SizedLaws
import Derived.Test.YtncfmemhjahpeaaKarcsc
import Derived.Test.YtncfmemhjahpeaaRLwArf
import Derived.Test.YtncfmemhjahpeaaKarcse
namespace Go.Proofs.Ytncfmemhjahpeaa.fnArcs
open Go.ChangeShapes Go.WideShapes Go.ChangeAt Go.RowKit
set_option linter.unusedVariables false
set_option linter.unusedSimpArgs false

theorem own : ownKnob Try.prog.godebug = none := by kernel_rfl

set_option maxRecDepth 100000 in
theorem lifted (os : Os) (started : os.Started) (H : Type) (enc : TypeId × Value → H) :
    ReturnsInHanded {} Try.checked os 4 .any (Rows.fnArcsSpec.pre6 enc Try.prog Try.f4 Rows.fnArcsRow.domain false) (Rows.fnArcsSpec.post enc Try.prog Try.f4 false true false false) := by
  refine returnsInHanded_of_change_sized (C := Try.checked) own started (by kernel_rfl) Try.func4
    (ChangeSpec.witness6 (enc := enc) (C := Try.checked) false ⟨#[], #[.slice none 0 0], []⟩ 8 (by kernel_rfl) (by kernel_rfl) (by kernel_rfl) (by kernel_rfl)) ?_
  intro W base args ds gs before hval0 hW hcnd hsz _
  have hval : ∀ (j : Nat) t v, Try.f4.params[j]? = some t → args[j]? = some v → Value.okWide Try.prog W .any base t v := hval0
  have hW' := hW
  obtain ⟨p, q, hA0, hV, rfl, hfz, hnd⟩ := hW
  have hA : DataW.TrodAll enc Try.prog W 0 (fun _ => true) true Try.f4.params.toList args.toList ds p := hA0
  rw [Try.params4] at hA hval
  obtain ⟨v0, d0, rfl, rfl, r0⟩ := trodAll_one hA
  obtain ⟨rfl, rfl⟩ := trodVars_none hV
  clear hA0 hval0
  simp only [List.append_nil] at hW' hsz
  obtain ⟨a0, h0, e0⟩ := Ab.argCode.op base v0 d0 _ (hval 0 _ _ rfl rfl) r0 (fun n hn => of_decide_eq_true (List.all_eq_true.1 hsz _ (DataW.weights_mem_each (j := 0) (t := 22) rfl rfl n hn)))
  refine (Ab.lawW (vs := [v0]) (Ab.lawAr a0 h0) (fun σ ρ => by
    simp only [Ab.FRL]
    exact ⟨_, _, rfl, e0 σ ρ, rfl⟩)).mono fun e W' ⟨he, hb⟩ => ?_
  subst he
  exact ⟨_, rfl, Ab.post_of_below Ab.laidOut hW' rfl (fun t ht => by
    rw [Try.params4] at ht
    simp only [List.mem_cons, List.not_mem_nil, or_false] at ht
    rcases ht with rfl
    · exact ⟨Ab.argCode.rec_ (H := H) (enc := enc) (W := W), Ab.argCode.row (H := H) (enc := enc) (W := W)⟩) rfl rfl Try.underlying4 hb fun W' => Ab.okBool W'⟩

theorem over : Rows.fnArcsRow.holds Try.pinned (OpenSpec.ofChange Rows.fnArcsSpec) :=
  OpenClaim.holds_of_wide 4 Try.f4 rfl rfl rfl rfl rfl rfl rfl ⟨rfl, rfl, rfl, rfl, rfl⟩ rfl rfl rfl rfl rfl named Try.func4 joined inst wrap
    (fun os started H enc _ => lifted os started H enc)

end Go.Proofs.Ytncfmemhjahpeaa.fnArcs
namespace Go.Proofs.Ytncfmemhjahpeaa
theorem arcs_holds : Rows.FnArcsSaid := fnArcs.over
#print axioms arcs_holds
end Go.Proofs.Ytncfmemhjahpeaa
