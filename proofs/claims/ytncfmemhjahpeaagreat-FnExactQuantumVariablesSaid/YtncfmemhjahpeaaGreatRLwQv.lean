/- 'laws.FnExactQuantumVariables' answers true for all arguments. No condition. -/
import Derived.Test.YtncfmemhjahpeaaGreatRows
import Derived.SizedLaws
import Derived.Test.YtncfmemhjahpeaaGreatKqvc
import Derived.Test.YtncfmemhjahpeaaGreatRLwQvf
import Derived.Test.YtncfmemhjahpeaaGreatKqvf
namespace Go.Proofs.YtncfmemhjahpeaaGreat.fnExactQuantumVariables
open Go.ChangeShapes Go.WideShapes Go.ChangeAt Go.RowKit
set_option linter.unusedVariables false
set_option linter.unusedSimpArgs false

theorem own : ownKnob Tryz.prog.godebug = none := by kernel_rfl

set_option maxRecDepth 100000 in
theorem lifted (os : Os) (started : os.Started) (H : Type) (enc : TypeId × Value → H) :
    ReturnsInHanded {} Tryz.checked os 5 .any (Rows.fnExactQuantumVariablesSpec.pre6 enc Tryz.prog Tryz.f5 Rows.fnExactQuantumVariablesRow.domain false) (Rows.fnExactQuantumVariablesSpec.post enc Tryz.prog Tryz.f5 false true false false) := by
  refine returnsInHanded_of_change_sized (C := Tryz.checked) own started (by kernel_rfl) Tryz.func5
    (ChangeSpec.witness6 (enc := enc) (C := Tryz.checked) false ⟨#[], #[.agg #[.int .i64 0, .int .i64 0, .slice none 0 0], .slice none 0 0], []⟩ 8 (by kernel_rfl) (by kernel_rfl) (by kernel_rfl) (by kernel_rfl)) ?_
  intro W base args ds gs before hval0 hW hcnd hsz _
  have hval : ∀ (j : Nat) t v, Tryz.f5.params[j]? = some t → args[j]? = some v → Value.okWide Tryz.prog W .any base t v := hval0
  have hW' := hW
  obtain ⟨p, q, hA0, hV, rfl, hfz, hnd⟩ := hW
  have hA : DataW.TrodAll enc Tryz.prog W 0 (fun _ => true) true Tryz.f5.params.toList args.toList ds p := hA0
  rw [Tryz.params5] at hA hval
  obtain ⟨v0, v1, d0, d1, p0, p1, rfl, rfl, rfl, r0, r1⟩ := trodAll_two hA
  obtain ⟨rfl, rfl⟩ := trodVars_none hV
  clear hA0 hval0
  simp only [List.append_nil] at hW' hsz
  obtain ⟨a0, h0, e0⟩ := Ab.argMat.op base v0 d0 _ (hval 0 _ _ rfl rfl) r0 (fun n hn => of_decide_eq_true (List.all_eq_true.1 hsz _ (DataW.weights_mem_each (j := 0) (t := 56) rfl rfl n hn)))
  obtain ⟨a1, h1, e1⟩ := Ab.argInts.op base v1 d1 _ (hval 1 _ _ rfl rfl) r1 (fun n hn => of_decide_eq_true (List.all_eq_true.1 hsz _ (DataW.weights_mem_each (j := 1) (t := 24) rfl rfl n hn)))
  refine (Ab.lawW (vs := [v0, v1]) (Ab.lawQv a0 h0 a1 h1) (fun σ ρ => by
    simp only [Ab.FRL]
    exact ⟨_, _, rfl, e0 σ ρ, ⟨_, _, rfl, e1 σ ρ, rfl⟩⟩)).mono fun e W' ⟨he, hb⟩ => ?_
  subst he
  exact ⟨_, rfl, Ab.post_of_below Ab.laidOut hW' rfl (fun t ht => by
    rw [Tryz.params5] at ht
    simp only [List.mem_cons, List.not_mem_nil, or_false] at ht
    rcases ht with rfl | rfl
    · exact ⟨Ab.argMat.rec_ (H := H) (enc := enc) (W := W), Ab.argMat.row (H := H) (enc := enc) (W := W)⟩
    · exact ⟨Ab.argInts.rec_ (H := H) (enc := enc) (W := W), Ab.argInts.row (H := H) (enc := enc) (W := W)⟩) rfl rfl Tryz.underlying4 hb fun W' => Ab.okBool W'⟩

theorem over : Rows.fnExactQuantumVariablesRow.holds Tryz.pinned (OpenSpec.ofChange Rows.fnExactQuantumVariablesSpec) :=
  OpenClaim.holds_of_wide 5 Tryz.f5 rfl rfl rfl rfl rfl rfl rfl ⟨rfl, rfl, rfl, rfl, rfl⟩ rfl rfl rfl rfl rfl named Tryz.func5 joined inst wrap
    (fun os started H enc _ => lifted os started H enc)

end Go.Proofs.YtncfmemhjahpeaaGreat.fnExactQuantumVariables
namespace Go.Proofs.YtncfmemhjahpeaaGreat
theorem quantumVariables_holds : Rows.FnExactQuantumVariablesSaid := fnExactQuantumVariables.over
#print axioms quantumVariables_holds
end Go.Proofs.YtncfmemhjahpeaaGreat
