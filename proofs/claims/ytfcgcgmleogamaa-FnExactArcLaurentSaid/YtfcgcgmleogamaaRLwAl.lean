/- 'laws.FnExactArcLaurent' answers true for all arguments. No condition. -/
import Derived.Test.YtfcgcgmleogamaaRows
import Derived.SizedLaws
import Derived.Test.YtfcgcgmleogamaaKAlc
import Derived.Test.YtfcgcgmleogamaaRLwAlf
import Derived.Test.YtfcgcgmleogamaaKAle
namespace Go.Proofs.Ytfcgcgmleogamaa.fnExactArcLaurent
open Go.ChangeShapes Go.WideShapes Go.ChangeAt Go.RowKit
set_option linter.unusedVariables false
set_option linter.unusedSimpArgs false

theorem own : ownKnob Try.prog.godebug = none := by kernel_rfl

set_option maxRecDepth 100000 in
theorem lifted (os : Os) (started : os.Started) (H : Type) (enc : TypeId × Value → H) :
    ReturnsInHanded {} Try.checked os 8 .any (Rows.fnExactArcLaurentSpec.pre6 enc Try.prog Try.f8 Rows.fnExactArcLaurentRow.domain false) (Rows.fnExactArcLaurentSpec.post enc Try.prog Try.f8 false true false false) := by
  refine returnsInHanded_of_change_sized (C := Try.checked) own started (by kernel_rfl) Try.func8
    (ChangeSpec.witness6 (enc := enc) (C := Try.checked) false ⟨#[], #[.int .i64 0, .slice none 0 0, .agg #[.int .i64 0, .int .i64 0]], []⟩ 8 (by kernel_rfl) (by kernel_rfl) (by kernel_rfl) (by kernel_rfl)) ?_
  intro W base args ds gs before hval0 hW hcnd hsz _
  have hval : ∀ (j : Nat) t v, Try.f8.params[j]? = some t → args[j]? = some v → Value.okWide Try.prog W .any base t v := hval0
  have hW' := hW
  obtain ⟨p, q, hA0, hV, rfl, hfz, hnd⟩ := hW
  have hA : DataW.TrodAll enc Try.prog W 0 (fun _ => true) true Try.f8.params.toList args.toList ds p := hA0
  rw [Try.params8] at hA hval
  obtain ⟨v0, v1, v2, d0, d1, d2, p0, p1, p2, rfl, rfl, rfl, r0, r1, r2⟩ := trodAll_three hA
  obtain ⟨rfl, rfl⟩ := trodVars_none hV
  clear hA0 hval0
  simp only [List.append_nil] at hW' hsz
  obtain ⟨a0, h0, e0⟩ := Ab.argInt.op base v0 d0 _ (hval 0 _ _ rfl rfl) r0 (fun n hn => of_decide_eq_true (List.all_eq_true.1 hsz _ (DataW.weights_mem_each (j := 0) (t := 3) rfl rfl n hn)))
  obtain ⟨a1, h1, e1⟩ := Ab.argDgs.op base v1 d1 _ (hval 1 _ _ rfl rfl) r1 (fun n hn => of_decide_eq_true (List.all_eq_true.1 hsz _ (DataW.weights_mem_each (j := 1) (t := 77) rfl rfl n hn)))
  obtain ⟨a2, h2, e2⟩ := Ab.argDg.op base v2 d2 _ (hval 2 _ _ rfl rfl) r2 (fun n hn => of_decide_eq_true (List.all_eq_true.1 hsz _ (DataW.weights_mem_each (j := 2) (t := 78) rfl rfl n hn)))
  refine (Ab.lawW (vs := [v0, v1, v2]) (Ab.lawAl a0 a1 h1 a2) (fun σ ρ => by
    simp only [Ab.FRL]
    exact ⟨_, _, rfl, e0 σ ρ, ⟨_, _, rfl, e1 σ ρ, ⟨_, _, rfl, e2 σ ρ, rfl⟩⟩⟩)).mono fun e W' ⟨he, hb⟩ => ?_
  subst he
  exact ⟨_, rfl, Ab.post_of_below Ab.laidOut hW' rfl (fun t ht => by
    rw [Try.params8] at ht
    simp only [List.mem_cons, List.not_mem_nil, or_false] at ht
    rcases ht with rfl | rfl | rfl
    · exact ⟨Ab.argInt.rec_ (H := H) (enc := enc) (W := W), Ab.argInt.row (H := H) (enc := enc) (W := W)⟩
    · exact ⟨Ab.argDgs.rec_ (H := H) (enc := enc) (W := W), Ab.argDgs.row (H := H) (enc := enc) (W := W)⟩
    · exact ⟨Ab.argDg.rec_ (H := H) (enc := enc) (W := W), Ab.argDg.row (H := H) (enc := enc) (W := W)⟩) rfl rfl Try.underlying4 hb fun W' => Ab.okBool W'⟩

theorem over : Rows.fnExactArcLaurentRow.holds Try.pinned (OpenSpec.ofChange Rows.fnExactArcLaurentSpec) :=
  OpenClaim.holds_of_wide 8 Try.f8 rfl rfl rfl rfl rfl rfl rfl ⟨rfl, rfl, rfl, rfl, rfl⟩ rfl rfl rfl rfl rfl named Try.func8 joined inst wrap
    (fun os started H enc _ => lifted os started H enc)

end Go.Proofs.Ytfcgcgmleogamaa.fnExactArcLaurent
namespace Go.Proofs.Ytfcgcgmleogamaa
theorem arcLaurent_holds : Rows.FnExactArcLaurentSaid := fnExactArcLaurent.over
#print axioms arcLaurent_holds
end Go.Proofs.Ytfcgcgmleogamaa
