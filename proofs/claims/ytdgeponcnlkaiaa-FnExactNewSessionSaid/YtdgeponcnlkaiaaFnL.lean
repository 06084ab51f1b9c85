/- The first session is the same on both sides, and is fresh at each call. No condition. -/
import Derived.Test.YtdgeponcnlkaiaaFnK
namespace Go.Proofs.Ytdgeponcnlkaiaa.Ab
open Go
set_option linter.unusedSimpArgs false
set_option linter.unusedVariables false
set_option maxRecDepth 10000
set_option maxHeartbeats 2000000
theorem mono_small (e : List Int) (he : e.length = 2) : (monoF e).ts.length ≤ 1 ∧ (∀ t ∈ (monoF e).ts, t.e.length ≤ 2) ∧ cntF (monoF e) ≤ 4 := by
  unfold monoF
  split
  · simp [cntF, cntL, cntT, he]
  · simp [zeroF, cntF, cntL]
theorem vars2 : varsL 2 = [monoF (unitL 2 0), monoF (unitL 2 1)] := rfl
theorem vars_small : ∀ f ∈ varsL 2, f.ts.length ≤ 1 ∧ (∀ t ∈ f.ts, t.e.length ≤ 2) ∧ cntF f ≤ 4 := by
  intro f hf
  rw [vars2] at hf
  simp only [List.mem_cons, List.not_mem_nil, or_false] at hf
  rcases hf with rfl | rfl
  · exact mono_small _ (unitL_length 2 0)
  · exact mono_small _ (unitL_length 2 1)
theorem z0_count : cntZ z0 ≤ 100 := by
  have h1 := (vars_small (monoF (unitL 2 0)) (by rw [vars2]; simp)).2.2
  have h2 := (vars_small (monoF (unitL 2 1)) (by rw [vars2]; simp)).2.2
  simp only [cntZ, cntS, vars2, cntL, List.length_cons, List.length_nil]
  omega
theorem z0_sm : SmZ z0 := by
  refine ⟨by simp, by simp, by simp, by simp [vars2], fun f hf => ?_⟩
  have := vars_small f hf
  exact ⟨by omega, fun t ht => by have := this.2.1 t ht; omega⟩
theorem impl_NewSession_calls (hf : ACalls Try.prog F.impl_factors [.ag [.int 2, .int 2, .d (.sh 1 4 (ints [0, 1, -1, 0]))]] [] true (fun outs res => outs = [] ∧ res = [.one (.ow 1 2 (ints [1, 1]))])) : ACalls Try.prog F.impl_NewSession [] [] true (fun outs res => outs = [] ∧ res = [.ag (zO z0)]) := by
  refine ACalls.of_body (C := C.impl_NewSession) (n := Try.f16.ntmps) tabT folT Try.func16 rfl (by kernel_rfl) rfl (Nat.le_of_ble_eq_true rfl) (by decide) (by kernel_rfl) (by kernel_rfl) rfl (by simp) (by simp) ?_
  simp only [Try.f16]
  refine wseq ?_
  refine wreg fun K hK => ?_
  simp [C.impl_NewSession]
  refine hK _ ?_; clear hK K
  show AWp _ _ _ _ _
  refine wseq ?_
  refine wregI ([0, 1, 2] ++ ([3, 4, 5, 6, 7, 8])) rfl fun K hK => ?_
  refine opsI_seg fun L hL => ?_
  simp [C.impl_NewSession, ints0, zO]
  refine wcall1 ((impl_started_calls (impl_MatrixOk_calls hf) (fun f hf => by have := vars_small f hf; exact ⟨by omega, fun t ht => by have := this.2.1 t ht; omega⟩)).weak1) (by simp) (by simp) ?_
  simp [C.impl_NewSession, ints0, zO]
  refine hL _ ?_; clear hL L
  refine opsI_end fun L hL => ?_
  simp [C.impl_NewSession, ints0, zO]
  refine hL _ ?_; clear hL L
  simp [C.impl_NewSession, ints0, zO]
  refine hK _ ?_; clear hK K
  show AWp _ _ _ _ _
  refine wseq ?_
  refine wreg fun K hK => ?_
  simp [C.impl_NewSession]
  refine hK _ ?_; clear hK K
  show AWp _ _ _ _ _
  refine wret ?_
  simp [C.impl_NewSession, zO]

theorem laws_FnExactNewSession_calls (hf : ACalls Try.prog F.impl_factors [.ag [.int 2, .int 2, .d (.sh 1 4 (ints [0, 1, -1, 0]))]] [] true (fun outs res => outs = [] ∧ res = [.one (.ow 1 2 (ints [1, 1]))])) : ACalls Try.prog F.laws_FnExactNewSession [] [] true (fun outs res => outs = [] ∧ res = [.one (D.bool true)]) := by
  have hsm := z0_sm
  have hct := z0_count
  refine ACalls.of_body (C := C.laws_FnExactNewSession) (n := Try.f3.ntmps) tabT folT Try.func3 rfl (by kernel_rfl) rfl (Nat.le_of_ble_eq_true rfl) (by decide) (by kernel_rfl) (by kernel_rfl) rfl (by simp) (by simp) ?_
  simp only [Try.f3]
  refine wseq ?_
  refine wreg fun K hK => ?_
  simp [C.laws_FnExactNewSession, zO]
  refine hK _ ?_; clear hK K
  show AWp _ _ _ _ _
  refine wseq ?_
  refine wregI ([0] ++ ([1, 2])) rfl fun K hK => ?_
  refine opsI_seg fun L hL => ?_
  simp [C.laws_FnExactNewSession, zO]
  refine wcall1 (spec_NewSession_calls) (by simp) (by simp) ?_
  simp [C.laws_FnExactNewSession, zO]
  refine hL _ ?_; clear hL L
  refine opsI_end fun L hL => ?_
  simp [C.laws_FnExactNewSession, zO]
  refine hL _ ?_; clear hL L
  simp [C.laws_FnExactNewSession, zO]
  refine hK _ ?_; clear hK K
  show AWp _ _ _ _ _
  refine wseq ?_
  refine wregI ([0] ++ ([1, 2])) rfl fun K hK => ?_
  refine opsI_seg fun L hL => ?_
  simp [C.laws_FnExactNewSession, zO]
  refine wcall1 (impl_NewSession_calls hf) (by simp) (by simp) ?_
  simp [C.laws_FnExactNewSession, zO]
  refine hL _ ?_; clear hL L
  refine opsI_end fun L hL => ?_
  simp [C.laws_FnExactNewSession, zO]
  refine hL _ ?_; clear hL L
  simp [C.laws_FnExactNewSession, zO]
  refine hK _ ?_; clear hK K
  show AWp _ _ _ _ _
  refine wseq ?_
  refine wseq ?_
  refine wregI ([0, 1, 2] ++ ([3])) rfl fun K hK => ?_
  refine opsI_seg fun L hL => ?_
  simp [C.laws_FnExactNewSession, zO]
  refine wcall1 (laws_eqSession_calls z0 z0 hsm) (by simp) (by simp) ?_
  simp [C.laws_FnExactNewSession, zO]
  refine hL _ ?_; clear hL L
  refine opsI_end fun L hL => ?_
  simp [C.laws_FnExactNewSession, zO]
  refine hL _ ?_; clear hL L
  simp [C.laws_FnExactNewSession, zO]
  refine hK _ ?_; clear hK K
  show AWp _ _ _ _ _
  refine wcond _ rfl (fun hc1 => ?_) (fun hc1 => ?_)
  · simp at hc1
  · refine wskip ?_
    show AWp _ _ _ _ _
    refine wseq ?_
    refine wreg fun K hK => ?_
    simp [C.laws_FnExactNewSession, zO]
    refine hK _ ?_; clear hK K
    show AWp _ _ _ _ _
    refine wseq ?_
    refine wregI ([0, 1, 2] ++ ([3])) rfl fun K hK => ?_
    refine opsI_seg fun L hL => ?_
    simp [C.laws_FnExactNewSession, zO]
    refine wcall1 (laws_markSession_calls z0 1 (by omega) (by omega) hsm) (by simp) (by simp) ?_
    simp [C.laws_FnExactNewSession, zO]
    refine hL _ ?_; clear hL L
    refine opsI_end fun L hL => ?_
    simp [C.laws_FnExactNewSession, zO]
    refine hL _ ?_; clear hL L
    simp [C.laws_FnExactNewSession, zO]
    refine hK _ ?_; clear hK K
    show AWp _ _ _ _ _
    refine wseq ?_
    refine wreg fun K hK => ?_
    simp [C.laws_FnExactNewSession, zO]
    refine hK _ ?_; clear hK K
    show AWp _ _ _ _ _
    refine wseq ?_
    refine wregI ([0, 1, 2] ++ ([3])) rfl fun K hK => ?_
    refine opsI_seg fun L hL => ?_
    simp [C.laws_FnExactNewSession, zO]
    refine wcall1 (laws_heldSession_calls z0 2 2 2 2 1 (by omega) (by omega) hsm) (by simp) (by simp) ?_
    simp [C.laws_FnExactNewSession, zO]
    refine hL _ ?_; clear hL L
    refine opsI_end fun L hL => ?_
    simp [C.laws_FnExactNewSession, zO]
    refine hL _ ?_; clear hL L
    simp [C.laws_FnExactNewSession, zO]
    refine hK _ ?_; clear hK K
    show AWp _ _ _ _ _
    refine wseq ?_
    refine wseq ?_
    refine wreg fun K hK => ?_
    simp [C.laws_FnExactNewSession, zO]
    refine hK _ ?_; clear hK K
    show AWp _ _ _ _ _
    refine wcond _ rfl (fun hc2 => ?_) (fun hc2 => ?_)
    · simp at hc2; omega
    · refine wskip ?_
      show AWp _ _ _ _ _
      refine wseq ?_
      refine wseq ?_
      refine wreg fun K hK => ?_
      simp [C.laws_FnExactNewSession, zO]
      refine hK _ ?_; clear hK K
      show AWp _ _ _ _ _
      refine wcond _ rfl (fun hc3 => ?_) (fun hc3 => ?_)
      · simp at hc3
      · refine wskip ?_
        show AWp _ _ _ _ _
        refine wseq ?_
        refine wregI ([0] ++ ([1, 2])) rfl fun K hK => ?_
        refine opsI_seg fun L hL => ?_
        simp [C.laws_FnExactNewSession, zO]
        refine wcall1 (impl_NewSession_calls hf) (by simp) (by simp) ?_
        simp [C.laws_FnExactNewSession, zO]
        refine hL _ ?_; clear hL L
        refine opsI_end fun L hL => ?_
        simp [C.laws_FnExactNewSession, zO]
        refine hL _ ?_; clear hL L
        simp [C.laws_FnExactNewSession, zO]
        refine hK _ ?_; clear hK K
        show AWp _ _ _ _ _
        refine wseq ?_
        refine wseq ?_
        refine wregI ([0, 1, 2] ++ ([3])) rfl fun K hK => ?_
        refine opsI_seg fun L hL => ?_
        simp [C.laws_FnExactNewSession, zO]
        refine wcall1 (laws_eqSession_calls z0 z0 hsm) (by simp) (by simp) ?_
        simp [C.laws_FnExactNewSession, zO]
        refine hL _ ?_; clear hL L
        refine opsI_end fun L hL => ?_
        simp [C.laws_FnExactNewSession, zO]
        refine hL _ ?_; clear hL L
        simp [C.laws_FnExactNewSession, zO]
        refine hK _ ?_; clear hK K
        show AWp _ _ _ _ _
        refine wcond _ rfl (fun hc4 => ?_) (fun hc4 => ?_)
        · simp at hc4
        · refine wskip ?_
          show AWp _ _ _ _ _
          refine wseq ?_
          refine wreg fun K hK => ?_
          simp [C.laws_FnExactNewSession, zO]
          refine hK _ ?_; clear hK K
          show AWp _ _ _ _ _
          refine wseq ?_
          refine wregI ([0, 1, 2] ++ ([3])) rfl fun K hK => ?_
          refine opsI_seg fun L hL => ?_
          simp [C.laws_FnExactNewSession, zO]
          refine wcall1 (laws_heldSession_calls z0 2 2 2 2 1 (by omega) (by omega) hsm) (by simp) (by simp) ?_
          simp [C.laws_FnExactNewSession, zO]
          refine hL _ ?_; clear hL L
          refine opsI_end fun L hL => ?_
          simp [C.laws_FnExactNewSession, zO]
          refine hL _ ?_; clear hL L
          simp [C.laws_FnExactNewSession, zO]
          refine hK _ ?_; clear hK K
          show AWp _ _ _ _ _
          refine wseq ?_
          refine wseq ?_
          refine wreg fun K hK => ?_
          simp [C.laws_FnExactNewSession, zO]
          refine hK _ ?_; clear hK K
          show AWp _ _ _ _ _
          refine wcond _ rfl (fun hc5 => ?_) (fun hc5 => ?_)
          · simp at hc5; omega
          · refine wskip ?_
            show AWp _ _ _ _ _
            refine wseq ?_
            refine wseq ?_
            refine wreg fun K hK => ?_
            simp [C.laws_FnExactNewSession, zO]
            refine hK _ ?_; clear hK K
            show AWp _ _ _ _ _
            refine wcond _ rfl (fun hc6 => ?_) (fun hc6 => ?_)
            · simp at hc6
            · refine wskip ?_
              show AWp _ _ _ _ _
              refine wseq ?_
              refine wreg fun K hK => ?_
              simp [C.laws_FnExactNewSession, zO]
              refine hK _ ?_; clear hK K
              show AWp _ _ _ _ _
              refine wret ?_
              simp [C.laws_FnExactNewSession, zO]

end Go.Proofs.Ytdgeponcnlkaiaa.Ab
