/- The law of products of quantum sums. More arguments of this program's laws, read as trees: lists of lists, quantum sums. Products of quantum sums: the law, without a premise left. No condition. -/
import Derived.Test.YtdgeponcnlkaiaaKMd
import Derived.Test.YtdgeponcnlkaiaaKMc
set_option linter.unusedVariables false
set_option linter.unusedSimpArgs false
namespace Go.Proofs.Ytdgeponcnlkaiaa.Ab
open Go
set_option linter.unusedSimpArgs false
set_option linter.unusedVariables false
set_option maxRecDepth 10000
set_option maxHeartbeats 2000000
theorem laws_FnExactMulQSums_calls (hDone : DoneOkQ) (fm : List (List Int)) (fm1 : fm.length < 4611686018427387904) (fm2 : ∀ t ∈ fm, t.length < 4611686018427387904) (fm3 : I64 fm) (f : Qsm) (f1 : f.ts.length < 4611686018427387904) (f2 : ∀ t ∈ f.ts, t.e.length < 4611686018427387904) (h : Qsm) (h1 : h.ts.length < 4611686018427387904) (h2 : ∀ t ∈ h.ts, t.e.length < 4611686018427387904) : ACalls Try.prog F.laws_FnExactMulQSums [.d (.sh 1 fm.length (rows lS fm)), aQ f, aQ h] [] true (fun outs res => outs = [] ∧ res = [.one (D.bool true)]) := by
  have hgs := mulQF_small fm f h
  have hw := sMulQ_calls fm f h fm1 fm3 f1 f2 h1 h2
  have hg := iMulQ_calls hDone fm f h fm1 fm3 f1 f2 h1 h2
  generalize mulQF fm f h = g at hgs hw hg
  obtain ⟨g, b⟩ := g
  obtain ⟨hg1, hg2, hg3⟩ := hgs
  dsimp only at hg1 hg2 hg3
  dsimp only at hw hg
  refine ACalls.of_body (C := C.laws_FnExactMulQSums) (n := Try.f14.ntmps) tabT folT Try.func14 rfl (by kernel_rfl) rfl (Nat.le_of_ble_eq_true rfl) (by decide) (by kernel_rfl) (by kernel_rfl) rfl (by simp) (by simp) ?_
  simp only [Try.f14]
  refine wseq ?_
  refine wreg fun K hK => ?_
  simp [C.laws_FnExactMulQSums, qO, qS]
  refine hK _ ?_; clear hK K
  show AWp _ _ _ _ _
  refine wseq ?_
  refine wreg fun K hK => ?_
  simp [C.laws_FnExactMulQSums, qO, qS]
  refine hK _ ?_; clear hK K
  show AWp _ _ _ _ _
  refine wseq ?_
  refine wregI ([0, 1, 2] ++ ([3])) rfl fun K hK => ?_
  refine opsI_seg fun L hL => ?_
  simp [C.laws_FnExactMulQSums, qO, qS]
  refine wcall (laws_szIntSS_calls fm 1048576 (by omega) (by omega) fm1 fm2) (by simp) (by simp) (by simp) ?_
  rintro outs res ⟨rfl, r1, rfl, hr1⟩
  simp [C.laws_FnExactMulQSums, qO, qS]
  refine hL _ ?_; clear hL L
  refine opsI_end fun L hL => ?_
  simp [C.laws_FnExactMulQSums, qO, qS]
  refine hL _ ?_; clear hL L
  simp [C.laws_FnExactMulQSums, qO, qS]
  refine hK _ ?_; clear hK K
  show AWp _ _ _ _ _
  refine wseq ?_
  refine wseq ?_
  refine wreg fun K hK => ?_
  simp [C.laws_FnExactMulQSums, qO, qS]
  refine hK _ ?_; clear hK K
  show AWp _ _ _ _ _
  refine wcond _ rfl (fun hc1 => ?_) (fun hc1 => ?_)
  · refine wseq ?_
    refine wreg fun K hK => ?_
    simp [C.laws_FnExactMulQSums, qO, qS]
    refine hK _ ?_; clear hK K
    show AWp _ _ _ _ _
    refine wret ?_
    simp [C.laws_FnExactMulQSums, qO, qS]
  · have q1 : 0 ≤ r1 := by have := d_f hc1; omega
    refine wskip ?_
    show AWp _ _ _ _ _
    refine wseq ?_
    refine wregI ([0, 1, 2] ++ ([3])) rfl fun K hK => ?_
    refine opsI_seg fun L hL => ?_
    simp [C.laws_FnExactMulQSums, qO, qS]
    refine wcall (laws_szQSum_calls f r1 (by omega) (by omega) f1 f2) (by simp) (by simp) (by simp) ?_
    rintro outs res ⟨rfl, r2, rfl, hr2⟩
    simp [C.laws_FnExactMulQSums, qO, qS]
    refine hL _ ?_; clear hL L
    refine opsI_end fun L hL => ?_
    simp [C.laws_FnExactMulQSums, qO, qS]
    refine hL _ ?_; clear hL L
    simp [C.laws_FnExactMulQSums, qO, qS]
    refine hK _ ?_; clear hK K
    show AWp _ _ _ _ _
    refine wseq ?_
    refine wseq ?_
    refine wreg fun K hK => ?_
    simp [C.laws_FnExactMulQSums, qO, qS]
    refine hK _ ?_; clear hK K
    show AWp _ _ _ _ _
    refine wcond _ rfl (fun hc2 => ?_) (fun hc2 => ?_)
    · refine wseq ?_
      refine wreg fun K hK => ?_
      simp [C.laws_FnExactMulQSums, qO, qS]
      refine hK _ ?_; clear hK K
      show AWp _ _ _ _ _
      refine wret ?_
      simp [C.laws_FnExactMulQSums, qO, qS]
    · have q2 : 0 ≤ r2 := by have := d_f hc2; omega
      refine wskip ?_
      show AWp _ _ _ _ _
      refine wseq ?_
      refine wregI ([0, 1, 2] ++ ([3])) rfl fun K hK => ?_
      refine opsI_seg fun L hL => ?_
      simp [C.laws_FnExactMulQSums, qO, qS]
      refine wcall (laws_szQSum_calls h r2 (by omega) (by omega) h1 h2) (by simp) (by simp) (by simp) ?_
      rintro outs res ⟨rfl, r3, rfl, hr3⟩
      simp [C.laws_FnExactMulQSums, qO, qS]
      refine hL _ ?_; clear hL L
      refine opsI_end fun L hL => ?_
      simp [C.laws_FnExactMulQSums, qO, qS]
      refine hL _ ?_; clear hL L
      simp [C.laws_FnExactMulQSums, qO, qS]
      refine hK _ ?_; clear hK K
      show AWp _ _ _ _ _
      refine wseq ?_
      refine wseq ?_
      refine wreg fun K hK => ?_
      simp [C.laws_FnExactMulQSums, qO, qS]
      refine hK _ ?_; clear hK K
      show AWp _ _ _ _ _
      refine wcond _ rfl (fun hc3 => ?_) (fun hc3 => ?_)
      · refine wseq ?_
        refine wreg fun K hK => ?_
        simp [C.laws_FnExactMulQSums, qO, qS]
        refine hK _ ?_; clear hK K
        show AWp _ _ _ _ _
        refine wret ?_
        simp [C.laws_FnExactMulQSums, qO, qS]
      · have q3 : 0 ≤ r3 := by have := d_f hc3; omega
        obtain ⟨fml, fme⟩ := szL_small2 (ls := fm) q1 (by omega)
        have fmk : cntL List.length fm ≤ 1048576 := szL_cnt2 q1 (by omega)
        obtain ⟨fl, fe⟩ := szQ_small2 (ts := f.ts) q2 (by omega)
        have fk : cntL cntQT f.ts ≤ 3145728 := szQ_cnt2 q2 (by omega)
        obtain ⟨hl, he⟩ := szQ_small2 (ts := h.ts) q3 (by omega)
        have hk : cntL cntQT h.ts ≤ 3145728 := szQ_cnt2 q3 (by omega)
        refine wskip ?_
        show AWp _ _ _ _ _
        refine wseq ?_
        refine wdraw (.take 0 (.take 2 (.take 4 (.all [(1, .all [(3, .all [(5, .all [(6, .take 7 (.take 8 (.take 9 (.all [(10, .all [(11, .take 12 (.done))])])))), (10, .all [(6, .take 7 (.take 8 (.take 9 (.all [(11, .take 12 (.done))]))))])]), (10, .all [(5, .all [(6, .take 7 (.take 8 (.take 9 (.all [(11, .take 12 (.done))]))))])])]), (10, .all [(3, .all [(5, .all [(6, .take 7 (.take 8 (.take 9 (.all [(11, .take 12 (.done))]))))])])])]), (10, .all [(1, .all [(3, .all [(5, .all [(6, .take 7 (.take 8 (.take 9 (.all [(11, .take 12 (.done))]))))])])])])])))) ⟨by kernel_rfl, by kernel_rfl⟩ fun K hK => ?_
        have hJ : K ⟨ofL [(0, .d (.sh 1 fm.length (rows lS fm))), (4, .pt (4, 0) [] 0), (5, .pt (5, 0) [] 0), (8, .pt (8, 0) [] 0), (9, .bool b)], ofRO [((4, 0), some (.bx (qS f))), ((5, 0), some (.bx (qS h))), ((8, 0), some (.bx (qO g)))]⟩ := by
          refine hK _ ?_; clear hK K
          show AWp _ _ _ _ _
          refine wseq ?_
          refine wregI ([0, 1] ++ ([2])) rfl fun K hK => ?_
          refine opsI_seg fun L hL => ?_
          simp [C.laws_FnExactMulQSums, qO, qS]
          refine wcall1 (laws_toIntSS_calls fm fml fme) (by simp) (by simp) ?_
          simp [C.laws_FnExactMulQSums, qO, qS]
          refine hL _ ?_; clear hL L
          refine opsI_end fun L hL => ?_
          simp [C.laws_FnExactMulQSums, qO, qS]
          refine hL _ ?_; clear hL L
          simp [C.laws_FnExactMulQSums, qO, qS]
          refine hK _ ?_; clear hK K
          show AWp _ _ _ _ _
          refine wseq ?_
          refine wregI ([0, 1] ++ ([2, 3])) rfl fun K hK => ?_
          refine opsI_seg fun L hL => ?_
          simp [C.laws_FnExactMulQSums, qO, qS]
          refine wcall1 (laws_toQSum_calls f fl fe) (by simp) (by simp) ?_
          simp [C.laws_FnExactMulQSums, qO, qS]
          refine hL _ ?_; clear hL L
          refine opsI_end fun L hL => ?_
          simp [C.laws_FnExactMulQSums, qO, qS]
          refine hL _ ?_; clear hL L
          simp [C.laws_FnExactMulQSums, qO, qS]
          refine hK _ ?_; clear hK K
          show AWp _ _ _ _ _
          refine wseq ?_
          refine wregI ([0, 1] ++ ([2, 3])) rfl fun K hK => ?_
          refine opsI_seg fun L hL => ?_
          simp [C.laws_FnExactMulQSums, qO, qS]
          refine wcall1 (laws_toQSum_calls h hl he) (by simp) (by simp) ?_
          simp [C.laws_FnExactMulQSums, qO, qS]
          refine hL _ ?_; clear hL L
          refine opsI_end fun L hL => ?_
          simp [C.laws_FnExactMulQSums, qO, qS]
          refine hL _ ?_; clear hL L
          simp [C.laws_FnExactMulQSums, qO, qS]
          refine hK _ ?_; clear hK K
          show AWp _ _ _ _ _
          refine wseq ?_
          refine wregI ([0, 1, 2, 3] ++ ([4, 5, 6, 7, 8, 9])) rfl fun K hK => ?_
          refine opsI_seg fun L hL => ?_
          simp [C.laws_FnExactMulQSums, qO, qS]
          refine wcall1 (hg) (by simp) (by simp) ?_
          simp [C.laws_FnExactMulQSums, qO, qS]
          refine hL _ ?_; clear hL L
          refine opsI_end fun L hL => ?_
          simp [C.laws_FnExactMulQSums, qO, qS]
          refine hL _ ?_; clear hL L
          simp [C.laws_FnExactMulQSums, qO, qS]
          refine hK _ ?_; clear hK K
          show AWp _ _ _ _ _
          refine wseq ?_
          refine wseq ?_
          refine wregI ([0, 1, 2] ++ ([3, 4, 5, 6, 7, 8])) rfl fun K hK => ?_
          refine opsI_seg fun L hL => ?_
          simp [C.laws_FnExactMulQSums, qO, qS]
          refine wcall1 (laws_eqQSum_calls g g (by omega) (fun t ht => by have := hg2 t ht; omega)) (by simp) (by simp) ?_
          simp [C.laws_FnExactMulQSums, qO, qS]
          refine hL _ ?_; clear hL L
          refine opsI_end fun L hL => ?_
          simp [C.laws_FnExactMulQSums, qO, qS]
          refine hL _ ?_; clear hL L
          simp [C.laws_FnExactMulQSums, qO, qS]
          refine hK _ ?_; clear hK K
          show AWp _ _ _ _ _
          refine wcond _ rfl (fun hc4 => ?_) (fun hc4 => ?_)
          · simp at hc4
          · refine wskip ?_
            show AWp _ _ _ _ _
            refine wseq ?_
            refine wseq ?_
            refine wregI ([0, 1, 2] ++ ([3] ++ ([4]))) rfl fun K hK => ?_
            refine opsI_seg fun L hL => ?_
            simp [C.laws_FnExactMulQSums, qO, qS]
            refine wcall1 (laws_toIntSS_calls fm fml fme) (by simp) (by simp) ?_
            simp [C.laws_FnExactMulQSums, qO, qS]
            refine hL _ ?_; clear hL L
            refine opsI_seg fun L hL => ?_
            simp [C.laws_FnExactMulQSums, qO, qS]
            refine wcall1 (laws_eqIntSS_calls fm fm fm1 fm2) (by simp) (by simp) ?_
            simp [C.laws_FnExactMulQSums, qO, qS]
            refine hL _ ?_; clear hL L
            refine opsI_end fun L hL => ?_
            simp [C.laws_FnExactMulQSums, qO, qS]
            refine hL _ ?_; clear hL L
            simp [C.laws_FnExactMulQSums, qO, qS]
            refine hK _ ?_; clear hK K
            show AWp _ _ _ _ _
            refine wcond _ rfl (fun hc5 => ?_) (fun hc5 => ?_)
            · simp at hc5
            · refine wskip ?_
              show AWp _ _ _ _ _
              refine wseq ?_
              refine wseq ?_
              refine wdrawI [(true, 0), (true, 1), (false, 2), (false, 3), (true, 4)] ⟨by kernel_rfl, by kernel_rfl⟩ ([0, 1, 2] ++ ([3] ++ ([4]))) rfl fun K hK => ?_
              refine opsI_seg fun L hL => ?_
              simp [C.laws_FnExactMulQSums, qO, qS]
              refine wcall1 (laws_toQSum_calls f fl fe) (by simp) (by simp) ?_
              simp [C.laws_FnExactMulQSums, qO, qS]
              refine hL _ ?_; clear hL L
              refine opsI_seg fun L hL => ?_
              simp [C.laws_FnExactMulQSums, qO, qS]
              refine wcall1 (laws_eqQSum_calls f f f1 f2) (by simp) (by simp) ?_
              simp [C.laws_FnExactMulQSums, qO, qS]
              refine hL _ ?_; clear hL L
              refine opsI_end fun L hL => ?_
              simp [C.laws_FnExactMulQSums, qO, qS]
              refine hL _ ?_; clear hL L
              simp [C.laws_FnExactMulQSums, qO, qS]
              refine hK _ ?_; clear hK K
              show AWp _ _ _ _ _
              refine wcond _ rfl (fun hc6 => ?_) (fun hc6 => ?_)
              · simp at hc6
              · refine wskip ?_
                show AWp _ _ _ _ _
                refine wseq ?_
                refine wseq ?_
                refine wdrawI [(true, 0), (true, 1), (false, 2), (false, 3), (true, 4)] ⟨by kernel_rfl, by kernel_rfl⟩ ([0, 1, 2] ++ ([3] ++ ([4]))) rfl fun K hK => ?_
                refine opsI_seg fun L hL => ?_
                simp [C.laws_FnExactMulQSums, qO, qS]
                refine wcall1 (laws_toQSum_calls h hl he) (by simp) (by simp) ?_
                simp [C.laws_FnExactMulQSums, qO, qS]
                refine hL _ ?_; clear hL L
                refine opsI_seg fun L hL => ?_
                simp [C.laws_FnExactMulQSums, qO, qS]
                refine wcall1 (laws_eqQSum_calls h h h1 h2) (by simp) (by simp) ?_
                simp [C.laws_FnExactMulQSums, qO, qS]
                refine hL _ ?_; clear hL L
                refine opsI_end fun L hL => ?_
                simp [C.laws_FnExactMulQSums, qO, qS]
                refine hL _ ?_; clear hL L
                simp [C.laws_FnExactMulQSums, qO, qS]
                refine hK _ ?_; clear hK K
                show AWp _ _ _ _ _
                refine wcond _ rfl (fun hc7 => ?_) (fun hc7 => ?_)
                · simp at hc7
                · refine wskip ?_
                  show AWp _ _ _ _ _
                  refine wseq ?_
                  refine wreg fun K hK => ?_
                  simp [C.laws_FnExactMulQSums, qO, qS]
                  refine hK _ ?_; clear hK K
                  show AWp _ _ _ _ _
                  refine wseq ?_
                  refine wregI ([0, 1, 2] ++ ([3])) rfl fun K hK => ?_
                  refine opsI_seg fun L hL => ?_
                  simp [C.laws_FnExactMulQSums, qO, qS]
                  refine wcall1 (laws_markIntSS_calls fm 1 (by omega) (by omega) fm1) (by simp) (by simp) ?_
                  simp [C.laws_FnExactMulQSums, qO, qS]
                  refine hL _ ?_; clear hL L
                  refine opsI_end fun L hL => ?_
                  simp [C.laws_FnExactMulQSums, qO, qS]
                  refine hL _ ?_; clear hL L
                  simp [C.laws_FnExactMulQSums, qO, qS]
                  refine hK _ ?_; clear hK K
                  show AWp _ _ _ _ _
                  refine wseq ?_
                  refine wregI ([0, 1, 2] ++ ([3])) rfl fun K hK => ?_
                  refine opsI_seg fun L hL => ?_
                  simp [C.laws_FnExactMulQSums, qO, qS]
                  refine wcall1 (laws_markQSum_calls f ((1 : Int) + (cntL List.length fm : Nat)) (by omega) (by omega) f1) (by simp) (by simp) ?_
                  simp [C.laws_FnExactMulQSums, qO, qS]
                  refine hL _ ?_; clear hL L
                  refine opsI_end fun L hL => ?_
                  simp [C.laws_FnExactMulQSums, qO, qS]
                  refine hL _ ?_; clear hL L
                  simp [C.laws_FnExactMulQSums, qO, qS]
                  refine hK _ ?_; clear hK K
                  show AWp _ _ _ _ _
                  refine wseq ?_
                  refine wregI ([0, 1, 2] ++ ([3])) rfl fun K hK => ?_
                  refine opsI_seg fun L hL => ?_
                  simp [C.laws_FnExactMulQSums, qO, qS]
                  refine wcall1 (laws_markQSum_calls h ((1 : Int) + (cntL List.length fm : Nat) + (cntL cntQT f.ts : Nat)) (by omega) (by omega) h1) (by simp) (by simp) ?_
                  simp [C.laws_FnExactMulQSums, qO, qS]
                  refine hL _ ?_; clear hL L
                  refine opsI_end fun L hL => ?_
                  simp [C.laws_FnExactMulQSums, qO, qS]
                  refine hL _ ?_; clear hL L
                  simp [C.laws_FnExactMulQSums, qO, qS]
                  refine hK _ ?_; clear hK K
                  show AWp _ _ _ _ _
                  refine wseq ?_
                  refine wseq ?_
                  refine wregI ([0, 1, 2, 3, 4, 5] ++ ([6, 7, 8, 9, 10, 11, 12])) rfl fun K hK => ?_
                  refine opsI_seg fun L hL => ?_
                  simp [C.laws_FnExactMulQSums, qO, qS, show (0 : Int) ≤ (1 : Int) + (cntL List.length fm : Nat) + (cntL cntQT f.ts : Nat) + (cntL cntQT h.ts : Nat) by omega, show ¬ ((1 : Int) + (cntL List.length fm : Nat) + (cntL cntQT f.ts : Nat) + (cntL cntQT h.ts : Nat) < 0) by omega]
                  refine wcall1 (laws_eqQSum_calls g g (by omega) (fun t ht => by have := hg2 t ht; omega)) (by simp) (by simp) ?_
                  simp [C.laws_FnExactMulQSums, qO, qS, show (0 : Int) ≤ (1 : Int) + (cntL List.length fm : Nat) + (cntL cntQT f.ts : Nat) + (cntL cntQT h.ts : Nat) by omega, show ¬ ((1 : Int) + (cntL List.length fm : Nat) + (cntL cntQT f.ts : Nat) + (cntL cntQT h.ts : Nat) < 0) by omega]
                  refine hL _ ?_; clear hL L
                  refine opsI_end fun L hL => ?_
                  simp [C.laws_FnExactMulQSums, qO, qS, show (0 : Int) ≤ (1 : Int) + (cntL List.length fm : Nat) + (cntL cntQT f.ts : Nat) + (cntL cntQT h.ts : Nat) by omega, show ¬ ((1 : Int) + (cntL List.length fm : Nat) + (cntL cntQT f.ts : Nat) + (cntL cntQT h.ts : Nat) < 0) by omega]
                  refine hL _ ?_; clear hL L
                  simp [C.laws_FnExactMulQSums, qO, qS, show (0 : Int) ≤ (1 : Int) + (cntL List.length fm : Nat) + (cntL cntQT f.ts : Nat) + (cntL cntQT h.ts : Nat) by omega, show ¬ ((1 : Int) + (cntL List.length fm : Nat) + (cntL cntQT f.ts : Nat) + (cntL cntQT h.ts : Nat) < 0) by omega]
                  refine hK _ ?_; clear hK K
                  show AWp _ _ _ _ _
                  refine wcond _ rfl (fun hc8 => ?_) (fun hc8 => ?_)
                  · simp at hc8
                  · refine wskip ?_
                    show AWp _ _ _ _ _
                    refine wseq ?_
                    refine wreg fun K hK => ?_
                    simp [C.laws_FnExactMulQSums, qO, qS]
                    refine hK _ ?_; clear hK K
                    show AWp _ _ _ _ _
                    refine wseq ?_
                    refine wregI ([0, 1, 2] ++ ([3])) rfl fun K hK => ?_
                    refine opsI_seg fun L hL => ?_
                    simp [C.laws_FnExactMulQSums, qO, qS]
                    refine wcall1 (laws_markQSum_calls g 1 (by omega) (by omega) (by omega)) (by simp) (by simp) ?_
                    simp [C.laws_FnExactMulQSums, qO, qS]
                    refine hL _ ?_; clear hL L
                    refine opsI_end fun L hL => ?_
                    simp [C.laws_FnExactMulQSums, qO, qS]
                    refine hL _ ?_; clear hL L
                    simp [C.laws_FnExactMulQSums, qO, qS]
                    refine hK _ ?_; clear hK K
                    show AWp _ _ _ _ _
                    refine wseq ?_
                    refine wreg fun K hK => ?_
                    simp [C.laws_FnExactMulQSums, qO, qS]
                    refine hK _ ?_; clear hK K
                    show AWp _ _ _ _ _
                    refine wseq ?_
                    refine wregI ([0, 1, 2] ++ ([3])) rfl fun K hK => ?_
                    refine opsI_seg fun L hL => ?_
                    simp [C.laws_FnExactMulQSums, qO, qS]
                    refine wcall1 (laws_heldQSum_calls g.v g.ts 1 (by omega) (by omega) (by omega)) (by simp) (by simp) ?_
                    simp [C.laws_FnExactMulQSums, qO, qS]
                    refine hL _ ?_; clear hL L
                    refine opsI_end fun L hL => ?_
                    simp [C.laws_FnExactMulQSums, qO, qS]
                    refine hL _ ?_; clear hL L
                    simp [C.laws_FnExactMulQSums, qO, qS]
                    refine hK _ ?_; clear hK K
                    show AWp _ _ _ _ _
                    refine wseq ?_
                    refine wseq ?_
                    refine wreg fun K hK => ?_
                    simp [C.laws_FnExactMulQSums, qO, qS]
                    refine hK _ ?_; clear hK K
                    show AWp _ _ _ _ _
                    refine wcond _ rfl (fun hc9 => ?_) (fun hc9 => ?_)
                    · have := d_t hc9; omega
                    · refine wskip ?_
                      show AWp _ _ _ _ _
                      refine wseq ?_
                      refine wseq ?_
                      refine wreg fun K hK => ?_
                      simp [C.laws_FnExactMulQSums, qO, qS]
                      refine hK _ ?_; clear hK K
                      show AWp _ _ _ _ _
                      refine wcond _ rfl (fun hc10 => ?_) (fun hc10 => ?_)
                      · simp at hc10
                      · refine wskip ?_
                        show AWp _ _ _ _ _
                        refine wseq ?_
                        refine wdraw (.take 0 (.take 2 (.take 4 (.all [(1, .all [(3, .all [(5, .all [(6, .take 7 (.take 8 (.take 9 (.all [(10, .all [(11, .take 12 (.done))])])))), (10, .all [(6, .take 7 (.take 8 (.take 9 (.all [(11, .take 12 (.done))]))))])]), (10, .all [(5, .all [(6, .take 7 (.take 8 (.take 9 (.all [(11, .take 12 (.done))]))))])])]), (10, .all [(3, .all [(5, .all [(6, .take 7 (.take 8 (.take 9 (.all [(11, .take 12 (.done))]))))])])])]), (10, .all [(1, .all [(3, .all [(5, .all [(6, .take 7 (.take 8 (.take 9 (.all [(11, .take 12 (.done))]))))])])])])])))) ⟨by kernel_rfl, by kernel_rfl⟩ fun K hK => ?_
                        have hJ : K ⟨ofL [(8, .pt (8, 0) [] 0), (9, .bool b), (13, .pt (13, 0) [] 0), (16, .int (1 + (cntL cntQT g.ts : Nat))), (18, .pt (18, 0) [] 0), (19, .bool b)], ofRO [((8, 0), some (.bx (qO g))), ((13, 0), some (.bx [D.int g.v, .ow 3 g.ts.length (rows qtO (mkL cntQT mkQT g.ts 1))])), ((18, 0), some (.bx (qO g)))]⟩ := by
                          refine hK _ ?_; clear hK K
                          show AWp _ _ _ _ _
                          refine wseq ?_
                          refine wseq ?_
                          refine wregI ([0, 1, 2] ++ ([3, 4, 5, 6, 7, 8])) rfl fun K hK => ?_
                          refine opsI_seg fun L hL => ?_
                          simp [C.laws_FnExactMulQSums, qO, qS]
                          refine wcall1 (laws_eqQSum_calls g g (by omega) (fun t ht => by have := hg2 t ht; omega)) (by simp) (by simp) ?_
                          simp [C.laws_FnExactMulQSums, qO, qS]
                          refine hL _ ?_; clear hL L
                          refine opsI_end fun L hL => ?_
                          simp [C.laws_FnExactMulQSums, qO, qS]
                          refine hL _ ?_; clear hL L
                          simp [C.laws_FnExactMulQSums, qO, qS]
                          refine hK _ ?_; clear hK K
                          show AWp _ _ _ _ _
                          refine wcond _ rfl (fun hc11 => ?_) (fun hc11 => ?_)
                          · simp at hc11
                          · refine wskip ?_
                            show AWp _ _ _ _ _
                            refine wseq ?_
                            refine wreg fun K hK => ?_
                            simp [C.laws_FnExactMulQSums, qO, qS]
                            refine hK _ ?_; clear hK K
                            show AWp _ _ _ _ _
                            refine wseq ?_
                            refine wregI ([0, 1, 2] ++ ([3])) rfl fun K hK => ?_
                            refine opsI_seg fun L hL => ?_
                            simp [C.laws_FnExactMulQSums, qO, qS]
                            refine wcall1 (laws_heldQSum_calls g.v g.ts 1 (by omega) (by omega) (by omega)) (by simp) (by simp) ?_
                            simp [C.laws_FnExactMulQSums, qO, qS]
                            refine hL _ ?_; clear hL L
                            refine opsI_end fun L hL => ?_
                            simp [C.laws_FnExactMulQSums, qO, qS]
                            refine hL _ ?_; clear hL L
                            simp [C.laws_FnExactMulQSums, qO, qS]
                            refine hK _ ?_; clear hK K
                            show AWp _ _ _ _ _
                            refine wseq ?_
                            refine wseq ?_
                            refine wreg fun K hK => ?_
                            simp [C.laws_FnExactMulQSums, qO, qS]
                            refine hK _ ?_; clear hK K
                            show AWp _ _ _ _ _
                            refine wcond _ rfl (fun hc12 => ?_) (fun hc12 => ?_)
                            · have := d_t hc12; omega
                            · refine wskip ?_
                              show AWp _ _ _ _ _
                              refine wseq ?_
                              refine wseq ?_
                              refine wreg fun K hK => ?_
                              simp [C.laws_FnExactMulQSums, qO, qS]
                              refine hK _ ?_; clear hK K
                              show AWp _ _ _ _ _
                              refine wcond _ rfl (fun hc13 => ?_) (fun hc13 => ?_)
                              · simp at hc13
                              · refine wskip ?_
                                show AWp _ _ _ _ _
                                refine wseq ?_
                                refine wreg fun K hK => ?_
                                simp [C.laws_FnExactMulQSums, qO, qS]
                                refine hK _ ?_; clear hK K
                                show AWp _ _ _ _ _
                                refine wret ?_
                                simp [C.laws_FnExactMulQSums, qO, qS]
                        clear hK
                        simp [C.laws_FnExactMulQSums, qO, qS]
                        repeat' first
                          | (refine wcall1 (laws_toIntSS_calls fm fml fme) ?_ (by simp) ?_; (focus (simp; done)); simp [C.laws_FnExactMulQSums, qO, qS])
                          | (refine wcall1 (laws_toQSum_calls f fl fe) ?_ (by simp) ?_; (focus (simp; done)); simp [C.laws_FnExactMulQSums, qO, qS])
                          | (refine wcall1 (laws_toQSum_calls h hl he) ?_ (by simp) ?_; (focus (simp; done)); simp [C.laws_FnExactMulQSums, qO, qS])
                          | (refine wcall1 (hg) ?_ (by simp) ?_; (focus (simp; done)); simp [C.laws_FnExactMulQSums, qO, qS])
                          | (refine cast (congrArg K ?_) hJ; simp [qO, qS]; done)
                          | refine And.intro ?_ ?_
        clear hK
        simp [C.laws_FnExactMulQSums, qO, qS]
        repeat' first
          | (refine wcall1 (laws_toIntSS_calls fm fml fme) ?_ (by simp) ?_; (focus (simp; done)); simp [C.laws_FnExactMulQSums, qO, qS])
          | (refine wcall1 (laws_toQSum_calls f fl fe) ?_ (by simp) ?_; (focus (simp; done)); simp [C.laws_FnExactMulQSums, qO, qS])
          | (refine wcall1 (laws_toQSum_calls h hl he) ?_ (by simp) ?_; (focus (simp; done)); simp [C.laws_FnExactMulQSums, qO, qS])
          | (refine wcall1 (hw) ?_ (by simp) ?_; (focus (simp; done)); simp [C.laws_FnExactMulQSums, qO, qS])
          | (refine cast (congrArg K ?_) hJ; simp [qO, qS]; done)
          | refine And.intro ?_ ?_

end Go.Proofs.Ytdgeponcnlkaiaa.Ab
namespace Go.Proofs.Ytdgeponcnlkaiaa.Ab
open Go Go.ChangeShapes Go.WideShapes Go.ChangeAt Go.RowKit
set_option linter.unusedSimpArgs false
set_option linter.unusedVariables false
set_option maxRecDepth 100000
section
variable {H : Type} {enc : TypeId × Value → H} {W : World}
def IntSSB (l : List (List Int)) : Prop := (∀ x ∈ l, IntsB x) ∧ l.length * 24 ≤ 140737488351232
theorem opIntSS : Opens enc Try.prog W 38 1 (List (List Int)) (fun l => [.sh 1 l.length (rows lS l)]) IntSSB :=
  (Opens.slice opInts (by omega) Try.underlying38 (by kernel_rfl) (by kernel_rfl)).to id (fun l => rfl) (fun _ => rfl) (fun _ h => h)
theorem argIntSS : Arg enc Try.prog W 38 (List (List Int)) (fun l => .d (.sh 1 l.length (rows lS l))) IntSSB := Arg.one opIntSS (by kernel_rfl) (of_decide_eq_true (by kernel_rfl)) (by kernel_rfl)
theorem IntSSB.small {l : List (List Int)} (h : IntSSB l) : l.length < 4611686018427387904 ∧ ∀ t ∈ l, t.length < 4611686018427387904 := by
  refine ⟨by have := h.2; omega, fun t ht => ?_⟩
  have := (h.1 t ht).2
  omega
def QtmB (t : Qtm) : Prop := IntsB t.e ∧ i64b t.h ∧ i64b t.c
theorem opQtm : Opens enc Try.prog W 209 3 Qtm qtS QtmB :=
  (Opens.struct3 opInts opInt opInt Try.underlying209 ⟨rfl, rfl⟩ ⟨rfl, rfl⟩ ⟨rfl, rfl⟩ (by kernel_rfl)).to (fun a => ⟨a.1, a.2.1, a.2.2⟩) (fun a => rfl) (fun _ => rfl) (fun _ h => ⟨h.1, h.2.1, h.2.2⟩)
def QtmsB (l : List Qtm) : Prop := (∀ x ∈ l, QtmB x) ∧ l.length * 40 ≤ 140737488351232
theorem opQtms : Opens enc Try.prog W 60 1 (List Qtm) (fun l => [.sh 3 l.length (rows qtS l)]) QtmsB :=
  Opens.slice opQtm (by omega) Try.underlying60 (by kernel_rfl) (by kernel_rfl)
def QsmB (f : Qsm) : Prop := i64b f.v ∧ QtmsB f.ts
theorem opQ : Opens enc Try.prog W 62 2 Qsm qS QsmB :=
  (Opens.struct2 opInt opQtms Try.underlying62 ⟨rfl, rfl⟩ ⟨rfl, rfl⟩ (by kernel_rfl)).to (fun a => ⟨a.1, a.2⟩) (fun a => rfl) (fun _ => rfl) (fun _ h => ⟨h.1, h.2⟩)
theorem argQ : Arg enc Try.prog W 62 Qsm (fun f => .ag ((qS f).map .d)) QsmB := Arg.agg opQ (by kernel_rfl) (of_decide_eq_true (by kernel_rfl)) Try.underlying62
theorem QsmB.small {f : Qsm} (h : QsmB f) : f.ts.length < 4611686018427387904 ∧ ∀ t ∈ f.ts, t.e.length < 4611686018427387904 := by
  refine ⟨by have := h.2.2; omega, fun t ht => ?_⟩
  have := (h.2.1 t ht).1.2
  omega
end
end Go.Proofs.Ytdgeponcnlkaiaa.Ab
namespace Go.Proofs.Ytdgeponcnlkaiaa.Ab
open Go
theorem IntSSB.i64 {l : List (List Int)} (h : IntSSB l) : I64 l := fun r hr x hx => (h.1 r hr).1 x hx
theorem lawMulQ (fm : List (List Int)) (fm1 : fm.length < 4611686018427387904) (fm2 : ∀ t ∈ fm, t.length < 4611686018427387904) (fm3 : I64 fm) (f : Qsm) (f1 : f.ts.length < 4611686018427387904) (f2 : ∀ t ∈ f.ts, t.e.length < 4611686018427387904) (h : Qsm) (h1 : h.ts.length < 4611686018427387904) (h2 : ∀ t ∈ h.ts, t.e.length < 4611686018427387904) : ACalls Try.prog F.laws_FnExactMulQSums [.d (.sh 1 fm.length (rows lS fm)), aQ f, aQ h] [] true (fun outs res => outs = [] ∧ res = [.one (D.bool true)]) := laws_FnExactMulQSums_calls doneOkQ fm fm1 fm2 fm3 f f1 f2 h h1 h2
end Go.Proofs.Ytdgeponcnlkaiaa.Ab
