/- Division: the law over both sides. Division: the law, without a premise left. No condition. -/
import Derived.Test.YtdgeponcnlkaiaaKDe
namespace Go.Proofs.Ytdgeponcnlkaiaa.Ab
open Go
set_option linter.unusedSimpArgs false
set_option linter.unusedVariables false
set_option maxRecDepth 10000
set_option maxHeartbeats 2000000
theorem laws_FnExactDivideLaurents_calls (hDone : DoneOk) (f : Lau) (f1 : f.ts.length < 4611686018427387904) (f2 : ∀ t ∈ f.ts, t.e.length < 4611686018427387904) (h : Lau) (h1 : h.ts.length < 4611686018427387904) (h2 : ∀ t ∈ h.ts, t.e.length < 4611686018427387904) : ACalls Try.prog F.laws_FnExactDivideLaurents [aF f, aF h] [] true (fun outs res => outs = [] ∧ res = [.one (D.bool true)]) := by
  have hgs := divF_small f h
  have hw := sDiv_calls f h f1 f2 h1 h2
  have hg := iDiv_calls hDone f h f1 f2 h1 h2
  generalize divF f h = g at hgs hw hg
  obtain ⟨g, b⟩ := g
  obtain ⟨hg1, hg2, hg3⟩ := hgs
  dsimp only at hg1 hg2 hg3
  dsimp only at hw hg
  refine ACalls.of_body (C := C.laws_FnExactDivideLaurents) (n := Try.f10.ntmps) tabT folT Try.func10 rfl (by kernel_rfl) rfl (Nat.le_of_ble_eq_true rfl) (by decide) (by kernel_rfl) (by kernel_rfl) rfl (by simp) (by simp) ?_
  simp only [Try.f10]
  refine wseq ?_
  refine wreg fun K hK => ?_
  simp [C.laws_FnExactDivideLaurents, fO, fS]
  refine hK _ ?_; clear hK K
  show AWp _ _ _ _ _
  refine wseq ?_
  refine wreg fun K hK => ?_
  simp [C.laws_FnExactDivideLaurents, fO, fS]
  refine hK _ ?_; clear hK K
  show AWp _ _ _ _ _
  refine wseq ?_
  refine wregI ([0, 1, 2] ++ ([3])) rfl fun K hK => ?_
  refine opsI_seg fun L hL => ?_
  simp [C.laws_FnExactDivideLaurents, fO, fS]
  refine wcall (laws_szLaurent_calls f 1048576 (by omega) (by omega) f1 f2) (by simp) (by simp) (by simp) ?_
  rintro outs res ⟨rfl, r1, rfl, hr1⟩
  simp [C.laws_FnExactDivideLaurents, fO, fS]
  refine hL _ ?_; clear hL L
  refine opsI_end fun L hL => ?_
  simp [C.laws_FnExactDivideLaurents, fO, fS]
  refine hL _ ?_; clear hL L
  simp [C.laws_FnExactDivideLaurents, fO, fS]
  refine hK _ ?_; clear hK K
  show AWp _ _ _ _ _
  refine wseq ?_
  refine wseq ?_
  refine wreg fun K hK => ?_
  simp [C.laws_FnExactDivideLaurents, fO, fS]
  refine hK _ ?_; clear hK K
  show AWp _ _ _ _ _
  refine wcond _ rfl (fun hc1 => ?_) (fun hc1 => ?_)
  · refine wseq ?_
    refine wreg fun K hK => ?_
    simp [C.laws_FnExactDivideLaurents, fO, fS]
    refine hK _ ?_; clear hK K
    show AWp _ _ _ _ _
    refine wret ?_
    simp [C.laws_FnExactDivideLaurents, fO, fS]
  · have q1 : 0 ≤ r1 := by have := d_f hc1; omega
    refine wskip ?_
    show AWp _ _ _ _ _
    refine wseq ?_
    refine wregI ([0, 1, 2] ++ ([3])) rfl fun K hK => ?_
    refine opsI_seg fun L hL => ?_
    simp [C.laws_FnExactDivideLaurents, fO, fS]
    refine wcall (laws_szLaurent_calls h r1 (by omega) (by omega) h1 h2) (by simp) (by simp) (by simp) ?_
    rintro outs res ⟨rfl, r2, rfl, hr2⟩
    simp [C.laws_FnExactDivideLaurents, fO, fS]
    refine hL _ ?_; clear hL L
    refine opsI_end fun L hL => ?_
    simp [C.laws_FnExactDivideLaurents, fO, fS]
    refine hL _ ?_; clear hL L
    simp [C.laws_FnExactDivideLaurents, fO, fS]
    refine hK _ ?_; clear hK K
    show AWp _ _ _ _ _
    refine wseq ?_
    refine wseq ?_
    refine wreg fun K hK => ?_
    simp [C.laws_FnExactDivideLaurents, fO, fS]
    refine hK _ ?_; clear hK K
    show AWp _ _ _ _ _
    refine wcond _ rfl (fun hc2 => ?_) (fun hc2 => ?_)
    · refine wseq ?_
      refine wreg fun K hK => ?_
      simp [C.laws_FnExactDivideLaurents, fO, fS]
      refine hK _ ?_; clear hK K
      show AWp _ _ _ _ _
      refine wret ?_
      simp [C.laws_FnExactDivideLaurents, fO, fS]
    · have q2 : 0 ≤ r2 := by have := d_f hc2; omega
      obtain ⟨fl, fe⟩ := sz_small2 (ts := f.ts) q1 (by omega)
      have fk : cntL cntT f.ts ≤ 1048576 := sz_cnt2 q1 (by omega)
      obtain ⟨hl, he⟩ := sz_small2 (ts := h.ts) q2 (by omega)
      have hk : cntL cntT h.ts ≤ 1048576 := sz_cnt2 q2 (by omega)
      refine wskip ?_
      show AWp _ _ _ _ _
      refine wseq ?_
      refine wdraw (.take 0 (.take 2 (.all [(1, .all [(3, .all [(4, .take 5 (.take 6 (.take 7 (.all [(8, .all [(9, .take 10 (.done))])])))), (8, .all [(4, .take 5 (.take 6 (.take 7 (.all [(9, .take 10 (.done))]))))])]), (8, .all [(3, .all [(4, .take 5 (.take 6 (.take 7 (.all [(9, .take 10 (.done))]))))])])]), (8, .all [(1, .all [(3, .all [(4, .take 5 (.take 6 (.take 7 (.all [(9, .take 10 (.done))]))))])])])]))) ⟨by kernel_rfl, by kernel_rfl⟩ fun K hK => ?_
      have hJ : K ⟨ofL [(2, .pt (2, 0) [] 0), (3, .pt (3, 0) [] 0), (6, .pt (6, 0) [] 0), (7, .bool b)], ofRO [((2, 0), some (.bx (fS f))), ((3, 0), some (.bx (fS h))), ((6, 0), some (.bx (fO g)))]⟩ := by
        refine hK _ ?_; clear hK K
        show AWp _ _ _ _ _
        refine wseq ?_
        refine wregI ([0, 1] ++ ([2, 3])) rfl fun K hK => ?_
        refine opsI_seg fun L hL => ?_
        simp [C.laws_FnExactDivideLaurents, fO, fS]
        refine wcall1 (laws_toLaurent_calls f fl fe) (by simp) (by simp) ?_
        simp [C.laws_FnExactDivideLaurents, fO, fS]
        refine hL _ ?_; clear hL L
        refine opsI_end fun L hL => ?_
        simp [C.laws_FnExactDivideLaurents, fO, fS]
        refine hL _ ?_; clear hL L
        simp [C.laws_FnExactDivideLaurents, fO, fS]
        refine hK _ ?_; clear hK K
        show AWp _ _ _ _ _
        refine wseq ?_
        refine wregI ([0, 1] ++ ([2, 3])) rfl fun K hK => ?_
        refine opsI_seg fun L hL => ?_
        simp [C.laws_FnExactDivideLaurents, fO, fS]
        refine wcall1 (laws_toLaurent_calls h hl he) (by simp) (by simp) ?_
        simp [C.laws_FnExactDivideLaurents, fO, fS]
        refine hL _ ?_; clear hL L
        refine opsI_end fun L hL => ?_
        simp [C.laws_FnExactDivideLaurents, fO, fS]
        refine hL _ ?_; clear hL L
        simp [C.laws_FnExactDivideLaurents, fO, fS]
        refine hK _ ?_; clear hK K
        show AWp _ _ _ _ _
        refine wseq ?_
        refine wregI ([0, 1, 2] ++ ([3, 4, 5, 6, 7, 8])) rfl fun K hK => ?_
        refine opsI_seg fun L hL => ?_
        simp [C.laws_FnExactDivideLaurents, fO, fS]
        refine wcall1 (hg) (by simp) (by simp) ?_
        simp [C.laws_FnExactDivideLaurents, fO, fS]
        refine hL _ ?_; clear hL L
        refine opsI_end fun L hL => ?_
        simp [C.laws_FnExactDivideLaurents, fO, fS]
        refine hL _ ?_; clear hL L
        simp [C.laws_FnExactDivideLaurents, fO, fS]
        refine hK _ ?_; clear hK K
        show AWp _ _ _ _ _
        refine wseq ?_
        refine wseq ?_
        refine wregI ([0, 1, 2] ++ ([3, 4, 5, 6, 7, 8])) rfl fun K hK => ?_
        refine opsI_seg fun L hL => ?_
        simp [C.laws_FnExactDivideLaurents, fO, fS]
        refine wcall1 (laws_eqLaurent_calls g g (by omega) (fun t ht => by have := hg2 t ht; omega)) (by simp) (by simp) ?_
        simp [C.laws_FnExactDivideLaurents, fO, fS]
        refine hL _ ?_; clear hL L
        refine opsI_end fun L hL => ?_
        simp [C.laws_FnExactDivideLaurents, fO, fS]
        refine hL _ ?_; clear hL L
        simp [C.laws_FnExactDivideLaurents, fO, fS]
        refine hK _ ?_; clear hK K
        show AWp _ _ _ _ _
        refine wcond _ rfl (fun hc3 => ?_) (fun hc3 => ?_)
        · simp at hc3
        · refine wskip ?_
          show AWp _ _ _ _ _
          refine wseq ?_
          refine wseq ?_
          refine wdrawI [(true, 0), (true, 1), (false, 2), (false, 3), (true, 4)] ⟨by kernel_rfl, by kernel_rfl⟩ ([0, 1, 2] ++ ([3] ++ ([4]))) rfl fun K hK => ?_
          refine opsI_seg fun L hL => ?_
          simp [C.laws_FnExactDivideLaurents, fO, fS]
          refine wcall1 (laws_toLaurent_calls f fl fe) (by simp) (by simp) ?_
          simp [C.laws_FnExactDivideLaurents, fO, fS]
          refine hL _ ?_; clear hL L
          refine opsI_seg fun L hL => ?_
          simp [C.laws_FnExactDivideLaurents, fO, fS]
          refine wcall1 (laws_eqLaurent_calls f f f1 f2) (by simp) (by simp) ?_
          simp [C.laws_FnExactDivideLaurents, fO, fS]
          refine hL _ ?_; clear hL L
          refine opsI_end fun L hL => ?_
          simp [C.laws_FnExactDivideLaurents, fO, fS]
          refine hL _ ?_; clear hL L
          simp [C.laws_FnExactDivideLaurents, fO, fS]
          refine hK _ ?_; clear hK K
          show AWp _ _ _ _ _
          refine wcond _ rfl (fun hc4 => ?_) (fun hc4 => ?_)
          · simp at hc4
          · refine wskip ?_
            show AWp _ _ _ _ _
            refine wseq ?_
            refine wseq ?_
            refine wdrawI [(true, 0), (true, 1), (false, 2), (false, 3), (true, 4)] ⟨by kernel_rfl, by kernel_rfl⟩ ([0, 1, 2] ++ ([3] ++ ([4]))) rfl fun K hK => ?_
            refine opsI_seg fun L hL => ?_
            simp [C.laws_FnExactDivideLaurents, fO, fS]
            refine wcall1 (laws_toLaurent_calls h hl he) (by simp) (by simp) ?_
            simp [C.laws_FnExactDivideLaurents, fO, fS]
            refine hL _ ?_; clear hL L
            refine opsI_seg fun L hL => ?_
            simp [C.laws_FnExactDivideLaurents, fO, fS]
            refine wcall1 (laws_eqLaurent_calls h h h1 h2) (by simp) (by simp) ?_
            simp [C.laws_FnExactDivideLaurents, fO, fS]
            refine hL _ ?_; clear hL L
            refine opsI_end fun L hL => ?_
            simp [C.laws_FnExactDivideLaurents, fO, fS]
            refine hL _ ?_; clear hL L
            simp [C.laws_FnExactDivideLaurents, fO, fS]
            refine hK _ ?_; clear hK K
            show AWp _ _ _ _ _
            refine wcond _ rfl (fun hc5 => ?_) (fun hc5 => ?_)
            · simp at hc5
            · refine wskip ?_
              show AWp _ _ _ _ _
              refine wseq ?_
              refine wreg fun K hK => ?_
              simp [C.laws_FnExactDivideLaurents, fO, fS]
              refine hK _ ?_; clear hK K
              show AWp _ _ _ _ _
              refine wseq ?_
              refine wregI ([0, 1, 2] ++ ([3])) rfl fun K hK => ?_
              refine opsI_seg fun L hL => ?_
              simp [C.laws_FnExactDivideLaurents, fO, fS]
              refine wcall1 (laws_markLaurent_calls f 1 (by omega) (by omega) f1) (by simp) (by simp) ?_
              simp [C.laws_FnExactDivideLaurents, fO, fS]
              refine hL _ ?_; clear hL L
              refine opsI_end fun L hL => ?_
              simp [C.laws_FnExactDivideLaurents, fO, fS]
              refine hL _ ?_; clear hL L
              simp [C.laws_FnExactDivideLaurents, fO, fS]
              refine hK _ ?_; clear hK K
              show AWp _ _ _ _ _
              refine wseq ?_
              refine wregI ([0, 1, 2] ++ ([3])) rfl fun K hK => ?_
              refine opsI_seg fun L hL => ?_
              simp [C.laws_FnExactDivideLaurents, fO, fS]
              refine wcall1 (laws_markLaurent_calls h ((1 : Int) + (cntL cntT f.ts : Nat)) (by omega) (by omega) h1) (by simp) (by simp) ?_
              simp [C.laws_FnExactDivideLaurents, fO, fS]
              refine hL _ ?_; clear hL L
              refine opsI_end fun L hL => ?_
              simp [C.laws_FnExactDivideLaurents, fO, fS]
              refine hL _ ?_; clear hL L
              simp [C.laws_FnExactDivideLaurents, fO, fS]
              refine hK _ ?_; clear hK K
              show AWp _ _ _ _ _
              refine wseq ?_
              refine wseq ?_
              refine wregI ([0, 1, 2, 3, 4, 5] ++ ([6, 7, 8, 9, 10, 11, 12])) rfl fun K hK => ?_
              refine opsI_seg fun L hL => ?_
              simp [C.laws_FnExactDivideLaurents, fO, fS, show (0 : Int) ≤ (1 : Int) + (cntL cntT f.ts : Nat) + (cntL cntT h.ts : Nat) by omega, show ¬ ((1 : Int) + (cntL cntT f.ts : Nat) + (cntL cntT h.ts : Nat) < 0) by omega]
              refine wcall1 (laws_eqLaurent_calls g g (by omega) (fun t ht => by have := hg2 t ht; omega)) (by simp) (by simp) ?_
              simp [C.laws_FnExactDivideLaurents, fO, fS, show (0 : Int) ≤ (1 : Int) + (cntL cntT f.ts : Nat) + (cntL cntT h.ts : Nat) by omega, show ¬ ((1 : Int) + (cntL cntT f.ts : Nat) + (cntL cntT h.ts : Nat) < 0) by omega]
              refine hL _ ?_; clear hL L
              refine opsI_end fun L hL => ?_
              simp [C.laws_FnExactDivideLaurents, fO, fS, show (0 : Int) ≤ (1 : Int) + (cntL cntT f.ts : Nat) + (cntL cntT h.ts : Nat) by omega, show ¬ ((1 : Int) + (cntL cntT f.ts : Nat) + (cntL cntT h.ts : Nat) < 0) by omega]
              refine hL _ ?_; clear hL L
              simp [C.laws_FnExactDivideLaurents, fO, fS, show (0 : Int) ≤ (1 : Int) + (cntL cntT f.ts : Nat) + (cntL cntT h.ts : Nat) by omega, show ¬ ((1 : Int) + (cntL cntT f.ts : Nat) + (cntL cntT h.ts : Nat) < 0) by omega]
              refine hK _ ?_; clear hK K
              show AWp _ _ _ _ _
              refine wcond _ rfl (fun hc6 => ?_) (fun hc6 => ?_)
              · simp at hc6
              · refine wskip ?_
                show AWp _ _ _ _ _
                refine wseq ?_
                refine wreg fun K hK => ?_
                simp [C.laws_FnExactDivideLaurents, fO, fS]
                refine hK _ ?_; clear hK K
                show AWp _ _ _ _ _
                refine wseq ?_
                refine wregI ([0, 1, 2] ++ ([3])) rfl fun K hK => ?_
                refine opsI_seg fun L hL => ?_
                simp [C.laws_FnExactDivideLaurents, fO, fS]
                refine wcall1 (laws_markLaurent_calls g 1 (by omega) (by omega) (by omega)) (by simp) (by simp) ?_
                simp [C.laws_FnExactDivideLaurents, fO, fS]
                refine hL _ ?_; clear hL L
                refine opsI_end fun L hL => ?_
                simp [C.laws_FnExactDivideLaurents, fO, fS]
                refine hL _ ?_; clear hL L
                simp [C.laws_FnExactDivideLaurents, fO, fS]
                refine hK _ ?_; clear hK K
                show AWp _ _ _ _ _
                refine wseq ?_
                refine wreg fun K hK => ?_
                simp [C.laws_FnExactDivideLaurents, fO, fS]
                refine hK _ ?_; clear hK K
                show AWp _ _ _ _ _
                refine wseq ?_
                refine wregI ([0, 1, 2] ++ ([3])) rfl fun K hK => ?_
                refine opsI_seg fun L hL => ?_
                simp [C.laws_FnExactDivideLaurents, fO, fS]
                refine wcall1 (laws_heldLaurent_calls g.v g.ts 1 (by omega) (by omega) (by omega)) (by simp) (by simp) ?_
                simp [C.laws_FnExactDivideLaurents, fO, fS]
                refine hL _ ?_; clear hL L
                refine opsI_end fun L hL => ?_
                simp [C.laws_FnExactDivideLaurents, fO, fS]
                refine hL _ ?_; clear hL L
                simp [C.laws_FnExactDivideLaurents, fO, fS]
                refine hK _ ?_; clear hK K
                show AWp _ _ _ _ _
                refine wseq ?_
                refine wseq ?_
                refine wreg fun K hK => ?_
                simp [C.laws_FnExactDivideLaurents, fO, fS]
                refine hK _ ?_; clear hK K
                show AWp _ _ _ _ _
                refine wcond _ rfl (fun hc7 => ?_) (fun hc7 => ?_)
                · have := d_t hc7; omega
                · refine wskip ?_
                  show AWp _ _ _ _ _
                  refine wseq ?_
                  refine wseq ?_
                  refine wreg fun K hK => ?_
                  simp [C.laws_FnExactDivideLaurents, fO, fS]
                  refine hK _ ?_; clear hK K
                  show AWp _ _ _ _ _
                  refine wcond _ rfl (fun hc8 => ?_) (fun hc8 => ?_)
                  · simp at hc8
                  · refine wskip ?_
                    show AWp _ _ _ _ _
                    refine wseq ?_
                    refine wdraw (.take 0 (.take 2 (.all [(1, .all [(3, .all [(4, .take 5 (.take 6 (.take 7 (.all [(8, .all [(9, .take 10 (.done))])])))), (8, .all [(4, .take 5 (.take 6 (.take 7 (.all [(9, .take 10 (.done))]))))])]), (8, .all [(3, .all [(4, .take 5 (.take 6 (.take 7 (.all [(9, .take 10 (.done))]))))])])]), (8, .all [(1, .all [(3, .all [(4, .take 5 (.take 6 (.take 7 (.all [(9, .take 10 (.done))]))))])])])]))) ⟨by kernel_rfl, by kernel_rfl⟩ fun K hK => ?_
                    have hJ : K ⟨ofL [(6, .pt (6, 0) [] 0), (7, .bool b), (10, .pt (10, 0) [] 0), (13, .int (1 + (cntL cntT g.ts : Nat))), (15, .pt (15, 0) [] 0), (16, .bool b)], ofRO [((6, 0), some (.bx (fO g))), ((10, 0), some (.bx [D.int g.v, .ow 2 g.ts.length (rows tO (mkL cntT mkT g.ts 1))])), ((15, 0), some (.bx (fO g)))]⟩ := by
                      refine hK _ ?_; clear hK K
                      show AWp _ _ _ _ _
                      refine wseq ?_
                      refine wseq ?_
                      refine wregI ([0, 1, 2] ++ ([3, 4, 5, 6, 7, 8])) rfl fun K hK => ?_
                      refine opsI_seg fun L hL => ?_
                      simp [C.laws_FnExactDivideLaurents, fO, fS]
                      refine wcall1 (laws_eqLaurent_calls g g (by omega) (fun t ht => by have := hg2 t ht; omega)) (by simp) (by simp) ?_
                      simp [C.laws_FnExactDivideLaurents, fO, fS]
                      refine hL _ ?_; clear hL L
                      refine opsI_end fun L hL => ?_
                      simp [C.laws_FnExactDivideLaurents, fO, fS]
                      refine hL _ ?_; clear hL L
                      simp [C.laws_FnExactDivideLaurents, fO, fS]
                      refine hK _ ?_; clear hK K
                      show AWp _ _ _ _ _
                      refine wcond _ rfl (fun hc9 => ?_) (fun hc9 => ?_)
                      · simp at hc9
                      · refine wskip ?_
                        show AWp _ _ _ _ _
                        refine wseq ?_
                        refine wreg fun K hK => ?_
                        simp [C.laws_FnExactDivideLaurents, fO, fS]
                        refine hK _ ?_; clear hK K
                        show AWp _ _ _ _ _
                        refine wseq ?_
                        refine wregI ([0, 1, 2] ++ ([3])) rfl fun K hK => ?_
                        refine opsI_seg fun L hL => ?_
                        simp [C.laws_FnExactDivideLaurents, fO, fS]
                        refine wcall1 (laws_heldLaurent_calls g.v g.ts 1 (by omega) (by omega) (by omega)) (by simp) (by simp) ?_
                        simp [C.laws_FnExactDivideLaurents, fO, fS]
                        refine hL _ ?_; clear hL L
                        refine opsI_end fun L hL => ?_
                        simp [C.laws_FnExactDivideLaurents, fO, fS]
                        refine hL _ ?_; clear hL L
                        simp [C.laws_FnExactDivideLaurents, fO, fS]
                        refine hK _ ?_; clear hK K
                        show AWp _ _ _ _ _
                        refine wseq ?_
                        refine wseq ?_
                        refine wreg fun K hK => ?_
                        simp [C.laws_FnExactDivideLaurents, fO, fS]
                        refine hK _ ?_; clear hK K
                        show AWp _ _ _ _ _
                        refine wcond _ rfl (fun hc10 => ?_) (fun hc10 => ?_)
                        · have := d_t hc10; omega
                        · refine wskip ?_
                          show AWp _ _ _ _ _
                          refine wseq ?_
                          refine wseq ?_
                          refine wreg fun K hK => ?_
                          simp [C.laws_FnExactDivideLaurents, fO, fS]
                          refine hK _ ?_; clear hK K
                          show AWp _ _ _ _ _
                          refine wcond _ rfl (fun hc11 => ?_) (fun hc11 => ?_)
                          · simp at hc11
                          · refine wskip ?_
                            show AWp _ _ _ _ _
                            refine wseq ?_
                            refine wreg fun K hK => ?_
                            simp [C.laws_FnExactDivideLaurents, fO, fS]
                            refine hK _ ?_; clear hK K
                            show AWp _ _ _ _ _
                            refine wret ?_
                            simp [C.laws_FnExactDivideLaurents, fO, fS]
                    clear hK
                    simp [C.laws_FnExactDivideLaurents, fO, fS]
                    repeat' first
                      | (refine wcall1 (laws_toLaurent_calls f fl fe) ?_ (by simp) ?_; (focus (simp; done)); simp [C.laws_FnExactDivideLaurents, fO, fS])
                      | (refine wcall1 (laws_toLaurent_calls h hl he) ?_ (by simp) ?_; (focus (simp; done)); simp [C.laws_FnExactDivideLaurents, fO, fS])
                      | (refine wcall1 (hg) ?_ (by simp) ?_; (focus (simp; done)); simp [C.laws_FnExactDivideLaurents, fO, fS])
                      | (refine cast (congrArg K ?_) hJ; simp [fO, fS]; done)
                      | refine And.intro ?_ ?_
      clear hK
      simp [C.laws_FnExactDivideLaurents, fO, fS]
      repeat' first
        | (refine wcall1 (laws_toLaurent_calls f fl fe) ?_ (by simp) ?_; (focus (simp; done)); simp [C.laws_FnExactDivideLaurents, fO, fS])
        | (refine wcall1 (laws_toLaurent_calls h hl he) ?_ (by simp) ?_; (focus (simp; done)); simp [C.laws_FnExactDivideLaurents, fO, fS])
        | (refine wcall1 (hw) ?_ (by simp) ?_; (focus (simp; done)); simp [C.laws_FnExactDivideLaurents, fO, fS])
        | (refine cast (congrArg K ?_) hJ; simp [fO, fS]; done)
        | refine And.intro ?_ ?_

end Go.Proofs.Ytdgeponcnlkaiaa.Ab
namespace Go.Proofs.Ytdgeponcnlkaiaa.Ab
open Go
theorem lawDiv (f h : Lau) (f1 : f.ts.length < 4611686018427387904) (f2 : ∀ t ∈ f.ts, t.e.length < 4611686018427387904) (h1 : h.ts.length < 4611686018427387904) (h2 : ∀ t ∈ h.ts, t.e.length < 4611686018427387904) : ACalls Try.prog F.laws_FnExactDivideLaurents [aF f, aF h] [] true (fun outs res => outs = [] ∧ res = [.one (D.bool true)]) := laws_FnExactDivideLaurents_calls doneOk f f1 f2 h h1 h2
end Go.Proofs.Ytdgeponcnlkaiaa.Ab
