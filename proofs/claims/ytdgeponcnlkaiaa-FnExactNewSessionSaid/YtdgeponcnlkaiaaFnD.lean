/- The reference's sums: which are right; codes and their decoding. No condition. -/
import Derived.Test.YtdgeponcnlkaiaaFnC
import Derived.Test.YtdgeponcnlkaiaaPlC
namespace Go.Proofs.Ytdgeponcnlkaiaa.Ab
open Go
set_option linter.unusedSimpArgs false
set_option linter.unusedVariables false
set_option maxRecDepth 10000
set_option maxHeartbeats 2000000
theorem spec_l1Less_calls (a b : List Int) (ha : a.length < 4611686018427387904) : ACalls Try.prog F.spec_l1Less [.d (shI a), .d (shI b)] [] true (fun outs res => outs = [] ∧ res = [.one (D.bool (lexlt a b))]) := by
  refine ACalls.of_body (C := C.spec_l1Less) (n := Try.f212.ntmps) tabT folT Try.func212 rfl (by kernel_rfl) rfl (Nat.le_of_ble_eq_true rfl) (by decide) (by kernel_rfl) (by kernel_rfl) rfl (by simp) (by simp) ?_
  simp only [Try.f212]
  refine wseq ?_
  refine wreg fun K hK => ?_
  simp [C.spec_l1Less]
  refine hK _ ?_; clear hK K
  show AWp _ _ _ _ _
  refine wseq ?_
  refine wseq ?_
  refine wreg fun K hK => ?_
  simp [C.spec_l1Less]
  refine hK _ ?_; clear hK K
  show AWp _ _ _ _ _
  refine wblock ?_
  refine wloop (fun k : Nat => ⟨ofL [(0, .d (shI a)), (1, .d (shI b)), (5, FV.int k)], ofRO []⟩) (fun k => k ≤ a.length ∧ k ≤ b.length ∧ lexlt a b = lexlt (a.drop k) (b.drop k)) (fun k => a.length - k) 0 (by simp [C.spec_l1Less]) (by simp) ?_
  intro x1 hx1 R1 hR1
  obtain ⟨hk, hk2, ht⟩ := hx1
  refine wseq ?_
  refine wseq ?_
  refine wreg fun K hK => ?_
  have hJ : K ⟨ofL [(0, .d (shI a)), (1, .d (shI b)), (5, FV.int x1), (15, .bool (decide (x1 < a.length ∧ x1 < b.length)))], ofRO []⟩ := by
    refine hK _ ?_; clear hK K
    show AWp _ _ _ _ _
    refine wcond _ rfl (fun hc1 => ?_) (fun hc1 => ?_)
    · have hh : x1 < a.length ∧ x1 < b.length := by simpa using hc1
      obtain ⟨h1, h2⟩ := hh
      refine wskip ?_
      show AWp _ _ _ _ _
      refine wseq ?_
      refine wblock ?_
      refine wseq ?_
      refine wdraw (.take 0 (.take 1 (.take 2 (.take 3 (.take 4 (.take 5 (.take 6 (.take 7 (.take 8 (.done)))))))))) ⟨by kernel_rfl, by kernel_rfl⟩ fun K hK => ?_
      simp [C.spec_l1Less, get_ints, h1, h2]
      refine hK _ ?_; clear hK K
      show AWp _ _ _ _ _
      refine wcond _ rfl (fun hc2 => ?_) (fun hc2 => ?_)
      · refine wseq ?_
        refine wdraw (.take 0 (.take 1 (.take 2 (.take 3 (.take 4 (.take 5 (.take 6 (.take 7 (.take 8 (.take 9 (.done))))))))))) ⟨by kernel_rfl, by kernel_rfl⟩ fun K hK => ?_
        simp [C.spec_l1Less, get_ints, h1, h2]
        refine hK _ ?_; clear hK K
        show AWp _ _ _ _ _
        refine wret ?_
        simp at hc2
        simp [C.spec_l1Less]
        rw [ht, List.drop_eq_getElem_cons h1, List.drop_eq_getElem_cons h2]
        simp [lexlt, hc2]
      · refine wskip ?_
        show AWp _ _ _ _ _
        refine wreg fun K hK => ?_
        simp [C.spec_l1Less, wrap_succ (show x1 < 4611686018427387904 by omega)]
        refine hK _ ?_; clear hK K
        simp [C.spec_l1Less]
        simp at hc2
        refine hR1 (x1 + 1) ⟨h1, h2, ?_⟩ (by omega)
        rw [ht, List.drop_eq_getElem_cons h1, List.drop_eq_getElem_cons h2]
        simp [lexlt, hc2]
    · have hh : ¬ (x1 < a.length ∧ x1 < b.length) := by simpa using hc1
      refine wexit ?_
      show AWp _ _ _ _ _
      refine wseq ?_
      refine wreg fun K hK => ?_
      simp [C.spec_l1Less]
      refine hK _ ?_; clear hK K
      show AWp _ _ _ _ _
      refine wret ?_
      simp [C.spec_l1Less]
      rw [ht]
      by_cases q : x1 < a.length
      · rw [List.drop_eq_nil_of_le (show b.length ≤ x1 by omega), List.drop_eq_getElem_cons q]
        simp [lexlt]
        omega
      · rw [List.drop_eq_nil_of_le (show a.length ≤ x1 by omega)]
        by_cases q2 : x1 < b.length
        · rw [List.drop_eq_getElem_cons q2]
          simp [lexlt]
          omega
        · rw [List.drop_eq_nil_of_le (show b.length ≤ x1 by omega)]
          simp [lexlt]
          omega
  clear hK
  by_cases hg : x1 < a.length
  · simp [C.spec_l1Less, hg]
    refine cast (congrArg K ?_) hJ
    simp [hg]
  · simp [C.spec_l1Less, hg]
    refine cast (congrArg K ?_) hJ
    simp [hg]

theorem spec_l2Right_calls (f : Lau) (hx : f.ts.length < 4611686018427387904) (hxe : ∀ t ∈ f.ts, t.e.length < 4611686018427387904) : ACalls Try.prog F.spec_l2Right [aF f] [] true (fun outs res => outs = [] ∧ res = [.one (D.bool (decide (Right f)))]) := by
  refine ACalls.of_body (C := C.spec_l2Right) (n := Try.f139.ntmps) tabT folT Try.func139 rfl (by kernel_rfl) rfl (Nat.le_of_ble_eq_true rfl) (by decide) (by kernel_rfl) (by kernel_rfl) rfl (by simp) (by simp) ?_
  simp only [Try.f139]
  refine wseq ?_
  refine wreg fun K hK => ?_
  simp [C.spec_l2Right, fS, tS]
  refine hK _ ?_; clear hK K
  show AWp _ _ _ _ _
  refine wseq ?_
  refine wseq ?_
  refine wregI ([0, 1, 2] ++ ([3, 4, 5, 6, 7, 8, 9])) rfl fun K hK => ?_
  have hJ : K ⟨ofL [(1, .pt (1, 0) [] 0), (15, .bool (decide (¬ (1 ≤ f.v ∧ f.v ≤ 8) ∨ 600 < (f.ts.length : Int))))], ofRO [((1, 0), some (.bx (fS f)))]⟩ := by
    refine hK _ ?_; clear hK K
    show AWp _ _ _ _ _
    refine wcond _ rfl (fun hc1 => ?_) (fun hc1 => ?_)
    · have hh := d_t hc1
      refine wseq ?_
      refine wreg fun K hK => ?_
      simp [C.spec_l2Right, fS, tS]
      refine hK _ ?_; clear hK K
      show AWp _ _ _ _ _
      refine wret ?_
      simp [C.spec_l2Right, fS, tS]
      intro hr; have := hr.1; have := hr.2.1; omega
    · have hh0 := d_f hc1
      have hh : (1 ≤ f.v ∧ f.v ≤ 8) ∧ f.ts.length ≤ 600 := by omega
      refine wskip ?_
      show AWp _ _ _ _ _
      refine wseq ?_
      refine wseq ?_
      refine wreg fun K hK => ?_
      simp [C.spec_l2Right, fS, tS]
      refine hK _ ?_; clear hK K
      show AWp _ _ _ _ _
      refine wblock ?_
      refine wloop (fun k : Nat => ⟨ofL [(1, .pt (1, 0) [] 0), (3, .int k)], ofRO [((1, 0), some (.bx (fS f)))]⟩) (fun k => k ≤ f.ts.length ∧ (∀ t ∈ f.ts.take k, Good f.v t) ∧ DescT (f.ts.take k)) (fun k => f.ts.length - k) 0 (by simp [C.spec_l2Right, fS]) (by simp [DescT]) ?_
      intro x1 hx1 R1 hR1
      obtain ⟨hk, hgood, hdesc⟩ := hx1
      refine wseq ?_
      refine wseq ?_
      refine wreg fun K hK => ?_
      simp [C.spec_l2Right, fS, tS]
      refine hK _ ?_; clear hK K
      show AWp _ _ _ _ _
      refine wcond _ rfl (fun hc2 => ?_) (fun hc2 => ?_)
      · have h1 : x1 < f.ts.length := by simpa using hc2
        refine wskip ?_
        show AWp _ _ _ _ _
        refine wseq ?_
        refine wblock ?_
        refine wseq ?_
        refine wreg fun K hK => ?_
        simp [C.spec_l2Right, fS, tS, h1, tS_0 h1, tS_1 h1]
        refine hK _ ?_; clear hK K
        show AWp _ _ _ _ _
        refine wseq ?_
        refine wseq ?_
        have hp : 0 < x1 → x1 - 1 < f.ts.length := by omega
        refine wdrawI [(true, 0), (true, 1), (true, 2), (true, 3), (true, 4), (true, 5), (true, 6), (true, 7), (true, 8), (true, 9), (true, 10), (true, 11), (true, 12), (true, 13), (false, 14), (true, 15), (true, 16), (true, 17), (true, 18), (true, 19), (true, 20), (true, 21), (true, 22), (true, 23), (true, 24), (true, 25), (true, 26), (true, 27), (true, 28), (true, 29), (false, 30), (true, 31), (true, 32), (true, 33)] ⟨by kernel_rfl, by kernel_rfl⟩ ([0, 1, 2, 3, 4, 5, 6, 7, 8, 9, 10, 11, 12, 13, 14] ++ ([15, 16, 17, 18, 19, 20, 21, 22, 23, 24, 25, 26, 27, 28, 29, 30] ++ ([31, 32, 33]))) rfl fun K hK => ?_
        have hJ : K ⟨ofL [(1, .pt (1, 0) [] 0), (3, .int x1), (4, .pt (4, 0) [] 0), (61, .bool (!decide ((f.ts[x1].e.length : Int) = f.v ∧ f.ts[x1].c ≠ 0 ∧ (-1000000 ≤ f.ts[x1].c ∧ f.ts[x1].c ≤ 1000000) ∧ (x1 = 0 ∨ lexlt f.ts[x1].e f.ts[x1 - 1].e = true))))], ofRO [((1, 0), some (.bx (fS f))), ((4, 0), some (.bx (tS f.ts[x1])))]⟩ := by
          refine hK _ ?_; clear hK K
          show AWp _ _ _ _ _
          refine wcond _ rfl (fun hc3 => ?_) (fun hc3 => ?_)
          · have hb := nd_t hc3
            refine wseq ?_
            refine wreg fun K hK => ?_
            simp [C.spec_l2Right, fS, tS]
            refine hK _ ?_; clear hK K
            show AWp _ _ _ _ _
            refine wret ?_
            simp [C.spec_l2Right, fS, tS]
            intro hr
            have hg := hr.2.2.1 _ (List.getElem_mem h1)
            exact hb ⟨hg.1, hg.2.1, hg.2.2.1, descT_next h1 hr.2.2.2⟩
          · have hb := nd_f hc3
            refine wskip ?_
            show AWp _ _ _ _ _
            refine wseq ?_
            refine wreg fun K hK => ?_
            simp [C.spec_l2Right, fS, tS]
            refine hK _ ?_; clear hK K
            show AWp _ _ _ _ _
            refine wblock ?_
            refine wloop (fun i : Nat => ⟨ofL [(1, .pt (1, 0) [] 0), (3, .int x1), (4, .pt (4, 0) [] 0), (5, .int i)], ofRO [((1, 0), some (.bx (fS f))), ((4, 0), some (.bx (tS f.ts[x1])))]⟩) (fun i => i ≤ f.ts[x1].e.length ∧ ∀ x ∈ f.ts[x1].e.take i, -20 ≤ x ∧ x ≤ 20) (fun i => f.ts[x1].e.length - i) 0 (by simp [C.spec_l2Right, fS, tS]) (by simp) ?_
            intro x2 hx2 R2 hR2
            obtain ⟨hi, hin⟩ := hx2
            refine wseq ?_
            refine wseq ?_
            refine wreg fun K hK => ?_
            simp [C.spec_l2Right, fS, tS]
            refine hK _ ?_; clear hK K
            show AWp _ _ _ _ _
            refine wcond _ rfl (fun hc4 => ?_) (fun hc4 => ?_)
            · have h2 : x2 < f.ts[x1].e.length := by have := d_t hc4; omega
              refine wskip ?_
              show AWp _ _ _ _ _
              refine wseq ?_
              refine wblock ?_
              refine wseq ?_
              refine wregI ([0, 1, 2, 3, 4, 5] ++ ([6])) rfl fun K hK => ?_
              refine opsI_seg fun L hL => ?_
              simp [C.spec_l2Right, fS, tS, h1, h2, get_ints]
              refine wcall1 (spec_l1In_calls f.ts[x1].e[x2] (-20) 20) (by simp) (by simp) ?_
              simp [C.spec_l2Right, fS, tS, h1, h2, get_ints]
              refine hL _ ?_; clear hL L
              refine opsI_end fun L hL => ?_
              simp [C.spec_l2Right, fS, tS, h1, h2, get_ints]
              refine hL _ ?_; clear hL L
              simp [C.spec_l2Right, fS, tS, h1, h2, get_ints]
              refine hK _ ?_; clear hK K
              show AWp _ _ _ _ _
              refine wcond _ rfl (fun hc5 => ?_) (fun hc5 => ?_)
              · have hb2 : ¬ (-20 ≤ f.ts[x1].e[x2] ∧ f.ts[x1].e[x2] ≤ 20) := by simp at hc5; omega
                refine wseq ?_
                refine wreg fun K hK => ?_
                simp [C.spec_l2Right, fS, tS]
                refine hK _ ?_; clear hK K
                show AWp _ _ _ _ _
                refine wret ?_
                simp [C.spec_l2Right, fS, tS]
                intro hr
                exact hb2 ((hr.2.2.1 _ (List.getElem_mem h1)).2.2.2 _ (List.getElem_mem h2))
              · have hb2 : -20 ≤ f.ts[x1].e[x2] ∧ f.ts[x1].e[x2] ≤ 20 := by simpa using hc5
                refine wskip ?_
                show AWp _ _ _ _ _
                refine wreg fun K hK => ?_
                simp [C.spec_l2Right, fS, tS, wrap_succ (show x2 < 4611686018427387904 by have := hxe _ (List.getElem_mem h1); omega)]
                refine hK _ ?_; clear hK K
                simp [C.spec_l2Right, fS, tS]
                refine hR2 (x2 + 1) ⟨h2, ?_⟩ (by omega)
                rw [List.take_succ_eq_append_getElem h2]
                intro x hx
                rcases List.mem_append.1 hx with hx | hx
                · exact hin x hx
                · simp only [List.mem_singleton] at hx
                  rw [hx]
                  exact hb2
            · have h2 : x2 = f.ts[x1].e.length := by have := d_f hc4; omega
              refine wexit ?_
              show AWp _ _ _ _ _
              refine wreg fun K hK => ?_
              simp [C.spec_l2Right, fS, tS, wrap_succ (show x1 < 4611686018427387904 by omega)]
              refine hK _ ?_; clear hK K
              simp [C.spec_l2Right, fS, tS]
              refine hR1 (x1 + 1) ⟨h1, ?_, descT_step h1 hdesc hb.2.2.2⟩ (by omega)
              rw [List.take_succ_eq_append_getElem h1]
              intro t ht
              rcases List.mem_append.1 ht with ht | ht
              · exact hgood t ht
              · simp only [List.mem_singleton] at ht
                rw [ht]
                refine ⟨hb.1, hb.2.1, hb.2.2.1, ?_⟩
                rw [h2, List.take_length] at hin
                exact hin
        clear hK
        by_cases ha : (f.ts[x1].e.length : Int) = f.v
        · by_cases hb : f.ts[x1].c = 0
          · refine opsI_seg fun L hL => ?_
            simp [C.spec_l2Right, fS, tS, ha, hb]
            refine hL _ ?_; clear hL L
            refine opsI_seg fun L hL => ?_
            simp [C.spec_l2Right, fS, tS, ha, hb]
            refine hL _ ?_; clear hL L
            refine opsI_end fun L hL => ?_
            simp [C.spec_l2Right, fS, tS, ha, hb]
            refine hL _ ?_; clear hL L
            simp [C.spec_l2Right, fS, tS, ha, hb]
            refine cast (congrArg K ?_) hJ
            simp [fS, tS, ha, hb]
          · by_cases hc : -1000000 ≤ f.ts[x1].c ∧ f.ts[x1].c ≤ 1000000
            · by_cases hd : 0 < x1
              · obtain ⟨m, rfl⟩ : ∃ m, x1 = m + 1 := ⟨x1 - 1, by omega⟩
                have hm : m < f.ts.length := by omega
                refine opsI_seg fun L hL => ?_
                simp [C.spec_l2Right, fS, tS, hm, tS_0 hm, wrap_nat (show m < 4611686018427387904 by omega), ha, hb, hc, hd]
                refine wcall1 (spec_l1In_calls f.ts[m + 1].c (-1000000) 1000000) (by simp) (by simp) ?_
                simp [C.spec_l2Right, fS, tS, hm, tS_0 hm, wrap_nat (show m < 4611686018427387904 by omega), ha, hb, hc, hd]
                refine hL _ ?_; clear hL L
                refine opsI_seg fun L hL => ?_
                simp [C.spec_l2Right, fS, tS, hm, tS_0 hm, wrap_nat (show m < 4611686018427387904 by omega), ha, hb, hc, hd]
                refine wcall1 (spec_l1Less_calls f.ts[m + 1].e f.ts[m].e (hxe _ (List.getElem_mem h1))) (by simp) (by simp) ?_
                simp [C.spec_l2Right, fS, tS, hm, tS_0 hm, wrap_nat (show m < 4611686018427387904 by omega), ha, hb, hc, hd]
                refine hL _ ?_; clear hL L
                refine opsI_end fun L hL => ?_
                simp [C.spec_l2Right, fS, tS, hm, tS_0 hm, wrap_nat (show m < 4611686018427387904 by omega), ha, hb, hc, hd]
                refine hL _ ?_; clear hL L
                simp [C.spec_l2Right, fS, tS, hm, tS_0 hm, wrap_nat (show m < 4611686018427387904 by omega), ha, hb, hc, hd]
                refine cast (congrArg K ?_) hJ
                simp [fS, tS, ha, hb, hc, hd]
              · obtain rfl : x1 = 0 := by omega
                refine opsI_seg fun L hL => ?_
                simp [C.spec_l2Right, fS, tS, ha, hb, hc, hd]
                refine wcall1 (spec_l1In_calls f.ts[0].c (-1000000) 1000000) (by simp) (by simp) ?_
                simp [C.spec_l2Right, fS, tS, ha, hb, hc, hd]
                refine hL _ ?_; clear hL L
                refine opsI_seg fun L hL => ?_
                simp [C.spec_l2Right, fS, tS, ha, hb, hc, hd]
                refine hL _ ?_; clear hL L
                refine opsI_end fun L hL => ?_
                simp [C.spec_l2Right, fS, tS, ha, hb, hc, hd]
                refine hL _ ?_; clear hL L
                simp [C.spec_l2Right, fS, tS, ha, hb, hc, hd]
                refine cast (congrArg K ?_) hJ
                simp [fS, tS, ha, hb, hc, hd]
            · refine opsI_seg fun L hL => ?_
              simp [C.spec_l2Right, fS, tS, ha, hb, hc]
              refine wcall1 (spec_l1In_calls f.ts[x1].c (-1000000) 1000000) (by simp) (by simp) ?_
              simp [C.spec_l2Right, fS, tS, ha, hb, hc]
              refine hL _ ?_; clear hL L
              refine opsI_seg fun L hL => ?_
              simp [C.spec_l2Right, fS, tS, ha, hb, hc]
              refine hL _ ?_; clear hL L
              refine opsI_end fun L hL => ?_
              simp [C.spec_l2Right, fS, tS, ha, hb, hc]
              refine hL _ ?_; clear hL L
              simp [C.spec_l2Right, fS, tS, ha, hb, hc]
              refine cast (congrArg K ?_) hJ
              simp [fS, tS, ha, hb, hc]
        · refine opsI_seg fun L hL => ?_
          simp [C.spec_l2Right, fS, tS, ha]
          refine hL _ ?_; clear hL L
          refine opsI_seg fun L hL => ?_
          simp [C.spec_l2Right, fS, tS, ha]
          refine hL _ ?_; clear hL L
          refine opsI_end fun L hL => ?_
          simp [C.spec_l2Right, fS, tS, ha]
          refine hL _ ?_; clear hL L
          simp [C.spec_l2Right, fS, tS, ha]
          refine cast (congrArg K ?_) hJ
          simp [fS, tS, ha]
      · have h2 : x1 = f.ts.length := by have := d_f hc2; omega
        refine wexit ?_
        show AWp _ _ _ _ _
        refine wseq ?_
        refine wreg fun K hK => ?_
        simp [C.spec_l2Right, fS, tS]
        refine hK _ ?_; clear hK K
        show AWp _ _ _ _ _
        refine wret ?_
        simp [C.spec_l2Right, fS, tS]
        rw [h2, List.take_length] at hgood hdesc
        exact ⟨hh.1, hh.2, hgood, hdesc⟩
  clear hK
  by_cases ha : 1 ≤ f.v ∧ f.v ≤ 8
  · refine opsI_seg fun L hL => ?_
    simp [C.spec_l2Right, fS, tS, ha]
    refine wcall1 (spec_l1In_calls f.v 1 8) (by simp) (by simp) ?_
    simp [C.spec_l2Right, fS, tS, ha]
    refine hL _ ?_; clear hL L
    refine opsI_end fun L hL => ?_
    simp [C.spec_l2Right, fS, tS, ha]
    refine hL _ ?_; clear hL L
    simp [C.spec_l2Right, fS, tS, ha]
    refine cast (congrArg K ?_) hJ
    simp [fS, tS, ha]
  · refine opsI_seg fun L hL => ?_
    simp [C.spec_l2Right, fS, tS, ha]
    refine wcall1 (spec_l1In_calls f.v 1 8) (by simp) (by simp) ?_
    simp [C.spec_l2Right, fS, tS, ha]
    refine hL _ ?_; clear hL L
    refine opsI_end fun L hL => ?_
    simp [C.spec_l2Right, fS, tS, ha]
    refine hL _ ?_; clear hL L
    simp [C.spec_l2Right, fS, tS, ha]
    refine cast (congrArg K ?_) hJ
    simp [fS, tS, ha]

theorem spec_l2Two_calls (f g : Lau) (hx : f.ts.length < 4611686018427387904) (hxe : ∀ t ∈ f.ts, t.e.length < 4611686018427387904) (hy : g.ts.length < 4611686018427387904) (hye : ∀ t ∈ g.ts, t.e.length < 4611686018427387904) : ACalls Try.prog F.spec_l2Two [aF f, aF g] [] true (fun outs res => outs = [] ∧ res = [.one (D.bool (decide (Right f ∧ Right g ∧ f.v = g.v)))]) := by
  refine ACalls.of_body (C := C.spec_l2Two) (n := Try.f117.ntmps) tabT folT Try.func117 rfl (by kernel_rfl) rfl (Nat.le_of_ble_eq_true rfl) (by decide) (by kernel_rfl) (by kernel_rfl) rfl (by simp) (by simp) ?_
  simp only [Try.f117]
  refine wseq ?_
  refine wreg fun K hK => ?_
  simp [C.spec_l2Two, fS]
  refine hK _ ?_; clear hK K
  show AWp _ _ _ _ _
  refine wseq ?_
  refine wregI ([0, 1] ++ ([2, 3, 4] ++ ([5, 6, 7, 8, 9, 10, 11, 12, 13]))) rfl fun K hK => ?_
  have hJ : K ⟨ofL [(4, .bool (decide (Right f ∧ Right g ∧ f.v = g.v)))], ofRO []⟩ := by
    refine hK _ ?_; clear hK K
    show AWp _ _ _ _ _
    refine wret ?_
    simp [C.spec_l2Two, fS]
  clear hK
  by_cases ha : Right f
  · by_cases hb : Right g
    · refine opsI_seg fun L hL => ?_
      simp [C.spec_l2Two, fS, ha, hb]
      refine wcall1 (spec_l2Right_calls f hx hxe) (by simp) (by simp) ?_
      simp [C.spec_l2Two, fS, ha, hb]
      refine hL _ ?_; clear hL L
      refine opsI_seg fun L hL => ?_
      simp [C.spec_l2Two, fS, ha, hb]
      refine wcall1 (spec_l2Right_calls g hy hye) (by simp) (by simp) ?_
      simp [C.spec_l2Two, fS, ha, hb]
      refine hL _ ?_; clear hL L
      refine opsI_end fun L hL => ?_
      simp [C.spec_l2Two, fS, ha, hb]
      refine hL _ ?_; clear hL L
      simp [C.spec_l2Two, fS, ha, hb]
      refine cast (congrArg K ?_) hJ
      simp [ibeq, fS, ha, hb]
    · refine opsI_seg fun L hL => ?_
      simp [C.spec_l2Two, fS, ha, hb]
      refine wcall1 (spec_l2Right_calls f hx hxe) (by simp) (by simp) ?_
      simp [C.spec_l2Two, fS, ha, hb]
      refine hL _ ?_; clear hL L
      refine opsI_seg fun L hL => ?_
      simp [C.spec_l2Two, fS, ha, hb]
      refine wcall1 (spec_l2Right_calls g hy hye) (by simp) (by simp) ?_
      simp [C.spec_l2Two, fS, ha, hb]
      refine hL _ ?_; clear hL L
      refine opsI_end fun L hL => ?_
      simp [C.spec_l2Two, fS, ha, hb]
      refine hL _ ?_; clear hL L
      simp [C.spec_l2Two, fS, ha, hb]
      refine cast (congrArg K ?_) hJ
      simp [ibeq, fS, ha, hb]
  · refine opsI_seg fun L hL => ?_
    simp [C.spec_l2Two, fS, ha]
    refine wcall1 (spec_l2Right_calls f hx hxe) (by simp) (by simp) ?_
    simp [C.spec_l2Two, fS, ha]
    refine hL _ ?_; clear hL L
    refine opsI_seg fun L hL => ?_
    simp [C.spec_l2Two, fS, ha]
    refine hL _ ?_; clear hL L
    refine opsI_end fun L hL => ?_
    simp [C.spec_l2Two, fS, ha]
    refine hL _ ?_; clear hL L
    simp [C.spec_l2Two, fS, ha]
    refine cast (congrArg K ?_) hJ
    simp [ibeq, fS, ha]

theorem spec_l2Key_calls (xs : List Int) (hd : Dig xs) (hl : xs.length ≤ 8) : ACalls Try.prog F.spec_l2Key [.d (shI xs)] [] true (fun outs res => outs = [] ∧ res = [.one (D.int (keyA 0 xs))]) := by
  refine ACalls.of_body (C := C.spec_l2Key) (n := Try.f157.ntmps) tabT folT Try.func157 rfl (by kernel_rfl) rfl (Nat.le_of_ble_eq_true rfl) (by decide) (by kernel_rfl) (by kernel_rfl) rfl (by simp) (by simp) ?_
  simp only [Try.f157]
  refine wseq ?_
  refine wreg fun K hK => ?_
  simp [C.spec_l2Key]
  refine hK _ ?_; clear hK K
  show AWp _ _ _ _ _
  refine wseq ?_
  refine wreg fun K hK => ?_
  simp [C.spec_l2Key]
  refine hK _ ?_; clear hK K
  show AWp _ _ _ _ _
  refine wseq ?_
  refine wseq ?_
  refine wreg fun K hK => ?_
  simp [C.spec_l2Key]
  refine hK _ ?_; clear hK K
  show AWp _ _ _ _ _
  refine wblock ?_
  refine wloop (fun x : Nat × Int => ⟨ofL [(0, .d (shI xs)), (3, .int x.2), (4, .int x.1)], ofRO []⟩) (fun x => x.1 ≤ xs.length ∧ x.2 = keyA 0 (xs.take x.1)) (fun x => xs.length - x.1) (0, 0) (by simp [C.spec_l2Key]) (by simp [keyA]) ?_
  intro x1 hx1 R1 hR1
  obtain ⟨j, k⟩ := x1
  obtain ⟨hj, hk⟩ := hx1
  dsimp only at hj hk ⊢
  refine wseq ?_
  refine wseq ?_
  refine wreg fun K hK => ?_
  simp [C.spec_l2Key]
  refine hK _ ?_; clear hK K
  show AWp _ _ _ _ _
  refine wcond _ rfl (fun hc1 => ?_) (fun hc1 => ?_)
  · have h1 : j < xs.length := d_t hc1 |> fun h => by omega
    have hb := keyA_key (a := xs.take j) (fun x hx => hd x (List.mem_of_mem_take hx)) (by simp; omega)
    rw [← hk] at hb
    have hx := hd _ (List.getElem_mem h1)
    refine wskip ?_
    show AWp _ _ _ _ _
    refine wseq ?_
    refine wblock ?_
    refine wreg fun K hK => ?_
    simp [C.spec_l2Key, get_ints, h1]
    rw [wrapOk (x := k * 128) (by omega) (by omega), wrapOk (x := k * 128 + xs[j]) (by omega) (by omega), wrapOk (x := k * 128 + xs[j] + 64) (by omega) (by omega)]
    refine hK _ ?_; clear hK K
    show AWp _ _ _ _ _
    refine wreg fun K hK => ?_
    simp [C.spec_l2Key, wrap_succ (show j < 4611686018427387904 by omega)]
    refine hK _ ?_; clear hK K
    simp [C.spec_l2Key]
    refine hR1 (j + 1, _) ⟨h1, ?_⟩ (by dsimp only; omega)
    dsimp only
    rw [List.take_succ_eq_append_getElem h1, keyA_append, ← hk]
    rfl
  · have h1 : j = xs.length := by have := d_f hc1; omega
    refine wexit ?_
    show AWp _ _ _ _ _
    refine wseq ?_
    refine wreg fun K hK => ?_
    simp [C.spec_l2Key]
    refine hK _ ?_; clear hK K
    show AWp _ _ _ _ _
    refine wret ?_
    simp [C.spec_l2Key]
    rw [hk, h1, List.take_length]

theorem spec_l2Base_calls (n : Nat) (hn : n ≤ 8) : ACalls Try.prog F.spec_l2Base [.int n] [] true (fun outs res => outs = [] ∧ res = [.one (D.int (keyA 0 (List.replicate n 0)))]) := by
  refine ACalls.of_body (C := C.spec_l2Base) (n := Try.f193.ntmps) tabT folT Try.func193 rfl (by kernel_rfl) rfl (Nat.le_of_ble_eq_true rfl) (by decide) (by kernel_rfl) (by kernel_rfl) rfl (by simp) (by simp) ?_
  simp only [Try.f193]
  refine wseq ?_
  refine wreg fun K hK => ?_
  simp [C.spec_l2Base]
  refine hK _ ?_; clear hK K
  show AWp _ _ _ _ _
  refine wseq ?_
  refine wregI ([0, 1, 2] ++ ([3])) rfl fun K hK => ?_
  refine opsI_seg fun L hL => ?_
  simp [C.spec_l2Base, zeros_ints, show (8 : Int) * n ≤ 281474976710656 by omega, show (n : Int) ≤ 281474976710656 by omega]
  refine wcall1 (spec_l2Key_calls (List.replicate n 0) (fun x hx => by have := List.eq_of_mem_replicate hx; omega) (by simpa using hn)) (by simp) (by simp) ?_
  simp [C.spec_l2Base, zeros_ints, show (8 : Int) * n ≤ 281474976710656 by omega, show (n : Int) ≤ 281474976710656 by omega]
  refine hL _ ?_; clear hL L
  refine opsI_end fun L hL => ?_
  simp [C.spec_l2Base, zeros_ints, show (8 : Int) * n ≤ 281474976710656 by omega, show (n : Int) ≤ 281474976710656 by omega]
  refine hL _ ?_; clear hL L
  simp [C.spec_l2Base, zeros_ints, show (8 : Int) * n ≤ 281474976710656 by omega, show (n : Int) ≤ 281474976710656 by omega]
  refine hK _ ?_; clear hK K
  show AWp _ _ _ _ _
  refine wret ?_
  simp [C.spec_l2Base]

theorem spec_l2Exp_calls (e : List Int) (hd : Dig e) (hl : e.length ≤ 8) : ACalls Try.prog F.spec_l2Exp [.int (keyA 0 e), .int e.length] [] true (fun outs res => outs = [] ∧ res = [.one (owI e)]) := by
  refine ACalls.of_body (C := C.spec_l2Exp) (n := Try.f197.ntmps) tabT folT Try.func197 rfl (by kernel_rfl) rfl (Nat.le_of_ble_eq_true rfl) (by decide) (by kernel_rfl) (by kernel_rfl) rfl (by simp) (by simp) ?_
  simp only [Try.f197]
  refine wseq ?_
  refine wreg fun K hK => ?_
  simp [C.spec_l2Exp]
  refine hK _ ?_; clear hK K
  show AWp _ _ _ _ _
  refine wseq ?_
  refine wreg fun K hK => ?_
  simp [C.spec_l2Exp, zeros_ints, show (8 : Int) * e.length ≤ 281474976710656 by omega, show (e.length : Int) ≤ 281474976710656 by omega]
  refine hK _ ?_; clear hK K
  show AWp _ _ _ _ _
  refine wseq ?_
  refine wseq ?_
  refine wreg fun K hK => ?_
  simp [C.spec_l2Exp]
  rw [wrapOk (x := (e.length : Int) - 1) (by omega) (by omega)]
  refine hK _ ?_; clear hK K
  show AWp _ _ _ _ _
  refine wblock ?_
  refine wloop (fun x : Nat × Int × List Int => ⟨ofL [(0, .int x.2.1), (5, .al (5, 0) [] 0 e.length), (6, .int ((x.1 : Int) - 1))], ofRO [((5, 0), some (.ow 1 e.length (ints x.2.2)))]⟩) (fun x => x.1 ≤ e.length ∧ x.2.1 = keyA 0 (e.take x.1) ∧ x.2.2.length = e.length ∧ x.2.2.drop x.1 = e.drop x.1) (fun x => x.1) (e.length, keyA 0 e, List.replicate e.length 0) (by simp [C.spec_l2Exp]) (by simp) ?_
  intro x1 hx1 R1 hR1
  obtain ⟨j, k, gs⟩ := x1
  obtain ⟨hj, hk, hg, he⟩ := hx1
  dsimp only at hj hk hg he ⊢
  refine wseq ?_
  refine wseq ?_
  refine wreg fun K hK => ?_
  simp [C.spec_l2Exp]
  refine hK _ ?_; clear hK K
  show AWp _ _ _ _ _
  refine wcond _ rfl (fun hc1 => ?_) (fun hc1 => ?_)
  · obtain ⟨m, rfl⟩ : ∃ m, j = m + 1 := ⟨j - 1, by have := d_t hc1; omega⟩
    have h1 : m < e.length := by omega
    have hq : Dig (e.take m) := fun x hx => hd x (List.mem_of_mem_take hx)
    have hdec := keyA_dec (a := e.take m) (x := e[m]) (p := 0) hq (hd _ (List.getElem_mem h1)) (by omega)
    rw [← List.take_succ_eq_append_getElem h1, ← hk] at hdec
    have hkb := keyA_key (a := e.take (m + 1)) (fun x hx => hd x (List.mem_of_mem_take hx)) (by simp; omega)
    rw [← hk] at hkb
    have hkb2 := keyA_key (a := e.take m) hq (by simp; omega)
    have hx := hd _ (List.getElem_mem h1)
    refine wskip ?_
    show AWp _ _ _ _ _
    refine wseq ?_
    refine wblock ?_
    refine wseq ?_
    refine wreg fun K hK => ?_
    simp [C.spec_l2Exp, h1, hg]
    rw [hdec.1, wrapOk (x := e[m]) (by omega) (by omega)]
    refine hK _ ?_; clear hK K
    show AWp _ _ _ _ _
    refine wreg fun K hK => ?_
    simp [C.spec_l2Exp]
    rw [hdec.2, wrapOk (x := keyA 0 (e.take m)) (by omega) (by omega)]
    refine hK _ ?_; clear hK K
    show AWp _ _ _ _ _
    refine wreg fun K hK => ?_
    simp [C.spec_l2Exp]
    rw [wrapOk (x := (m : Int) - 1) (by omega) (by omega)]
    refine hK _ ?_; clear hK K
    simp [C.spec_l2Exp]
    refine hR1 (m, _, _) ⟨by dsimp only; omega, rfl, by simpa using hg, ?_⟩ (by dsimp only; omega)
    dsimp only
    rw [List.drop_eq_getElem_cons h1, List.drop_eq_getElem_cons (by simp; omega), List.drop_set_of_lt (by omega), he]
    simp
  · have hj0 : j = 0 := by have := d_f hc1; omega
    refine wexit ?_
    show AWp _ _ _ _ _
    refine wseq ?_
    refine wreg fun K hK => ?_
    simp [C.spec_l2Exp]
    refine hK _ ?_; clear hK K
    show AWp _ _ _ _ _
    refine wret ?_
    simp [C.spec_l2Exp]
    rw [hj0, List.drop_zero, List.drop_zero] at he
    rw [he]

end Go.Proofs.Ytdgeponcnlkaiaa.Ab
