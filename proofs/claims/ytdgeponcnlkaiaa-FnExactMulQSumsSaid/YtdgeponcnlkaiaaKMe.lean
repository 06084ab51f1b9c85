/- Products of quantum sums: the program's. The law of products of quantum sums. More arguments of this program's laws, read as trees: lists of lists, quantum sums. Products of quantum sums: the law, without a premise left. No condition. -/
import Derived.Test.YtdgeponcnlkaiaaKMd
import Derived.Test.YtdgeponcnlkaiaaKMc
set_option linter.unusedVariables false
set_option linter.unusedSimpArgs false
namespace Go.Proofs.Ytdgeponcnlkaiaa.Ab
open Go
set_option linter.unusedSimpArgs false
set_option linter.unusedVariables false
set_option maxRecDepth 10000
set_option maxHeartbeats 2000000
def absQK (l : List (QK × Int)) : Nat := (l.map fun x => x.2.natAbs).sum
theorem coK_abs (k : QK) : ∀ l : List (QK × Int), (co k l).natAbs ≤ absQK l
  | [] => by simp [co]
  | x :: l => by
    have := coK_abs k l
    simp only [co, absQK, List.map_cons, List.sum_cons] at this ⊢
    split <;> omega
theorem nfQ_perm {l r : List (QK × Int)} (h : l.Perm r) : nf qlt l = nf qlt r :=
  nf_unique qOrd (nf_desc qOrd l) (nf_nz l) fun k => by rw [nf_co, co_perm k h]
theorem impl_MulQSums_calls (hDone : DoneOkQ) (fm : List (List Int)) (f g : Qsm) (h0 : fm.length < 4611686018427387904) (hI : I64 fm) (hx : f.ts.length < 4611686018427387904) (hxe : ∀ t ∈ f.ts, t.e.length < 4611686018427387904) (hy : g.ts.length < 4611686018427387904) (hye : ∀ t ∈ g.ts, t.e.length < 4611686018427387904) : ACalls Try.prog F.impl_MulQSums [.d (.sh 1 fm.length (rows lS fm)), aQ f, aQ g] [] true (fun outs res => outs = [] ∧ WkRs res [.ag (qO (mulQF fm f g).1), .one (D.bool (mulQF fm f g).2)]) := by
  refine ACalls.of_body (C := C.impl_MulQSums) (n := Try.f62.ntmps) tabT folT Try.func62 rfl (by kernel_rfl) rfl (Nat.le_of_ble_eq_true rfl) (by decide) (by kernel_rfl) (by kernel_rfl) rfl (by simp) (by simp) ?_
  simp only [Try.f62]
  refine wseq ?_
  refine wreg fun K hK => ?_
  simp [C.impl_MulQSums, qS]
  refine hK _ ?_; clear hK K
  show AWp _ _ _ _ _
  refine wseq ?_
  refine wseq ?_
  refine wregI ([0, 1, 2, 3] ++ ([4])) rfl fun K hK => ?_
  refine opsI_seg fun L hL => ?_
  simp [C.impl_MulQSums, qS]
  refine wcall1 (impl_multipliable_calls fm f g h0 hI hx hxe hy hye) (by simp) (by simp) ?_
  simp [C.impl_MulQSums, qS]
  refine hL _ ?_; clear hL L
  refine opsI_end fun L hL => ?_
  simp [C.impl_MulQSums, qS]
  refine hL _ ?_; clear hL L
  simp [C.impl_MulQSums, qS]
  refine hK _ ?_; clear hK K
  show AWp _ _ _ _ _
  refine wcond _ rfl (fun hc1 => ?_) (fun hc1 => ?_)
  · have hr : ¬ (FormOk fm ∧ QRight f ∧ QRight g ∧ f.v = fm.length ∧ g.v = fm.length) := by
      intro ⟨q1, q2, q3, q4, q5⟩
      simp [q1, q2, q3, q4, q5] at hc1
    have hm : mulQF fm f g = (zeroQ, false) := if_neg hr
    refine wseq ?_
    refine wreg fun K hK => ?_
    simp [C.impl_MulQSums, qS]
    refine hK _ ?_; clear hK K
    show AWp _ _ _ _ _
    refine wret ?_
    simp [C.impl_MulQSums, qS, hm, qO, zeroQ, rows]
  · have hr : FormOk fm ∧ QRight f ∧ QRight g ∧ f.v = fm.length ∧ g.v = fm.length := by simpa using hc1
    obtain ⟨hok, hf, hg, hfv, hgv⟩ := hr
    have hfq := qright_ql hf hfv
    have hgq := qright_ql hg hgv
    obtain ⟨n, hn0⟩ : ∃ n, n = fm.length := ⟨_, rfl⟩
    have hn : f.v = n := by rw [hn0]; exact hfv
    have hn2 : g.v = n := by rw [hn0]; exact hgv
    have hn1 : 1 ≤ n ∧ n ≤ 8 := by have := hok.1; omega
    have hn8 := hn1.2
    have hfl := hf.2.1
    have hgl := hg.2.1
    have hm : mulQF fm f g = enQ n (gaQ (prodQ fm f.ts g.ts)) := by
      rw [← hn]
      exact if_pos ⟨hok, hf, hg, hfv, hgv⟩
    refine wskip ?_
    show AWp _ _ _ _ _
    refine wseq ?_
    refine wregI ([0, 1, 2] ++ ([3])) rfl fun K hK => ?_
    refine opsI_seg fun L hL => ?_
    simp [C.impl_MulQSums, qS, hn]
    refine wcall1 (impl_newQBuilding_calls n) (by simp) (by simp) ?_
    simp [C.impl_MulQSums, qS, hn]
    refine hL _ ?_; clear hL L
    refine opsI_end fun L hL => ?_
    simp [C.impl_MulQSums, qS, hn]
    refine hL _ ?_; clear hL L
    simp [C.impl_MulQSums, qS, hn]
    refine hK _ ?_; clear hK K
    show AWp _ _ _ _ _
    refine wseq ?_
    refine wseq ?_
    refine wreg fun K hK => ?_
    simp [C.impl_MulQSums, qS]
    refine hK _ ?_; clear hK K
    show AWp _ _ _ _ _
    refine wblock ?_
    refine wloop (fun x : Nat × List (List Int × Int) × List (QK × Int) => ⟨ofL [(0, .d (.sh 1 fm.length (rows lS fm))), (5, .pt (5, 0) [] 0), (6, .pt (6, 0) [] 0), (8, .pt (8, 0) [] 0), (23, .d (.sh 3 f.ts.length (rows qtS f.ts))), (24, .int f.ts.length), (25, .int x.1)], ofRO [((5, 0), some (.bx (qS g))), ((6, 0), some (.bx [D.int 0, .v (.slice none 0 0)])), ((8, 0), some (.bx [D.int n, .mp x.2.1]))]⟩) (fun x => x.1 ≤ f.ts.length ∧ MapQ n x.2.1 x.2.2 ∧ x.2.2.Perm ((prodQ fm (f.ts.take x.1) g.ts).map qp) ∧ x.2.2.length ≤ x.1 * 600 ∧ absQK x.2.2 ≤ (x.1 * 600) * 1000000000000) (fun x => f.ts.length - x.1) (0, [], []) (by simp [C.impl_MulQSums, qS]) ⟨by simp, MapQ.nil n, by simp [prodQ], by simp, by simp [absQK]⟩ ?_
    intro x1 hx1 R1 hR1
    obtain ⟨i, es, l⟩ := x1
    obtain ⟨hi, hM, hP, hL, hA⟩ := hx1
    dsimp only at hi hM hP hL hA ⊢
    refine wseq ?_
    refine wreg fun K hK => ?_
    simp [C.impl_MulQSums, qS]
    refine hK _ ?_; clear hK K
    show AWp _ _ _ _ _
    refine wseq ?_
    refine wcond _ rfl (fun hc2 => ?_) (fun hc2 => ?_)
    · have hif : i < f.ts.length := by have := d_t hc2; omega
      have hT := hfq.2 _ (List.getElem_mem hif)
      have hT20 := (hf.2.2.1 _ (List.getElem_mem hif)).2.2.2.2
      refine wskip ?_
      show AWp _ _ _ _ _
      refine wseq ?_
      refine wblock ?_
      refine wseq ?_
      refine wreg fun K hK => ?_
      simp [C.impl_MulQSums, qS, hif, qtS_0 hif, qtS_1 hif, qtS_2 hif]
      refine hK _ ?_; clear hK K
      show AWp _ _ _ _ _
      refine wseq ?_
      refine wreg fun K hK => ?_
      simp [C.impl_MulQSums, qS]
      refine hK _ ?_; clear hK K
      show AWp _ _ _ _ _
      refine wblock ?_
      refine wloop (fun x : Nat × List (List Int × Int) × List (QK × Int) => ⟨ofL [(0, .d (.sh 1 fm.length (rows lS fm))), (5, .pt (5, 0) [] 0), (6, .pt (6, 0) [] 0), (8, .pt (8, 0) [] 0), (10, .pt (10, 0) [] 0), (23, .d (.sh 3 f.ts.length (rows qtS f.ts))), (24, .int f.ts.length), (25, .int i), (30, .d (.sh 3 g.ts.length (rows qtS g.ts))), (31, .int g.ts.length), (32, .int x.1)], ofRO [((5, 0), some (.bx (qS g))), ((6, 0), some (.bx [D.int 0, .v (.slice none 0 0)])), ((8, 0), some (.bx [D.int n, .mp x.2.1])), ((10, 0), some (.bx (qtS f.ts[i])))]⟩) (fun x => x.1 ≤ g.ts.length ∧ MapQ n x.2.1 x.2.2 ∧ x.2.2.Perm ((prodQ fm (f.ts.take i) g.ts ++ (g.ts.take x.1).map (mulT2 fm f.ts[i])).map qp) ∧ x.2.2.length ≤ i * 600 + x.1 ∧ absQK x.2.2 ≤ (i * 600 + x.1) * 1000000000000) (fun x => g.ts.length - x.1) (0, es, l) (by simp [C.impl_MulQSums, qS, qtS]) ⟨by simp, hM, by simpa using hP, by dsimp only; omega, by dsimp only; omega⟩ ?_
      intro x2 hx2 R2 hR2
      obtain ⟨j, es2, l2⟩ := x2
      obtain ⟨hj, hM2, hP2, hL2, hA2⟩ := hx2
      dsimp only at hj hM2 hP2 hL2 hA2 ⊢
      refine wseq ?_
      refine wreg fun K hK => ?_
      simp [C.impl_MulQSums, qS]
      refine hK _ ?_; clear hK K
      show AWp _ _ _ _ _
      refine wseq ?_
      refine wcond _ rfl (fun hc3 => ?_) (fun hc3 => ?_)
      · have hjg : j < g.ts.length := by have := d_t hc3; omega
        have hU := hgq.2 _ (List.getElem_mem hjg)
        have hU20 := (hg.2.2.1 _ (List.getElem_mem hjg)).2.2.2.2
        refine wskip ?_
        show AWp _ _ _ _ _
        refine wseq ?_
        refine wblock ?_
        refine wseq ?_
        refine wreg fun K hK => ?_
        simp [C.impl_MulQSums, qS, hjg, qtS_0 hjg, qtS_1 hjg, qtS_2 hjg]
        refine hK _ ?_; clear hK K
        show AWp _ _ _ _ _
        obtain ⟨a0, a1, a2, a3, a4, a5, a6, a7, hpa⟩ := eight (pad_length (e := f.ts[i].e) (by omega))
        obtain ⟨b0, b1, b2, b3, b4, b5, b6, b7, hpb⟩ := eight (pad_length (e := g.ts[j].e) (by omega))
        have hba := pad_bd hT20
        have hbb := pad_bd hU20
        rw [hpa] at hba
        rw [hpb] at hbb
        have hsk := QL.sk hok hfq hgq (List.getElem_mem hif) (List.getElem_mem hjg)
        have hsb := hsk.bd
        have hadd : [a0 + b0, a1 + b1, a2 + b2, a3 + b3, a4 + b4, a5 + b5, a6 + b6, a7 + b7, f.ts[i].h + g.ts[j].h + skw fm f.ts[i].e g.ts[j].e] = kq (qk (mulT2 fm f.ts[i] g.ts[j])) := by
          simp only [kq, qk, mulT2]
          rw [← pad_add (by omega), hpa, hpb]
          simp [addE]
        have hel : (qk (mulT2 fm f.ts[i] g.ts[j])).1.length = n := by simp only [qk, mulT2]; rw [addE_length _ _ _ (by omega)]; omega
        have hcc := mul_bd hT.2.2.2 hU.2.2.2
        have hval := hM2.val _ hel
        have hco := coK_abs (qk (mulT2 fm f.ts[i] g.ts[j])) l2
        refine wdrawI [(true, 0), (true, 1), (true, 2), (true, 4), (true, 5), (true, 8), (true, 9), (true, 10), (true, 11), (true, 12), (true, 13), (true, 14), (true, 15), (true, 16), (true, 17), (true, 21), (true, 22), (true, 23), (true, 24), (true, 25), (false, 3), (false, 6), (false, 7), (false, 18), (true, 19), (true, 20), (false, 26)] ⟨by kernel_rfl, by kernel_rfl⟩ ([0, 1, 2, 4, 5, 8, 9, 10, 11, 12, 13, 14, 15, 16, 17, 21, 22, 23, 24, 25, 3] ++ ([6] ++ ([7] ++ ([18] ++ ([19, 20, 26] ++ ([])))))) rfl fun K hK => ?_
        refine opsI_seg fun L hL => ?_
        simp [C.impl_MulQSums, qS, qtS, wrapOk (x := f.ts[i].c * g.ts[j].c) (by omega) (by omega), wrapOk (x := f.ts[i].h + g.ts[j].h) (by omega) (by omega), wrapOk (x := f.ts[i].h + g.ts[j].h + skw fm f.ts[i].e g.ts[j].e) (by omega) (by omega)]
        refine wcall1 (impl_keyOf_calls f.ts[i].e (by omega) a0 a1 a2 a3 a4 a5 a6 a7 hpa) (by simp) (by simp) ?_
        simp [C.impl_MulQSums, qS, qtS, wrapOk (x := f.ts[i].c * g.ts[j].c) (by omega) (by omega), wrapOk (x := f.ts[i].h + g.ts[j].h) (by omega) (by omega), wrapOk (x := f.ts[i].h + g.ts[j].h + skw fm f.ts[i].e g.ts[j].e) (by omega) (by omega)]
        refine hL _ ?_; clear hL L
        refine opsI_seg fun L hL => ?_
        simp [C.impl_MulQSums, qS, qtS, wrapOk (x := f.ts[i].c * g.ts[j].c) (by omega) (by omega), wrapOk (x := f.ts[i].h + g.ts[j].h) (by omega) (by omega), wrapOk (x := f.ts[i].h + g.ts[j].h + skw fm f.ts[i].e g.ts[j].e) (by omega) (by omega)]
        refine wcall1 (impl_keyOf_calls g.ts[j].e (by omega) b0 b1 b2 b3 b4 b5 b6 b7 hpb) (by simp) (by simp) ?_
        simp [C.impl_MulQSums, qS, qtS, wrapOk (x := f.ts[i].c * g.ts[j].c) (by omega) (by omega), wrapOk (x := f.ts[i].h + g.ts[j].h) (by omega) (by omega), wrapOk (x := f.ts[i].h + g.ts[j].h + skw fm f.ts[i].e g.ts[j].e) (by omega) (by omega)]
        refine hL _ ?_; clear hL L
        refine opsI_seg fun L hL => ?_
        simp [C.impl_MulQSums, qS, qtS, wrapOk (x := f.ts[i].c * g.ts[j].c) (by omega) (by omega), wrapOk (x := f.ts[i].h + g.ts[j].h) (by omega) (by omega), wrapOk (x := f.ts[i].h + g.ts[j].h + skw fm f.ts[i].e g.ts[j].e) (by omega) (by omega)]
        refine wcall1 (impl_plusExp_calls 1 a0 a1 a2 a3 a4 a5 a6 a7 b0 b1 b2 b3 b4 b5 b6 b7 (by omega) hba hbb) (by simp) (by simp) ?_
        simp [C.impl_MulQSums, qS, qtS, wrapOk (x := f.ts[i].c * g.ts[j].c) (by omega) (by omega), wrapOk (x := f.ts[i].h + g.ts[j].h) (by omega) (by omega), wrapOk (x := f.ts[i].h + g.ts[j].h + skw fm f.ts[i].e g.ts[j].e) (by omega) (by omega)]
        refine hL _ ?_; clear hL L
        refine opsI_seg fun L hL => ?_
        simp [C.impl_MulQSums, qS, qtS, wrapOk (x := f.ts[i].c * g.ts[j].c) (by omega) (by omega), wrapOk (x := f.ts[i].h + g.ts[j].h) (by omega) (by omega), wrapOk (x := f.ts[i].h + g.ts[j].h + skw fm f.ts[i].e g.ts[j].e) (by omega) (by omega)]
        refine wcall1 (impl_paired_calls fm f.ts[i].e g.ts[j].e hsk) (by simp) (by simp) ?_
        simp [C.impl_MulQSums, qS, qtS, wrapOk (x := f.ts[i].c * g.ts[j].c) (by omega) (by omega), wrapOk (x := f.ts[i].h + g.ts[j].h) (by omega) (by omega), wrapOk (x := f.ts[i].h + g.ts[j].h + skw fm f.ts[i].e g.ts[j].e) (by omega) (by omega)]
        refine hL _ ?_; clear hL L
        refine opsI_seg fun L hL => ?_
        simp [C.impl_MulQSums, qS, qtS, wrapOk (x := f.ts[i].c * g.ts[j].c) (by omega) (by omega), wrapOk (x := f.ts[i].h + g.ts[j].h) (by omega) (by omega), wrapOk (x := f.ts[i].h + g.ts[j].h + skw fm f.ts[i].e g.ts[j].e) (by omega) (by omega)]
        refine wcall1 (impl_qbuilding_add_calls n (f.ts[i].c * g.ts[j].c) es2 (a0 + 1 * b0) (a1 + 1 * b1) (a2 + 1 * b2) (a3 + 1 * b3) (a4 + 1 * b4) (a5 + 1 * b5) (a6 + 1 * b6) (a7 + 1 * b7) (f.ts[i].h + g.ts[j].h + skw fm f.ts[i].e g.ts[j].e) (hM2.len9 hn8) (by simp only [Int.one_mul]; rw [hadd, hval]; omega)) (by simp) (by simp) ?_
        simp [C.impl_MulQSums, qS, qtS, wrapOk (x := f.ts[i].c * g.ts[j].c) (by omega) (by omega), wrapOk (x := f.ts[i].h + g.ts[j].h) (by omega) (by omega), wrapOk (x := f.ts[i].h + g.ts[j].h + skw fm f.ts[i].e g.ts[j].e) (by omega) (by omega)]
        refine hL _ ?_; clear hL L
        refine opsI_end fun L hL => ?_
        simp only [AOpsI]
        refine hL _ ?_; clear hL L
        simp [C.impl_MulQSums, qS, qtS, wrapOk (x := f.ts[i].c * g.ts[j].c) (by omega) (by omega), wrapOk (x := f.ts[i].h + g.ts[j].h) (by omega) (by omega), wrapOk (x := f.ts[i].h + g.ts[j].h + skw fm f.ts[i].e g.ts[j].e) (by omega) (by omega)]
        rw [hadd]
        refine hK _ ?_; clear hK K
        show AWp _ _ _ _ _
        refine wreg fun K hK => ?_
        simp [C.impl_MulQSums, qS, wrap_succ (show j < 4611686018427387904 by omega)]
        refine hK _ ?_; clear hK K
        simp [C.impl_MulQSums, qS]
        refine hR2 (j + 1, _, (qk (mulT2 fm f.ts[i] g.ts[j]), f.ts[i].c * g.ts[j].c) :: l2) ⟨hjg, hM2.add hel _, ?_, by dsimp only [List.length_cons]; omega, ?_⟩ (by dsimp only; omega)
        · dsimp only
          rw [List.take_succ_eq_append_getElem hjg]
          simp only [List.map_append] at hP2 ⊢
          rw [← List.append_assoc]
          refine (List.Perm.cons _ hP2).trans ?_
          exact (List.perm_append_singleton _ _).symm
        · have := natAbs_bd hcc
          simp only [absQK, List.map_cons, List.sum_cons] at hA2 ⊢
          omega
      · have hjg : j = g.ts.length := by have := d_f hc3; omega
        refine wexit ?_
        show AWp _ _ _ _ _
        refine wreg fun K hK => ?_
        simp [C.impl_MulQSums, qS, wrap_succ (show i < 4611686018427387904 by omega)]
        refine hK _ ?_; clear hK K
        simp [C.impl_MulQSums, qS]
        refine hR1 (i + 1, es2, l2) ⟨hif, hM2, ?_, by dsimp only; omega, absB hA2 (by omega)⟩ (by dsimp only; omega)
        dsimp only
        rw [prodQ_step hif]
        rw [hjg, List.take_length] at hP2
        exact hP2
    · have hif : i = f.ts.length := by have := d_f hc2; omega
      have hall : l.Perm ((prodQ fm f.ts g.ts).map qp) := by
        rw [hif, List.take_length] at hP
        exact hP
      have hlen : ∀ x ∈ l, x.1.1.length = n := fun x hx => by
        have := hall.subset hx
        obtain ⟨t, ht, rfl⟩ := List.mem_map.1 this
        rw [hn0]
        exact prodQ_e hfq hgq t ht
      have hs : (nf qlt l).map qt = gaQ (prodQ fm f.ts g.ts) := by
        unfold gaQ
        rw [nfQ_perm hall]
      refine wexit ?_
      show AWp _ _ _ _ _
      refine wseq ?_
      refine wregI ([0, 1] ++ ([2, 3, 4, 5])) rfl fun K hK => ?_
      refine opsI_seg fun L hL => ?_
      simp [C.impl_MulQSums, qS]
      refine wcall1 (hDone n es l hM hlen hn1.1 hn8 (by omega)) (by simp) (by simp) ?_
      simp [C.impl_MulQSums, qS]
      refine hL _ ?_; clear hL L
      refine opsI_end fun L hL => ?_
      simp [C.impl_MulQSums, qS]
      refine hL _ ?_; clear hL L
      simp [C.impl_MulQSums, qS]
      refine hK _ ?_; clear hK K
      show AWp _ _ _ _ _
      refine wret ?_
      simp [C.impl_MulQSums, qS, hm, ← hs, qO]
theorem iMulQ_calls (hDone : DoneOkQ) (fm : List (List Int)) (f g : Qsm) (h0 : fm.length < 4611686018427387904) (hI : I64 fm) (hx : f.ts.length < 4611686018427387904) (hxe : ∀ t ∈ f.ts, t.e.length < 4611686018427387904) (hy : g.ts.length < 4611686018427387904) (hye : ∀ t ∈ g.ts, t.e.length < 4611686018427387904) : ACalls Try.prog F.impl_MulQSums [.d (.sh 1 fm.length (rows lS fm)), aQ f, aQ g] [] true (fun outs res => outs = [] ∧ res = [.ag (qO (mulQF fm f g).1), .one (D.bool (mulQF fm f g).2)]) := (impl_MulQSums_calls hDone fm f g h0 hI hx hxe hy hye).weak1
def SmallQ (g : Qsm) : Prop := g.ts.length ≤ 600 ∧ (∀ t ∈ g.ts, t.e.length ≤ 8) ∧ cntL cntQT g.ts ≤ 6000
theorem smallQ_right {g : Qsm} (h : QRight g) : SmallQ g := by
  have he : ∀ t ∈ g.ts, t.e.length ≤ 8 := fun t ht => by have := (h.2.2.1 t ht).1; have := h.1; omega
  refine ⟨h.2.1, he, ?_⟩
  have : ∀ ts : List Qtm, (∀ t ∈ ts, t.e.length ≤ 8) → cntL cntQT ts ≤ ts.length * 10 := fun ts => by
    induction ts with
    | nil => intro _; simp [cntL]
    | cons x ts ih =>
      intro h
      have h1 := h x (by simp)
      have h2 := ih fun t ht => h t (by simp [ht])
      simp only [cntL, cntQT, List.length_cons] at h2 ⊢
      omega
  have := this g.ts he
  have := h.2.1
  omega
theorem enQ_small (v : Int) (ts : List Qtm) : SmallQ (enQ v ts).1 := by
  unfold enQ
  split
  · exact smallQ_right (by assumption)
  · exact ⟨by simp [zeroQ], by simp [zeroQ], by simp [zeroQ, cntL]⟩
theorem mulQF_small (fm : List (List Int)) (f g : Qsm) : SmallQ (mulQF fm f g).1 := by
  unfold mulQF
  split
  · exact enQ_small _ _
  · exact ⟨by simp [zeroQ], by simp [zeroQ], by simp [zeroQ, cntL]⟩

end Go.Proofs.Ytdgeponcnlkaiaa.Ab
namespace Go.Proofs.Ytdgeponcnlkaiaa.Ab
open Go
set_option linter.unusedSimpArgs false
set_option linter.unusedVariables false
set_option maxRecDepth 10000
set_option maxHeartbeats 2000000
theorem laws_FnExactMulQSums_calls (hDone : DoneOkQ) (fm : List (List Int)) (fm1 : fm.length < 4611686018427387904) (fm2 : ∀ t ∈ fm, t.length < 4611686018427387904) (fm3 : I64 fm) (f : Qsm) (f1 : f.ts.length < 4611686018427387904) (f2 : ∀ t ∈ f.ts, t.e.length < 4611686018427387904) (h : Qsm) (h1 : h.ts.length < 4611686018427387904) (h2 : ∀ t ∈ h.ts, t.e.length < 4611686018427387904) : ACalls Try.prog F.laws_FnExactMulQSums [.d (.sh 1 fm.length (rows lS fm)), aQ f, aQ h] [] true (fun outs res => outs = [] ∧ res = [.one (D.bool true)]) := by
  have hgs := mulQF_small fm f h
  have hw := sMulQ_calls fm f h fm1 fm3 f1 f2 h1 h2
  have hg := iMulQ_calls hDone fm f h fm1 fm3 f1 f2 h1 h2
  generalize mulQF fm f h = g at hgs hw hg
  obtain ⟨g, b⟩ := g
  obtain ⟨hg1, hg2, hg3⟩ := hgs
  dsimp only at hg1 hg2 hg3
  dsimp only at hw hg
  refine ACalls.of_body (C := C.laws_FnExactMulQSums) (n := Try.f14.ntmps) tabT folT Try.func14 rfl (by kernel_rfl) rfl (Nat.le_of_ble_eq_true rfl) (by decide) (by kernel_rfl) (by kernel_rfl) rfl (by simp) (by simp) ?_
  simp only [Try.f14]
  refine wseq ?_
  refine wreg fun K hK => ?_
  simp [C.laws_FnExactMulQSums, qO, qS]
  refine hK _ ?_; clear hK K
  show AWp _ _ _ _ _
  refine wseq ?_
  refine wreg fun K hK => ?_
  simp [C.laws_FnExactMulQSums, qO, qS]
  refine hK _ ?_; clear hK K
  show AWp _ _ _ _ _
  refine wseq ?_
  refine wregI ([0, 1, 2] ++ ([3])) rfl fun K hK => ?_
  refine opsI_seg fun L hL => ?_
  simp [C.laws_FnExactMulQSums, qO, qS]
  refine wcall (laws_szIntSS_calls fm 1048576 (by omega) (by omega) fm1 fm2) (by simp) (by simp) (by simp) ?_
  rintro outs res ⟨rfl, r1, rfl, hr1⟩
  simp [C.laws_FnExactMulQSums, qO, qS]
  refine hL _ ?_; clear hL L
  refine opsI_end fun L hL => ?_
  simp [C.laws_FnExactMulQSums, qO, qS]
  refine hL _ ?_; clear hL L
  simp [C.laws_FnExactMulQSums, qO, qS]
  refine hK _ ?_; clear hK K
  show AWp _ _ _ _ _
  refine wseq ?_
  refine wseq ?_
  refine wreg fun K hK => ?_
  simp [C.laws_FnExactMulQSums, qO, qS]
  refine hK _ ?_; clear hK K
  show AWp _ _ _ _ _
  refine wcond _ rfl (fun hc1 => ?_) (fun hc1 => ?_)
  · refine wseq ?_
    refine wreg fun K hK => ?_
    simp [C.laws_FnExactMulQSums, qO, qS]
    refine hK _ ?_; clear hK K
    show AWp _ _ _ _ _
    refine wret ?_
    simp [C.laws_FnExactMulQSums, qO, qS]
  · have q1 : 0 ≤ r1 := by have := d_f hc1; omega
    refine wskip ?_
    show AWp _ _ _ _ _
    refine wseq ?_
    refine wregI ([0, 1, 2] ++ ([3])) rfl fun K hK => ?_
    refine opsI_seg fun L hL => ?_
    simp [C.laws_FnExactMulQSums, qO, qS]
    refine wcall (laws_szQSum_calls f r1 (by omega) (by omega) f1 f2) (by simp) (by simp) (by simp) ?_
    rintro outs res ⟨rfl, r2, rfl, hr2⟩
    simp [C.laws_FnExactMulQSums, qO, qS]
    refine hL _ ?_; clear hL L
    refine opsI_end fun L hL => ?_
    simp [C.laws_FnExactMulQSums, qO, qS]
    refine hL _ ?_; clear hL L
    simp [C.laws_FnExactMulQSums, qO, qS]
    refine hK _ ?_; clear hK K
    show AWp _ _ _ _ _
    refine wseq ?_
    refine wseq ?_
    refine wreg fun K hK => ?_
    simp [C.laws_FnExactMulQSums, qO, qS]
    refine hK _ ?_; clear hK K
    show AWp _ _ _ _ _
    refine wcond _ rfl (fun hc2 => ?_) (fun hc2 => ?_)
    · refine wseq ?_
      refine wreg fun K hK => ?_
      simp [C.laws_FnExactMulQSums, qO, qS]
      refine hK _ ?_; clear hK K
      show AWp _ _ _ _ _
      refine wret ?_
      simp [C.laws_FnExactMulQSums, qO, qS]
    · have q2 : 0 ≤ r2 := by have := d_f hc2; omega
      refine wskip ?_
      show AWp _ _ _ _ _
      refine wseq ?_
      refine wregI ([0, 1, 2] ++ ([3])) rfl fun K hK => ?_
      refine opsI_seg fun L hL => ?_
      simp [C.laws_FnExactMulQSums, qO, qS]
      refine wcall (laws_szQSum_calls h r2 (by omega) (by omega) h1 h2) (by simp) (by simp) (by simp) ?_
      rintro outs res ⟨rfl, r3, rfl, hr3⟩
      simp [C.laws_FnExactMulQSums, qO, qS]
      refine hL _ ?_; clear hL L
      refine opsI_end fun L hL => ?_
      simp [C.laws_FnExactMulQSums, qO, qS]
      refine hL _ ?_; clear hL L
      simp [C.laws_FnExactMulQSums, qO, qS]
      refine hK _ ?_; clear hK K
      show AWp _ _ _ _ _
      refine wseq ?_
      refine wseq ?_
      refine wreg fun K hK => ?_
      simp [C.laws_FnExactMulQSums, qO, qS]
      refine hK _ ?_; clear hK K
      show AWp _ _ _ _ _
      refine wcond _ rfl (fun hc3 => ?_) (fun hc3 => ?_)
      · refine wseq ?_
        refine wreg fun K hK => ?_
        simp [C.laws_FnExactMulQSums, qO, qS]
        refine hK _ ?_; clear hK K
        show AWp _ _ _ _ _
        refine wret ?_
        simp [C.laws_FnExactMulQSums, qO, qS]
      · have q3 : 0 ≤ r3 := by have := d_f hc3; omega
        obtain ⟨fml, fme⟩ := szL_small2 (ls := fm) q1 (by omega)
        have fmk : cntL List.length fm ≤ 1048576 := szL_cnt2 q1 (by omega)
        obtain ⟨fl, fe⟩ := szQ_small2 (ts := f.ts) q2 (by omega)
        have fk : cntL cntQT f.ts ≤ 3145728 := szQ_cnt2 q2 (by omega)
        obtain ⟨hl, he⟩ := szQ_small2 (ts := h.ts) q3 (by omega)
        have hk : cntL cntQT h.ts ≤ 3145728 := szQ_cnt2 q3 (by omega)
        refine wskip ?_
        show AWp _ _ _ _ _
        refine wseq ?_
        refine wdraw (.take 0 (.take 2 (.take 4 (.all [(1, .all [(3, .all [(5, .all [(6, .take 7 (.take 8 (.take 9 (.all [(10, .all [(11, .take 12 (.done))])])))), (10, .all [(6, .take 7 (.take 8 (.take 9 (.all [(11, .take 12 (.done))]))))])]), (10, .all [(5, .all [(6, .take 7 (.take 8 (.take 9 (.all [(11, .take 12 (.done))]))))])])]), (10, .all [(3, .all [(5, .all [(6, .take 7 (.take 8 (.take 9 (.all [(11, .take 12 (.done))]))))])])])]), (10, .all [(1, .all [(3, .all [(5, .all [(6, .take 7 (.take 8 (.take 9 (.all [(11, .take 12 (.done))]))))])])])])])))) ⟨by kernel_rfl, by kernel_rfl⟩ fun K hK => ?_
        have hJ : K ⟨ofL [(0, .d (.sh 1 fm.length (rows lS fm))), (4, .pt (4, 0) [] 0), (5, .pt (5, 0) [] 0), (8, .pt (8, 0) [] 0), (9, .bool b)], ofRO [((4, 0), some (.bx (qS f))), ((5, 0), some (.bx (qS h))), ((8, 0), some (.bx (qO g)))]⟩ := by
          refine hK _ ?_; clear hK K
          show AWp _ _ _ _ _
          refine wseq ?_
          refine wregI ([0, 1] ++ ([2])) rfl fun K hK => ?_
          refine opsI_seg fun L hL => ?_
          simp [C.laws_FnExactMulQSums, qO, qS]
          refine wcall1 (laws_toIntSS_calls fm fml fme) (by simp) (by simp) ?_
          simp [C.laws_FnExactMulQSums, qO, qS]
          refine hL _ ?_; clear hL L
          refine opsI_end fun L hL => ?_
          simp [C.laws_FnExactMulQSums, qO, qS]
          refine hL _ ?_; clear hL L
          simp [C.laws_FnExactMulQSums, qO, qS]
          refine hK _ ?_; clear hK K
          show AWp _ _ _ _ _
          refine wseq ?_
          refine wregI ([0, 1] ++ ([2, 3])) rfl fun K hK => ?_
          refine opsI_seg fun L hL => ?_
          simp [C.laws_FnExactMulQSums, qO, qS]
          refine wcall1 (laws_toQSum_calls f fl fe) (by simp) (by simp) ?_
          simp [C.laws_FnExactMulQSums, qO, qS]
          refine hL _ ?_; clear hL L
          refine opsI_end fun L hL => ?_
          simp [C.laws_FnExactMulQSums, qO, qS]
          refine hL _ ?_; clear hL L
          simp [C.laws_FnExactMulQSums, qO, qS]
          refine hK _ ?_; clear hK K
          show AWp _ _ _ _ _
          refine wseq ?_
          refine wregI ([0, 1] ++ ([2, 3])) rfl fun K hK => ?_
          refine opsI_seg fun L hL => ?_
          simp [C.laws_FnExactMulQSums, qO, qS]
          refine wcall1 (laws_toQSum_calls h hl he) (by simp) (by simp) ?_
          simp [C.laws_FnExactMulQSums, qO, qS]
          refine hL _ ?_; clear hL L
          refine opsI_end fun L hL => ?_
          simp [C.laws_FnExactMulQSums, qO, qS]
          refine hL _ ?_; clear hL L
          simp [C.laws_FnExactMulQSums, qO, qS]
          refine hK _ ?_; clear hK K
          show AWp _ _ _ _ _
          refine wseq ?_
          refine wregI ([0, 1, 2, 3] ++ ([4, 5, 6, 7, 8, 9])) rfl fun K hK => ?_
          refine opsI_seg fun L hL => ?_
          simp [C.laws_FnExactMulQSums, qO, qS]
          refine wcall1 (hg) (by simp) (by simp) ?_
          simp [C.laws_FnExactMulQSums, qO, qS]
          refine hL _ ?_; clear hL L
          refine opsI_end fun L hL => ?_
          simp [C.laws_FnExactMulQSums, qO, qS]
          refine hL _ ?_; clear hL L
          simp [C.laws_FnExactMulQSums, qO, qS]
          refine hK _ ?_; clear hK K
          show AWp _ _ _ _ _
          refine wseq ?_
          refine wseq ?_
          refine wregI ([0, 1, 2] ++ ([3, 4, 5, 6, 7, 8])) rfl fun K hK => ?_
          refine opsI_seg fun L hL => ?_
          simp [C.laws_FnExactMulQSums, qO, qS]
          refine wcall1 (laws_eqQSum_calls g g (by omega) (fun t ht => by have := hg2 t ht; omega)) (by simp) (by simp) ?_
          simp [C.laws_FnExactMulQSums, qO, qS]
          refine hL _ ?_; clear hL L
          refine opsI_end fun L hL => ?_
          simp [C.laws_FnExactMulQSums, qO, qS]
          refine hL _ ?_; clear hL L
          simp [C.laws_FnExactMulQSums, qO, qS]
          refine hK _ ?_; clear hK K
          show AWp _ _ _ _ _
          refine wcond _ rfl (fun hc4 => ?_) (fun hc4 => ?_)
          · simp at hc4
          · refine wskip ?_
            show AWp _ _ _ _ _
            refine wseq ?_
            refine wseq ?_
            refine wregI ([0, 1, 2] ++ ([3] ++ ([4]))) rfl fun K hK => ?_
            refine opsI_seg fun L hL => ?_
            simp [C.laws_FnExactMulQSums, qO, qS]
            refine wcall1 (laws_toIntSS_calls fm fml fme) (by simp) (by simp) ?_
            simp [C.laws_FnExactMulQSums, qO, qS]
            refine hL _ ?_; clear hL L
            refine opsI_seg fun L hL => ?_
            simp [C.laws_FnExactMulQSums, qO, qS]
            refine wcall1 (laws_eqIntSS_calls fm fm fm1 fm2) (by simp) (by simp) ?_
            simp [C.laws_FnExactMulQSums, qO, qS]
            refine hL _ ?_; clear hL L
            refine opsI_end fun L hL => ?_
            simp [C.laws_FnExactMulQSums, qO, qS]
            refine hL _ ?_; clear hL L
            simp [C.laws_FnExactMulQSums, qO, qS]
            refine hK _ ?_; clear hK K
            show AWp _ _ _ _ _
            refine wcond _ rfl (fun hc5 => ?_) (fun hc5 => ?_)
            · simp at hc5
            · refine wskip ?_
              show AWp _ _ _ _ _
              refine wseq ?_
              refine wseq ?_
              refine wdrawI [(true, 0), (true, 1), (false, 2), (false, 3), (true, 4)] ⟨by kernel_rfl, by kernel_rfl⟩ ([0, 1, 2] ++ ([3] ++ ([4]))) rfl fun K hK => ?_
              refine opsI_seg fun L hL => ?_
              simp [C.laws_FnExactMulQSums, qO, qS]
              refine wcall1 (laws_toQSum_calls f fl fe) (by simp) (by simp) ?_
              simp [C.laws_FnExactMulQSums, qO, qS]
              refine hL _ ?_; clear hL L
              refine opsI_seg fun L hL => ?_
              simp [C.laws_FnExactMulQSums, qO, qS]
              refine wcall1 (laws_eqQSum_calls f f f1 f2) (by simp) (by simp) ?_
              simp [C.laws_FnExactMulQSums, qO, qS]
              refine hL _ ?_; clear hL L
              refine opsI_end fun L hL => ?_
              simp [C.laws_FnExactMulQSums, qO, qS]
              refine hL _ ?_; clear hL L
              simp [C.laws_FnExactMulQSums, qO, qS]
              refine hK _ ?_; clear hK K
              show AWp _ _ _ _ _
              refine wcond _ rfl (fun hc6 => ?_) (fun hc6 => ?_)
              · simp at hc6
              · refine wskip ?_
                show AWp _ _ _ _ _
                refine wseq ?_
                refine wseq ?_
                refine wdrawI [(true, 0), (true, 1), (false, 2), (false, 3), (true, 4)] ⟨by kernel_rfl, by kernel_rfl⟩ ([0, 1, 2] ++ ([3] ++ ([4]))) rfl fun K hK => ?_
                refine opsI_seg fun L hL => ?_
                simp [C.laws_FnExactMulQSums, qO, qS]
                refine wcall1 (laws_toQSum_calls h hl he) (by simp) (by simp) ?_
                simp [C.laws_FnExactMulQSums, qO, qS]
                refine hL _ ?_; clear hL L
                refine opsI_seg fun L hL => ?_
                simp [C.laws_FnExactMulQSums, qO, qS]
                refine wcall1 (laws_eqQSum_calls h h h1 h2) (by simp) (by simp) ?_
                simp [C.laws_FnExactMulQSums, qO, qS]
                refine hL _ ?_; clear hL L
                refine opsI_end fun L hL => ?_
                simp [C.laws_FnExactMulQSums, qO, qS]
                refine hL _ ?_; clear hL L
                simp [C.laws_FnExactMulQSums, qO, qS]
                refine hK _ ?_; clear hK K
                show AWp _ _ _ _ _
                refine wcond _ rfl (fun hc7 => ?_) (fun hc7 => ?_)
                · simp at hc7
                · refine wskip ?_
                  show AWp _ _ _ _ _
                  refine wseq ?_
                  refine wreg fun K hK => ?_
                  simp [C.laws_FnExactMulQSums, qO, qS]
                  refine hK _ ?_; clear hK K
                  show AWp _ _ _ _ _
                  refine wseq ?_
                  refine wregI ([0, 1, 2] ++ ([3])) rfl fun K hK => ?_
                  refine opsI_seg fun L hL => ?_
                  simp [C.laws_FnExactMulQSums, qO, qS]
                  refine wcall1 (laws_markIntSS_calls fm 1 (by omega) (by omega) fm1) (by simp) (by simp) ?_
                  simp [C.laws_FnExactMulQSums, qO, qS]
                  refine hL _ ?_; clear hL L
                  refine opsI_end fun L hL => ?_
                  simp [C.laws_FnExactMulQSums, qO, qS]
                  refine hL _ ?_; clear hL L
                  simp [C.laws_FnExactMulQSums, qO, qS]
                  refine hK _ ?_; clear hK K
                  show AWp _ _ _ _ _
                  refine wseq ?_
                  refine wregI ([0, 1, 2] ++ ([3])) rfl fun K hK => ?_
                  refine opsI_seg fun L hL => ?_
                  simp [C.laws_FnExactMulQSums, qO, qS]
                  refine wcall1 (laws_markQSum_calls f ((1 : Int) + (cntL List.length fm : Nat)) (by omega) (by omega) f1) (by simp) (by simp) ?_
                  simp [C.laws_FnExactMulQSums, qO, qS]
                  refine hL _ ?_; clear hL L
                  refine opsI_end fun L hL => ?_
                  simp [C.laws_FnExactMulQSums, qO, qS]
                  refine hL _ ?_; clear hL L
                  simp [C.laws_FnExactMulQSums, qO, qS]
                  refine hK _ ?_; clear hK K
                  show AWp _ _ _ _ _
                  refine wseq ?_
                  refine wregI ([0, 1, 2] ++ ([3])) rfl fun K hK => ?_
                  refine opsI_seg fun L hL => ?_
                  simp [C.laws_FnExactMulQSums, qO, qS]
                  refine wcall1 (laws_markQSum_calls h ((1 : Int) + (cntL List.length fm : Nat) + (cntL cntQT f.ts : Nat)) (by omega) (by omega) h1) (by simp) (by simp) ?_
                  simp [C.laws_FnExactMulQSums, qO, qS]
                  refine hL _ ?_; clear hL L
                  refine opsI_end fun L hL => ?_
                  simp [C.laws_FnExactMulQSums, qO, qS]
                  refine hL _ ?_; clear hL L
                  simp [C.laws_FnExactMulQSums, qO, qS]
                  refine hK _ ?_; clear hK K
                  show AWp _ _ _ _ _
                  refine wseq ?_
                  refine wseq ?_
                  refine wregI ([0, 1, 2, 3, 4, 5] ++ ([6, 7, 8, 9, 10, 11, 12])) rfl fun K hK => ?_
                  refine opsI_seg fun L hL => ?_
                  simp [C.laws_FnExactMulQSums, qO, qS, show (0 : Int) ≤ (1 : Int) + (cntL List.length fm : Nat) + (cntL cntQT f.ts : Nat) + (cntL cntQT h.ts : Nat) by omega, show ¬ ((1 : Int) + (cntL List.length fm : Nat) + (cntL cntQT f.ts : Nat) + (cntL cntQT h.ts : Nat) < 0) by omega]
                  refine wcall1 (laws_eqQSum_calls g g (by omega) (fun t ht => by have := hg2 t ht; omega)) (by simp) (by simp) ?_
                  simp [C.laws_FnExactMulQSums, qO, qS, show (0 : Int) ≤ (1 : Int) + (cntL List.length fm : Nat) + (cntL cntQT f.ts : Nat) + (cntL cntQT h.ts : Nat) by omega, show ¬ ((1 : Int) + (cntL List.length fm : Nat) + (cntL cntQT f.ts : Nat) + (cntL cntQT h.ts : Nat) < 0) by omega]
                  refine hL _ ?_; clear hL L
                  refine opsI_end fun L hL => ?_
                  simp [C.laws_FnExactMulQSums, qO, qS, show (0 : Int) ≤ (1 : Int) + (cntL List.length fm : Nat) + (cntL cntQT f.ts : Nat) + (cntL cntQT h.ts : Nat) by omega, show ¬ ((1 : Int) + (cntL List.length fm : Nat) + (cntL cntQT f.ts : Nat) + (cntL cntQT h.ts : Nat) < 0) by omega]
                  refine hL _ ?_; clear hL L
                  simp [C.laws_FnExactMulQSums, qO, qS, show (0 : Int) ≤ (1 : Int) + (cntL List.length fm : Nat) + (cntL cntQT f.ts : Nat) + (cntL cntQT h.ts : Nat) by omega, show ¬ ((1 : Int) + (cntL List.length fm : Nat) + (cntL cntQT f.ts : Nat) + (cntL cntQT h.ts : Nat) < 0) by omega]
                  refine hK _ ?_; clear hK K
                  show AWp _ _ _ _ _
                  refine wcond _ rfl (fun hc8 => ?_) (fun hc8 => ?_)
                  · simp at hc8
                  · refine wskip ?_
                    show AWp _ _ _ _ _
                    refine wseq ?_
                    refine wreg fun K hK => ?_
                    simp [C.laws_FnExactMulQSums, qO, qS]
                    refine hK _ ?_; clear hK K
                    show AWp _ _ _ _ _
                    refine wseq ?_
                    refine wregI ([0, 1, 2] ++ ([3])) rfl fun K hK => ?_
                    refine opsI_seg fun L hL => ?_
                    simp [C.laws_FnExactMulQSums, qO, qS]
                    refine wcall1 (laws_markQSum_calls g 1 (by omega) (by omega) (by omega)) (by simp) (by simp) ?_
                    simp [C.laws_FnExactMulQSums, qO, qS]
                    refine hL _ ?_; clear hL L
                    refine opsI_end fun L hL => ?_
                    simp [C.laws_FnExactMulQSums, qO, qS]
                    refine hL _ ?_; clear hL L
                    simp [C.laws_FnExactMulQSums, qO, qS]
                    refine hK _ ?_; clear hK K
                    show AWp _ _ _ _ _
                    refine wseq ?_
                    refine wreg fun K hK => ?_
                    simp [C.laws_FnExactMulQSums, qO, qS]
                    refine hK _ ?_; clear hK K
                    show AWp _ _ _ _ _
                    refine wseq ?_
                    refine wregI ([0, 1, 2] ++ ([3])) rfl fun K hK => ?_
                    refine opsI_seg fun L hL => ?_
                    simp [C.laws_FnExactMulQSums, qO, qS]
                    refine wcall1 (laws_heldQSum_calls g.v g.ts 1 (by omega) (by omega) (by omega)) (by simp) (by simp) ?_
                    simp [C.laws_FnExactMulQSums, qO, qS]
                    refine hL _ ?_; clear hL L
                    refine opsI_end fun L hL => ?_
                    simp [C.laws_FnExactMulQSums, qO, qS]
                    refine hL _ ?_; clear hL L
                    simp [C.laws_FnExactMulQSums, qO, qS]
                    refine hK _ ?_; clear hK K
                    show AWp _ _ _ _ _
                    refine wseq ?_
                    refine wseq ?_
                    refine wreg fun K hK => ?_
                    simp [C.laws_FnExactMulQSums, qO, qS]
                    refine hK _ ?_; clear hK K
                    show AWp _ _ _ _ _
                    refine wcond _ rfl (fun hc9 => ?_) (fun hc9 => ?_)
                    · have := d_t hc9; omega
                    · refine wskip ?_
                      show AWp _ _ _ _ _
                      refine wseq ?_
                      refine wseq ?_
                      refine wreg fun K hK => ?_
                      simp [C.laws_FnExactMulQSums, qO, qS]
                      refine hK _ ?_; clear hK K
                      show AWp _ _ _ _ _
                      refine wcond _ rfl (fun hc10 => ?_) (fun hc10 => ?_)
                      · simp at hc10
                      · refine wskip ?_
                        show AWp _ _ _ _ _
                        refine wseq ?_
                        refine wdraw (.take 0 (.take 2 (.take 4 (.all [(1, .all [(3, .all [(5, .all [(6, .take 7 (.take 8 (.take 9 (.all [(10, .all [(11, .take 12 (.done))])])))), (10, .all [(6, .take 7 (.take 8 (.take 9 (.all [(11, .take 12 (.done))]))))])]), (10, .all [(5, .all [(6, .take 7 (.take 8 (.take 9 (.all [(11, .take 12 (.done))]))))])])]), (10, .all [(3, .all [(5, .all [(6, .take 7 (.take 8 (.take 9 (.all [(11, .take 12 (.done))]))))])])])]), (10, .all [(1, .all [(3, .all [(5, .all [(6, .take 7 (.take 8 (.take 9 (.all [(11, .take 12 (.done))]))))])])])])])))) ⟨by kernel_rfl, by kernel_rfl⟩ fun K hK => ?_
                        have hJ : K ⟨ofL [(8, .pt (8, 0) [] 0), (9, .bool b), (13, .pt (13, 0) [] 0), (16, .int (1 + (cntL cntQT g.ts : Nat))), (18, .pt (18, 0) [] 0), (19, .bool b)], ofRO [((8, 0), some (.bx (qO g))), ((13, 0), some (.bx [D.int g.v, .ow 3 g.ts.length (rows qtO (mkL cntQT mkQT g.ts 1))])), ((18, 0), some (.bx (qO g)))]⟩ := by
                          refine hK _ ?_; clear hK K
                          show AWp _ _ _ _ _
                          refine wseq ?_
                          refine wseq ?_
                          refine wregI ([0, 1, 2] ++ ([3, 4, 5, 6, 7, 8])) rfl fun K hK => ?_
                          refine opsI_seg fun L hL => ?_
                          simp [C.laws_FnExactMulQSums, qO, qS]
                          refine wcall1 (laws_eqQSum_calls g g (by omega) (fun t ht => by have := hg2 t ht; omega)) (by simp) (by simp) ?_
                          simp [C.laws_FnExactMulQSums, qO, qS]
                          refine hL _ ?_; clear hL L
                          refine opsI_end fun L hL => ?_
                          simp [C.laws_FnExactMulQSums, qO, qS]
                          refine hL _ ?_; clear hL L
                          simp [C.laws_FnExactMulQSums, qO, qS]
                          refine hK _ ?_; clear hK K
                          show AWp _ _ _ _ _
                          refine wcond _ rfl (fun hc11 => ?_) (fun hc11 => ?_)
                          · simp at hc11
                          · refine wskip ?_
                            show AWp _ _ _ _ _
                            refine wseq ?_
                            refine wreg fun K hK => ?_
                            simp [C.laws_FnExactMulQSums, qO, qS]
                            refine hK _ ?_; clear hK K
                            show AWp _ _ _ _ _
                            refine wseq ?_
                            refine wregI ([0, 1, 2] ++ ([3])) rfl fun K hK => ?_
                            refine opsI_seg fun L hL => ?_
                            simp [C.laws_FnExactMulQSums, qO, qS]
                            refine wcall1 (laws_heldQSum_calls g.v g.ts 1 (by omega) (by omega) (by omega)) (by simp) (by simp) ?_
                            simp [C.laws_FnExactMulQSums, qO, qS]
                            refine hL _ ?_; clear hL L
                            refine opsI_end fun L hL => ?_
                            simp [C.laws_FnExactMulQSums, qO, qS]
                            refine hL _ ?_; clear hL L
                            simp [C.laws_FnExactMulQSums, qO, qS]
                            refine hK _ ?_; clear hK K
                            show AWp _ _ _ _ _
                            refine wseq ?_
                            refine wseq ?_
                            refine wreg fun K hK => ?_
                            simp [C.laws_FnExactMulQSums, qO, qS]
                            refine hK _ ?_; clear hK K
                            show AWp _ _ _ _ _
                            refine wcond _ rfl (fun hc12 => ?_) (fun hc12 => ?_)
                            · have := d_t hc12; omega
                            · refine wskip ?_
                              show AWp _ _ _ _ _
                              refine wseq ?_
                              refine wseq ?_
                              refine wreg fun K hK => ?_
                              simp [C.laws_FnExactMulQSums, qO, qS]
                              refine hK _ ?_; clear hK K
                              show AWp _ _ _ _ _
                              refine wcond _ rfl (fun hc13 => ?_) (fun hc13 => ?_)
                              · simp at hc13
                              · refine wskip ?_
                                show AWp _ _ _ _ _
                                refine wseq ?_
                                refine wreg fun K hK => ?_
                                simp [C.laws_FnExactMulQSums, qO, qS]
                                refine hK _ ?_; clear hK K
                                show AWp _ _ _ _ _
                                refine wret ?_
                                simp [C.laws_FnExactMulQSums, qO, qS]
                        clear hK
                        simp [C.laws_FnExactMulQSums, qO, qS]
                        repeat' first
                          | (refine wcall1 (laws_toIntSS_calls fm fml fme) ?_ (by simp) ?_; (focus (simp; done)); simp [C.laws_FnExactMulQSums, qO, qS])
                          | (refine wcall1 (laws_toQSum_calls f fl fe) ?_ (by simp) ?_; (focus (simp; done)); simp [C.laws_FnExactMulQSums, qO, qS])
                          | (refine wcall1 (laws_toQSum_calls h hl he) ?_ (by simp) ?_; (focus (simp; done)); simp [C.laws_FnExactMulQSums, qO, qS])
                          | (refine wcall1 (hg) ?_ (by simp) ?_; (focus (simp; done)); simp [C.laws_FnExactMulQSums, qO, qS])
                          | (refine cast (congrArg K ?_) hJ; simp [qO, qS]; done)
                          | refine And.intro ?_ ?_
        clear hK
        simp [C.laws_FnExactMulQSums, qO, qS]
        repeat' first
          | (refine wcall1 (laws_toIntSS_calls fm fml fme) ?_ (by simp) ?_; (focus (simp; done)); simp [C.laws_FnExactMulQSums, qO, qS])
          | (refine wcall1 (laws_toQSum_calls f fl fe) ?_ (by simp) ?_; (focus (simp; done)); simp [C.laws_FnExactMulQSums, qO, qS])
          | (refine wcall1 (laws_toQSum_calls h hl he) ?_ (by simp) ?_; (focus (simp; done)); simp [C.laws_FnExactMulQSums, qO, qS])
          | (refine wcall1 (hw) ?_ (by simp) ?_; (focus (simp; done)); simp [C.laws_FnExactMulQSums, qO, qS])
          | (refine cast (congrArg K ?_) hJ; simp [qO, qS]; done)
          | refine And.intro ?_ ?_

end Go.Proofs.Ytdgeponcnlkaiaa.Ab
namespace Go.Proofs.Ytdgeponcnlkaiaa.Ab
open Go Go.ChangeShapes Go.WideShapes Go.ChangeAt Go.RowKit
set_option linter.unusedSimpArgs false
set_option linter.unusedVariables false
set_option maxRecDepth 100000
section
variable {H : Type} {enc : TypeId × Value → H} {W : World}
def IntSSB (l : List (List Int)) : Prop := (∀ x ∈ l, IntsB x) ∧ l.length * 24 ≤ 140737488351232
theorem opIntSS : Opens enc Try.prog W 38 1 (List (List Int)) (fun l => [.sh 1 l.length (rows lS l)]) IntSSB :=
  (Opens.slice opInts (by omega) Try.underlying38 (by kernel_rfl) (by kernel_rfl)).to id (fun l => rfl) (fun _ => rfl) (fun _ h => h)
theorem argIntSS : Arg enc Try.prog W 38 (List (List Int)) (fun l => .d (.sh 1 l.length (rows lS l))) IntSSB := Arg.one opIntSS (by kernel_rfl) (of_decide_eq_true (by kernel_rfl)) (by kernel_rfl)
theorem IntSSB.small {l : List (List Int)} (h : IntSSB l) : l.length < 4611686018427387904 ∧ ∀ t ∈ l, t.length < 4611686018427387904 := by
  refine ⟨by have := h.2; omega, fun t ht => ?_⟩
  have := (h.1 t ht).2
  omega
def QtmB (t : Qtm) : Prop := IntsB t.e ∧ i64b t.h ∧ i64b t.c
theorem opQtm : Opens enc Try.prog W 209 3 Qtm qtS QtmB :=
  (Opens.struct3 opInts opInt opInt Try.underlying209 ⟨rfl, rfl⟩ ⟨rfl, rfl⟩ ⟨rfl, rfl⟩ (by kernel_rfl)).to (fun a => ⟨a.1, a.2.1, a.2.2⟩) (fun a => rfl) (fun _ => rfl) (fun _ h => ⟨h.1, h.2.1, h.2.2⟩)
def QtmsB (l : List Qtm) : Prop := (∀ x ∈ l, QtmB x) ∧ l.length * 40 ≤ 140737488351232
theorem opQtms : Opens enc Try.prog W 60 1 (List Qtm) (fun l => [.sh 3 l.length (rows qtS l)]) QtmsB :=
  Opens.slice opQtm (by omega) Try.underlying60 (by kernel_rfl) (by kernel_rfl)
def QsmB (f : Qsm) : Prop := i64b f.v ∧ QtmsB f.ts
theorem opQ : Opens enc Try.prog W 62 2 Qsm qS QsmB :=
  (Opens.struct2 opInt opQtms Try.underlying62 ⟨rfl, rfl⟩ ⟨rfl, rfl⟩ (by kernel_rfl)).to (fun a => ⟨a.1, a.2⟩) (fun a => rfl) (fun _ => rfl) (fun _ h => ⟨h.1, h.2⟩)
theorem argQ : Arg enc Try.prog W 62 Qsm (fun f => .ag ((qS f).map .d)) QsmB := Arg.agg opQ (by kernel_rfl) (of_decide_eq_true (by kernel_rfl)) Try.underlying62
theorem QsmB.small {f : Qsm} (h : QsmB f) : f.ts.length < 4611686018427387904 ∧ ∀ t ∈ f.ts, t.e.length < 4611686018427387904 := by
  refine ⟨by have := h.2.2; omega, fun t ht => ?_⟩
  have := (h.2.1 t ht).1.2
  omega
end
end Go.Proofs.Ytdgeponcnlkaiaa.Ab
namespace Go.Proofs.Ytdgeponcnlkaiaa.Ab
open Go
theorem IntSSB.i64 {l : List (List Int)} (h : IntSSB l) : I64 l := fun r hr x hx => (h.1 r hr).1 x hx
theorem lawMulQ (fm : List (List Int)) (fm1 : fm.length < 4611686018427387904) (fm2 : ∀ t ∈ fm, t.length < 4611686018427387904) (fm3 : I64 fm) (f : Qsm) (f1 : f.ts.length < 4611686018427387904) (f2 : ∀ t ∈ f.ts, t.e.length < 4611686018427387904) (h : Qsm) (h1 : h.ts.length < 4611686018427387904) (h2 : ∀ t ∈ h.ts, t.e.length < 4611686018427387904) : ACalls Try.prog F.laws_FnExactMulQSums [.d (.sh 1 fm.length (rows lS fm)), aQ f, aQ h] [] true (fun outs res => outs = [] ∧ res = [.one (D.bool true)]) := laws_FnExactMulQSums_calls doneOkQ fm fm1 fm2 fm3 f f1 f2 h h1 h2
end Go.Proofs.Ytdgeponcnlkaiaa.Ab
