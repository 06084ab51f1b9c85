/- Products of quantum sums: the program's. Division of quantum sums: the keys, what two ways to test lead to. Quantum division: what a step keeps; the greatest key of a map. The sum that a quantum sum becomes with 1 in place of q: the reference's, the program's. Quantum sums: brackets, sums, 1 over q, 1 in place of q. All that the law of the quantum torus asks of drawn sums. Drawing a form and quantum sums. slices.Grow of the nil slice in the calculus. Printed by wip/tools/lay.py: the contracts of slices.Grow laid at this seat. The program's sums of quantum sums. Sums of quantum sums: the program's. 1 over q in a sum, sums told apart, products and sums: as the laws use them. Values of sums: the program's, and the reference's where there is none. The quantum torus: the law. A code of bytes as an argument, read as a tree. The quantum torus: the law over drawn sums, with its argument. No condition. -/
import Derived.Test.YtocknokodgnlbaaKTd
import Derived.Shelf.Spec.SlicesGrow
import Derived.Test.YtocknokodgnlbaaKTc
import Derived.Shelf.Lays8
import Derived.Test.YtocknokodgnlbaaProg
set_option linter.unusedVariables false
set_option linter.unusedSimpArgs false
namespace Go.Proofs.Ytocknokodgnlbaa.Ab
open Go
set_option linter.unusedSimpArgs false
set_option linter.unusedVariables false
set_option maxRecDepth 10000
set_option maxHeartbeats 2000000
def absQK (l : List (QK × Int)) : Nat := (l.map fun x => x.2.natAbs).sum
theorem coK_abs (k : QK) : ∀ l : List (QK × Int), (co k l).natAbs ≤ absQK l
  | [] => by simp [co]
  | x :: l => by
    have := coK_abs k l
    simp only [co, absQK, List.map_cons, List.sum_cons] at this ⊢
    split <;> omega
theorem nfQ_perm {l r : List (QK × Int)} (h : l.Perm r) : nf qlt l = nf qlt r :=
  nf_unique qOrd (nf_desc qOrd l) (nf_nz l) fun k => by rw [nf_co, co_perm k h]
theorem impl_MulQSums_calls (hDone : DoneOkQ) (fm : List (List Int)) (f g : Qsm) (h0 : fm.length < 4611686018427387904) (hI : I64 fm) (hx : f.ts.length < 4611686018427387904) (hxe : ∀ t ∈ f.ts, t.e.length < 4611686018427387904) (hy : g.ts.length < 4611686018427387904) (hye : ∀ t ∈ g.ts, t.e.length < 4611686018427387904) : ACalls Try.prog F.impl_MulQSums [.d (.sh 1 fm.length (rows lS fm)), aQ f, aQ g] [] true (fun outs res => outs = [] ∧ WkRs res [.ag (qO (mulQF fm f g).1), .one (D.bool (mulQF fm f g).2)]) := by
  refine ACalls.of_body (C := C.impl_MulQSums) (n := Try.f24.ntmps) tabT folT Try.func24 rfl (by kernel_rfl) rfl (Nat.le_of_ble_eq_true rfl) (by decide) (by kernel_rfl) (by kernel_rfl) rfl (by simp) (by simp) ?_
  simp only [Try.f24]
  refine wseq ?_
  refine wreg fun K hK => ?_
  simp [C.impl_MulQSums, qS]
  refine hK _ ?_; clear hK K
  show AWp _ _ _ _ _
  refine wseq ?_
  refine wseq ?_
  refine wregI ([0, 1, 2, 3] ++ ([4])) rfl fun K hK => ?_
  refine opsI_seg fun L hL => ?_
  simp [C.impl_MulQSums, qS]
  refine wcall1 (impl_multipliable_calls fm f g h0 hI hx hxe hy hye) (by simp) (by simp) ?_
  simp [C.impl_MulQSums, qS]
  refine hL _ ?_; clear hL L
  refine opsI_end fun L hL => ?_
  simp [C.impl_MulQSums, qS]
  refine hL _ ?_; clear hL L
  simp [C.impl_MulQSums, qS]
  refine hK _ ?_; clear hK K
  show AWp _ _ _ _ _
  refine wcond _ rfl (fun hc1 => ?_) (fun hc1 => ?_)
  · have hr : ¬ (FormOk fm ∧ QRight f ∧ QRight g ∧ f.v = fm.length ∧ g.v = fm.length) := by
      intro ⟨q1, q2, q3, q4, q5⟩
      simp [q1, q2, q3, q4, q5] at hc1
    have hm : mulQF fm f g = (zeroQ, false) := if_neg hr
    refine wseq ?_
    refine wreg fun K hK => ?_
    simp [C.impl_MulQSums, qS]
    refine hK _ ?_; clear hK K
    show AWp _ _ _ _ _
    refine wret ?_
    simp [C.impl_MulQSums, qS, hm, qO, zeroQ, rows]
  · have hr : FormOk fm ∧ QRight f ∧ QRight g ∧ f.v = fm.length ∧ g.v = fm.length := by simpa using hc1
    obtain ⟨hok, hf, hg, hfv, hgv⟩ := hr
    have hfq := qright_ql hf hfv
    have hgq := qright_ql hg hgv
    obtain ⟨n, hn0⟩ : ∃ n, n = fm.length := ⟨_, rfl⟩
    have hn : f.v = n := by rw [hn0]; exact hfv
    have hn2 : g.v = n := by rw [hn0]; exact hgv
    have hn1 : 1 ≤ n ∧ n ≤ 8 := by have := hok.1; omega
    have hn8 := hn1.2
    have hfl := hf.2.1
    have hgl := hg.2.1
    have hm : mulQF fm f g = enQ n (gaQ (prodQ fm f.ts g.ts)) := by
      rw [← hn]
      exact if_pos ⟨hok, hf, hg, hfv, hgv⟩
    refine wskip ?_
    show AWp _ _ _ _ _
    refine wseq ?_
    refine wregI ([0, 1, 2] ++ ([3])) rfl fun K hK => ?_
    refine opsI_seg fun L hL => ?_
    simp [C.impl_MulQSums, qS, hn]
    refine wcall1 (impl_newQBuilding_calls n) (by simp) (by simp) ?_
    simp [C.impl_MulQSums, qS, hn]
    refine hL _ ?_; clear hL L
    refine opsI_end fun L hL => ?_
    simp [C.impl_MulQSums, qS, hn]
    refine hL _ ?_; clear hL L
    simp [C.impl_MulQSums, qS, hn]
    refine hK _ ?_; clear hK K
    show AWp _ _ _ _ _
    refine wseq ?_
    refine wseq ?_
    refine wreg fun K hK => ?_
    simp [C.impl_MulQSums, qS]
    refine hK _ ?_; clear hK K
    show AWp _ _ _ _ _
    refine wblock ?_
    refine wloop (fun x : Nat × List (List Int × Int) × List (QK × Int) => ⟨ofL [(0, .d (.sh 1 fm.length (rows lS fm))), (5, .pt (5, 0) [] 0), (6, .pt (6, 0) [] 0), (8, .pt (8, 0) [] 0), (23, .d (.sh 3 f.ts.length (rows qtS f.ts))), (24, .int f.ts.length), (25, .int x.1)], ofRO [((5, 0), some (.bx (qS g))), ((6, 0), some (.bx [D.int 0, .v (.slice none 0 0)])), ((8, 0), some (.bx [D.int n, .mp x.2.1]))]⟩) (fun x => x.1 ≤ f.ts.length ∧ MapQ n x.2.1 x.2.2 ∧ x.2.2.Perm ((prodQ fm (f.ts.take x.1) g.ts).map qp) ∧ x.2.2.length ≤ x.1 * 600 ∧ absQK x.2.2 ≤ (x.1 * 600) * 1000000000000) (fun x => f.ts.length - x.1) (0, [], []) (by simp [C.impl_MulQSums, qS]) ⟨by simp, MapQ.nil n, by simp [prodQ], by simp, by simp [absQK]⟩ ?_
    intro x1 hx1 R1 hR1
    obtain ⟨i, es, l⟩ := x1
    obtain ⟨hi, hM, hP, hL, hA⟩ := hx1
    dsimp only at hi hM hP hL hA ⊢
    refine wseq ?_
    refine wreg fun K hK => ?_
    simp [C.impl_MulQSums, qS]
    refine hK _ ?_; clear hK K
    show AWp _ _ _ _ _
    refine wseq ?_
    refine wcond _ rfl (fun hc2 => ?_) (fun hc2 => ?_)
    · have hif : i < f.ts.length := by have := d_t hc2; omega
      have hT := hfq.2 _ (List.getElem_mem hif)
      have hT20 := (hf.2.2.1 _ (List.getElem_mem hif)).2.2.2.2
      refine wskip ?_
      show AWp _ _ _ _ _
      refine wseq ?_
      refine wblock ?_
      refine wseq ?_
      refine wreg fun K hK => ?_
      simp [C.impl_MulQSums, qS, hif, qtS_0 hif, qtS_1 hif, qtS_2 hif]
      refine hK _ ?_; clear hK K
      show AWp _ _ _ _ _
      refine wseq ?_
      refine wreg fun K hK => ?_
      simp [C.impl_MulQSums, qS]
      refine hK _ ?_; clear hK K
      show AWp _ _ _ _ _
      refine wblock ?_
      refine wloop (fun x : Nat × List (List Int × Int) × List (QK × Int) => ⟨ofL [(0, .d (.sh 1 fm.length (rows lS fm))), (5, .pt (5, 0) [] 0), (6, .pt (6, 0) [] 0), (8, .pt (8, 0) [] 0), (10, .pt (10, 0) [] 0), (23, .d (.sh 3 f.ts.length (rows qtS f.ts))), (24, .int f.ts.length), (25, .int i), (30, .d (.sh 3 g.ts.length (rows qtS g.ts))), (31, .int g.ts.length), (32, .int x.1)], ofRO [((5, 0), some (.bx (qS g))), ((6, 0), some (.bx [D.int 0, .v (.slice none 0 0)])), ((8, 0), some (.bx [D.int n, .mp x.2.1])), ((10, 0), some (.bx (qtS f.ts[i])))]⟩) (fun x => x.1 ≤ g.ts.length ∧ MapQ n x.2.1 x.2.2 ∧ x.2.2.Perm ((prodQ fm (f.ts.take i) g.ts ++ (g.ts.take x.1).map (mulT2 fm f.ts[i])).map qp) ∧ x.2.2.length ≤ i * 600 + x.1 ∧ absQK x.2.2 ≤ (i * 600 + x.1) * 1000000000000) (fun x => g.ts.length - x.1) (0, es, l) (by simp [C.impl_MulQSums, qS, qtS]) ⟨by simp, hM, by simpa using hP, by dsimp only; omega, by dsimp only; omega⟩ ?_
      intro x2 hx2 R2 hR2
      obtain ⟨j, es2, l2⟩ := x2
      obtain ⟨hj, hM2, hP2, hL2, hA2⟩ := hx2
      dsimp only at hj hM2 hP2 hL2 hA2 ⊢
      refine wseq ?_
      refine wreg fun K hK => ?_
      simp [C.impl_MulQSums, qS]
      refine hK _ ?_; clear hK K
      show AWp _ _ _ _ _
      refine wseq ?_
      refine wcond _ rfl (fun hc3 => ?_) (fun hc3 => ?_)
      · have hjg : j < g.ts.length := by have := d_t hc3; omega
        have hU := hgq.2 _ (List.getElem_mem hjg)
        have hU20 := (hg.2.2.1 _ (List.getElem_mem hjg)).2.2.2.2
        refine wskip ?_
        show AWp _ _ _ _ _
        refine wseq ?_
        refine wblock ?_
        refine wseq ?_
        refine wreg fun K hK => ?_
        simp [C.impl_MulQSums, qS, hjg, qtS_0 hjg, qtS_1 hjg, qtS_2 hjg]
        refine hK _ ?_; clear hK K
        show AWp _ _ _ _ _
        obtain ⟨a0, a1, a2, a3, a4, a5, a6, a7, hpa⟩ := eight (pad_length (e := f.ts[i].e) (by omega))
        obtain ⟨b0, b1, b2, b3, b4, b5, b6, b7, hpb⟩ := eight (pad_length (e := g.ts[j].e) (by omega))
        have hba := pad_bd hT20
        have hbb := pad_bd hU20
        rw [hpa] at hba
        rw [hpb] at hbb
        have hsk := QL.sk hok hfq hgq (List.getElem_mem hif) (List.getElem_mem hjg)
        have hsb := hsk.bd
        have hadd : [a0 + b0, a1 + b1, a2 + b2, a3 + b3, a4 + b4, a5 + b5, a6 + b6, a7 + b7, f.ts[i].h + g.ts[j].h + skw fm f.ts[i].e g.ts[j].e] = kq (qk (mulT2 fm f.ts[i] g.ts[j])) := by
          simp only [kq, qk, mulT2]
          rw [← pad_add (by omega), hpa, hpb]
          simp [addE]
        have hel : (qk (mulT2 fm f.ts[i] g.ts[j])).1.length = n := by simp only [qk, mulT2]; rw [addE_length _ _ _ (by omega)]; omega
        have hcc := mul_bd hT.2.2.2 hU.2.2.2
        have hval := hM2.val _ hel
        have hco := coK_abs (qk (mulT2 fm f.ts[i] g.ts[j])) l2
        refine wdrawI [(true, 0), (true, 1), (true, 2), (true, 4), (true, 5), (true, 8), (true, 9), (true, 10), (true, 11), (true, 12), (true, 13), (true, 14), (true, 15), (true, 16), (true, 17), (true, 21), (true, 22), (true, 23), (true, 24), (true, 25), (false, 3), (false, 6), (false, 7), (false, 18), (true, 19), (true, 20), (false, 26)] ⟨by kernel_rfl, by kernel_rfl⟩ ([0, 1, 2, 4, 5, 8, 9, 10, 11, 12, 13, 14, 15, 16, 17, 21, 22, 23, 24, 25, 3] ++ ([6] ++ ([7] ++ ([18] ++ ([19, 20, 26] ++ ([])))))) rfl fun K hK => ?_
        refine opsI_seg fun L hL => ?_
        simp [C.impl_MulQSums, qS, qtS, wrapOk (x := f.ts[i].c * g.ts[j].c) (by omega) (by omega), wrapOk (x := f.ts[i].h + g.ts[j].h) (by omega) (by omega), wrapOk (x := f.ts[i].h + g.ts[j].h + skw fm f.ts[i].e g.ts[j].e) (by omega) (by omega)]
        refine wcall1 (impl_keyOf_calls f.ts[i].e (by omega) a0 a1 a2 a3 a4 a5 a6 a7 hpa) (by simp) (by simp) ?_
        simp [C.impl_MulQSums, qS, qtS, wrapOk (x := f.ts[i].c * g.ts[j].c) (by omega) (by omega), wrapOk (x := f.ts[i].h + g.ts[j].h) (by omega) (by omega), wrapOk (x := f.ts[i].h + g.ts[j].h + skw fm f.ts[i].e g.ts[j].e) (by omega) (by omega)]
        refine hL _ ?_; clear hL L
        refine opsI_seg fun L hL => ?_
        simp [C.impl_MulQSums, qS, qtS, wrapOk (x := f.ts[i].c * g.ts[j].c) (by omega) (by omega), wrapOk (x := f.ts[i].h + g.ts[j].h) (by omega) (by omega), wrapOk (x := f.ts[i].h + g.ts[j].h + skw fm f.ts[i].e g.ts[j].e) (by omega) (by omega)]
        refine wcall1 (impl_keyOf_calls g.ts[j].e (by omega) b0 b1 b2 b3 b4 b5 b6 b7 hpb) (by simp) (by simp) ?_
        simp [C.impl_MulQSums, qS, qtS, wrapOk (x := f.ts[i].c * g.ts[j].c) (by omega) (by omega), wrapOk (x := f.ts[i].h + g.ts[j].h) (by omega) (by omega), wrapOk (x := f.ts[i].h + g.ts[j].h + skw fm f.ts[i].e g.ts[j].e) (by omega) (by omega)]
        refine hL _ ?_; clear hL L
        refine opsI_seg fun L hL => ?_
        simp [C.impl_MulQSums, qS, qtS, wrapOk (x := f.ts[i].c * g.ts[j].c) (by omega) (by omega), wrapOk (x := f.ts[i].h + g.ts[j].h) (by omega) (by omega), wrapOk (x := f.ts[i].h + g.ts[j].h + skw fm f.ts[i].e g.ts[j].e) (by omega) (by omega)]
        refine wcall1 (impl_plusExp_calls 1 a0 a1 a2 a3 a4 a5 a6 a7 b0 b1 b2 b3 b4 b5 b6 b7 (by omega) hba hbb) (by simp) (by simp) ?_
        simp [C.impl_MulQSums, qS, qtS, wrapOk (x := f.ts[i].c * g.ts[j].c) (by omega) (by omega), wrapOk (x := f.ts[i].h + g.ts[j].h) (by omega) (by omega), wrapOk (x := f.ts[i].h + g.ts[j].h + skw fm f.ts[i].e g.ts[j].e) (by omega) (by omega)]
        refine hL _ ?_; clear hL L
        refine opsI_seg fun L hL => ?_
        simp [C.impl_MulQSums, qS, qtS, wrapOk (x := f.ts[i].c * g.ts[j].c) (by omega) (by omega), wrapOk (x := f.ts[i].h + g.ts[j].h) (by omega) (by omega), wrapOk (x := f.ts[i].h + g.ts[j].h + skw fm f.ts[i].e g.ts[j].e) (by omega) (by omega)]
        refine wcall1 (impl_paired_calls fm f.ts[i].e g.ts[j].e hsk) (by simp) (by simp) ?_
        simp [C.impl_MulQSums, qS, qtS, wrapOk (x := f.ts[i].c * g.ts[j].c) (by omega) (by omega), wrapOk (x := f.ts[i].h + g.ts[j].h) (by omega) (by omega), wrapOk (x := f.ts[i].h + g.ts[j].h + skw fm f.ts[i].e g.ts[j].e) (by omega) (by omega)]
        refine hL _ ?_; clear hL L
        refine opsI_seg fun L hL => ?_
        simp [C.impl_MulQSums, qS, qtS, wrapOk (x := f.ts[i].c * g.ts[j].c) (by omega) (by omega), wrapOk (x := f.ts[i].h + g.ts[j].h) (by omega) (by omega), wrapOk (x := f.ts[i].h + g.ts[j].h + skw fm f.ts[i].e g.ts[j].e) (by omega) (by omega)]
        refine wcall1 (impl_qbuilding_add_calls n (f.ts[i].c * g.ts[j].c) es2 (a0 + 1 * b0) (a1 + 1 * b1) (a2 + 1 * b2) (a3 + 1 * b3) (a4 + 1 * b4) (a5 + 1 * b5) (a6 + 1 * b6) (a7 + 1 * b7) (f.ts[i].h + g.ts[j].h + skw fm f.ts[i].e g.ts[j].e) (hM2.len9 hn8) (by simp only [Int.one_mul]; rw [hadd, hval]; omega)) (by simp) (by simp) ?_
        simp [C.impl_MulQSums, qS, qtS, wrapOk (x := f.ts[i].c * g.ts[j].c) (by omega) (by omega), wrapOk (x := f.ts[i].h + g.ts[j].h) (by omega) (by omega), wrapOk (x := f.ts[i].h + g.ts[j].h + skw fm f.ts[i].e g.ts[j].e) (by omega) (by omega)]
        refine hL _ ?_; clear hL L
        refine opsI_end fun L hL => ?_
        simp only [AOpsI]
        refine hL _ ?_; clear hL L
        simp [C.impl_MulQSums, qS, qtS, wrapOk (x := f.ts[i].c * g.ts[j].c) (by omega) (by omega), wrapOk (x := f.ts[i].h + g.ts[j].h) (by omega) (by omega), wrapOk (x := f.ts[i].h + g.ts[j].h + skw fm f.ts[i].e g.ts[j].e) (by omega) (by omega)]
        rw [hadd]
        refine hK _ ?_; clear hK K
        show AWp _ _ _ _ _
        refine wreg fun K hK => ?_
        simp [C.impl_MulQSums, qS, wrap_succ (show j < 4611686018427387904 by omega)]
        refine hK _ ?_; clear hK K
        simp [C.impl_MulQSums, qS]
        refine hR2 (j + 1, _, (qk (mulT2 fm f.ts[i] g.ts[j]), f.ts[i].c * g.ts[j].c) :: l2) ⟨hjg, hM2.add hel _, ?_, by dsimp only [List.length_cons]; omega, ?_⟩ (by dsimp only; omega)
        · dsimp only
          rw [List.take_succ_eq_append_getElem hjg]
          simp only [List.map_append] at hP2 ⊢
          rw [← List.append_assoc]
          refine (List.Perm.cons _ hP2).trans ?_
          exact (List.perm_append_singleton _ _).symm
        · have := natAbs_bd hcc
          simp only [absQK, List.map_cons, List.sum_cons] at hA2 ⊢
          omega
      · have hjg : j = g.ts.length := by have := d_f hc3; omega
        refine wexit ?_
        show AWp _ _ _ _ _
        refine wreg fun K hK => ?_
        simp [C.impl_MulQSums, qS, wrap_succ (show i < 4611686018427387904 by omega)]
        refine hK _ ?_; clear hK K
        simp [C.impl_MulQSums, qS]
        refine hR1 (i + 1, es2, l2) ⟨hif, hM2, ?_, by dsimp only; omega, absB hA2 (by omega)⟩ (by dsimp only; omega)
        dsimp only
        rw [prodQ_step hif]
        rw [hjg, List.take_length] at hP2
        exact hP2
    · have hif : i = f.ts.length := by have := d_f hc2; omega
      have hall : l.Perm ((prodQ fm f.ts g.ts).map qp) := by
        rw [hif, List.take_length] at hP
        exact hP
      have hlen : ∀ x ∈ l, x.1.1.length = n := fun x hx => by
        have := hall.subset hx
        obtain ⟨t, ht, rfl⟩ := List.mem_map.1 this
        rw [hn0]
        exact prodQ_e hfq hgq t ht
      have hs : (nf qlt l).map qt = gaQ (prodQ fm f.ts g.ts) := by
        unfold gaQ
        rw [nfQ_perm hall]
      refine wexit ?_
      show AWp _ _ _ _ _
      refine wseq ?_
      refine wregI ([0, 1] ++ ([2, 3, 4, 5])) rfl fun K hK => ?_
      refine opsI_seg fun L hL => ?_
      simp [C.impl_MulQSums, qS]
      refine wcall1 (hDone n es l hM hlen hn1.1 hn8 (by omega)) (by simp) (by simp) ?_
      simp [C.impl_MulQSums, qS]
      refine hL _ ?_; clear hL L
      refine opsI_end fun L hL => ?_
      simp [C.impl_MulQSums, qS]
      refine hL _ ?_; clear hL L
      simp [C.impl_MulQSums, qS]
      refine hK _ ?_; clear hK K
      show AWp _ _ _ _ _
      refine wret ?_
      simp [C.impl_MulQSums, qS, hm, ← hs, qO]
theorem iMulQ_calls (hDone : DoneOkQ) (fm : List (List Int)) (f g : Qsm) (h0 : fm.length < 4611686018427387904) (hI : I64 fm) (hx : f.ts.length < 4611686018427387904) (hxe : ∀ t ∈ f.ts, t.e.length < 4611686018427387904) (hy : g.ts.length < 4611686018427387904) (hye : ∀ t ∈ g.ts, t.e.length < 4611686018427387904) : ACalls Try.prog F.impl_MulQSums [.d (.sh 1 fm.length (rows lS fm)), aQ f, aQ g] [] true (fun outs res => outs = [] ∧ res = [.ag (qO (mulQF fm f g).1), .one (D.bool (mulQF fm f g).2)]) := (impl_MulQSums_calls hDone fm f g h0 hI hx hxe hy hye).weak1
def SmallQ (g : Qsm) : Prop := g.ts.length ≤ 600 ∧ (∀ t ∈ g.ts, t.e.length ≤ 8) ∧ cntL cntQT g.ts ≤ 6000
theorem smallQ_right {g : Qsm} (h : QRight g) : SmallQ g := by
  have he : ∀ t ∈ g.ts, t.e.length ≤ 8 := fun t ht => by have := (h.2.2.1 t ht).1; have := h.1; omega
  refine ⟨h.2.1, he, ?_⟩
  have : ∀ ts : List Qtm, (∀ t ∈ ts, t.e.length ≤ 8) → cntL cntQT ts ≤ ts.length * 10 := fun ts => by
    induction ts with
    | nil => intro _; simp [cntL]
    | cons x ts ih =>
      intro h
      have h1 := h x (by simp)
      have h2 := ih fun t ht => h t (by simp [ht])
      simp only [cntL, cntQT, List.length_cons] at h2 ⊢
      omega
  have := this g.ts he
  have := h.2.1
  omega
theorem enQ_small (v : Int) (ts : List Qtm) : SmallQ (enQ v ts).1 := by
  unfold enQ
  split
  · exact smallQ_right (by assumption)
  · exact ⟨by simp [zeroQ], by simp [zeroQ], by simp [zeroQ, cntL]⟩
end Go.Proofs.Ytocknokodgnlbaa.Ab
namespace Go.Proofs.Ytocknokodgnlbaa.Ab
open Go
set_option linter.unusedSimpArgs false
set_option linter.unusedVariables false
/-! ### The two divisions -/
def tT (t : Qtm) : Trm := ⟨t.e, t.c⟩
def inBoxQ (f g : Qsm) (n : Nat) (e : List Int) : Prop := ∀ i, i < n → (lowL (f.ts.map tT) n).getD i 0 - (lowL (g.ts.map tT) n).getD i 0 ≤ e.getD i 0 ∧ e.getD i 0 ≤ (highL (f.ts.map tT) n).getD i 0 - (highL (g.ts.map tT) n).getD i 0
instance (f g : Qsm) (n : Nat) (e : List Int) : Decidable (inBoxQ f g n e) := Nat.decidableBallLT n _
def QFit (fm : List (List Int)) (f g : Qsm) : Prop := (FormOk fm ∧ QRight f ∧ QRight g ∧ f.v = fm.length ∧ g.v = fm.length) ∧ g.ts ≠ []
noncomputable instance (fm : List (List Int)) (f g : Qsm) : Decidable (QFit fm f g) := Classical.propDecidable _
theorem qp_desc {f : Qsm} (h : QRight f) : Desc qlt (f.ts.map qp) := by
  unfold Desc
  rw [List.pairwise_map]
  exact h.2.2.2
theorem qp_nz {f : Qsm} (h : QRight f) : Nz (f.ts.map qp) := fun x hx => by
  obtain ⟨t, ht, rfl⟩ := List.mem_map.1 hx
  exact (h.2.2.1 t ht).2.1
theorem qright_he {f : Qsm} {n : Nat} (h : QRight f) (hn : f.v = n) : ∀ t ∈ f.ts, t.e.length = n ∧ (∀ x ∈ t.e, -20 ≤ x ∧ x ≤ 20) ∧ (-200 ≤ t.h ∧ t.h ≤ 200) ∧ -1000000 ≤ t.c ∧ t.c ≤ 1000000 ∧ t.c ≠ 0 := fun t ht => by
  obtain ⟨h1, h2, h3, h4, h5⟩ := h.2.2.1 t ht
  exact ⟨by omega, h5, h4, h3.1, h3.2, h2⟩
end Go.Proofs.Ytocknokodgnlbaa.Ab
namespace Go.Proofs.Ytocknokodgnlbaa.Ab
open Go
set_option linter.unusedSimpArgs false
set_option linter.unusedVariables false
/-! ### The program's side -/
end Go.Proofs.Ytocknokodgnlbaa.Ab
namespace Go.Proofs.Ytocknokodgnlbaa.Ab
open Go
set_option linter.unusedSimpArgs false
set_option linter.unusedVariables false
set_option maxRecDepth 10000
set_option maxHeartbeats 2000000
def qc (t : Qtm) : List Int × Int := (t.e, t.c)
noncomputable def clsF (f : Qsm) : Lau × Bool := if QRight f then shutF f.v (f.ts.map qc) else (zeroF, false)
theorem qright_dig {f : Qsm} (h : QRight f) {n : Nat} (hn : f.v = n) : ∀ t ∈ f.ts, t.e.length = n ∧ Dig t.e ∧ (∀ x ∈ t.e, -20 ≤ x ∧ x ≤ 20) ∧ (-1000000 ≤ t.c ∧ t.c ≤ 1000000) := fun t ht => by
  obtain ⟨h1, _, h2, _, h3⟩ := h.2.2.1 t ht
  exact ⟨by omega, fun x hx => by have := h3 x hx; omega, h3, h2⟩
theorem impl_ClassicalOf_calls (hDone : DoneOk) (f : Qsm) (hx : f.ts.length < 4611686018427387904) (hxe : ∀ t ∈ f.ts, t.e.length < 4611686018427387904) : ACalls Try.prog F.impl_ClassicalOf [aQ f] [] true (fun outs res => outs = [] ∧ WkRs res [.ag (fO (clsF f).1), .one (D.bool (clsF f).2)]) := by
  refine ACalls.of_body (C := C.impl_ClassicalOf) (n := Try.f29.ntmps) tabT folT Try.func29 rfl (by kernel_rfl) rfl (Nat.le_of_ble_eq_true rfl) (by decide) (by kernel_rfl) (by kernel_rfl) rfl (by simp) (by simp) ?_
  simp only [Try.f29]
  refine wseq ?_
  refine wreg fun K hK => ?_
  simp [C.impl_ClassicalOf, qS]
  refine hK _ ?_; clear hK K
  show AWp _ _ _ _ _
  refine wseq ?_
  refine wseq ?_
  refine wregI ([0, 1] ++ ([2])) rfl fun K hK => ?_
  refine opsI_seg fun L hL => ?_
  simp [C.impl_ClassicalOf, qS]
  refine wcall1 (impl_QSumOk_calls f hx hxe) (by simp) (by simp) ?_
  simp [C.impl_ClassicalOf, qS]
  refine hL _ ?_; clear hL L
  refine opsI_end fun L hL => ?_
  simp [C.impl_ClassicalOf, qS]
  refine hL _ ?_; clear hL L
  simp [C.impl_ClassicalOf, qS]
  refine hK _ ?_; clear hK K
  show AWp _ _ _ _ _
  refine wcond _ rfl (fun hc1 => ?_) (fun hc1 => ?_)
  · have hr := nd_t hc1
    have hm : clsF f = (zeroF, false) := if_neg hr
    refine wseq ?_
    refine wreg fun K hK => ?_
    simp [C.impl_ClassicalOf, qS]
    refine hK _ ?_; clear hK K
    show AWp _ _ _ _ _
    refine wret ?_
    simp [C.impl_ClassicalOf, qS, hm, fO, zeroF, rows]
  · have hr := nd_f hc1
    have hv := hr.1
    obtain ⟨n, hn⟩ : ∃ n : Nat, f.v = n := ⟨f.v.toNat, by omega⟩
    have hn8 : n ≤ 8 := by omega
    have hfl := hr.2.1
    have hD := qright_dig hr hn
    have hm : clsF f = shutF n (f.ts.map qc) := by
      unfold clsF
      rw [if_pos hr, hn]
    refine wskip ?_
    show AWp _ _ _ _ _
    refine wseq ?_
    refine wregI ([0, 1, 2] ++ ([3])) rfl fun K hK => ?_
    refine opsI_seg fun L hL => ?_
    simp [C.impl_ClassicalOf, qS, hn]
    refine wcall1 (impl_newBuilding_calls n) (by simp) (by simp) ?_
    simp [C.impl_ClassicalOf, qS, hn]
    refine hL _ ?_; clear hL L
    refine opsI_end fun L hL => ?_
    simp [C.impl_ClassicalOf, qS, hn]
    refine hL _ ?_; clear hL L
    simp [C.impl_ClassicalOf, qS, hn]
    refine hK _ ?_; clear hK K
    show AWp _ _ _ _ _
    refine wseq ?_
    refine wseq ?_
    refine wreg fun K hK => ?_
    simp [C.impl_ClassicalOf, qS]
    refine hK _ ?_; clear hK K
    show AWp _ _ _ _ _
    refine wblock ?_
    refine wloop (fun x : Nat × List (List Int × Int) × List (List Int × Int) => ⟨ofL [(2, .pt (2, 0) [] 0), (4, .pt (4, 0) [] 0), (15, .d (.sh 3 f.ts.length (rows qtS f.ts))), (16, .int f.ts.length), (17, .int x.1)], ofRO [((2, 0), some (.bx [D.int 0, .v (.slice none 0 0)])), ((4, 0), some (.bx [D.int n, .mp x.2.1]))]⟩) (fun x => x.1 ≤ f.ts.length ∧ MapR n x.2.1 x.2.2 ∧ x.2.2.Perm ((f.ts.take x.1).map qc) ∧ absE x.2.2 ≤ x.1 * 1000000) (fun x => f.ts.length - x.1) (0, [], []) (by simp [C.impl_ClassicalOf, qS]) ⟨by simp, MapR.nil n, by simp, by simp [absE]⟩ ?_
    intro x1 hx1 R1 hR1
    obtain ⟨j, es, l⟩ := x1
    obtain ⟨hj, hM, hP, hA⟩ := hx1
    dsimp only at hj hM hP hA ⊢
    refine wseq ?_
    refine wreg fun K hK => ?_
    simp [C.impl_ClassicalOf, qS]
    refine hK _ ?_; clear hK K
    show AWp _ _ _ _ _
    refine wseq ?_
    refine wcond _ rfl (fun hc2 => ?_) (fun hc2 => ?_)
    · have h1 : j < f.ts.length := by have := d_t hc2; omega
      have hT := hD _ (List.getElem_mem h1)
      refine wskip ?_
      show AWp _ _ _ _ _
      refine wseq ?_
      refine wblock ?_
      refine wseq ?_
      refine wreg fun K hK => ?_
      simp [C.impl_ClassicalOf, qS, h1, qtS_0 h1, qtS_1 h1, qtS_2 h1]
      refine hK _ ?_; clear hK K
      show AWp _ _ _ _ _
      obtain ⟨a0, a1, a2, a3, a4, a5, a6, a7, hpa⟩ := eight (pad_length (e := f.ts[j].e) (by omega))
      have hval := hM.val _ hT.1
      have hco := co_abs f.ts[j].e l
      refine wdrawI [(true, 0), (true, 1), (true, 2), (true, 4), (true, 5), (false, 3), (false, 6)] ⟨by kernel_rfl, by kernel_rfl⟩ ([0, 1, 2, 4, 5, 3] ++ ([6] ++ ([]))) rfl fun K hK => ?_
      refine opsI_seg fun L hL => ?_
      simp [C.impl_ClassicalOf, qS, qtS]
      refine wcall1 (impl_keyOf_calls f.ts[j].e (by omega) a0 a1 a2 a3 a4 a5 a6 a7 hpa) (by simp) (by simp) ?_
      simp [C.impl_ClassicalOf, qS, qtS]
      refine hL _ ?_; clear hL L
      refine opsI_seg fun L hL => ?_
      simp [C.impl_ClassicalOf, qS, qtS]
      refine wcall1 (impl_building_add_calls n f.ts[j].c es a0 a1 a2 a3 a4 a5 a6 a7 (hM.len8 hn8) (by rw [← hpa, hval]; have := hT.2.2.2; omega)) (by simp) (by simp) ?_
      simp [C.impl_ClassicalOf, qS, qtS]
      refine hL _ ?_; clear hL L
      refine opsI_end fun L hL => ?_
      simp only [AOpsI]
      refine hL _ ?_; clear hL L
      simp [C.impl_ClassicalOf, qS, qtS]
      rw [← hpa]
      refine hK _ ?_; clear hK K
      show AWp _ _ _ _ _
      refine wreg fun K hK => ?_
      simp [C.impl_ClassicalOf, qS, wrap_succ (show j < 4611686018427387904 by omega)]
      refine hK _ ?_; clear hK K
      simp [C.impl_ClassicalOf, qS]
      refine hR1 (j + 1, _, (f.ts[j].e, f.ts[j].c) :: l) ⟨h1, hM.add hT.1 _, ?_, ?_⟩ (by dsimp only; omega)
      · dsimp only
        rw [List.take_succ_eq_append_getElem h1, List.map_append]
        refine (List.Perm.cons _ hP).trans ?_
        exact (List.perm_append_singleton _ _).symm
      · have := hT.2.2.2
        have h3 : f.ts[j].c.natAbs ≤ 1000000 := by omega
        simp only [absE, List.map_cons, List.sum_cons] at hA ⊢
        omega
    · have h1 : j = f.ts.length := by have := d_f hc2; omega
      have hall : l.Perm (f.ts.map qc) := by
        rw [h1, List.take_length] at hP
        exact hP
      have hlen : ∀ x ∈ l, x.1.length = n := fun x hx => by
        have := hall.subset hx
        obtain ⟨t, ht, rfl⟩ := List.mem_map.1 this
        exact (hD t ht).1
      have hll : l.length ≤ 1000000 := by rw [hall.length_eq, List.length_map]; omega
      have hs := shutF_perm hall n
      refine wexit ?_
      show AWp _ _ _ _ _
      refine wseq ?_
      refine wregI ([0, 1] ++ ([2, 3, 4, 5])) rfl fun K hK => ?_
      refine opsI_seg fun L hL => ?_
      simp [C.impl_ClassicalOf, qS, fO]
      refine wcall1 (hDone n es l hM hlen (by omega) hn8 hll) (by simp) (by simp) ?_
      simp [C.impl_ClassicalOf, qS, fO]
      refine hL _ ?_; clear hL L
      refine opsI_end fun L hL => ?_
      simp [C.impl_ClassicalOf, qS, fO]
      refine hL _ ?_; clear hL L
      simp [C.impl_ClassicalOf, qS, fO]
      refine hK _ ?_; clear hK K
      show AWp _ _ _ _ _
      refine wret ?_
      simp [C.impl_ClassicalOf, qS, hm, ← hs, fO]
theorem iCls_calls (hDone : DoneOk) (f : Qsm) (hx : f.ts.length < 4611686018427387904) (hxe : ∀ t ∈ f.ts, t.e.length < 4611686018427387904) : ACalls Try.prog F.impl_ClassicalOf [aQ f] [] true (fun outs res => outs = [] ∧ res = [.ag (fO (clsF f).1), .one (D.bool (clsF f).2)]) := (impl_ClassicalOf_calls hDone f hx hxe).weak1
end Go.Proofs.Ytocknokodgnlbaa.Ab
namespace Go.Proofs.Ytocknokodgnlbaa.Ab
open Go
set_option linter.unusedSimpArgs false
set_option linter.unusedVariables false
theorem sm_add (f g : Nat → Int) : ∀ n, sm (fun i => f i + g i) n = sm f n + sm g n
  | 0 => rfl
  | n + 1 => by
    simp only [sm, sm_add f g n]
    omega
theorem sm_neg (f : Nat → Int) : ∀ n, sm (fun i => -f i) n = -sm f n
  | 0 => rfl
  | n + 1 => by
    simp only [sm, sm_neg f n]
    omega
theorem sm_zero : ∀ n, sm (fun _ => 0) n = 0
  | 0 => rfl
  | n + 1 => by simp [sm, sm_zero n]
theorem sm_swap (f : Nat → Nat → Int) (m : Nat) : ∀ n, sm (fun i => sm (f i) m) n = sm (fun j => sm (fun i => f i j) n) m
  | 0 => by
    simp only [sm]
    rw [sm_zero]
  | n + 1 => by
    simp only [sm, sm_swap f m n]
    rw [sm_add]
theorem skw_addL (fm : List (List Int)) {a b : List Int} (c : List Int) (h : a.length = b.length) : skw fm (addE 1 a b) c = skw fm a c + skw fm b c := by
  unfold skw
  rw [← sm_add]
  refine sm_congr _ fun i _ => ?_
  unfold skR
  rw [← sm_add]
  refine sm_congr _ fun j _ => ?_
  unfold skT
  rw [getD_add1 i a b h, Int.add_mul, Int.add_mul]
theorem skw_addR (fm : List (List Int)) {a b : List Int} (c : List Int) (h : a.length = b.length) : skw fm c (addE 1 a b) = skw fm c a + skw fm c b := by
  unfold skw
  rw [← sm_add]
  refine sm_congr _ fun i _ => ?_
  unfold skR
  rw [← sm_add]
  refine sm_congr _ fun j _ => ?_
  unfold skT
  rw [getD_add1 j a b h, Int.mul_add]
theorem skw_anti {fm : List (List Int)} (hok : FormOk fm) (a b : List Int) : skw fm a b = -skw fm b a := by
  have e : skw fm a b = sm (fun i => sm (fun j => -skT fm b a j i) fm.length) fm.length := by
    unfold skw
    refine sm_congr _ fun i hi => ?_
    unfold skR
    refine sm_congr _ fun j hj => ?_
    have h1 := (hok.2.2 i hi j hj).2
    have h2 : at2 fm j i = -at2 fm i j := by omega
    unfold skT
    rw [h2]
    grind
  rw [e, sm_swap]
  unfold skw
  rw [← sm_neg]
  refine sm_congr _ fun j _ => ?_
  unfold skR
  rw [← sm_neg]
theorem skw_bd {fm : List (List Int)} {a b : List Int} {F E E' : Nat} (hF : ∀ i, i < fm.length → ∀ j, j < fm.length → (at2 fm i j).natAbs ≤ F) (ha : a.length = fm.length) (hb : b.length = fm.length) (hE : ∀ x ∈ a, -(E : Int) ≤ x ∧ x ≤ E) (hE' : ∀ x ∈ b, -(E' : Int) ≤ x ∧ x ≤ E') :
    (skw fm a b).natAbs ≤ fm.length * (fm.length * (E * F * E')) := by
  refine sm_bd _ fun i hi => sm_bd _ fun j hj => ?_
  have h1 : (a.getD i 0).natAbs ≤ E := by
    rw [int_eq (by omega)]
    have := hE _ (List.getElem_mem (show i < a.length by omega))
    omega
  have h2 : (b.getD j 0).natAbs ≤ E' := by
    rw [int_eq (by omega)]
    have := hE' _ (List.getElem_mem (show j < b.length by omega))
    omega
  exact mulB (mulB h1 (hF i hi j hj)) h2
/-- The product of keys. -/
def qm2 (fm : List (List Int)) (a b : QK) : QK := (addE 1 a.1 b.1, a.2 + b.2 + skw fm a.1 b.1)
def qn (k : QK) : QK := (k.1, -k.2)
theorem qm2_ass (fm : List (List Int)) {a b c : QK} {n : Nat} (ha : a.1.length = n) (hb : b.1.length = n) (hc : c.1.length = n) : qm2 fm (qm2 fm a b) c = qm2 fm a (qm2 fm b c) := by
  have ea : ∀ x y z : List Int, x.length = y.length → y.length = z.length → addE 1 (addE 1 x y) z = addE 1 x (addE 1 y z) := by
    intro x
    induction x with
    | nil => intro y z h1 h2; match y, z, h1, h2 with | [], [], _, _ => rfl
    | cons u x ih =>
      intro y z h1 h2
      match y, z, h1, h2 with
      | v :: y, w :: z, h1, h2 =>
        simp only [addE, ih y z (by simpa using h1) (by simpa using h2), Int.one_mul, Int.add_assoc]
  unfold qm2
  refine Prod.ext ?_ ?_
  · exact ea _ _ _ (ha.trans hb.symm) (hb.trans hc.symm)
  · dsimp only
    rw [skw_addL fm c.1 (ha.trans hb.symm), skw_addR fm a.1 (hb.trans hc.symm)]
    omega
theorem qn_qm2 {fm : List (List Int)} (hok : FormOk fm) {a b : QK} (h : a.1.length = b.1.length) : qn (qm2 fm a b) = qm2 fm (qn b) (qn a) := by
  unfold qn qm2
  refine Prod.ext (addE_comm1 _ _ h) ?_
  dsimp only
  have := skw_anti hok a.1 b.1
  omega
theorem prodQ_qp (fm : List (List Int)) (a b : List Qtm) : (prodQ fm a b).map qp = prodK (qm2 fm) (a.map qp) (b.map qp) := by
  induction a with
  | nil => rfl
  | cons x a ih =>
    unfold prodQ prodK at ih ⊢
    simp only [List.flatMap_cons, List.map_append, List.map_cons, ih]
    congr 1
    unfold mulT
    rw [List.map_map, List.map_map]
    rfl
theorem vl_map2 {K J : Type} (g : K → J) (φ : J → Int) : ∀ l : List (K × Int), vl φ (l.map fun x => (g x.1, x.2)) = vl (fun e => φ (g e)) l
  | [] => rfl
  | x :: l => by simp only [List.map_cons, vl, vl_map2 g φ l]
/-! ### Bounds -/
structure BdQ (n : Nat) (f : Qsm) (L C E H : Nat) : Prop where
  right : QRight f
  v : f.v = n
  len : f.ts.length ≤ L
  co : ∀ t ∈ f.ts, t.c.natAbs ≤ C
  ex : ∀ t ∈ f.ts, t.e.length = n ∧ ∀ x ∈ t.e, -(E : Int) ≤ x ∧ x ≤ E
  hf : ∀ t ∈ f.ts, -(H : Int) ≤ t.h ∧ t.h ≤ H
structure BqL (n : Nat) (l : List (QK × Int)) (L C E H : Nat) : Prop where
  len : l.length ≤ L
  co : ∀ x ∈ l, x.2.natAbs ≤ C
  ex : ∀ x ∈ l, x.1.1.length = n ∧ ∀ y ∈ x.1.1, -(E : Int) ≤ y ∧ y ≤ E
  hf : ∀ x ∈ l, -(H : Int) ≤ x.1.2 ∧ x.1.2 ≤ H
theorem BdQ.qp {n : Nat} {f : Qsm} {L C E H : Nat} (h : BdQ n f L C E H) : BqL n (f.ts.map Ab.qp) L C E H := by
  refine ⟨by simpa using h.len, fun x hx => ?_, fun x hx => ?_, fun x hx => ?_⟩ <;> obtain ⟨t, ht, rfl⟩ := List.mem_map.1 hx
  · exact h.co t ht
  · exact h.ex t ht
  · exact h.hf t ht
theorem absQK2_le {l : List (QK × Int)} {B : Nat} (h : ∀ x ∈ l, x.2.natAbs ≤ B) (k : QK) : (co k l).natAbs ≤ l.length * B := by
  induction l with
  | nil => simp [co]
  | cons x l ih =>
    have h1 := h x (by simp)
    have h2 := ih fun y hy => h y (by simp [hy])
    simp only [co, List.length_cons, Nat.add_mul, Nat.one_mul]
    split <;> omega
theorem enq_bnd {n : Nat} (hn : 1 ≤ n ∧ n ≤ 8) {l : List (QK × Int)} {L C E H : Nat} (h : BqL n l L C E H) (hL : L ≤ 600) (hC : L * C ≤ 1000000) (hE : E ≤ 20) (hH : H ≤ 200) :
    enQ n ((nf qlt l).map qt) = (⟨n, (nf qlt l).map qt⟩, true) ∧ BdQ n ⟨n, (nf qlt l).map qt⟩ L (L * C) E H := by
  have hab2 : l.length * C ≤ L * C := Nat.mul_le_mul_right C h.len
  have hl := nf_len (lt := qlt) l
  have hll := h.len
  have hd := nf_desc qOrd l
  have hz := nf_nz (lt := qlt) l
  have key : ∀ x ∈ nf qlt l, x.2.natAbs ≤ L * C ∧ (x.1.1.length = n ∧ ∀ y ∈ x.1.1, -(E : Int) ≤ y ∧ y ≤ E) ∧ -(H : Int) ≤ x.1.2 ∧ x.1.2 ≤ H := fun x hx => by
    have h1 := co_at qOrd hd x hx
    rw [nf_co] at h1
    have h2 := absQK2_le h.co x.1
    obtain ⟨z, hz1, hz2⟩ := nf_mem hx
    have h3 := h.ex z hz1
    have h4 := h.hf z hz1
    rw [hz2] at h3 h4
    exact ⟨by omega, h3, h4⟩
  have hR : QRight ⟨n, (nf qlt l).map qt⟩ := by
    refine ⟨by dsimp only; omega, by dsimp only; rw [List.length_map]; omega, fun t hm => ?_, ?_⟩
    · obtain ⟨x, hx, rfl⟩ := List.mem_map.1 hm
      have h1 := key x hx
      refine ⟨by simp only [qt]; omega, hz x hx, by simp only [qt]; omega, by simp only [qt]; omega, fun y hy => ?_⟩
      have := h1.2.1.2 y hy
      omega
    · unfold DescQ
      rw [List.pairwise_map]
      exact hd
  refine ⟨if_pos hR, hR, rfl, by dsimp only; rw [List.length_map]; omega, fun t hm => ?_, fun t hm => ?_, fun t hm => ?_⟩ <;> obtain ⟨x, hx, rfl⟩ := List.mem_map.1 hm
  · exact (key x hx).1
  · exact (key x hx).2.1
  · exact (key x hx).2.2
theorem BqL.app {n : Nat} {a b : List (QK × Int)} {L C E H L' : Nat} (ha : BqL n a L C E H) (hb : BqL n b L' C E H) : BqL n (a ++ b) (L + L') C E H := by
  refine ⟨by rw [List.length_append]; have := ha.len; have := hb.len; omega, fun x hx => ?_, fun x hx => ?_, fun x hx => ?_⟩ <;> rcases List.mem_append.1 hx with h | h
  · exact ha.co x h
  · exact hb.co x h
  · exact ha.ex x h
  · exact hb.ex x h
  · exact ha.hf x h
  · exact hb.hf x h
theorem BqL.prod {fm : List (List Int)} {a b : List (QK × Int)} {L C E H L' C' E' H' F : Nat} (hF : ∀ i, i < fm.length → ∀ j, j < fm.length → (at2 fm i j).natAbs ≤ F) (ha : BqL fm.length a L C E H) (hb : BqL fm.length b L' C' E' H') :
    BqL fm.length (prodK (qm2 fm) a b) (L * L') (C * C') (E + E') (H + H' + fm.length * (fm.length * (E * F * E'))) := by
  have hlen : ∀ a b : List (QK × Int), (prodK (qm2 fm) a b).length = a.length * b.length := fun a b => by
    induction a with
    | nil => simp [prodK]
    | cons x a ih =>
      unfold prodK mulT at ih ⊢
      simp only [List.flatMap_cons, List.length_append, List.length_map, ih, List.length_cons, Nat.add_mul, Nat.one_mul]
      omega
  refine ⟨by rw [hlen]; exact Nat.mul_le_mul ha.len hb.len, fun x hx => ?_, fun x hx => ?_, fun x hx => ?_⟩ <;> obtain ⟨y, hy, z, hz, rfl⟩ := prodK_mem hx <;> have h1 := ha.ex y hy <;> have h2 := hb.ex z hz
  · dsimp only
    rw [Int.natAbs_mul]
    exact Nat.mul_le_mul (ha.co y hy) (hb.co z hz)
  · refine ⟨by simp only [qm2]; rw [addE_length _ _ _ (by omega)]; exact h1.1, fun u hu => ?_⟩
    have := addE_mem (a := y.1.1) (b := z.1.1) (by omega) (p := E) (q := E') h1.2 h2.2 u hu
    omega
  · have h3 := skw_bd hF h1.1 h2.1 h1.2 h2.2
    have h4 := ha.hf y hy
    have h5 := hb.hf z hz
    simp only [qm2]
    omega
theorem BqL.bar {n : Nat} {a : List (QK × Int)} {L C E H : Nat} (ha : BqL n a L C E H) : BqL n (a.map fun x => (qn x.1, x.2)) L C E H := by
  refine ⟨by simpa using ha.len, fun x hx => ?_, fun x hx => ?_, fun x hx => ?_⟩ <;> obtain ⟨t, ht, rfl⟩ := List.mem_map.1 hx
  · exact ha.co t ht
  · exact ha.ex t ht
  · have := ha.hf t ht
    simp only [qn]
    omega
/-- A sum whose terms are those of a list of keys. -/
theorem mulQ_eq {fm : List (List Int)} (hok : FormOk fm) {f g : Qsm} (hf : QRight f) (hg : QRight g) (hv : f.v = fm.length) (hw : g.v = fm.length) : mulQF fm f g = enQ fm.length ((nf qlt (prodK (qm2 fm) (f.ts.map qp) (g.ts.map qp))).map qt) := by
  unfold mulQF
  rw [if_pos ⟨hok, hf, hg, hv, hw⟩, hv]
  unfold gaQ
  rw [prodQ_qp]
theorem addQ_eq {n : Nat} {f g : Qsm} (hf : QRight f) (hg : QRight g) (hv : f.v = n) (hw : g.v = n) : addQF f g = enQ n ((nf qlt (f.ts.map qp ++ g.ts.map qp)).map qt) := by
  unfold addQF
  rw [if_pos ⟨hf, hg, hv.trans hw.symm⟩, hv]
  unfold gaQ
  rw [List.map_append]
noncomputable def barQ (f : Qsm) : Qsm := if QRight f then (enQ f.v ((nf qlt ((f.ts.map qp).map fun x => (qn x.1, x.2))).map qt)).1 else zeroQ
theorem barQ_eq {n : Nat} {f : Qsm} (hf : QRight f) (hv : f.v = n) : barQ f = (enQ n ((nf qlt ((f.ts.map qp).map fun x => (qn x.1, x.2))).map qt)).1 := by
  unfold barQ
  rw [if_pos hf, hv]
end Go.Proofs.Ytocknokodgnlbaa.Ab
namespace Go.Proofs.Ytocknokodgnlbaa.Ab
open Go
set_option linter.unusedSimpArgs false
set_option linter.unusedVariables false
/-- A form and sums as they are drawn. -/
def FormS (fm : List (List Int)) : Prop := FormOk fm ∧ fm.length ≤ 3 ∧ ∀ i, i < fm.length → ∀ j, j < fm.length → (at2 fm i j).natAbs ≤ 3
def DrawnQ (n : Nat) (f : Qsm) : Prop := BdQ n f 3 9 2 3
def SmQ (f : Qsm) : Prop := f.ts.length < 4611686018427387904 ∧ ∀ t ∈ f.ts, t.e.length < 4611686018427387904
theorem BdQ.sm {n : Nat} {f : Qsm} {L C E H : Nat} (h : BdQ n f L C E H) : SmQ f := by
  have h1 := h.right.1
  have h2 := h.right.2.1
  refine ⟨by omega, fun t ht => ?_⟩
  have := (h.ex t ht).1
  have := h.v
  omega
theorem BqL.mono {n : Nat} {l : List (QK × Int)} {L C E H L' C' E' H' : Nat} (h : BqL n l L C E H) (h1 : L ≤ L') (h2 : C ≤ C') (h3 : E ≤ E') (h4 : H ≤ H') : BqL n l L' C' E' H' :=
  ⟨Nat.le_trans h.len h1, fun t ht => Nat.le_trans (h.co t ht) h2, fun t ht => ⟨(h.ex t ht).1, fun x hx => by have := (h.ex t ht).2 x hx; omega⟩, fun t ht => by have := h.hf t ht; omega⟩
theorem BqL.prod3 {fm : List (List Int)} (hs : FormS fm) {a b : List (QK × Int)} {L C E H L' C' E' H' : Nat} (ha : BqL fm.length a L C E H) (hb : BqL fm.length b L' C' E' H') :
    BqL fm.length (prodK (qm2 fm) a b) (L * L') (C * C') (E + E') (H + H' + 3 * (3 * (E * 3 * E'))) := by
  refine (BqL.prod hs.2.2 ha hb).mono (Nat.le_refl _) (Nat.le_refl _) (Nat.le_refl _) ?_
  have h1 : fm.length * (E * 3 * E') ≤ 3 * (E * 3 * E') := Nat.mul_le_mul_right _ hs.2.1
  have h2 : fm.length * (fm.length * (E * 3 * E')) ≤ 3 * (3 * (E * 3 * E')) := Nat.mul_le_mul hs.2.1 h1
  omega
theorem BdQ.lens {n : Nat} {f : Qsm} {L C E H : Nat} (h : BdQ n f L C E H) : ∀ x ∈ f.ts.map Ab.qp, x.1.1.length = n := fun x hx => (h.qp.ex x hx).1
theorem qsm_eta (f : Qsm) : (⟨f.v, (f.ts.map qp).map qt⟩ : Qsm) = f := by
  rw [List.map_map]
  have : qt ∘ qp = id := rfl
  rw [this, List.map_id]
theorem nf_right {f : Qsm} (h : QRight f) : nf qlt (f.ts.map qp) = f.ts.map qp := (nf_unique qOrd (qp_desc h) (qp_nz h) fun k => rfl).symm
theorem qc_map (l : List (QK × Int)) : (l.map qt).map qc = l.map fun x => (x.1.1, x.2) := by
  rw [List.map_map]
  rfl
theorem qc_qp (f : Qsm) : f.ts.map qc = (f.ts.map qp).map fun x => (x.1.1, x.2) := by
  rw [List.map_map]
  rfl
theorem BqL.cls {n : Nat} {l : List (QK × Int)} {L C E H : Nat} (h : BqL n l L C E H) : BddL n (l.map fun x => (x.1.1, x.2)) L C E := by
  refine ⟨by simpa using h.len, fun x hx => ?_, fun x hx => ?_⟩ <;> obtain ⟨t, ht, rfl⟩ := List.mem_map.1 hx
  · exact h.co t ht
  · exact h.ex t ht
theorem cls_bnd {n : Nat} (hn : 1 ≤ n ∧ n ≤ 8) {f : Qsm} {L C E H : Nat} (h : BdQ n f L C E H) (hL : L ≤ 600) (hC : L * C ≤ 1000000) (hE : E ≤ 20) :
    clsF f = (⟨n, (nf lexlt (f.ts.map qc)).map tm⟩, true) ∧ Bdd n ⟨n, (nf lexlt (f.ts.map qc)).map tm⟩ L (L * C) E := by
  have h1 := shut_bnd hn h.qp.cls hL hC hE
  rw [← qc_qp] at h1
  refine ⟨?_, h1.2⟩
  unfold clsF
  rw [if_pos h.right, h.v]
  exact h1.1
theorem vl_qc (φ : List Int → Int) (f : Qsm) : vl φ (f.ts.map qc) = vl (fun k => φ k.1) (f.ts.map qp) := by
  rw [qc_qp]
  exact vl_map2 (fun k : QK => k.1) φ _
theorem torus_facts {fm : List (List Int)} {f g h : Qsm} (hs : FormS fm) (hf : DrawnQ fm.length f) (hg : DrawnQ fm.length g) (hh : DrawnQ fm.length h) : ∃ (P GH FH S Bf Bg Bp : Qsm) (a b c d : Lau),
    (mulQF fm f g = (P, true) ∧ mulQF fm g h = (GH, true) ∧ mulQF fm P h = mulQF fm f GH) ∧
    (barQ f = Bf ∧ barQ g = Bg ∧ barQ P = Bp ∧ (mulQF fm Bg Bf).1 = Bp ∧ barQ Bf = f) ∧
    (addQF f g = (S, true) ∧ mulQF fm f h = (FH, true) ∧ (mulQF fm S h).1 = (addQF FH GH).1) ∧
    (clsF f = (a, true) ∧ clsF g = (b, true) ∧ clsF P = (c, true) ∧ clsF S = (d, true) ∧ mulF a b = (c, true) ∧ addF a 1 b = (d, true)) ∧
    (SmQ P ∧ SmQ GH ∧ SmQ FH ∧ SmQ S ∧ SmQ Bf ∧ SmQ Bg ∧ SmQ Bp) ∧ SmF a ∧ SmF b ∧ SmF c ∧ SmF d := by
  have hok := hs.1
  have hn : 1 ≤ fm.length ∧ fm.length ≤ 8 := by have := hok.1; omega
  obtain ⟨p1, p2⟩ := enq_bnd hn (hf.qp.prod3 hs hg.qp) (by omega) (by omega) (by omega) (by omega)
  obtain ⟨q1, q2⟩ := enq_bnd hn (hg.qp.prod3 hs hh.qp) (by omega) (by omega) (by omega) (by omega)
  obtain ⟨r1, r2⟩ := enq_bnd hn (hf.qp.prod3 hs hh.qp) (by omega) (by omega) (by omega) (by omega)
  obtain ⟨s1, s2⟩ := enq_bnd hn (hf.qp.app hg.qp) (by omega) (by omega) (by omega) (by omega)
  obtain ⟨t1, t2⟩ := enq_bnd hn hf.qp.bar (by omega) (by omega) (by omega) (by omega)
  obtain ⟨u1, u2⟩ := enq_bnd hn hg.qp.bar (by omega) (by omega) (by omega) (by omega)
  obtain ⟨v1, v2⟩ := enq_bnd hn p2.qp.bar (by omega) (by omega) (by omega) (by omega)
  obtain ⟨a1, a2⟩ := cls_bnd hn hf (by omega) (by omega) (by omega)
  obtain ⟨b1, b2⟩ := cls_bnd hn hg (by omega) (by omega) (by omega)
  obtain ⟨c1, c2⟩ := cls_bnd hn p2 (by omega) (by omega) (by omega)
  obtain ⟨d1, d2⟩ := cls_bnd hn s2 (by omega) (by omega) (by omega)
  obtain ⟨m1, m2⟩ := mul_bnd hn a2 b2 (by omega) (by omega) (by omega)
  obtain ⟨n1, n2⟩ := add_bnd hn (k := 1) (.inl rfl) a2 b2 (by omega) (by omega) (by omega)
  refine ⟨_, _, _, _, _, _, _, _, _, _, _, ⟨(mulQ_eq hok hf.right hg.right hf.v hg.v).trans p1, (mulQ_eq hok hg.right hh.right hg.v hh.v).trans q1, ?_⟩,
    ⟨(barQ_eq hf.right hf.v).trans (congrArg Prod.fst t1), (barQ_eq hg.right hg.v).trans (congrArg Prod.fst u1), (barQ_eq p2.right p2.v).trans (congrArg Prod.fst v1), ?_, ?_⟩,
    ⟨(addQ_eq hf.right hg.right hf.v hg.v).trans s1, (mulQ_eq hok hf.right hh.right hf.v hh.v).trans r1, ?_⟩,
    ⟨a1, b1, c1, d1, ?_, ?_⟩, ⟨p2.sm, q2.sm, r2.sm, s2.sm, t2.sm, u2.sm, v2.sm⟩, a2.sm, b2.sm, c2.sm, d2.sm⟩
  · rw [mulQ_eq hok p2.right hh.right p2.v hh.v, mulQ_eq hok hf.right q2.right hf.v q2.v]
    dsimp only
    rw [map_qp, map_qp]
    congr 2
    refine nf_vl qOrd fun φ => ?_
    rw [vl_prod_nfL, vl_prod_nfR]
    exact vl_prod_ass (D := fun k => k.1.length = fm.length) (fun x y z h1 h2 h3 => qm2_ass fm h1 h2 h3) φ hf.lens hg.lens hh.lens
  · rw [mulQ_eq hok u2.right t2.right u2.v t2.v]
    dsimp only
    rw [map_qp, map_qp, map_qp]
    have e : nf qlt (prodK (qm2 fm) (nf qlt ((g.ts.map qp).map fun x => (qn x.1, x.2))) (nf qlt ((f.ts.map qp).map fun x => (qn x.1, x.2)))) = nf qlt ((nf qlt (prodK (qm2 fm) (f.ts.map qp) (g.ts.map qp))).map fun x => (qn x.1, x.2)) := by
      refine nf_vl qOrd fun φ => ?_
      rw [vl_prod_nfL, vl_prod_nfR, vl_map2 qn, vl_nf, vl_prodK, vl_prodK, vl_map2 qn, vl_fub]
      rw [vl_map2 qn]
      refine vl_congr fun x hx => vl_congr fun y hy => ?_
      rw [qn_qm2 hok ((hf.lens x hx).trans (hg.lens y hy).symm)]
    rw [e]
    rw [map_qp] at v1
    exact congrArg Prod.fst v1
  · rw [barQ_eq t2.right t2.v]
    dsimp only
    rw [map_qp]
    have e : nf qlt ((nf qlt ((f.ts.map qp).map fun x => (qn x.1, x.2))).map fun x => (qn x.1, x.2)) = f.ts.map qp := by
      rw [← nf_right hf.right]
      refine nf_vl qOrd fun φ => ?_
      rw [vl_map2 qn, vl_nf, vl_map2 qn, vl_nf]
      refine vl_congr fun x _ => ?_
      congr 1
      unfold qn
      exact Prod.ext rfl (Int.neg_neg _)
    rw [e]
    have : (⟨(fm.length : Int), (f.ts.map qp).map qt⟩ : Qsm) = f := by
      rw [← hf.v]
      exact qsm_eta f
    unfold enQ
    rw [this, if_pos hf.right]
  · rw [mulQ_eq hok s2.right hh.right s2.v hh.v, addQ_eq r2.right q2.right r2.v q2.v]
    dsimp only
    rw [map_qp, map_qp, map_qp]
    congr 3
    refine nf_vl qOrd fun φ => ?_
    rw [vl_prod_nfL, vl_prod_addL, vl_app, vl_nf, vl_nf]
  · have e : nf lexlt (prodL ((nf lexlt (f.ts.map qc)).map tm |>.map pr) ((nf lexlt (g.ts.map qc)).map tm |>.map pr)) = nf lexlt (((nf qlt (prodK (qm2 fm) (f.ts.map qp) (g.ts.map qp))).map qt).map qc) := by
      refine nf_vl lexOrd fun φ => ?_
      rw [pr_tm, pr_tm, prodL_eq, vl_prod_nfL, vl_prod_nfR, vl_prodK, qc_map, vl_map2 (fun k : QK => k.1), vl_nf, vl_prodK, vl_qc]
      refine vl_congr fun x _ => ?_
      rw [vl_qc]
      rfl
    have := m1
    dsimp only at this
    rw [e] at this
    exact this
  · have e : nf lexlt ((nf lexlt (f.ts.map qc)).map tm |>.map pr) = nf lexlt ((nf lexlt (f.ts.map qc)).map tm |>.map pr) := rfl
    have e2 : nf lexlt (((nf lexlt (f.ts.map qc)).map tm).map pr ++ ((nf lexlt (g.ts.map qc)).map tm).map (prk 1)) = nf lexlt (((nf qlt (f.ts.map qp ++ g.ts.map qp)).map qt).map qc) := by
      refine nf_vl lexOrd fun φ => ?_
      have e3 : vl φ (((nf lexlt (g.ts.map qc)).map tm).map (prk 1)) = vl φ (nf lexlt (g.ts.map qc)) := by
        have := vl_prk φ ⟨0, (nf lexlt (g.ts.map qc)).map tm⟩ 1
        dsimp only at this
        rw [this, pr_tm, Int.one_mul]
      rw [vl_app, e3, pr_tm, vl_nf, vl_nf, qc_map, vl_map2 (fun k : QK => k.1), vl_nf, vl_app, vl_qc, vl_qc]
    have := n1
    dsimp only at this
    rw [e2] at this
    exact this
end Go.Proofs.Ytocknokodgnlbaa.Ab
namespace Go.Proofs.Ytocknokodgnlbaa.Ab
open Go
set_option linter.unusedSimpArgs false
set_option linter.unusedVariables false
set_option maxRecDepth 10000
set_option maxHeartbeats 2000000
attribute [local simp] cur
theorem lO_snocZ (l : List (List Int)) (n : Nat) : rows lO l ++ [D.ow 1 n (ints (List.replicate n 0))] = rows lO (l ++ [List.replicate n 0]) := by
  rw [rows_append]
  simp [rows, lO, owI]
/-- A skew matrix of n rows, small. -/
def Sk3 (n : Nat) (fm : List (List Int)) : Prop := fm.length = n ∧ (∀ r ∈ fm, r.length = n) ∧ ∀ p, p < n → ∀ q, q < n → (at2 fm p q).natAbs ≤ 3 ∧ at2 fm p q + at2 fm q p = 0
theorem Sk3.zero (n : Nat) : Sk3 n (List.replicate n (List.replicate n 0)) := by
  have e : ∀ p, p < n → ∀ q, at2 (List.replicate n (List.replicate n 0)) p q = 0 := fun p hp q => by
    unfold at2
    rw [show (List.replicate n (List.replicate n (0 : Int))).getD p [] = List.replicate n 0 by simp [List.getD_eq_getElem?_getD, hp]]
    simp [List.getD_eq_getElem?_getD, List.getElem?_replicate]
    split <;> rfl
  refine ⟨by simp, fun r hr => by rw [List.eq_of_mem_replicate hr]; simp, fun p hp q hq => ?_⟩
  rw [e p hp q, e q hq p]
  simp
theorem at2_set {fm : List (List Int)} {i : Nat} (hi : i < fm.length) (r : List Int) (p q : Nat) : at2 (fm.set i r) p q = if p = i then r.getD q 0 else at2 fm p q := by
  unfold at2
  by_cases h : p = i
  · subst h
    simp [List.getD_eq_getElem?_getD, hi]
  · rw [if_neg h]
    simp [List.getD_eq_getElem?_getD, List.getElem?_set_ne (Ne.symm h)]
theorem getD_set {r : List Int} {j : Nat} (hj : j < r.length) (x : Int) (q : Nat) : (r.set j x).getD q 0 = if q = j then x else r.getD q 0 := by
  by_cases h : q = j
  · subst h
    simp [List.getD_eq_getElem?_getD, hj]
  · rw [if_neg h]
    simp [List.getD_eq_getElem?_getD, List.getElem?_set_ne (Ne.symm h)]
theorem Sk3.step {n : Nat} {fm : List (List Int)} (h : Sk3 n fm) {i j : Nat} (hi : i < n) (hj : j < i) {x : Int} (hx : x.natAbs ≤ 3) : Sk3 n ((fm.set i ((fm.getD i []).set j x)).set j ((fm.getD j []).set i (-x))) := by
  obtain ⟨h1, h2, h3⟩ := h
  have hri : (fm.getD i []).length = n := by rw [row_eq (by omega)]; exact h2 _ (List.getElem_mem _)
  have hrj : (fm.getD j []).length = n := by rw [row_eq (by omega)]; exact h2 _ (List.getElem_mem _)
  have e : ∀ p q, at2 ((fm.set i ((fm.getD i []).set j x)).set j ((fm.getD j []).set i (-x))) p q = if p = j ∧ q = i then -x else if p = i ∧ q = j then x else at2 fm p q := fun p q => by
    rw [at2_set (by simp; omega), at2_set (by omega), getD_set (by omega), getD_set (by omega)]
    unfold at2
    by_cases c1 : p = j
    · subst c1
      by_cases c2 : q = i
      · simp [c2]
      · simp [c2, show ¬ p = i by omega]
    · by_cases c2 : p = i
      · subst c2
        by_cases c3 : q = j <;> simp [c1, c3]
      · simp [c1, c2]
  refine ⟨by simp [h1], fun r hr => ?_, fun p hp q hq => ?_⟩
  · rcases List.mem_or_eq_of_mem_set hr with hr | rfl
    · rcases List.mem_or_eq_of_mem_set hr with hr | rfl
      · exact h2 r hr
      · simpa using hri
    · simpa using hrj
  · rw [e p q, e q p]
    have := h3 p hp q hq
    by_cases c1 : p = j ∧ q = i
    · rw [if_pos c1, if_neg (by omega), if_pos (by omega)]
      omega
    · rw [if_neg c1]
      by_cases c2 : p = i ∧ q = j
      · rw [if_pos c2, if_pos (by omega)]
        omega
      · rw [if_neg c2, if_neg (by omega), if_neg (by omega)]
        exact this
theorem Sk3.form {n : Nat} {fm : List (List Int)} (h : Sk3 n fm) (hn : 1 ≤ n ∧ n ≤ 3) : FormS fm := by
  obtain ⟨h1, h2, h3⟩ := h
  refine ⟨⟨by omega, fun i hi => ?_, fun i hi j hj => ?_⟩, by omega, fun i hi j hj => (h3 i (by omega) j (by omega)).1⟩
  · rw [row_eq hi, h1]
    exact h2 _ (List.getElem_mem _)
  · have := h3 i (by omega) j (by omega)
    unfold Skp
    omega
def DrawFm (xs : List Int) (n : Nat) (outs : List D) (res : List RV) : Prop := ∃ (i' : Nat) (h' : Int) (fm : List (List Int)), i' ≤ xs.length ∧ Sk3 n fm ∧ outs = [cur xs i' h'] ∧ res = [.one (.ow 1 n (rows lO fm))]
def DrawQf (xs : List Int) (n : Nat) (outs : List D) (res : List RV) : Prop := ∃ (i' : Nat) (h' : Int) (f : Qsm), i' ≤ xs.length ∧ DrawnQ n f ∧ outs = [cur xs i' h'] ∧ res = [.ag (qO f)]
def DrawT3 (outs : List D) (res : List RV) : Prop := ∃ (fm : List (List Int)) (f g h : Qsm), FormS fm ∧ DrawnQ fm.length f ∧ DrawnQ fm.length g ∧ DrawnQ fm.length h ∧ outs = [] ∧ res = [.one (.ow 1 fm.length (rows lO fm)), .ag (qO f), .ag (qO g), .ag (qO h)]
theorem spec_dForm_calls (xs : List Int) (i : Nat) (h : Int) (n : Nat) (hi : i ≤ xs.length) (hx : xs.length ≤ 1048576) (hn : 1 ≤ n ∧ n ≤ 3) : ACalls Try.prog F.spec_dForm [.pt (0, 0) [] 0, .int n] [((0, 0), cur xs i h)] false (DrawFm xs n) := by
  refine ACalls.of_body (C := C.spec_dForm) (n := Try.f76.ntmps) tabT folT Try.func76 rfl (by kernel_rfl) rfl (Nat.le_of_ble_eq_true rfl) (by decide) (by kernel_rfl) (by kernel_rfl) rfl (by simp) (by simp) ?_
  simp only [Try.f76]
  refine wseq ?_
  refine wreg fun K hK => ?_
  simp [C.spec_dForm, cur]
  refine hK _ ?_; clear hK K
  show AWp _ _ _ _ _
  refine wseq ?_
  refine wreg fun K hK => ?_
  simp [C.spec_dForm, cur]
  refine hK _ ?_; clear hK K
  show AWp _ _ _ _ _
  refine wseq ?_
  refine wseq ?_
  refine wreg fun K hK => ?_
  simp [C.spec_dForm, cur]
  refine hK _ ?_; clear hK K
  show AWp _ _ _ _ _
  refine wblock ?_
  refine wloop (fun x : Nat × List (List Int) => ⟨ofL [(0, .pt (0, 0) [] 0), (1, .int n), (5, .al (5, 0) [] 0 x.1), (6, .int x.1), (1000, .pt (0, 0) [] 0)], ofRO [((0, 0), some (cur xs i h)), ((5, 0), some (.ow 1 x.1 (rows lO x.2)))]⟩) (fun x => x.1 ≤ n ∧ x.2 = List.replicate x.1 (List.replicate n 0)) (fun x => n - x.1) (0, []) (by simp [C.spec_dForm, rows]) (by simp) ?_
  intro x1 hx1 R1 hR1
  obtain ⟨k, l⟩ := x1
  obtain ⟨hk, hl⟩ := hx1
  dsimp only at hk hl ⊢
  refine wseq ?_
  refine wseq ?_
  refine wreg fun K hK => ?_
  simp [C.spec_dForm, cur]
  refine hK _ ?_; clear hK K
  show AWp _ _ _ _ _
  refine wcond _ rfl (fun hc1 => ?_) (fun hc1 => ?_)
  · have hk1 : k < n := by have := d_t hc1; omega
    refine wskip ?_
    show AWp _ _ _ _ _
    refine wseq ?_
    refine wblock ?_
    refine wreg fun K hK => ?_
    simp [C.spec_dForm, cur, zeros_ints, lO_snocZ, show (k + 1) * 24 ≤ 140737488355328 by omega, show (8 : Int) * n ≤ 281474976710656 by omega, show (n : Int) ≤ 281474976710656 by omega]
    refine hK _ ?_; clear hK K
    show AWp _ _ _ _ _
    refine wreg fun K hK => ?_
    simp [C.spec_dForm, cur, wrap_succ (show k < 4611686018427387904 by omega)]
    refine hK _ ?_; clear hK K
    simp [C.spec_dForm, cur]
    refine cast (congrArg R1 ?_) (hR1 (k + 1, l ++ [List.replicate n 0]) ⟨hk1, ?_⟩ (by dsimp only; omega))
    · simp
    · dsimp only
      rw [hl, List.replicate_succ']
  · have hk1 : k = n := by have := d_f hc1; omega
    subst hk1
    have hz := Sk3.zero k
    rw [← hl] at hz
    refine wexit ?_
    show AWp _ _ _ _ _
    refine wseq ?_
    refine wseq ?_
    refine wreg fun K hK => ?_
    simp [C.spec_dForm, cur, hn.1]
    refine hK _ ?_; clear hK K
    show AWp _ _ _ _ _
    refine wblock ?_
    refine wloop (fun x : Nat × List (List Int) × Nat × Int => ⟨ofL [(0, .pt (0, 0) [] 0), (1, .int k), (5, .al (5, 0) [] 0 k), (7, .int x.1), (1000, .pt (0, 0) [] 0)], ofRO [((0, 0), some (cur xs x.2.2.1 x.2.2.2)), ((5, 0), some (.ow 1 k (rows lO x.2.1)))]⟩) (fun x => x.1 ≤ k ∧ Sk3 k x.2.1 ∧ x.2.2.1 ≤ xs.length) (fun x => k - x.1) (0, l, i, h) (by simp [C.spec_dForm]) ⟨by simp, hz, hi⟩ ?_
    intro x2 hx2 R2 hR2
    obtain ⟨a, fm, i1, h1⟩ := x2
    obtain ⟨g1, g2, g3⟩ := hx2
    dsimp only at g1 g2 g3 ⊢
    refine wseq ?_
    refine wseq ?_
    refine wreg fun K hK => ?_
    simp [C.spec_dForm, cur]
    refine hK _ ?_; clear hK K
    show AWp _ _ _ _ _
    refine wcond _ rfl (fun hc2 => ?_) (fun hc2 => ?_)
    · have ha : a < k := by have := d_t hc2; omega
      refine wskip ?_
      show AWp _ _ _ _ _
      refine wseq ?_
      refine wblock ?_
      refine wseq ?_
      refine wreg fun K hK => ?_
      simp [C.spec_dForm, cur]
      refine hK _ ?_; clear hK K
      show AWp _ _ _ _ _
      refine wblock ?_
      refine wloop (fun x : Nat × List (List Int) × Nat × Int => ⟨ofL [(0, .pt (0, 0) [] 0), (1, .int k), (5, .al (5, 0) [] 0 k), (7, .int a), (8, .int x.1), (1000, .pt (0, 0) [] 0)], ofRO [((0, 0), some (cur xs x.2.2.1 x.2.2.2)), ((5, 0), some (.ow 1 k (rows lO x.2.1)))]⟩) (fun x => x.1 ≤ a ∧ Sk3 k x.2.1 ∧ x.2.2.1 ≤ xs.length) (fun x => a - x.1) (0, fm, i1, h1) (by simp [C.spec_dForm]) ⟨by simp, g2, g3⟩ ?_
      intro x3 hx3 R3 hR3
      obtain ⟨b, fn, i2, h2⟩ := x3
      obtain ⟨q1, q2, q3⟩ := hx3
      dsimp only at q1 q2 q3 ⊢
      refine wseq ?_
      refine wseq ?_
      refine wreg fun K hK => ?_
      simp [C.spec_dForm, cur]
      refine hK _ ?_; clear hK K
      show AWp _ _ _ _ _
      refine wcond _ rfl (fun hc3 => ?_) (fun hc3 => ?_)
      · have hb : b < a := by have := d_t hc3; omega
        have hal : a < fn.length := by have := q2.1; omega
        have hbl : b < fn.length := by have := q2.1; omega
        have hra : fn[a].length = k := q2.2.1 _ (List.getElem_mem hal)
        have hrb : fn[b].length = k := q2.2.1 _ (List.getElem_mem hbl)
        refine wskip ?_
        show AWp _ _ _ _ _
        refine wseq ?_
        refine wblock ?_
        refine wseq ?_
        refine wregI ([0, 1] ++ ([2, 3])) rfl fun K hK => ?_
        refine opsI_seg fun L hL => ?_
        simp [C.spec_dForm, cur]
        refine wcall (spec_l1Below_calls xs i2 h2 7 q3 hx (by omega)) (by simp) (by simp) (by simp) ?_
        rintro outs res ⟨i3, h3, r, p1, p2, rfl, rfl⟩
        simp [C.spec_dForm, cur]
        refine hL _ ?_; clear hL L
        refine opsI_end fun L hL => ?_
        simp [C.spec_dForm, cur]
        refine hL _ ?_; clear hL L
        simp [C.spec_dForm, cur]
        refine hK _ ?_; clear hK K
        show AWp _ _ _ _ _
        refine wseq ?_
        have hw : IntKind.i64.wrap (r - 3) = r - 3 := wrapOk (by omega) (by omega)
        have hw2 : IntKind.i64.wrap (-(r - 3)) = -(r - 3) := wrapOk (by omega) (by omega)
        have hset1 : (rows lO fn).set a (.ow 1 k (ints (fn[a].set b (r - 3)))) = rows lO (fn.set a (fn[a].set b (r - 3))) := by
          have := lO_set hal (fn[a].set b (r - 3))
          rwa [List.length_set, hra] at this
        have hbl2 : b < (fn.set a (fn[a].set b (r - 3))).length := by simpa using hbl
        have hgb : (fn.set a (fn[a].set b (r - 3)))[b] = fn[b] := List.getElem_set_ne (by omega) _
        have hset2 : (rows lO (fn.set a (fn[a].set b (r - 3)))).set b (.ow 1 k (ints (fn[b].set a (-(r - 3))))) = rows lO ((fn.set a (fn[a].set b (r - 3))).set b (fn[b].set a (-(r - 3)))) := by
          have := lO_set hbl2 (fn[b].set a (-(r - 3)))
          rwa [List.length_set, hrb] at this
        refine wreg fun K hK => ?_
        simp [C.spec_dForm, cur, ha, lO_0 hal, hra, show b < k by omega, hw, hset1, modify_const, ints_set]
        refine hK _ ?_; clear hK K
        show AWp _ _ _ _ _
        refine wreg fun K hK => ?_
        simp [C.spec_dForm, cur, lO_0 hbl2, hgb, hrb, show b < k by omega, ha, hw2, hset2, modify_const, ints_set]
        refine hK _ ?_; clear hK K
        show AWp _ _ _ _ _
        refine wreg fun K hK => ?_
        simp [C.spec_dForm, cur, wrap_succ (show b < 4611686018427387904 by omega)]
        refine hK _ ?_; clear hK K
        simp [C.spec_dForm, cur]
        have hst := q2.step ha hb (x := r - 3) (by omega)
        rw [row_eq hal, row_eq hbl] at hst
        refine cast (congrArg R3 ?_) (hR3 (b + 1, (fn.set a (fn[a].set b (r - 3))).set b (fn[b].set a (-(r - 3))), i3, h3) ⟨hb, hst, p1⟩ (by dsimp only; omega))
        simp
      · have hb : b = a := by have := d_f hc3; omega
        refine wexit ?_
        show AWp _ _ _ _ _
        refine wreg fun K hK => ?_
        simp [C.spec_dForm, cur, wrap_succ (show a < 4611686018427387904 by omega)]
        refine hK _ ?_; clear hK K
        simp [C.spec_dForm, cur]
        exact hR2 (a + 1, fn, i2, h2) ⟨ha, q2, q3⟩ (by dsimp only; omega)
    · have ha : a = k := by have := d_f hc2; omega
      refine wexit ?_
      show AWp _ _ _ _ _
      refine wseq ?_
      refine wreg fun K hK => ?_
      simp [C.spec_dForm, cur]
      refine hK _ ?_; clear hK K
      show AWp _ _ _ _ _
      refine wret ?_
      simp [C.spec_dForm, cur]
      exact ⟨i1, h1, fm, g3, g2, rfl, rfl⟩

theorem spec_dQSum_calls (xs : List Int) (i : Nat) (h : Int) (n : Nat) (hi : i ≤ xs.length) (hx : xs.length ≤ 1048576) (hn : 1 ≤ n ∧ n ≤ 8) : ACalls Try.prog F.spec_dQSum [.pt (0, 0) [] 0, .int n] [((0, 0), cur xs i h)] false (DrawQf xs n) := by
  refine ACalls.of_body (C := C.spec_dQSum) (n := Try.f77.ntmps) tabT folT Try.func77 rfl (by kernel_rfl) rfl (Nat.le_of_ble_eq_true rfl) (by decide) (by kernel_rfl) (by kernel_rfl) rfl (by simp) (by simp) ?_
  simp only [Try.f77]
  refine wseq ?_
  refine wreg fun K hK => ?_
  simp [C.spec_dQSum, cur]
  refine hK _ ?_; clear hK K
  show AWp _ _ _ _ _
  refine wseq ?_
  refine wreg fun K hK => ?_
  simp [C.spec_dQSum, cur]
  refine hK _ ?_; clear hK K
  show AWp _ _ _ _ _
  refine wseq ?_
  refine wregI ([0, 1] ++ ([2])) rfl fun K hK => ?_
  refine opsI_seg fun L hL => ?_
  simp [C.spec_dQSum, cur]
  refine wcall (spec_l1Below_calls xs i h 4 hi hx (by omega)) (by simp) (by simp) (by simp) ?_
  rintro outs res ⟨i1, h1, c, q1, q2, rfl, rfl⟩
  simp [C.spec_dQSum, cur]
  refine hL _ ?_; clear hL L
  refine opsI_end fun L hL => ?_
  simp [C.spec_dQSum, cur]
  refine hL _ ?_; clear hL L
  simp [C.spec_dQSum, cur]
  refine hK _ ?_; clear hK K
  show AWp _ _ _ _ _
  refine wseq ?_
  refine wseq ?_
  obtain ⟨m, rfl⟩ : ∃ m : Nat, c = m := ⟨c.toNat, by omega⟩
  refine wreg fun K hK => ?_
  simp [C.spec_dQSum, cur]
  refine hK _ ?_; clear hK K
  show AWp _ _ _ _ _
  refine wblock ?_
  refine wloop (fun x : Nat × List Qtm × Nat × Int => ⟨ofL [(0, .pt (0, 0) [] 0), (1, .int n), (4, .pt (4, 0) [] 0), (5, .al (5, 0) [] 0 x.1), (6, .int m), (7, .int x.1), (1000, .pt (0, 0) [] 0)], ofRO [((0, 0), some (cur xs x.2.2.1 x.2.2.2)), ((4, 0), some (.bx [D.int 0, .v (.slice none 0 0)])), ((5, 0), some (.ow 3 x.1 (rows qtO x.2.1)))]⟩) (fun x => x.1 ≤ m ∧ x.2.1.length = x.1 ∧ (∀ t ∈ x.2.1, (t.e.length = n ∧ ∀ z ∈ t.e, -2 ≤ z ∧ z ≤ 2) ∧ (-3 ≤ t.h ∧ t.h ≤ 3) ∧ -3 ≤ t.c ∧ t.c ≤ 3) ∧ x.2.2.1 ≤ xs.length) (fun x => m - x.1) (0, [], i1, h1) (by simp [C.spec_dQSum, rows]) ⟨by simp, rfl, by simp, q1⟩ ?_
  intro x1 hx1 R1 hR1
  obtain ⟨j, L, i2, h2⟩ := x1
  obtain ⟨g1, g2, g3, g4⟩ := hx1
  dsimp only at g1 g2 g3 g4 ⊢
  refine wseq ?_
  refine wseq ?_
  refine wreg fun K hK => ?_
  simp [C.spec_dQSum, cur]
  refine hK _ ?_; clear hK K
  show AWp _ _ _ _ _
  refine wcond _ rfl (fun hc1 => ?_) (fun hc1 => ?_)
  · have hj : j < m := by have := d_t hc1; omega
    refine wskip ?_
    show AWp _ _ _ _ _
    refine wseq ?_
    refine wblock ?_
    refine wregI ([0, 1, 2, 3] ++ ([4, 5] ++ ([6, 7, 8] ++ ([9, 10, 11, 12, 13])))) rfl fun K hK => ?_
    refine opsI_seg fun L hL => ?_
    simp [C.spec_dQSum, cur, show (j + 1) * 40 ≤ 140737488355328 by omega]
    refine wcall (spec_dExp_calls xs i2 h2 n g4 hx hn.2) (by simp) (by simp) (by simp) ?_
    rintro outs res ⟨i3, h3, e, p1, p2, rfl, rfl⟩
    simp [C.spec_dQSum, cur, show (j + 1) * 40 ≤ 140737488355328 by omega]
    refine hL _ ?_; clear hL L
    refine opsI_seg fun L hL => ?_
    simp [C.spec_dQSum, cur, show (j + 1) * 40 ≤ 140737488355328 by omega]
    refine wcall (spec_l1Below_calls xs i3 h3 7 p1 hx (by omega)) (by simp) (by simp) (by simp) ?_
    rintro outs res ⟨i4, h4, u, s1, s2, rfl, rfl⟩
    simp [C.spec_dQSum, cur, show (j + 1) * 40 ≤ 140737488355328 by omega]
    refine hL _ ?_; clear hL L
    refine opsI_seg fun L hL => ?_
    simp [C.spec_dQSum, cur, show (j + 1) * 40 ≤ 140737488355328 by omega]
    refine wcall (spec_l1Below_calls xs i4 h4 7 s1 hx (by omega)) (by simp) (by simp) (by simp) ?_
    rintro outs res ⟨i5, h5, v, u1, u2, rfl, rfl⟩
    simp [C.spec_dQSum, cur, show (j + 1) * 40 ≤ 140737488355328 by omega]
    refine hL _ ?_; clear hL L
    refine opsI_end fun L hL => ?_
    simp [C.spec_dQSum, cur, show (j + 1) * 40 ≤ 140737488355328 by omega]
    refine hL _ ?_; clear hL L
    simp [C.spec_dQSum, cur, show (j + 1) * 40 ≤ 140737488355328 by omega]
    refine hK _ ?_; clear hK K
    show AWp _ _ _ _ _
    refine wreg fun K hK => ?_
    simp [C.spec_dQSum, cur, wrap_succ (show j < 4611686018427387904 by omega)]
    refine hK _ ?_; clear hK K
    simp [C.spec_dQSum, cur]
    rw [wrapOk (x := u - 3) (by omega) (by omega), wrapOk (x := v - 3) (by omega) (by omega)]
    refine cast (congrArg R1 ?_) (hR1 (j + 1, L ++ [⟨e, u - 3, v - 3⟩], i5, h5) ⟨hj, by dsimp only; simp; omega, ?_, u1⟩ (by dsimp only; omega))
    · rw [← qtO_snoc]
      simp
    · dsimp only
      intro t ht
      rcases List.mem_append.1 ht with ht | ht
      · exact g3 t ht
      · simp only [List.mem_singleton] at ht
        subst ht
        exact ⟨p2, ⟨by dsimp only; omega, by dsimp only; omega⟩, by dsimp only; omega, by dsimp only; omega⟩
  · have hj : j = m := by have := d_f hc1; omega
    have hB : BqL n (L.map qp) 3 3 2 3 := by
      refine ⟨by simp; omega, fun x hx => ?_, fun x hx => ?_, fun x hx => ?_⟩ <;> obtain ⟨t, ht, rfl⟩ := List.mem_map.1 hx
      · have := (g3 t ht).2.2
        simp only [qp]
        omega
      · exact (g3 t ht).1
      · exact (g3 t ht).2.1
    have hQ := (enq_bnd hn hB (by omega) (by omega) (by omega) (by omega)).2
    have habs : absQ L < 4611686018427387904 := by
      have := absQ_le (B := 3) (l := L) fun t ht => by have := (g3 t ht).2.2; omega
      omega
    have hgat := spec_l8Gather_calls L (by omega) habs (fun t ht => by have := (g3 t ht).1.1; omega)
    rw [g2] at hgat
    refine wexit ?_
    show AWp _ _ _ _ _
    refine wseq ?_
    refine wregI ([0, 1, 2] ++ ([3, 4])) rfl fun K hK => ?_
    refine opsI_seg fun L hL => ?_
    simp [C.spec_dQSum, cur]
    refine wcall1 (hgat) (by simp [cur]) (by simp) ?_
    simp [C.spec_dQSum, cur]
    refine hL _ ?_; clear hL L
    refine opsI_end fun L hL => ?_
    simp [C.spec_dQSum, cur]
    refine hL _ ?_; clear hL L
    simp [C.spec_dQSum, cur]
    refine hK _ ?_; clear hK K
    show AWp _ _ _ _ _
    refine wret ?_
    simp [C.spec_dQSum, cur]
    exact ⟨i2, h2, ⟨n, gaQ L⟩, g4, hQ, rfl, by simp [qO]⟩

theorem spec_DrawThreeQSums_calls (xs : List Int) (hx : xs.length ≤ 1048576) : ACalls Try.prog F.spec_DrawThreeQSums [.d (.sh 1 xs.length (byts xs))] [] false DrawT3 := by
  refine ACalls.of_body (C := C.spec_DrawThreeQSums) (n := Try.f23.ntmps) tabT folT Try.func23 rfl (by kernel_rfl) rfl (Nat.le_of_ble_eq_true rfl) (by decide) (by kernel_rfl) (by kernel_rfl) rfl (by simp) (by simp) ?_
  simp only [Try.f23]
  refine wseq ?_
  refine wreg fun K hK => ?_
  simp [C.spec_DrawThreeQSums]
  refine hK _ ?_; clear hK K
  show AWp _ _ _ _ _
  refine wseq ?_
  refine wregI ([0, 1] ++ ([2])) rfl fun K hK => ?_
  refine opsI_seg fun L hL => ?_
  simp [C.spec_DrawThreeQSums]
  refine wcall (spec_l1New_calls xs hx) (by simp) (by simp) (by simp) ?_
  rintro outs res ⟨rfl, h0, rfl⟩
  simp [C.spec_DrawThreeQSums]
  refine hL _ ?_; clear hL L
  refine opsI_end fun L hL => ?_
  simp [C.spec_DrawThreeQSums]
  refine hL _ ?_; clear hL L
  simp [C.spec_DrawThreeQSums]
  refine hK _ ?_; clear hK K
  show AWp _ _ _ _ _
  refine wseq ?_
  refine wregI ([0, 1] ++ ([2, 3])) rfl fun K hK => ?_
  refine opsI_seg fun L hL => ?_
  simp [C.spec_DrawThreeQSums]
  refine wcall (spec_l1Below_calls xs 0 h0 2 (by omega) hx (by omega)) (by simp) (by simp) (by simp) ?_
  rintro outs res ⟨i1, h1, c, q1, q2, rfl, rfl⟩
  simp [C.spec_DrawThreeQSums]
  refine hL _ ?_; clear hL L
  refine opsI_end fun L hL => ?_
  simp [C.spec_DrawThreeQSums]
  refine hL _ ?_; clear hL L
  simp [C.spec_DrawThreeQSums]
  refine hK _ ?_; clear hK K
  show AWp _ _ _ _ _
  refine wseq ?_
  obtain ⟨n, hn⟩ : ∃ n : Nat, 2 + c = n := ⟨(2 + c).toNat, by omega⟩
  have hw : IntKind.i64.wrap (2 + c) = n := by rw [wrapOk (by omega) (by omega), hn]
  refine wregI ([0, 1, 2] ++ ([3, 4, 5] ++ ([6, 7, 8] ++ ([9, 10, 11] ++ ([12, 13, 14, 15]))))) rfl fun K hK => ?_
  refine opsI_seg fun L hL => ?_
  simp [C.spec_DrawThreeQSums, hw, qO]
  refine wcall (spec_dForm_calls xs i1 h1 n q1 hx (by omega)) (by simp) (by simp) (by simp) ?_
  rintro outs res ⟨i2, h2, fm, p1, p2, rfl, rfl⟩
  simp [C.spec_DrawThreeQSums, hw, qO]
  refine hL _ ?_; clear hL L
  refine opsI_seg fun L hL => ?_
  simp [C.spec_DrawThreeQSums, hw, qO]
  refine wcall (spec_dQSum_calls xs i2 h2 n p1 hx (by omega)) (by simp) (by simp) (by simp) ?_
  rintro outs res ⟨i3, h3, f, s1, s2, rfl, rfl⟩
  simp [C.spec_DrawThreeQSums, hw, qO]
  refine hL _ ?_; clear hL L
  refine opsI_seg fun L hL => ?_
  simp [C.spec_DrawThreeQSums, hw, qO]
  refine wcall (spec_dQSum_calls xs i3 h3 n s1 hx (by omega)) (by simp) (by simp) (by simp) ?_
  rintro outs res ⟨i4, h4, g, u1, u2, rfl, rfl⟩
  simp [C.spec_DrawThreeQSums, hw, qO]
  refine hL _ ?_; clear hL L
  refine opsI_seg fun L hL => ?_
  simp [C.spec_DrawThreeQSums, hw, qO]
  refine wcall (spec_dQSum_calls xs i4 h4 n u1 hx (by omega)) (by simp) (by simp) (by simp) ?_
  rintro outs res ⟨i5, h5, k, v1, v2, rfl, rfl⟩
  simp [C.spec_DrawThreeQSums, hw, qO]
  refine hL _ ?_; clear hL L
  refine opsI_end fun L hL => ?_
  simp [C.spec_DrawThreeQSums, hw, qO]
  refine hL _ ?_; clear hL L
  simp [C.spec_DrawThreeQSums, hw, qO]
  refine hK _ ?_; clear hK K
  show AWp _ _ _ _ _
  refine wret ?_
  simp [C.spec_DrawThreeQSums]
  have hl := p2.1
  exact ⟨fm, f, g, k, p2.form (by omega), by rw [hl]; exact s2, by rw [hl]; exact u2, by rw [hl]; exact v2, rfl, by simp [qO, hl]⟩

end Go.Proofs.Ytocknokodgnlbaa.Ab
namespace Go.Proofs.Ytocknokodgnlbaa.Ab
open Go Go.Shelf
set_option linter.unusedSimpArgs false
set_option linter.unusedVariables false
theorem grow_calls {P : Program} {r : Ren} (L : Lays8.n4 P r) (hcb : Callable P (r.f 4)) {i : TI} (hrow : RowOk P (r.t 25) i) (hs0 : 0 < i.size) (n : Nat) (hb : n * i.bytes ≤ 140737488355328) (hn : n ≤ 1000000) :
    ACalls P (r.f 4) [.d (.v (.slice none 0 0)), .int n] [] true (fun outs res => outs = [] ∧ res = [.one (.ow i.size 0 [])]) := by
  refine ⟨hcb, fun w fp0 ok vs ρ φ hlen hrel => ?_⟩
  have e0 := hrel.env 0
  have e1 := hrel.env 1
  match vs, hlen with
  | [v0, v1], _ =>
  have e0' : v0 = .slice none 0 0 := by simpa [argEnv, FR, Sh] using e0
  have e1' : v1 = .int .i64 n := by simpa [argEnv, FR, Sh] using e1
  subst e0'; subst e1'
  rcases Nat.eq_zero_or_pos n with rfl | hp
  · refine Calls.mono (Any8.slices_Grow_room L none 0 0 0 w (by omega) (by omega) (by omega) (by omega)) ?_
    rintro e w' ⟨rfl, rfl⟩
    exact ⟨_, [], [.one (.ow i.size 0 [])], ok, φ, [], rfl, ⟨rfl, rfl⟩,
      { len := rfl, out := by simp [ofR], dis := by simp [ofR], res := ⟨[.slice none 0 0], rfl, by simp only [OwRs, OwRV, Ow]; exact ⟨_, _, [], [], rfl, rfl, .inl ⟨trivial, trivial, rfl, _, rfl⟩, rfl, rfl⟩⟩, nod := List.nodup_nil, bl := by simp, disr := by simp [ofR], frm := Keeps.refl _ _, okm := fun _ h => h, okn := fun b hb => ⟨.inl hb, hrel.okb b hb⟩ }⟩
  · obtain ⟨ti, h1, h2, h3, z, h4, h5, h6⟩ := hrow.info
    have hzs : z.cells.size = i.size := by rw [← Array.length_toList, h5, hrow.len]
    refine Calls.mono (Any8.slices_Grow_grow L ti z h1 h4 (by omega) none 0 0 n [] w (by omega) (by omega) (by rw [h3, Nat.zero_add]; exact hb) (by omega) (by simp) (fun _ => rfl) (by simp)) ?_
    rintro e w' ⟨rfl, rfl⟩
    have hG : 0 + n ≤ grownCap w (0 + n) 0 (r.t 25) := grownCap_ge w _ _ _
    generalize grownCap w (0 + n) 0 (r.t 25) = G at hG ⊢
    have hnew : ∀ (B : Array Value) (ty : TypeId), (w.drew.alloc (.cells B ty)).heap[w.heap.size]? = some (.cells B ty (0, 0)) := fun B ty => heap_alloc_new w.drew _
    refine ⟨_, [], [.one (.ow i.size 0 [])], ok, φ, [w.heap.size], rfl, ⟨rfl, rfl⟩,
      { len := rfl, out := by simp [ofR], dis := by simp [ofR], res := ⟨[_], rfl, ?_⟩, nod := by simp, bl := fun b hb => ?_, disr := by simp [ofR], frm := (Keeps.refl _ _).drew.alloc _, okm := fun _ h => h, okn := fun b hb => ⟨.inl hb, ?_⟩ }⟩
    · simp only [OwRs, OwRV, Ow, OwL]
      refine ⟨_, _, [w.heap.size], [], rfl, by simp, .inr ⟨_, _, _, _, _, [], rfl, rfl, hnew _ _, ⟨by omega, by omega⟩, ?_, by simp, rfl⟩, by simp⟩
      simp only [Array.size_append, List.size_toArray, size_zeroCells, hzs, List.length_nil, Nat.zero_add, Nat.sub_zero, ← Nat.add_mul]
      rw [Nat.mul_comm]
      exact Nat.mul_le_mul_right _ (by omega)
    · simp only [List.mem_singleton] at hb
      subst hb
      refine ⟨fun h => Nat.lt_irrefl _ (hrel.okb _ h), .inr (Nat.le_refl _), ?_⟩
      show w.heap.size < (w.drew.alloc _).heap.size
      simp
    · refine Nat.lt_of_lt_of_le (hrel.okb b hb) ?_
      show w.heap.size ≤ (w.drew.alloc _).heap.size
      simp
end Go.Proofs.Ytocknokodgnlbaa.Ab
namespace Go.Proofs.Ytocknokodgnlbaa.Ab
open Go Go.Proofs
def growQTerm_ren : Go.Shelf.Ren := ⟨fun | 4 => 135 | n => n, fun | 22 => 40 | 25 => 104 | 3 => 3 | 4 => 4 | 9 => 9 | 20 => 20 | 0 => 0 | n => n, fun | n => n⟩
theorem growQTerm : Go.Proofs.Lays8.n4 Try.prog growQTerm_ren := {
  mixed := by kernel_rfl,
  f4 := ⟨Try.f135.name, by decide, Try.func135.trans (congrArg some (by kernel_rfl))⟩,
  t0 := Try.underlying0,
  a0 := Try.isAgg0,
  z0 := Try.sizeOf0,
  v0 := Try.zeroValue0,
  t3 := Try.underlying3,
  a3 := Try.isAgg3,
  z3 := Try.sizeOf3,
  v3 := Try.zeroValue3,
  t4 := Try.underlying4,
  a4 := Try.isAgg4,
  z4 := Try.sizeOf4,
  v4 := Try.zeroValue4,
  t9 := Try.underlying9,
  a9 := Try.isAgg9,
  z9 := Try.sizeOf9,
  v9 := Try.zeroValue9,
  t20 := Try.underlying20,
  a20 := Try.isAgg20,
  z20 := Try.sizeOf20,
  v20 := Try.zeroValue20,
  t22 := Try.underlying40,
  a22 := Try.isAgg40,
  z22 := Try.sizeOf40,
  v22 := Try.zeroValue40 }
theorem growQTerm_t25 : growQTerm_ren.t 25 = 104 := by kernel_rfl
theorem growQTerm_f4 : growQTerm_ren.f 4 = 135 := by kernel_rfl
end Go.Proofs.Ytocknokodgnlbaa.Ab
namespace Go.Proofs.Ytocknokodgnlbaa.Ab
open Go
set_option linter.unusedSimpArgs false
set_option linter.unusedVariables false
set_option maxRecDepth 10000
set_option maxHeartbeats 2000000
def catQ (ls : List (List Qtm)) : List Qtm := ls.flatten
theorem catQ_nil : catQ [] = [] := rfl
def gQ (l : List Qtm) : List D := [.sh 3 l.length (rows qtS l)]
theorem gQ_one (l : List Qtm) : (gQ l).length = 1 := rfl
@[simp] theorem gQ_length (l : List (List Qtm)) : (rows gQ l).length = l.length := by rw [rows_length gQ_one l, Nat.one_mul]
theorem gQ_0 {l : List (List Qtm)} {i : Nat} (h : i < l.length) : (rows gQ l)[i]? = some (.sh 3 l[i].length (rows qtS l[i])) ∧ ∀ h', (rows gQ l)[i]'h' = .sh 3 l[i].length (rows qtS l[i]) := twice (by
  have := rows_get gQ_one l i 0 h (by omega)
  simpa [gQ] using this)
theorem growQ (n : Nat) (hn : n ≤ 1000000) : ACalls Try.prog F.slices_Grow_impl_QTerm_impl_QTerm [.d (.v (.slice none 0 0)), .int n] [] true (fun outs res => outs = [] ∧ res = [.one (.ow 3 0 [])]) := by
  have hr : ∃ i, tget C.slices_Concat_impl_QTerm_impl_QTerm.T (growQTerm_ren.t 25) = some i ∧ i.size = 3 ∧ i.bytes = 40 := by
    rw [growQTerm_t25]
    exact ⟨_, rfl, rfl, rfl⟩
  obtain ⟨i, h1, h2, h3⟩ := hr
  have h := grow_calls (P := Try.prog) growQTerm ⟨Try.f135, _, by rw [growQTerm_f4]; exact Try.func135, rfl, by kernel_rfl⟩ (tab_ok tabT h1) (by omega) n (by rw [h3]; omega) hn
  rw [h2, growQTerm_f4] at h
  exact h
theorem slices_Concat_impl_QTerm_impl_QTerm_calls (ls : List (List Qtm)) (hn : ls.length ≤ 1000000) (hl : (catQ ls).length ≤ 1000000) : ACalls Try.prog F.slices_Concat_impl_QTerm_impl_QTerm [.d (.sh 1 ls.length (rows gQ ls))] [] false (fun outs res => outs = [] ∧ res = [.one (.ow 3 (catQ ls).length (rows qtS (catQ ls)))]) := by
  have hstep : ∀ k (h : k < ls.length), catQ (ls.take (k + 1)) = catQ (ls.take k) ++ ls[k] := fun k h => by unfold catQ; rw [List.take_succ_eq_append_getElem h, List.flatten_append]; simp
  have hmono : ∀ k, (catQ (ls.take k)).length ≤ (catQ ls).length := fun k => by
    unfold catQ
    conv => rhs; rw [← List.take_append_drop k ls, List.flatten_append, List.length_append]
    omega
  refine ACalls.of_body (C := C.slices_Concat_impl_QTerm_impl_QTerm) (n := Try.f84.ntmps) tabT folT Try.func84 rfl (by kernel_rfl) rfl (Nat.le_of_ble_eq_true rfl) (by decide) (by kernel_rfl) (by kernel_rfl) rfl (by simp) (by simp) ?_
  simp only [Try.f84]
  refine wseq ?_
  refine wreg fun K hK => ?_
  simp [C.slices_Concat_impl_QTerm_impl_QTerm]
  refine hK _ ?_; clear hK K
  show AWp _ _ _ _ _
  refine wseq ?_
  refine wreg fun K hK => ?_
  simp [C.slices_Concat_impl_QTerm_impl_QTerm]
  refine hK _ ?_; clear hK K
  show AWp _ _ _ _ _
  refine wseq ?_
  refine wseq ?_
  refine wreg fun K hK => ?_
  simp [C.slices_Concat_impl_QTerm_impl_QTerm]
  refine hK _ ?_; clear hK K
  show AWp _ _ _ _ _
  refine wblock ?_
  refine wloop (fun x : Nat => ⟨ofL [(0, .d (.sh 1 ls.length (rows gQ ls))), (3, .int (catQ (ls.take x)).length), (9, .d (.sh 1 ls.length (rows gQ ls))), (10, .int ls.length), (11, .int x)], ofRO []⟩) (fun x => x ≤ ls.length) (fun x => ls.length - x) 0 (by simp [C.slices_Concat_impl_QTerm_impl_QTerm, catQ_nil]) (by simp) ?_
  intro x1 hx1 R1 hR1
  refine wseq ?_
  refine wreg fun K hK => ?_
  simp [C.slices_Concat_impl_QTerm_impl_QTerm]
  refine hK _ ?_; clear hK K
  show AWp _ _ _ _ _
  refine wseq ?_
  refine wcond _ rfl (fun hc1 => ?_) (fun hc1 => ?_)
  · have h1 : x1 < ls.length := by have := d_t hc1; omega
    have hs := hstep x1 h1
    have hm1 := hmono (x1 + 1)
    have hls : (catQ (ls.take (x1 + 1))).length = (catQ (ls.take x1)).length + ls[x1].length := by rw [hs, List.length_append]
    refine wskip ?_
    show AWp _ _ _ _ _
    refine wseq ?_
    refine wblock ?_
    refine wseq ?_
    refine wreg fun K hK => ?_
    simp [C.slices_Concat_impl_QTerm_impl_QTerm, h1, gQ_0 h1]
    refine hK _ ?_; clear hK K
    show AWp _ _ _ _ _
    refine wseq ?_
    refine wreg fun K hK => ?_
    simp [C.slices_Concat_impl_QTerm_impl_QTerm]
    rw [wrapOk (x := ((catQ (ls.take x1)).length : Int) + ls[x1].length) (by omega) (by omega), show ((catQ (ls.take x1)).length : Int) + ls[x1].length = ((catQ (ls.take (x1 + 1))).length : Int) by omega]
    refine hK _ ?_; clear hK K
    show AWp _ _ _ _ _
    refine wseq ?_
    refine wreg fun K hK => ?_
    simp [C.slices_Concat_impl_QTerm_impl_QTerm]
    refine hK _ ?_; clear hK K
    show AWp _ _ _ _ _
    refine wcond _ rfl (fun hc2 => ?_) (fun hc2 => ?_)
    · simp at hc2; omega
    · refine wskip ?_
      show AWp _ _ _ _ _
      refine wreg fun K hK => ?_
      simp [C.slices_Concat_impl_QTerm_impl_QTerm, wrap_succ (show x1 < 4611686018427387904 by omega)]
      refine hK _ ?_; clear hK K
      simp [C.slices_Concat_impl_QTerm_impl_QTerm]
      exact hR1 (x1 + 1) h1 (by omega)
  · have h1 : x1 = ls.length := by have := d_f hc1; omega
    have htk : catQ (ls.take x1) = catQ ls := by rw [h1, List.take_length]
    refine wexit ?_
    show AWp _ _ _ _ _
    refine wseq ?_
    refine wregI ([0, 1] ++ ([2])) rfl fun K hK => ?_
    refine opsI_seg fun L hL => ?_
    simp [C.slices_Concat_impl_QTerm_impl_QTerm, htk]
    refine wcall1 (growQ (catQ ls).length hl) (by simp) (by simp) ?_
    simp [C.slices_Concat_impl_QTerm_impl_QTerm, htk]
    refine hL _ ?_; clear hL L
    refine opsI_end fun L hL => ?_
    simp [C.slices_Concat_impl_QTerm_impl_QTerm, htk]
    refine hL _ ?_; clear hL L
    simp [C.slices_Concat_impl_QTerm_impl_QTerm, htk]
    refine hK _ ?_; clear hK K
    show AWp _ _ _ _ _
    refine wseq ?_
    refine wseq ?_
    refine wreg fun K hK => ?_
    simp [C.slices_Concat_impl_QTerm_impl_QTerm]
    refine hK _ ?_; clear hK K
    show AWp _ _ _ _ _
    refine wblock ?_
    refine wloop (fun x : Nat => ⟨ofL [(6, .al (6, 0) [] 0 (catQ (ls.take x)).length), (25, .d (.sh 1 ls.length (rows gQ ls))), (26, .int ls.length), (27, .int x)], ofRO [((6, 0), some (.ow 3 (catQ (ls.take x)).length (rows qtS (catQ (ls.take x)))))]⟩) (fun x => x ≤ ls.length) (fun x => ls.length - x) 0 (by simp [C.slices_Concat_impl_QTerm_impl_QTerm, rows, catQ_nil]) (by simp) ?_
    intro x2 hx2 R2 hR2
    refine wseq ?_
    refine wreg fun K hK => ?_
    simp [C.slices_Concat_impl_QTerm_impl_QTerm]
    refine hK _ ?_; clear hK K
    show AWp _ _ _ _ _
    refine wseq ?_
    refine wcond _ rfl (fun hc3 => ?_) (fun hc3 => ?_)
    · have h2 : x2 < ls.length := by have := d_t hc3; omega
      have hs := hstep x2 h2
      have hm1 := hmono (x2 + 1)
      have hls : (catQ (ls.take (x2 + 1))).length = (catQ (ls.take x2)).length + ls[x2].length := by rw [hs, List.length_append]
      refine wskip ?_
      show AWp _ _ _ _ _
      refine wseq ?_
      refine wblock ?_
      refine wseq ?_
      refine wreg fun K hK => ?_
      simp [C.slices_Concat_impl_QTerm_impl_QTerm, h2, gQ_0 h2]
      refine hK _ ?_; clear hK K
      show AWp _ _ _ _ _
      refine wreg fun K hK => ?_
      simp [C.slices_Concat_impl_QTerm_impl_QTerm, ← rows_append, ← hs, ← hls, show (catQ (ls.take (x2 + 1))).length * 40 ≤ 140737488355328 by omega]
      refine hK _ ?_; clear hK K
      show AWp _ _ _ _ _
      refine wreg fun K hK => ?_
      simp [C.slices_Concat_impl_QTerm_impl_QTerm, wrap_succ (show x2 < 4611686018427387904 by omega)]
      refine hK _ ?_; clear hK K
      simp [C.slices_Concat_impl_QTerm_impl_QTerm]
      exact hR2 (x2 + 1) h2 (by omega)
    · have h2 : x2 = ls.length := by have := d_f hc3; omega
      refine wexit ?_
      show AWp _ _ _ _ _
      refine wseq ?_
      refine wreg fun K hK => ?_
      simp [C.slices_Concat_impl_QTerm_impl_QTerm]
      refine hK _ ?_; clear hK K
      show AWp _ _ _ _ _
      refine wret ?_
      simp [C.slices_Concat_impl_QTerm_impl_QTerm, h2]
theorem concat2 (xs ys : List Qtm) (h : xs.length + ys.length ≤ 1000000) : ACalls Try.prog F.slices_Concat_impl_QTerm_impl_QTerm [.d (.sh 1 2 [.sh 3 xs.length (rows qtS xs), .sh 3 ys.length (rows qtS ys)])] [] false (fun outs res => outs = [] ∧ res = [.one (.ow 3 (xs ++ ys).length (rows qtS (xs ++ ys)))]) := by
  have := slices_Concat_impl_QTerm_impl_QTerm_calls [xs, ys] (by simp) (by simpa [catQ] using h)
  simpa [gQ, rows, catQ] using this
def absKK (l : List (QK × Int)) : Nat := (l.map fun x => x.2.natAbs).sum
theorem coKK_abs (k : QK) : ∀ l : List (QK × Int), (co k l).natAbs ≤ absKK l
  | [] => by simp [co]
  | x :: l => by
    have := coKK_abs k l
    simp only [co, absKK, List.map_cons, List.sum_cons] at this ⊢
    split <;> omega
theorem nfKK_perm {l r : List (QK × Int)} (h : l.Perm r) : nf qlt l = nf qlt r :=
  nf_unique qOrd (nf_desc qOrd l) (nf_nz l) fun k => by rw [nf_co, co_perm k h]

theorem impl_AddQSums_calls (hDone : DoneOkQ) (f g : Qsm) (hx : f.ts.length < 4611686018427387904) (hxe : ∀ t ∈ f.ts, t.e.length < 4611686018427387904) (hy : g.ts.length < 4611686018427387904) (hye : ∀ t ∈ g.ts, t.e.length < 4611686018427387904) : ACalls Try.prog F.impl_AddQSums [aQ f, aQ g] [] true (fun outs res => outs = [] ∧ WkRs res [.ag (qO (addQF f g).1), .one (D.bool (addQF f g).2)]) := by
  refine ACalls.of_body (C := C.impl_AddQSums) (n := Try.f28.ntmps) tabT folT Try.func28 rfl (by kernel_rfl) rfl (Nat.le_of_ble_eq_true rfl) (by decide) (by kernel_rfl) (by kernel_rfl) rfl (by simp) (by simp) ?_
  simp only [Try.f28]
  refine wseq ?_
  refine wreg fun K hK => ?_
  simp [C.impl_AddQSums, qS]
  refine hK _ ?_; clear hK K
  show AWp _ _ _ _ _
  refine wseq ?_
  refine wseq ?_
  refine wregI ([0, 1] ++ ([2, 3, 4, 5] ++ ([6, 7, 8, 9, 10, 11, 12, 13, 14]))) rfl fun K hK => ?_
  have hJ : K ⟨ofL [(2, .pt (2, 0) [] 0), (3, .pt (3, 0) [] 0), (4, .pt (4, 0) [] 0), (23, .bool (!decide (QRight f ∧ QRight g ∧ f.v = g.v)))], ofRO [((2, 0), some (.bx (qS f))), ((3, 0), some (.bx (qS g))), ((4, 0), some (.bx [D.int 0, .v (.slice none 0 0)]))]⟩ := by
    refine hK _ ?_; clear hK K
    show AWp _ _ _ _ _
    refine wcond _ rfl (fun hc1 => ?_) (fun hc1 => ?_)
    · have hr := nd_t hc1
      have hm : addQF f g = (zeroQ, false) := if_neg hr
      refine wseq ?_
      refine wreg fun K hK => ?_
      simp [C.impl_AddQSums, qS]
      refine hK _ ?_; clear hK K
      show AWp _ _ _ _ _
      refine wret ?_
      simp [C.impl_AddQSums, qS, hm, qO, zeroQ, rows]
    · have hr := nd_f hc1
      obtain ⟨hf, hg, hfg⟩ := hr
      have hv := hf.1
      have hfl := hf.2.1
      have hgl := hg.2.1
      obtain ⟨n, hn⟩ : ∃ n : Nat, f.v = n := ⟨f.v.toNat, by omega⟩
      have hn2 : g.v = n := by omega
      have hn8 : n ≤ 8 := by omega
      have hm : addQF f g = enQ n (gaQ (f.ts ++ g.ts)) := by
        rw [← hn]
        exact if_pos ⟨hf, hg, hfg⟩
      have hD : ∀ t ∈ f.ts ++ g.ts, t.e.length = n ∧ (-1000000 ≤ t.c ∧ t.c ≤ 1000000) := fun t ht => by
        rcases List.mem_append.1 ht with ht | ht
        · have := qright_dig hf hn t ht; exact ⟨this.1, this.2.2.2⟩
        · have := qright_dig hg hn2 t ht; exact ⟨this.1, this.2.2.2⟩
      have hlen : (f.ts ++ g.ts).length = f.ts.length + g.ts.length := by simp
      refine wskip ?_
      show AWp _ _ _ _ _
      refine wseq ?_
      refine wregI ([0, 1, 2] ++ ([3])) rfl fun K hK => ?_
      refine opsI_seg fun L hL => ?_
      simp [C.impl_AddQSums, qS, hn]
      refine wcall1 (impl_newQBuilding_calls n) (by simp) (by simp) ?_
      simp [C.impl_AddQSums, qS, hn]
      refine hL _ ?_; clear hL L
      refine opsI_end fun L hL => ?_
      simp [C.impl_AddQSums, qS, hn]
      refine hL _ ?_; clear hL L
      simp [C.impl_AddQSums, qS, hn]
      refine hK _ ?_; clear hK K
      show AWp _ _ _ _ _
      refine wseq ?_
      refine wseq ?_
      refine wregI ([0, 1, 2, 3, 4, 5] ++ ([6, 7])) rfl fun K hK => ?_
      refine opsI_seg fun L hL => ?_
      simp [C.impl_AddQSums, qS]
      refine wcall (concat2 f.ts g.ts (by omega)) (by simp) (by simp) (by simp) ?_
      rintro outs res ⟨rfl, rfl⟩
      simp [C.impl_AddQSums, qS]
      refine hL _ ?_; clear hL L
      refine opsI_end fun L hL => ?_
      simp [C.impl_AddQSums, qS]
      refine hL _ ?_; clear hL L
      simp [C.impl_AddQSums, qS]
      generalize hT : f.ts ++ g.ts = ts at hD hlen hm ⊢
      refine hK _ ?_; clear hK K
      show AWp _ _ _ _ _
      refine wblock ?_
      refine wloop (fun x : Nat × List (List Int × Int) × List (QK × Int) => ⟨ofL [(4, .pt (4, 0) [] 0), (6, .pt (6, 0) [] 0), (33, .al (33, 0) [] 0 ts.length), (34, .int ts.length), (35, .int x.1)], ofRO [((4, 0), some (.bx [D.int 0, .v (.slice none 0 0)])), ((6, 0), some (.bx [D.int n, .mp x.2.1])), ((33, 0), some (.ow 3 ts.length (rows qtS ts)))]⟩) (fun x => x.1 ≤ ts.length ∧ MapQ n x.2.1 x.2.2 ∧ x.2.2.Perm ((ts.take x.1).map qp) ∧ absKK x.2.2 ≤ x.1 * 1000000) (fun x => ts.length - x.1) (0, [], []) (by simp [C.impl_AddQSums, qS, hlen]) ⟨by simp, MapQ.nil n, by simp, by simp [absKK]⟩ ?_
      intro x1 hx1 R1 hR1
      obtain ⟨j, es, l⟩ := x1
      obtain ⟨hj, hM, hP, hA⟩ := hx1
      dsimp only at hj hM hP hA ⊢
      refine wseq ?_
      refine wreg fun K hK => ?_
      simp [C.impl_AddQSums, qS]
      refine hK _ ?_; clear hK K
      show AWp _ _ _ _ _
      refine wseq ?_
      refine wcond _ rfl (fun hc2 => ?_) (fun hc2 => ?_)
      · have h1 : j < ts.length := by have := d_t hc2; omega
        have hT1 := hD _ (List.getElem_mem h1)
        refine wskip ?_
        show AWp _ _ _ _ _
        refine wseq ?_
        refine wblock ?_
        refine wseq ?_
        refine wreg fun K hK => ?_
        simp [C.impl_AddQSums, qS, h1, qtS_0 h1, qtS_1 h1, qtS_2 h1]
        refine hK _ ?_; clear hK K
        show AWp _ _ _ _ _
        obtain ⟨a0, a1, a2, a3, a4, a5, a6, a7, hpa⟩ := eight (pad_length (e := ts[j].e) (by omega))
        have hk : [a0, a1, a2, a3, a4, a5, a6, a7, ts[j].h] = kq (qk ts[j]) := by
          simp only [kq, qk, hpa]
          rfl
        have hval := hM.val (qk ts[j]) hT1.1
        have hco := coKK_abs (qk ts[j]) l
        refine wdrawI [(true, 0), (true, 1), (true, 2), (true, 4), (true, 5), (true, 7), (true, 8), (false, 3), (true, 6), (false, 9)] ⟨by kernel_rfl, by kernel_rfl⟩ ([0, 1, 2, 4, 5, 7, 8, 3] ++ ([6, 9] ++ ([]))) rfl fun K hK => ?_
        refine opsI_seg fun L hL => ?_
        simp [C.impl_AddQSums, qS, qtS]
        refine wcall1 (impl_keyOf_calls ts[j].e (by omega) a0 a1 a2 a3 a4 a5 a6 a7 hpa) (by simp) (by simp) ?_
        simp [C.impl_AddQSums, qS, qtS]
        refine hL _ ?_; clear hL L
        refine opsI_seg fun L hL => ?_
        simp [C.impl_AddQSums, qS, qtS]
        refine wcall1 (impl_qbuilding_add_calls n ts[j].c es a0 a1 a2 a3 a4 a5 a6 a7 ts[j].h (hM.len9 hn8) (by rw [hk, hval]; omega)) (by simp) (by simp) ?_
        simp [C.impl_AddQSums, qS, qtS]
        refine hL _ ?_; clear hL L
        refine opsI_end fun L hL => ?_
        simp only [AOpsI]
        refine hL _ ?_; clear hL L
        simp [C.impl_AddQSums, qS, qtS]
        rw [hk]
        refine hK _ ?_; clear hK K
        show AWp _ _ _ _ _
        refine wreg fun K hK => ?_
        simp [C.impl_AddQSums, qS, wrap_succ (show j < 4611686018427387904 by omega)]
        refine hK _ ?_; clear hK K
        simp [C.impl_AddQSums, qS]
        refine hR1 (j + 1, _, (qk ts[j], ts[j].c) :: l) ⟨h1, hM.add hT1.1 _, ?_, ?_⟩ (by dsimp only; omega)
        · dsimp only
          rw [List.take_succ_eq_append_getElem h1, List.map_append]
          refine (List.Perm.cons _ hP).trans ?_
          exact (List.perm_append_singleton _ _).symm
        · have h3 : ts[j].c.natAbs ≤ 1000000 := by omega
          simp only [absKK, List.map_cons, List.sum_cons] at hA ⊢
          omega
      · have h1 : j = ts.length := by have := d_f hc2; omega
        have hall : l.Perm (ts.map qp) := by
          rw [h1, List.take_length] at hP
          exact hP
        have hle : ∀ x ∈ l, x.1.1.length = n := fun x hx => by
          have := hall.subset hx
          obtain ⟨t, ht, rfl⟩ := List.mem_map.1 this
          exact (hD t ht).1
        have hll : l.length ≤ 1000000 := by rw [hall.length_eq, List.length_map]; omega
        have hs : (nf qlt l).map qt = gaQ ts := by
          unfold gaQ
          rw [nfKK_perm hall]
        refine wexit ?_
        show AWp _ _ _ _ _
        refine wseq ?_
        refine wregI ([0, 1] ++ ([2, 3, 4, 5])) rfl fun K hK => ?_
        refine opsI_seg fun L hL => ?_
        simp [C.impl_AddQSums, qS]
        refine wcall1 (hDone n es l hM hle (by omega) hn8 hll) (by simp) (by simp) ?_
        simp [C.impl_AddQSums, qS]
        refine hL _ ?_; clear hL L
        refine opsI_end fun L hL => ?_
        simp [C.impl_AddQSums, qS]
        refine hL _ ?_; clear hL L
        simp [C.impl_AddQSums, qS]
        refine hK _ ?_; clear hK K
        show AWp _ _ _ _ _
        refine wret ?_
        simp [C.impl_AddQSums, qS, hm, ← hs, qO]
  clear hK
  by_cases ha : QRight f
  · by_cases hb : QRight g
    · refine opsI_seg fun L hL => ?_
      simp [C.impl_AddQSums, qS, ha, hb]
      refine wcall1 (impl_QSumOk_calls f hx hxe) (by simp) (by simp) ?_
      simp [C.impl_AddQSums, qS, ha, hb]
      refine hL _ ?_; clear hL L
      refine opsI_seg fun L hL => ?_
      simp [C.impl_AddQSums, qS, ha, hb]
      refine wcall1 (impl_QSumOk_calls g hy hye) (by simp) (by simp) ?_
      simp [C.impl_AddQSums, qS, ha, hb]
      refine hL _ ?_; clear hL L
      refine opsI_end fun L hL => ?_
      simp [C.impl_AddQSums, qS, ha, hb]
      refine hL _ ?_; clear hL L
      simp [C.impl_AddQSums, qS, ha, hb]
      refine cast (congrArg K ?_) hJ
      simp [ibne, qS, ha, hb]
    · refine opsI_seg fun L hL => ?_
      simp [C.impl_AddQSums, qS, ha, hb]
      refine wcall1 (impl_QSumOk_calls f hx hxe) (by simp) (by simp) ?_
      simp [C.impl_AddQSums, qS, ha, hb]
      refine hL _ ?_; clear hL L
      refine opsI_seg fun L hL => ?_
      simp [C.impl_AddQSums, qS, ha, hb]
      refine wcall1 (impl_QSumOk_calls g hy hye) (by simp) (by simp) ?_
      simp [C.impl_AddQSums, qS, ha, hb]
      refine hL _ ?_; clear hL L
      refine opsI_end fun L hL => ?_
      simp [C.impl_AddQSums, qS, ha, hb]
      refine hL _ ?_; clear hL L
      simp [C.impl_AddQSums, qS, ha, hb]
      refine cast (congrArg K ?_) hJ
      simp [ibne, qS, ha, hb]
  · refine opsI_seg fun L hL => ?_
    simp [C.impl_AddQSums, qS, ha]
    refine wcall1 (impl_QSumOk_calls f hx hxe) (by simp) (by simp) ?_
    simp [C.impl_AddQSums, qS, ha]
    refine hL _ ?_; clear hL L
    refine opsI_seg fun L hL => ?_
    simp [C.impl_AddQSums, qS, ha]
    refine hL _ ?_; clear hL L
    refine opsI_end fun L hL => ?_
    simp [C.impl_AddQSums, qS, ha]
    refine hL _ ?_; clear hL L
    simp [C.impl_AddQSums, qS, ha]
    refine cast (congrArg K ?_) hJ
    simp [ibne, qS, ha]

end Go.Proofs.Ytocknokodgnlbaa.Ab
namespace Go.Proofs.Ytocknokodgnlbaa.Ab
open Go
theorem iAddQ2_calls (f g : Qsm) (hx : f.ts.length < 4611686018427387904) (hxe : ∀ t ∈ f.ts, t.e.length < 4611686018427387904) (hy : g.ts.length < 4611686018427387904) (hye : ∀ t ∈ g.ts, t.e.length < 4611686018427387904) : ACalls Try.prog F.impl_AddQSums [aQ f, aQ g] [] true (fun outs res => outs = [] ∧ res = [.ag (qO (addQF f g).1), .one (D.bool (addQF f g).2)]) := (impl_AddQSums_calls doneOkQ f g hx hxe hy hye).weak1
end Go.Proofs.Ytocknokodgnlbaa.Ab
namespace Go.Proofs.Ytocknokodgnlbaa.Ab
open Go
set_option linter.unusedSimpArgs false
set_option linter.unusedVariables false
set_option maxRecDepth 10000
set_option maxHeartbeats 2000000
def bn (x : QK × Int) : QK × Int := (qn x.1, x.2)
theorem impl_BarOf_calls (f : Qsm) (hx : f.ts.length < 4611686018427387904) (hxe : ∀ t ∈ f.ts, t.e.length < 4611686018427387904) : ACalls Try.prog F.impl_BarOf [aQ f] [] true (fun outs res => outs = [] ∧ WkRs res [.ag (qO (barQ f))]) := by
  refine ACalls.of_body (C := C.impl_BarOf) (n := Try.f27.ntmps) tabT folT Try.func27 rfl (by kernel_rfl) rfl (Nat.le_of_ble_eq_true rfl) (by decide) (by kernel_rfl) (by kernel_rfl) rfl (by simp) (by simp) ?_
  simp only [Try.f27]
  refine wseq ?_
  refine wreg fun K hK => ?_
  simp [C.impl_BarOf, qS]
  refine hK _ ?_; clear hK K
  show AWp _ _ _ _ _
  refine wseq ?_
  refine wseq ?_
  refine wregI ([0, 1] ++ ([2])) rfl fun K hK => ?_
  refine opsI_seg fun L hL => ?_
  simp [C.impl_BarOf, qS]
  refine wcall1 (impl_QSumOk_calls f hx hxe) (by simp) (by simp) ?_
  simp [C.impl_BarOf, qS]
  refine hL _ ?_; clear hL L
  refine opsI_end fun L hL => ?_
  simp [C.impl_BarOf, qS]
  refine hL _ ?_; clear hL L
  simp [C.impl_BarOf, qS]
  refine hK _ ?_; clear hK K
  show AWp _ _ _ _ _
  refine wcond _ rfl (fun hc1 => ?_) (fun hc1 => ?_)
  · have hr := nd_t hc1
    have hm : barQ f = zeroQ := if_neg hr
    refine wseq ?_
    refine wreg fun K hK => ?_
    simp [C.impl_BarOf, qS]
    refine hK _ ?_; clear hK K
    show AWp _ _ _ _ _
    refine wret ?_
    simp [C.impl_BarOf, qS, hm, qO, zeroQ, rows]
  · have hr := nd_f hc1
    have hv := hr.1
    obtain ⟨n, hn⟩ : ∃ n : Nat, f.v = n := ⟨f.v.toNat, by omega⟩
    have hn8 : n ≤ 8 := by omega
    have hfl := hr.2.1
    have hD := qright_he hr hn
    have hm := barQ_eq hr hn
    refine wskip ?_
    show AWp _ _ _ _ _
    refine wseq ?_
    refine wregI ([0, 1, 2] ++ ([3])) rfl fun K hK => ?_
    refine opsI_seg fun L hL => ?_
    simp [C.impl_BarOf, qS, hn]
    refine wcall1 (impl_newQBuilding_calls n) (by simp) (by simp) ?_
    simp [C.impl_BarOf, qS, hn]
    refine hL _ ?_; clear hL L
    refine opsI_end fun L hL => ?_
    simp [C.impl_BarOf, qS, hn]
    refine hL _ ?_; clear hL L
    simp [C.impl_BarOf, qS, hn]
    refine hK _ ?_; clear hK K
    show AWp _ _ _ _ _
    refine wseq ?_
    refine wseq ?_
    refine wreg fun K hK => ?_
    simp [C.impl_BarOf, qS]
    refine hK _ ?_; clear hK K
    show AWp _ _ _ _ _
    refine wblock ?_
    refine wloop (fun x : Nat × List (List Int × Int) × List (QK × Int) => ⟨ofL [(2, .pt (2, 0) [] 0), (3, .pt (3, 0) [] 0), (16, .d (.sh 3 f.ts.length (rows qtS f.ts))), (17, .int f.ts.length), (18, .int x.1)], ofRO [((2, 0), some (.bx [D.int 0, .v (.slice none 0 0)])), ((3, 0), some (.bx [D.int n, .mp x.2.1]))]⟩) (fun x => x.1 ≤ f.ts.length ∧ MapQ n x.2.1 x.2.2 ∧ x.2.2.Perm (((f.ts.take x.1).map qp).map bn) ∧ absKK x.2.2 ≤ x.1 * 1000000) (fun x => f.ts.length - x.1) (0, [], []) (by simp [C.impl_BarOf, qS]) ⟨by simp, MapQ.nil n, by simp, by simp [absKK]⟩ ?_
    intro x1 hx1 R1 hR1
    obtain ⟨j, es, l⟩ := x1
    obtain ⟨hj, hM, hP, hA⟩ := hx1
    dsimp only at hj hM hP hA ⊢
    refine wseq ?_
    refine wreg fun K hK => ?_
    simp [C.impl_BarOf, qS]
    refine hK _ ?_; clear hK K
    show AWp _ _ _ _ _
    refine wseq ?_
    refine wcond _ rfl (fun hc2 => ?_) (fun hc2 => ?_)
    · have h1 : j < f.ts.length := by have := d_t hc2; omega
      have hT1 := hD _ (List.getElem_mem h1)
      refine wskip ?_
      show AWp _ _ _ _ _
      refine wseq ?_
      refine wblock ?_
      refine wseq ?_
      refine wreg fun K hK => ?_
      simp [C.impl_BarOf, qS, h1, qtS_0 h1, qtS_1 h1, qtS_2 h1]
      refine hK _ ?_; clear hK K
      show AWp _ _ _ _ _
      obtain ⟨a0, a1, a2, a3, a4, a5, a6, a7, hpa⟩ := eight (pad_length (e := f.ts[j].e) (by omega))
      have hk : [a0, a1, a2, a3, a4, a5, a6, a7, -f.ts[j].h] = kq (qn (qk f.ts[j])) := by
        simp only [kq, qk, qn, hpa]
        rfl
      have hval := hM.val (qn (qk f.ts[j])) hT1.1
      have hco := coKK_abs (qn (qk f.ts[j])) l
      have hwh : IntKind.i64.wrap (-f.ts[j].h) = -f.ts[j].h := wrapOk (by omega) (by omega)
      refine wdrawI [(true, 0), (true, 1), (true, 2), (true, 4), (true, 5), (true, 6), (true, 8), (true, 9), (false, 3), (true, 7), (false, 10)] ⟨by kernel_rfl, by kernel_rfl⟩ ([0, 1, 2, 4, 5, 6, 8, 9, 3] ++ ([7, 10] ++ ([]))) rfl fun K hK => ?_
      refine opsI_seg fun L hL => ?_
      simp [C.impl_BarOf, qS, qtS, hwh]
      refine wcall1 (impl_keyOf_calls f.ts[j].e (by omega) a0 a1 a2 a3 a4 a5 a6 a7 hpa) (by simp) (by simp) ?_
      simp [C.impl_BarOf, qS, qtS, hwh]
      refine hL _ ?_; clear hL L
      refine opsI_seg fun L hL => ?_
      simp [C.impl_BarOf, qS, qtS, hwh]
      refine wcall1 (impl_qbuilding_add_calls n f.ts[j].c es a0 a1 a2 a3 a4 a5 a6 a7 (-f.ts[j].h) (hM.len9 hn8) (by rw [hk, hval]; omega)) (by simp) (by simp) ?_
      simp [C.impl_BarOf, qS, qtS, hwh]
      refine hL _ ?_; clear hL L
      refine opsI_end fun L hL => ?_
      simp only [AOpsI]
      refine hL _ ?_; clear hL L
      simp [C.impl_BarOf, qS, qtS, hwh]
      rw [hk]
      refine hK _ ?_; clear hK K
      show AWp _ _ _ _ _
      refine wreg fun K hK => ?_
      simp [C.impl_BarOf, qS, wrap_succ (show j < 4611686018427387904 by omega)]
      refine hK _ ?_; clear hK K
      simp [C.impl_BarOf, qS]
      refine hR1 (j + 1, _, (qn (qk f.ts[j]), f.ts[j].c) :: l) ⟨h1, hM.add hT1.1 _, ?_, ?_⟩ (by dsimp only; omega)
      · dsimp only
        rw [List.take_succ_eq_append_getElem h1, List.map_append, List.map_append]
        refine (List.Perm.cons _ hP).trans ?_
        exact (List.perm_append_singleton _ _).symm
      · have h3 : f.ts[j].c.natAbs ≤ 1000000 := by omega
        simp only [absKK, List.map_cons, List.sum_cons] at hA ⊢
        omega
    · have h1 : j = f.ts.length := by have := d_f hc2; omega
      have hall : l.Perm ((f.ts.map qp).map bn) := by
        rw [h1, List.take_length] at hP
        exact hP
      have hlen : ∀ x ∈ l, x.1.1.length = n := fun x hx => by
        have := hall.subset hx
        obtain ⟨t, ht, rfl⟩ := List.mem_map.1 this
        obtain ⟨u, hu, rfl⟩ := List.mem_map.1 ht
        exact (hD u hu).1
      have hnf : nf qlt l = nf qlt ((f.ts.map qp).map bn) := nf_unique qOrd (nf_desc qOrd _) (nf_nz _) fun k => by rw [nf_co, co_perm k hall]
      have hm2 : (enQ n ((nf qlt l).map qt)).1 = barQ f := by
        rw [hm, hnf]
        rfl
      have hll : l.length = f.ts.length := by rw [hall.length_eq]; simp
      refine wexit ?_
      show AWp _ _ _ _ _
      refine wseq ?_
      refine wregI ([0, 1] ++ ([2, 3, 4, 5, 6, 7])) rfl fun K hK => ?_
      refine opsI_seg fun L hL => ?_
      simp [C.impl_BarOf, qS]
      refine wcall1 (doneOkQ n es l hM hlen (by omega) hn8 (by omega)) (by simp) (by simp) ?_
      simp [C.impl_BarOf, qS]
      refine hL _ ?_; clear hL L
      refine opsI_end fun L hL => ?_
      simp [C.impl_BarOf, qS]
      refine hL _ ?_; clear hL L
      simp [C.impl_BarOf, qS]
      refine hK _ ?_; clear hK K
      show AWp _ _ _ _ _
      refine wseq ?_
      refine wreg fun K hK => ?_
      simp [C.impl_BarOf, qS]
      refine hK _ ?_; clear hK K
      show AWp _ _ _ _ _
      refine wret ?_
      simp [C.impl_BarOf, qS, hm2, qO]
theorem iBar_calls (f : Qsm) (hx : f.ts.length < 4611686018427387904) (hxe : ∀ t ∈ f.ts, t.e.length < 4611686018427387904) : ACalls Try.prog F.impl_BarOf [aQ f] [] true (fun outs res => outs = [] ∧ res = [.ag (qO (barQ f))]) := (impl_BarOf_calls f hx hxe).weak1

theorem laws_qsums_calls (f g : Qsm) (hx : f.ts.length < 4611686018427387904) (hxe : ∀ t ∈ f.ts, t.e.length < 4611686018427387904) : ACalls Try.prog F.laws_qsums [aQ f, aQ g] [] true (fun outs res => outs = [] ∧ res = [.one (D.bool (decide (f = g)))]) := by
  refine ACalls.of_body (C := C.laws_qsums) (n := Try.f25.ntmps) tabT folT Try.func25 rfl (by kernel_rfl) rfl (Nat.le_of_ble_eq_true rfl) (by decide) (by kernel_rfl) (by kernel_rfl) rfl (by simp) (by simp) ?_
  simp only [Try.f25]
  refine wseq ?_
  refine wreg fun K hK => ?_
  simp [C.laws_qsums, qS]
  refine hK _ ?_; clear hK K
  show AWp _ _ _ _ _
  refine wseq ?_
  refine wseq ?_
  refine wregI ([0, 1, 2, 3, 4, 5, 6, 7, 8, 9, 10, 11, 12, 13]) rfl fun K hK => ?_
  have hJ : K ⟨ofL [(2, .pt (2, 0) [] 0), (3, .pt (3, 0) [] 0), (19, .bool (!decide (f.v = g.v ∧ (f.ts.length : Int) = g.ts.length)))], ofRO [((2, 0), some (.bx (qS f))), ((3, 0), some (.bx (qS g)))]⟩ := by
    refine hK _ ?_; clear hK K
    show AWp _ _ _ _ _
    refine wcond _ rfl (fun hc1 => ?_) (fun hc1 => ?_)
    · have hc := nd_t hc1
      refine wseq ?_
      refine wreg fun K hK => ?_
      simp [C.laws_qsums, qS]
      refine hK _ ?_; clear hK K
      show AWp _ _ _ _ _
      refine wret ?_
      simp [C.laws_qsums, qS]
      intro e
      subst e
      exact hc ⟨rfl, rfl⟩
    · have hc0 := nd_f hc1
      have hc : f.v = g.v ∧ f.ts.length = g.ts.length := ⟨hc0.1, by have := hc0.2; omega⟩
      refine wskip ?_
      show AWp _ _ _ _ _
      refine wseq ?_
      refine wseq ?_
      refine wreg fun K hK => ?_
      simp [C.laws_qsums, qS]
      refine hK _ ?_; clear hK K
      show AWp _ _ _ _ _
      refine wblock ?_
      refine wloop (fun k : Nat => ⟨ofL [(2, .pt (2, 0) [] 0), (3, .pt (3, 0) [] 0), (5, FV.int k)], ofRO [((2, 0), some (.bx (qS f))), ((3, 0), some (.bx (qS g)))]⟩) (fun k => k ≤ f.ts.length ∧ f.ts.take k = g.ts.take k) (fun k => f.ts.length - k) 0 (by simp [C.laws_qsums, qS]) (by simp) ?_
      intro x1 hx1 R1 hR1
      obtain ⟨hk, ht⟩ := hx1
      refine wseq ?_
      refine wseq ?_
      refine wreg fun K hK => ?_
      simp [C.laws_qsums, qS]
      refine hK _ ?_; clear hK K
      show AWp _ _ _ _ _
      refine wcond _ rfl (fun hc2 => ?_) (fun hc2 => ?_)
      · have h1 : x1 < f.ts.length := by have := d_t hc2; omega
        have h2 : x1 < g.ts.length := by omega
        refine wskip ?_
        show AWp _ _ _ _ _
        refine wseq ?_
        refine wblock ?_
        refine wseq ?_
        refine wdrawI [(true, 0), (true, 1), (true, 2), (true, 3), (true, 4), (true, 5), (true, 6), (true, 7), (true, 8), (true, 9), (true, 10), (true, 11), (true, 12), (true, 13), (true, 14), (true, 15), (true, 16), (true, 17), (true, 18), (true, 19), (true, 20), (true, 21), (true, 22), (true, 23), (true, 24), (true, 25), (true, 26), (true, 27), (true, 28), (true, 29), (true, 30), (true, 31), (true, 32), (true, 33), (true, 34), (true, 35), (true, 36), (true, 37), (true, 38), (true, 39), (true, 40), (false, 41), (true, 42), (true, 43)] ⟨by kernel_rfl, by kernel_rfl⟩ ([0, 1, 2, 3, 4, 5, 6, 7, 8, 9, 10, 11, 12, 13, 14, 15, 16, 17, 18, 19, 20, 21, 22, 23, 24, 25, 26, 27, 28, 29, 30, 31, 32, 33, 34, 35, 36, 37, 38, 39, 40, 41] ++ ([42, 43])) rfl fun K hK => ?_
        have hJ : K ⟨ofL [(2, .pt (2, 0) [] 0), (3, .pt (3, 0) [] 0), (5, FV.int x1), (70, .bool (!decide (f.ts[x1].c = g.ts[x1].c ∧ f.ts[x1].h = g.ts[x1].h ∧ f.ts[x1].e = g.ts[x1].e)))], ofRO [((2, 0), some (.bx (qS f))), ((3, 0), some (.bx (qS g)))]⟩ := by
          refine hK _ ?_; clear hK K
          show AWp _ _ _ _ _
          refine wcond _ rfl (fun hc3 => ?_) (fun hc3 => ?_)
          · have hb := nd_t hc3
            refine wseq ?_
            refine wreg fun K hK => ?_
            simp [C.laws_qsums, qS]
            refine hK _ ?_; clear hK K
            show AWp _ _ _ _ _
            refine wret ?_
            simp [C.laws_qsums, qS]
            intro e
            subst e
            exact hb ⟨rfl, rfl, rfl⟩
          · have hb := nd_f hc3
            refine wskip ?_
            show AWp _ _ _ _ _
            refine wreg fun K hK => ?_
            simp [C.laws_qsums, qS, wrap_succ (show x1 < 4611686018427387904 by omega)]
            refine hK _ ?_; clear hK K
            simp [C.laws_qsums, qS]
            refine hR1 (x1 + 1) ⟨h1, ?_⟩ (by omega)
            have he : f.ts[x1] = g.ts[x1] := by
              cases hf : f.ts[x1]
              cases hg : g.ts[x1]
              simp only [hf, hg] at hb
              simp [hb.1, hb.2.1, hb.2.2]
            rw [List.take_succ_eq_append_getElem h1, List.take_succ_eq_append_getElem h2, ht, he]
        clear hK
        by_cases ha : f.ts[x1].c = g.ts[x1].c
        · by_cases hb : f.ts[x1].h = g.ts[x1].h
          · refine opsI_seg fun L hL => ?_
            simp [C.laws_qsums, qS, h1, h2, qtS_0 h1, qtS_1 h1, qtS_2 h1, qtS_0 h2, qtS_1 h2, qtS_2 h2, ha, hb]
            refine wcall1 (laws_ints_calls f.ts[x1].e g.ts[x1].e (hxe _ (List.getElem_mem h1))) (by simp) (by simp) ?_
            simp [C.laws_qsums, qS, h1, h2, qtS_0 h1, qtS_1 h1, qtS_2 h1, qtS_0 h2, qtS_1 h2, qtS_2 h2, ha, hb]
            refine hL _ ?_; clear hL L
            refine opsI_end fun L hL => ?_
            simp [C.laws_qsums, qS, h1, h2, qtS_0 h1, qtS_1 h1, qtS_2 h1, qtS_0 h2, qtS_1 h2, qtS_2 h2, ha, hb]
            refine hL _ ?_; clear hL L
            simp [C.laws_qsums, qS, h1, h2, qtS_0 h1, qtS_1 h1, qtS_2 h1, qtS_0 h2, qtS_1 h2, qtS_2 h2, ha, hb]
            refine cast (congrArg K ?_) hJ
            simp [ibne, qS, ha, hb]
          · refine opsI_seg fun L hL => ?_
            simp [C.laws_qsums, qS, h1, h2, qtS_0 h1, qtS_1 h1, qtS_2 h1, qtS_0 h2, qtS_1 h2, qtS_2 h2, ha, hb]
            refine hL _ ?_; clear hL L
            refine opsI_end fun L hL => ?_
            simp [C.laws_qsums, qS, h1, h2, qtS_0 h1, qtS_1 h1, qtS_2 h1, qtS_0 h2, qtS_1 h2, qtS_2 h2, ha, hb]
            refine hL _ ?_; clear hL L
            simp [C.laws_qsums, qS, h1, h2, qtS_0 h1, qtS_1 h1, qtS_2 h1, qtS_0 h2, qtS_1 h2, qtS_2 h2, ha, hb]
            refine cast (congrArg K ?_) hJ
            simp [ibne, qS, ha, hb]
        · refine opsI_seg fun L hL => ?_
          simp [C.laws_qsums, qS, h1, h2, qtS_0 h1, qtS_1 h1, qtS_2 h1, qtS_0 h2, qtS_1 h2, qtS_2 h2, ha]
          refine hL _ ?_; clear hL L
          refine opsI_end fun L hL => ?_
          simp [C.laws_qsums, qS, h1, h2, qtS_0 h1, qtS_1 h1, qtS_2 h1, qtS_0 h2, qtS_1 h2, qtS_2 h2, ha]
          refine hL _ ?_; clear hL L
          simp [C.laws_qsums, qS, h1, h2, qtS_0 h1, qtS_1 h1, qtS_2 h1, qtS_0 h2, qtS_1 h2, qtS_2 h2, ha]
          refine cast (congrArg K ?_) hJ
          simp [ibne, qS, ha]
      · have h1 : x1 = f.ts.length := by have := d_f hc2; omega
        refine wexit ?_
        show AWp _ _ _ _ _
        refine wseq ?_
        refine wreg fun K hK => ?_
        simp [C.laws_qsums, qS]
        refine hK _ ?_; clear hK K
        show AWp _ _ _ _ _
        refine wret ?_
        simp [C.laws_qsums, qS]
        rw [h1, List.take_length, hc.2, List.take_length] at ht
        cases f
        cases g
        simp only at hc ht
        simp [hc.1, ht]
  clear hK
  by_cases ha : f.v = g.v
  · refine opsI_end fun L hL => ?_
    simp [C.laws_qsums, qS, ha]
    refine hL _ ?_; clear hL L
    simp [C.laws_qsums, qS, ha]
    refine cast (congrArg K ?_) hJ
    simp [ibne, qS, ha]
  · refine opsI_end fun L hL => ?_
    simp [C.laws_qsums, qS, ha]
    refine hL _ ?_; clear hL L
    simp [C.laws_qsums, qS, ha]
    refine cast (congrArg K ?_) hJ
    simp [ibne, qS, ha]

theorem laws_qtimes_calls (fm : List (List Int)) (f g : Qsm) (h0 : fm.length < 4611686018427387904) (hI : I64 fm) (hx : f.ts.length < 4611686018427387904) (hxe : ∀ t ∈ f.ts, t.e.length < 4611686018427387904) (hy : g.ts.length < 4611686018427387904) (hye : ∀ t ∈ g.ts, t.e.length < 4611686018427387904) : ACalls Try.prog F.laws_qtimes [.d (.sh 1 fm.length (rows lS fm)), aQ f, aQ g] [] true (fun outs res => outs = [] ∧ res = [.ag (qO (mulQF fm f g).1)]) := by
  refine ACalls.of_body (C := C.laws_qtimes) (n := Try.f26.ntmps) tabT folT Try.func26 rfl (by kernel_rfl) rfl (Nat.le_of_ble_eq_true rfl) (by decide) (by kernel_rfl) (by kernel_rfl) rfl (by simp) (by simp) ?_
  simp only [Try.f26]
  refine wseq ?_
  refine wreg fun K hK => ?_
  simp [C.laws_qtimes, qS, qO]
  refine hK _ ?_; clear hK K
  show AWp _ _ _ _ _
  refine wseq ?_
  refine wregI ([0, 1, 2, 3] ++ ([4, 5, 6, 7, 8, 9])) rfl fun K hK => ?_
  refine opsI_seg fun L hL => ?_
  simp [C.laws_qtimes, qS, qO]
  refine wcall1 (iMulQ_calls doneOkQ fm f g h0 hI hx hxe hy hye) (by simp) (by simp) ?_
  simp [C.laws_qtimes, qS, qO]
  refine hL _ ?_; clear hL L
  refine opsI_end fun L hL => ?_
  simp [C.laws_qtimes, qS, qO]
  refine hL _ ?_; clear hL L
  simp [C.laws_qtimes, qS, qO]
  refine hK _ ?_; clear hK K
  show AWp _ _ _ _ _
  refine wseq ?_
  refine wreg fun K hK => ?_
  simp [C.laws_qtimes, qS, qO]
  refine hK _ ?_; clear hK K
  show AWp _ _ _ _ _
  refine wret ?_
  simp [C.laws_qtimes, qS, qO]

theorem laws_sumOf_calls (f g : Qsm) (hx : f.ts.length < 4611686018427387904) (hxe : ∀ t ∈ f.ts, t.e.length < 4611686018427387904) (hy : g.ts.length < 4611686018427387904) (hye : ∀ t ∈ g.ts, t.e.length < 4611686018427387904) : ACalls Try.prog F.laws_sumOf [aQ f, aQ g] [] true (fun outs res => outs = [] ∧ res = [.ag (qO (addQF f g).1)]) := by
  refine ACalls.of_body (C := C.laws_sumOf) (n := Try.f30.ntmps) tabT folT Try.func30 rfl (by kernel_rfl) rfl (Nat.le_of_ble_eq_true rfl) (by decide) (by kernel_rfl) (by kernel_rfl) rfl (by simp) (by simp) ?_
  simp only [Try.f30]
  refine wseq ?_
  refine wreg fun K hK => ?_
  simp [C.laws_sumOf, qS, qO]
  refine hK _ ?_; clear hK K
  show AWp _ _ _ _ _
  refine wseq ?_
  refine wregI ([0, 1, 2] ++ ([3, 4, 5, 6, 7, 8])) rfl fun K hK => ?_
  refine opsI_seg fun L hL => ?_
  simp [C.laws_sumOf, qS, qO]
  refine wcall1 (iAddQ2_calls f g hx hxe hy hye) (by simp) (by simp) ?_
  simp [C.laws_sumOf, qS, qO]
  refine hL _ ?_; clear hL L
  refine opsI_end fun L hL => ?_
  simp [C.laws_sumOf, qS, qO]
  refine hL _ ?_; clear hL L
  simp [C.laws_sumOf, qS, qO]
  refine hK _ ?_; clear hK K
  show AWp _ _ _ _ _
  refine wseq ?_
  refine wreg fun K hK => ?_
  simp [C.laws_sumOf, qS, qO]
  refine hK _ ?_; clear hK K
  show AWp _ _ _ _ _
  refine wret ?_
  simp [C.laws_sumOf, qS, qO]

end Go.Proofs.Ytocknokodgnlbaa.Ab
namespace Go.Proofs.Ytocknokodgnlbaa.Ab
open Go
set_option linter.unusedSimpArgs false
set_option linter.unusedVariables false
set_option maxRecDepth 10000
set_option maxHeartbeats 2000000
theorem laws_plus_calls (f : Lau) (k : Int) (g : Lau) (hx : f.ts.length < 4611686018427387904) (hxe : ∀ t ∈ f.ts, t.e.length < 4611686018427387904) (hy : g.ts.length < 4611686018427387904) (hye : ∀ t ∈ g.ts, t.e.length < 4611686018427387904) : ACalls Try.prog F.laws_plus [aF f, .int k, aF g] [] true (fun outs res => outs = [] ∧ res = [.ag (fO (addF f k g).1)]) := by
  refine ACalls.of_body (C := C.laws_plus) (n := Try.f19.ntmps) tabT folT Try.func19 rfl (by kernel_rfl) rfl (Nat.le_of_ble_eq_true rfl) (by decide) (by kernel_rfl) (by kernel_rfl) rfl (by simp) (by simp) ?_
  simp only [Try.f19]
  refine wseq ?_
  refine wreg fun K hK => ?_
  simp [C.laws_plus, fS, fO]
  refine hK _ ?_; clear hK K
  show AWp _ _ _ _ _
  refine wseq ?_
  refine wregI ([0, 1, 2, 3] ++ ([4, 5, 6, 7, 8, 9])) rfl fun K hK => ?_
  refine opsI_seg fun L hL => ?_
  simp [C.laws_plus, fS, fO]
  refine wcall1 (iAdd_calls f k g hx hxe hy hye) (by simp) (by simp) ?_
  simp [C.laws_plus, fS, fO]
  refine hL _ ?_; clear hL L
  refine opsI_end fun L hL => ?_
  simp [C.laws_plus, fS, fO]
  refine hL _ ?_; clear hL L
  simp [C.laws_plus, fS, fO]
  refine hK _ ?_; clear hK K
  show AWp _ _ _ _ _
  refine wseq ?_
  refine wreg fun K hK => ?_
  simp [C.laws_plus, fS, fO]
  refine hK _ ?_; clear hK K
  show AWp _ _ _ _ _
  refine wret ?_
  simp [C.laws_plus, fS, fO]

end Go.Proofs.Ytocknokodgnlbaa.Ab
namespace Go.Proofs.Ytocknokodgnlbaa.Ab
open Go
set_option linter.unusedSimpArgs false
set_option linter.unusedVariables false
set_option maxRecDepth 10000
set_option maxHeartbeats 2000000
theorem FormS.i64 {fm : List (List Int)} (h : FormS fm) : I64 fm := fun r hr x hx => by
  obtain ⟨i, hi, rfl⟩ := List.getElem_of_mem hr
  obtain ⟨j, hj, rfl⟩ := List.getElem_of_mem hx
  have h1 := h.1.2.1 i hi
  rw [row_eq hi] at h1
  have h2 := h.2.2 i hi j (by omega)
  rw [at2_eq hi hj] at h2
  omega
theorem enQ_sm (v : Int) (ts : List Qtm) : SmQ (enQ v ts).1 := by
  have := enQ_small v ts
  exact ⟨by have := this.1; omega, fun t ht => by have := this.2.1 t ht; omega⟩
theorem mulQF_sm (fm : List (List Int)) (f g : Qsm) : SmQ (mulQF fm f g).1 := by
  unfold mulQF
  split
  · exact enQ_sm _ _
  · exact ⟨by simp [zeroQ], by simp [zeroQ]⟩
theorem laws_FnTorus_calls (xs : List Int) : ACalls Try.prog F.laws_FnTorus [.d (.sh 1 xs.length (byts xs))] [] true (fun outs res => outs = [] ∧ res = [.one (D.bool true)]) := by
  refine ACalls.of_body (C := C.laws_FnTorus) (n := Try.f5.ntmps) tabT folT Try.func5 rfl (by kernel_rfl) rfl (Nat.le_of_ble_eq_true rfl) (by decide) (by kernel_rfl) (by kernel_rfl) rfl (by simp) (by simp) ?_
  simp only [Try.f5]
  refine wseq ?_
  refine wreg fun K hK => ?_
  simp [C.laws_FnTorus, qO, qS, fO, fS]
  refine hK _ ?_; clear hK K
  show AWp _ _ _ _ _
  refine wseq ?_
  refine wseq ?_
  refine wregI ([0, 1] ++ ([])) rfl fun K hK => ?_
  refine opsI_seg fun L hL => ?_
  simp [C.laws_FnTorus, qO, qS, fO, fS]
  refine wcall1 (laws_big_calls xs) (by simp) (by simp) ?_
  simp [C.laws_FnTorus, qO, qS, fO, fS]
  refine hL _ ?_; clear hL L
  refine opsI_end fun L hL => ?_
  simp only [AOpsI]
  refine hL _ ?_; clear hL L
  simp [C.laws_FnTorus, qO, qS, fO, fS]
  refine hK _ ?_; clear hK K
  show AWp _ _ _ _ _
  refine wcond _ rfl (fun hc1 => ?_) (fun hc1 => ?_)
  · refine wseq ?_
    refine wreg fun K hK => ?_
    simp [C.laws_FnTorus, qO, qS, fO, fS]
    refine hK _ ?_; clear hK K
    show AWp _ _ _ _ _
    refine wret ?_
    simp [C.laws_FnTorus, qO, qS, fO, fS]
  · have hx : xs.length ≤ 1048576 := by have := d_f hc1; omega
    refine wskip ?_
    show AWp _ _ _ _ _
    refine wseq ?_
    refine wregI ([0, 1] ++ ([2, 3, 4, 5, 6, 7, 8, 9, 10, 11, 12, 13])) rfl fun K hK => ?_
    refine opsI_seg fun L hL => ?_
    simp [C.laws_FnTorus, qO, qS, fO, fS]
    refine wcall (spec_DrawThreeQSums_calls xs hx) (by simp) (by simp) (by simp) ?_
    rintro outs res ⟨fm, f, g, h, hs, hf, hg, hh, rfl, rfl⟩
    simp [C.laws_FnTorus, qO, qS, fO, fS]
    refine hL _ ?_; clear hL L
    refine opsI_end fun L hL => ?_
    simp [C.laws_FnTorus, qO, qS, fO, fS]
    refine hL _ ?_; clear hL L
    simp [C.laws_FnTorus, qO, qS, fO, fS]
    refine hK _ ?_; clear hK K
    show AWp _ _ _ _ _
    refine wseq ?_
    obtain ⟨P, GH, FH, S, Bf, Bg, Bp, a, b, c, d, ⟨f1, f2, f3⟩, ⟨f4, f5, f6, f7, f8⟩, ⟨f9, f10, f11⟩, ⟨f12, f13, f14, f15, f16, f17⟩, ⟨s1, s2, s3, s4, s5, s6, s7⟩, s8, s9, s10, s11⟩ := torus_facts hs hf hg hh
    have hfl := hf.sm
    have hgl := hg.sm
    have hhl := hh.sm
    have h0 : fm.length < 4611686018427387904 := by have := hs.2.1; omega
    have hI := hs.i64
    have k1 := iMulQ_calls doneOkQ fm f g h0 hI hfl.1 hfl.2 hgl.1 hgl.2
    rw [f1] at k1
    have k2 := laws_qtimes_calls fm P h h0 hI s1.1 s1.2 hhl.1 hhl.2
    rw [f3] at k2
    have k3 := laws_qtimes_calls fm g h h0 hI hgl.1 hgl.2 hhl.1 hhl.2
    rw [f2] at k3
    have k4 := laws_qtimes_calls fm f GH h0 hI hfl.1 hfl.2 s2.1 s2.2
    have hX := mulQF_sm fm f GH
    generalize (mulQF fm f GH).1 = X at k2 k4 hX
    have k5 := laws_qsums_calls X X hX.1 hX.2
    have k6 := iBar_calls P s1.1 s1.2
    rw [f6] at k6
    have k7 := iBar_calls g hgl.1 hgl.2
    rw [f5] at k7
    have k8 := iBar_calls f hfl.1 hfl.2
    rw [f4] at k8
    have k9 := laws_qtimes_calls fm Bg Bf h0 hI s6.1 s6.2 s5.1 s5.2
    rw [f7] at k9
    have k10 := laws_qsums_calls Bp Bp s7.1 s7.2
    have k11 := iBar_calls Bf s5.1 s5.2
    rw [f8] at k11
    have k12 := laws_qsums_calls f f hfl.1 hfl.2
    have k13 := iAddQ2_calls f g hfl.1 hfl.2 hgl.1 hgl.2
    rw [f9] at k13
    have k14 := iCls_calls doneOk f hfl.1 hfl.2
    rw [f12] at k14
    have k15 := iCls_calls doneOk g hgl.1 hgl.2
    rw [f13] at k15
    have k16 := iCls_calls doneOk P s1.1 s1.2
    rw [f14] at k16
    have k17 := iCls_calls doneOk S s4.1 s4.2
    rw [f15] at k17
    have k18 := laws_times_calls a b s8.1 s8.2 s9.1 s9.2
    rw [f16] at k18
    have k19 := laws_plus_calls a 1 b s8.1 s8.2 s9.1 s9.2
    rw [f17] at k19
    have k20 := laws_qtimes_calls fm S h h0 hI s4.1 s4.2 hhl.1 hhl.2
    have k21 := laws_qtimes_calls fm f h h0 hI hfl.1 hfl.2 hhl.1 hhl.2
    rw [f10] at k21
    have k22 := laws_sumOf_calls FH GH s3.1 s3.2 s2.1 s2.2
    rw [← f11] at k22
    have hZ := mulQF_sm fm S h
    generalize (mulQF fm S h).1 = Z at k20 k22 hZ
    have k23 := laws_qsums_calls Z Z hZ.1 hZ.2
    refine wregI ([0, 1, 2, 3] ++ ([4, 5, 6, 7, 8, 9])) rfl fun K hK => ?_
    refine opsI_seg fun L hL => ?_
    simp [C.laws_FnTorus, qO, qS, fO, fS]
    refine wcall1 (k1) (by simp) (by simp) ?_
    simp [C.laws_FnTorus, qO, qS, fO, fS]
    refine hL _ ?_; clear hL L
    refine opsI_end fun L hL => ?_
    simp [C.laws_FnTorus, qO, qS, fO, fS]
    refine hL _ ?_; clear hL L
    simp [C.laws_FnTorus, qO, qS, fO, fS]
    refine hK _ ?_; clear hK K
    show AWp _ _ _ _ _
    refine wseq ?_
    refine wseq ?_
    refine wdrawI [(true, 0), (true, 1), (true, 2), (true, 3), (true, 4), (true, 5), (true, 7), (true, 8), (true, 9), (true, 10), (true, 11), (false, 6), (false, 12), (false, 13), (false, 14), (true, 15), (true, 16), (true, 17), (true, 18), (true, 20), (true, 21), (true, 23), (false, 19), (false, 22), (false, 24), (false, 25), (false, 26), (true, 27), (true, 28), (true, 29), (true, 30), (true, 33), (false, 31), (false, 32), (false, 34), (true, 35), (true, 36)] ⟨by kernel_rfl, by kernel_rfl⟩ ([0, 1, 2, 3, 4, 5, 7, 8, 9, 10, 11, 6] ++ ([12] ++ ([13] ++ ([14] ++ ([15, 16, 17, 18, 20, 21, 23, 19] ++ ([22] ++ ([24] ++ ([25] ++ ([26] ++ ([27, 28, 29, 30, 33, 31] ++ ([32] ++ ([34] ++ ([35, 36]))))))))))))) rfl fun K hK => ?_
    refine opsI_seg fun L hL => ?_
    simp [C.laws_FnTorus, qO, qS, fO, fS]
    refine wcall1 (k2) (by simp) (by simp) ?_
    simp [C.laws_FnTorus, qO, qS, fO, fS]
    refine hL _ ?_; clear hL L
    refine opsI_seg fun L hL => ?_
    simp [C.laws_FnTorus, qO, qS, fO, fS]
    refine wcall1 (k3) (by simp) (by simp) ?_
    simp [C.laws_FnTorus, qO, qS, fO, fS]
    refine hL _ ?_; clear hL L
    refine opsI_seg fun L hL => ?_
    simp [C.laws_FnTorus, qO, qS, fO, fS]
    refine wcall1 (k4) (by simp) (by simp) ?_
    simp [C.laws_FnTorus, qO, qS, fO, fS]
    refine hL _ ?_; clear hL L
    refine opsI_seg fun L hL => ?_
    simp [C.laws_FnTorus, qO, qS, fO, fS]
    refine wcall1 (k5) (by simp) (by simp) ?_
    simp [C.laws_FnTorus, qO, qS, fO, fS]
    refine hL _ ?_; clear hL L
    refine opsI_seg fun L hL => ?_
    simp [C.laws_FnTorus, qO, qS, fO, fS]
    refine wcall1 (k6) (by simp) (by simp) ?_
    simp [C.laws_FnTorus, qO, qS, fO, fS]
    refine hL _ ?_; clear hL L
    refine opsI_seg fun L hL => ?_
    simp [C.laws_FnTorus, qO, qS, fO, fS]
    refine wcall1 (k7) (by simp) (by simp) ?_
    simp [C.laws_FnTorus, qO, qS, fO, fS]
    refine hL _ ?_; clear hL L
    refine opsI_seg fun L hL => ?_
    simp [C.laws_FnTorus, qO, qS, fO, fS]
    refine wcall1 (k8) (by simp) (by simp) ?_
    simp [C.laws_FnTorus, qO, qS, fO, fS]
    refine hL _ ?_; clear hL L
    refine opsI_seg fun L hL => ?_
    simp [C.laws_FnTorus, qO, qS, fO, fS]
    refine wcall1 (k9) (by simp) (by simp) ?_
    simp [C.laws_FnTorus, qO, qS, fO, fS]
    refine hL _ ?_; clear hL L
    refine opsI_seg fun L hL => ?_
    simp [C.laws_FnTorus, qO, qS, fO, fS]
    refine wcall1 (k10) (by simp) (by simp) ?_
    simp [C.laws_FnTorus, qO, qS, fO, fS]
    refine hL _ ?_; clear hL L
    refine opsI_seg fun L hL => ?_
    simp [C.laws_FnTorus, qO, qS, fO, fS]
    refine wcall1 (k8) (by simp) (by simp) ?_
    simp [C.laws_FnTorus, qO, qS, fO, fS]
    refine hL _ ?_; clear hL L
    refine opsI_seg fun L hL => ?_
    simp [C.laws_FnTorus, qO, qS, fO, fS]
    refine wcall1 (k11) (by simp) (by simp) ?_
    simp [C.laws_FnTorus, qO, qS, fO, fS]
    refine hL _ ?_; clear hL L
    refine opsI_seg fun L hL => ?_
    simp [C.laws_FnTorus, qO, qS, fO, fS]
    refine wcall1 (k12) (by simp) (by simp) ?_
    simp [C.laws_FnTorus, qO, qS, fO, fS]
    refine hL _ ?_; clear hL L
    refine opsI_end fun L hL => ?_
    simp [C.laws_FnTorus, qO, qS, fO, fS]
    refine hL _ ?_; clear hL L
    simp [C.laws_FnTorus, qO, qS, fO, fS]
    refine hK _ ?_; clear hK K
    show AWp _ _ _ _ _
    refine wcond _ rfl (fun hc2 => ?_) (fun hc2 => ?_)
    · simp at hc2
    · refine wskip ?_
      show AWp _ _ _ _ _
      refine wseq ?_
      refine wregI ([0, 1, 2] ++ ([3, 4, 5, 6, 7, 8])) rfl fun K hK => ?_
      refine opsI_seg fun L hL => ?_
      simp [C.laws_FnTorus, qO, qS, fO, fS]
      refine wcall1 (k13) (by simp) (by simp) ?_
      simp [C.laws_FnTorus, qO, qS, fO, fS]
      refine hL _ ?_; clear hL L
      refine opsI_end fun L hL => ?_
      simp [C.laws_FnTorus, qO, qS, fO, fS]
      refine hL _ ?_; clear hL L
      simp [C.laws_FnTorus, qO, qS, fO, fS]
      refine hK _ ?_; clear hK K
      show AWp _ _ _ _ _
      refine wseq ?_
      refine wregI ([0, 1] ++ ([2, 3, 4, 5, 6, 7])) rfl fun K hK => ?_
      refine opsI_seg fun L hL => ?_
      simp [C.laws_FnTorus, qO, qS, fO, fS]
      refine wcall1 (k14) (by simp) (by simp) ?_
      simp [C.laws_FnTorus, qO, qS, fO, fS]
      refine hL _ ?_; clear hL L
      refine opsI_end fun L hL => ?_
      simp [C.laws_FnTorus, qO, qS, fO, fS]
      refine hL _ ?_; clear hL L
      simp [C.laws_FnTorus, qO, qS, fO, fS]
      refine hK _ ?_; clear hK K
      show AWp _ _ _ _ _
      refine wseq ?_
      refine wregI ([0, 1] ++ ([2, 3, 4, 5, 6, 7])) rfl fun K hK => ?_
      refine opsI_seg fun L hL => ?_
      simp [C.laws_FnTorus, qO, qS, fO, fS]
      refine wcall1 (k15) (by simp) (by simp) ?_
      simp [C.laws_FnTorus, qO, qS, fO, fS]
      refine hL _ ?_; clear hL L
      refine opsI_end fun L hL => ?_
      simp [C.laws_FnTorus, qO, qS, fO, fS]
      refine hL _ ?_; clear hL L
      simp [C.laws_FnTorus, qO, qS, fO, fS]
      refine hK _ ?_; clear hK K
      show AWp _ _ _ _ _
      refine wseq ?_
      refine wregI ([0, 1] ++ ([2, 3, 4, 5, 6, 7])) rfl fun K hK => ?_
      refine opsI_seg fun L hL => ?_
      simp [C.laws_FnTorus, qO, qS, fO, fS]
      refine wcall1 (k16) (by simp) (by simp) ?_
      simp [C.laws_FnTorus, qO, qS, fO, fS]
      refine hL _ ?_; clear hL L
      refine opsI_end fun L hL => ?_
      simp [C.laws_FnTorus, qO, qS, fO, fS]
      refine hL _ ?_; clear hL L
      simp [C.laws_FnTorus, qO, qS, fO, fS]
      refine hK _ ?_; clear hK K
      show AWp _ _ _ _ _
      refine wseq ?_
      refine wregI ([0, 1] ++ ([2, 3, 4, 5, 6, 7])) rfl fun K hK => ?_
      refine opsI_seg fun L hL => ?_
      simp [C.laws_FnTorus, qO, qS, fO, fS]
      refine wcall1 (k17) (by simp) (by simp) ?_
      simp [C.laws_FnTorus, qO, qS, fO, fS]
      refine hL _ ?_; clear hL L
      refine opsI_end fun L hL => ?_
      simp [C.laws_FnTorus, qO, qS, fO, fS]
      refine hL _ ?_; clear hL L
      simp [C.laws_FnTorus, qO, qS, fO, fS]
      refine hK _ ?_; clear hK K
      show AWp _ _ _ _ _
      refine wseq ?_
      refine wdrawI [(true, 0), (true, 1), (true, 2), (true, 3), (true, 4), (true, 5), (true, 6), (true, 7), (true, 8), (true, 9), (true, 10), (true, 11), (true, 12), (true, 13), (true, 14), (true, 15), (true, 16), (false, 17), (false, 18), (true, 19), (true, 20), (true, 21), (true, 22), (true, 23), (false, 24), (false, 25), (true, 26), (true, 27), (true, 28), (true, 29), (true, 30), (true, 32), (true, 33), (true, 34), (true, 36), (true, 37), (true, 38), (false, 31), (false, 35), (false, 39), (false, 40), (false, 41), (true, 42), (true, 43)] ⟨by kernel_rfl, by kernel_rfl⟩ ([0, 1, 2, 3, 4, 5, 6, 7, 8, 9, 10, 11, 12, 13, 14, 15, 16, 17] ++ ([18] ++ ([19, 20, 21, 22, 23, 24] ++ ([25] ++ ([26, 27, 28, 29, 30, 32, 33, 34, 36, 37, 38, 31] ++ ([35] ++ ([39] ++ ([40] ++ ([41] ++ ([42, 43])))))))))) rfl fun K hK => ?_
      refine opsI_seg fun L hL => ?_
      simp [C.laws_FnTorus, qO, qS, fO, fS]
      refine wcall1 (k18) (by simp) (by simp) ?_
      simp [C.laws_FnTorus, qO, qS, fO, fS]
      refine hL _ ?_; clear hL L
      refine opsI_seg fun L hL => ?_
      simp [C.laws_FnTorus, qO, qS, fO, fS]
      refine wcall1 (laws_laurents_calls c c s10.1 s10.2) (by simp) (by simp) ?_
      simp [C.laws_FnTorus, qO, qS, fO, fS]
      refine hL _ ?_; clear hL L
      refine opsI_seg fun L hL => ?_
      simp [C.laws_FnTorus, qO, qS, fO, fS]
      refine wcall1 (k19) (by simp) (by simp) ?_
      simp [C.laws_FnTorus, qO, qS, fO, fS]
      refine hL _ ?_; clear hL L
      refine opsI_seg fun L hL => ?_
      simp [C.laws_FnTorus, qO, qS, fO, fS]
      refine wcall1 (laws_laurents_calls d d s11.1 s11.2) (by simp) (by simp) ?_
      simp [C.laws_FnTorus, qO, qS, fO, fS]
      refine hL _ ?_; clear hL L
      refine opsI_seg fun L hL => ?_
      simp [C.laws_FnTorus, qO, qS, fO, fS]
      refine wcall1 (k20) (by simp) (by simp) ?_
      simp [C.laws_FnTorus, qO, qS, fO, fS]
      refine hL _ ?_; clear hL L
      refine opsI_seg fun L hL => ?_
      simp [C.laws_FnTorus, qO, qS, fO, fS]
      refine wcall1 (k21) (by simp) (by simp) ?_
      simp [C.laws_FnTorus, qO, qS, fO, fS]
      refine hL _ ?_; clear hL L
      refine opsI_seg fun L hL => ?_
      simp [C.laws_FnTorus, qO, qS, fO, fS]
      refine wcall1 (k3) (by simp) (by simp) ?_
      simp [C.laws_FnTorus, qO, qS, fO, fS]
      refine hL _ ?_; clear hL L
      refine opsI_seg fun L hL => ?_
      simp [C.laws_FnTorus, qO, qS, fO, fS]
      refine wcall1 (k22) (by simp) (by simp) ?_
      simp [C.laws_FnTorus, qO, qS, fO, fS]
      refine hL _ ?_; clear hL L
      refine opsI_seg fun L hL => ?_
      simp [C.laws_FnTorus, qO, qS, fO, fS]
      refine wcall1 (k23) (by simp) (by simp) ?_
      simp [C.laws_FnTorus, qO, qS, fO, fS]
      refine hL _ ?_; clear hL L
      refine opsI_end fun L hL => ?_
      simp [C.laws_FnTorus, qO, qS, fO, fS]
      refine hL _ ?_; clear hL L
      simp [C.laws_FnTorus, qO, qS, fO, fS]
      refine hK _ ?_; clear hK K
      show AWp _ _ _ _ _
      refine wret ?_
      simp [C.laws_FnTorus, qO, qS, fO, fS]

end Go.Proofs.Ytocknokodgnlbaa.Ab
namespace Go.Proofs.Ytocknokodgnlbaa.Ab
open Go Go.ChangeShapes Go.WideShapes Go.ChangeAt Go.RowKit
set_option linter.unusedSimpArgs false
set_option linter.unusedVariables false
set_option maxRecDepth 100000
section
variable {H : Type} {enc : TypeId × Value → H} {W : World}
theorem rows_byts (l : List Int) : rows (fun n => [D.v (.int .u8 n)]) l = byts l := by
  induction l with
  | nil => rfl
  | cons x l ih => simp [rows, ih, byts]
def CodeB (l : List Int) : Prop := (∀ x ∈ l, 0 ≤ x ∧ x ≤ 255) ∧ l.length * 1 ≤ 140737488351232
theorem opCode : Opens enc Try.prog W 22 1 (List Int) (fun l => [.sh 1 l.length (byts l)]) CodeB :=
  (Opens.slice (Opens.byte Try.underlying5 (by kernel_rfl)) (by omega) Try.underlying22 (by kernel_rfl) (by kernel_rfl)).to id (fun l => by simp [rows_byts]) (fun _ => rfl) (fun _ h => h)
theorem argCode : Arg enc Try.prog W 22 (List Int) (fun l => .d (.sh 1 l.length (byts l))) CodeB := Arg.one opCode (by kernel_rfl) (of_decide_eq_true (by kernel_rfl)) (by kernel_rfl)
end
end Go.Proofs.Ytocknokodgnlbaa.Ab
namespace Go.Proofs.Ytocknokodgnlbaa.Ab
open Go
theorem lawTo (xs : List Int) : ACalls Try.prog F.laws_FnTorus [.d (.sh 1 xs.length (byts xs))] [] true (fun outs res => outs = [] ∧ res = [.one (D.bool true)]) := laws_FnTorus_calls xs
end Go.Proofs.Ytocknokodgnlbaa.Ab
