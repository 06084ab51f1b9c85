/- The program's products of sums, over the end of a building. The end of a building, over a sort. The sort of terms by their exponents, greatest first, at this program. The program's sums: all contracts without a premise left. Quantum sums as trees. Quantum sums: their size, copies, what is equal, marks. Powers of sums: the program's are the reference's, fresh at each call. Quantum sums: the order of terms, which sums are right. Quantum sums: which are right, for the reference and for the program. Division of sums by their greatest terms, over any keys: what it finds, what it keeps, and that it does not matter which of two tests it makes. Seeds and sessions: what is equal, marks. The first seed and the first session, on both sides. Least exponents, denominators, numerators. Division of sums in variables: two ways to test whether to go on lead to the same. No condition. -/
import Derived.Test.YtdgeponcnlkaiaaKCd
import Derived.Shelf.SlSortCmp.NoneTotal
import Derived.Test.YtdgeponcnlkaiaaKCc
set_option linter.unusedVariables false
set_option linter.unusedSimpArgs false
namespace Go.Proofs.Ytdgeponcnlkaiaa.Ab
open Go
set_option linter.unusedSimpArgs false
set_option linter.unusedVariables false
set_option maxRecDepth 10000
set_option maxHeartbeats 2000000
def DoneOk : Prop := ∀ (n : Nat) (es l : List (List Int × Int)), MapR n es l → (∀ x ∈ l, x.1.length = n) → 1 ≤ n → n ≤ 8 → l.length ≤ 1000000 →
  ACalls Try.prog F.impl_building_done [.pt (0, 0) [] 0] [((0, 0), .bx [D.int n, .mp es])] true (fun outs res => outs = [.bx [D.int n, .mp es]] ∧ res = [.ag (fO (shutF n l).1), .one (D.bool (shutF n l).2)])
theorem pad_add {a b : List Int} (h : a.length = b.length) (k : Int) : addE k (pad a) (pad b) = pad (addE k a b) := by
  unfold pad
  rw [addE_length _ _ _ h, ← h]
  generalize 8 - a.length = m
  induction a generalizing b with
  | nil => cases b with
    | nil =>
      simp only [addE, List.nil_append]
      induction m with
      | zero => rfl
      | succ m ih => simp [List.replicate_succ, addE, ih]
    | cons y b => simp at h
  | cons x a ih => cases b with
    | nil => simp at h
    | cons y b => simp [addE, ih (by simpa using h)]
def absE (l : List (List Int × Int)) : Nat := (l.map fun x => x.2.natAbs).sum
theorem co_abs (k : List Int) : ∀ l : List (List Int × Int), (co k l).natAbs ≤ absE l
  | [] => by simp [co]
  | x :: l => by
    have := co_abs k l
    simp only [co, absE, List.map_cons, List.sum_cons] at this ⊢
    split <;> omega
theorem nf_perm {l r : List (List Int × Int)} (h : l.Perm r) : nf lexlt l = nf lexlt r :=
  nf_unique lexOrd (nf_desc lexOrd l) (nf_nz l) fun k => by rw [nf_co, co_perm k h]
theorem shutF_perm {l r : List (List Int × Int)} (h : l.Perm r) (v : Int) : shutF v l = shutF v r := by
  unfold shutF
  rw [nf_perm h]
theorem prodL_step {a b : List (List Int × Int)} {i : Nat} (h : i < a.length) : prodL (a.take (i + 1)) b = prodL (a.take i) b ++ b.map fun y => (addE 1 a[i].1 y.1, a[i].2 * y.2) := by
  unfold prodL
  rw [List.take_succ_eq_append_getElem h, List.flatMap_append]
  simp
theorem absB {a i j : Nat} (h : a ≤ (i * 600 + j) * 1000000000000) (hj : j ≤ 600) : a ≤ ((i + 1) * 600) * 1000000000000 :=
  Nat.le_trans h (Nat.mul_le_mul_right _ (by omega))
theorem natAbs_bd {c : Int} (h : -1000000000000 ≤ c ∧ c ≤ 1000000000000) : c.natAbs ≤ 1000000000000 := by omega
theorem pad_bd {e : List Int} (h : ∀ x ∈ e, -20 ≤ x ∧ x ≤ 20) : ∀ x ∈ pad e, -1000000 ≤ x ∧ x ≤ 1000000 := fun x hx => by
  unfold pad at hx
  rcases List.mem_append.1 hx with hx | hx
  · have := h x hx; omega
  · have := List.eq_of_mem_replicate hx; omega
theorem impl_MulLaurents_calls (hDone : DoneOk) (f g : Lau) (hx : f.ts.length < 4611686018427387904) (hxe : ∀ t ∈ f.ts, t.e.length < 4611686018427387904) (hy : g.ts.length < 4611686018427387904) (hye : ∀ t ∈ g.ts, t.e.length < 4611686018427387904) : ACalls Try.prog F.impl_MulLaurents [aF f, aF g] [] true (fun outs res => outs = [] ∧ WkRs res [.ag (fO (mulF f g).1), .one (D.bool (mulF f g).2)]) := by
  refine ACalls.of_body (C := C.impl_MulLaurents) (n := Try.f35.ntmps) tabT folT Try.func35 rfl (by kernel_rfl) rfl (Nat.le_of_ble_eq_true rfl) (by decide) (by kernel_rfl) (by kernel_rfl) rfl (by simp) (by simp) ?_
  simp only [Try.f35]
  refine wseq ?_
  refine wreg fun K hK => ?_
  simp [C.impl_MulLaurents, fS]
  refine hK _ ?_; clear hK K
  show AWp _ _ _ _ _
  refine wseq ?_
  refine wseq ?_
  refine wregI ([0, 1, 2] ++ ([3])) rfl fun K hK => ?_
  refine opsI_seg fun L hL => ?_
  simp [C.impl_MulLaurents, fS]
  refine wcall1 (impl_bothOk_calls f g hx hxe hy hye) (by simp) (by simp) ?_
  simp [C.impl_MulLaurents, fS]
  refine hL _ ?_; clear hL L
  refine opsI_end fun L hL => ?_
  simp [C.impl_MulLaurents, fS]
  refine hL _ ?_; clear hL L
  simp [C.impl_MulLaurents, fS]
  refine hK _ ?_; clear hK K
  show AWp _ _ _ _ _
  refine wcond _ rfl (fun hc1 => ?_) (fun hc1 => ?_)
  · have hr : ¬ (Right f ∧ Right g ∧ f.v = g.v) := by
      intro ⟨q1, q2, q3⟩
      simp [q1, q2, q3] at hc1
    have hm : mulF f g = (zeroF, false) := if_neg hr
    refine wseq ?_
    refine wreg fun K hK => ?_
    simp [C.impl_MulLaurents, fS]
    refine hK _ ?_; clear hK K
    show AWp _ _ _ _ _
    refine wret ?_
    simp [C.impl_MulLaurents, fS, hm, fO, zeroF, rows]
  · have hr : Right f ∧ Right g ∧ f.v = g.v := by simpa using hc1
    obtain ⟨hf, hg, hfg⟩ := hr
    have hv := hf.1
    obtain ⟨n, hn⟩ : ∃ n : Nat, f.v = n := ⟨f.v.toNat, by omega⟩
    have hn2 : g.v = n := by omega
    have hn8 : n ≤ 8 := by omega
    have hfl := hf.2.1
    have hgl := hg.2.1
    have hm : mulF f g = shutF n (prodL (f.ts.map pr) (g.ts.map pr)) := by
      unfold mulF
      rw [if_pos ⟨hf, hg, hfg⟩, hn]
    refine wskip ?_
    show AWp _ _ _ _ _
    refine wseq ?_
    refine wregI ([0, 1, 2] ++ ([3])) rfl fun K hK => ?_
    refine opsI_seg fun L hL => ?_
    simp [C.impl_MulLaurents, fS, hn]
    refine wcall1 (impl_newBuilding_calls n) (by simp) (by simp) ?_
    simp [C.impl_MulLaurents, fS, hn]
    refine hL _ ?_; clear hL L
    refine opsI_end fun L hL => ?_
    simp [C.impl_MulLaurents, fS, hn]
    refine hL _ ?_; clear hL L
    simp [C.impl_MulLaurents, fS, hn]
    refine hK _ ?_; clear hK K
    show AWp _ _ _ _ _
    refine wseq ?_
    refine wseq ?_
    refine wreg fun K hK => ?_
    simp [C.impl_MulLaurents, fS]
    refine hK _ ?_; clear hK K
    show AWp _ _ _ _ _
    refine wblock ?_
    refine wloop (fun x : Nat × List (List Int × Int) × List (List Int × Int) => ⟨ofL [(3, .pt (3, 0) [] 0), (4, .pt (4, 0) [] 0), (6, .pt (6, 0) [] 0), (20, .d (.sh 2 f.ts.length (rows tS f.ts))), (21, .int f.ts.length), (22, .int x.1)], ofRO [((3, 0), some (.bx (fS g))), ((4, 0), some (.bx [D.int 0, .v (.slice none 0 0)])), ((6, 0), some (.bx [D.int n, .mp x.2.1]))]⟩) (fun x => x.1 ≤ f.ts.length ∧ MapR n x.2.1 x.2.2 ∧ x.2.2.Perm (prodL ((f.ts.map pr).take x.1) (g.ts.map pr)) ∧ x.2.2.length ≤ x.1 * 600 ∧ absE x.2.2 ≤ (x.1 * 600) * 1000000000000) (fun x => f.ts.length - x.1) (0, [], []) (by simp [C.impl_MulLaurents, fS]) ⟨by simp, MapR.nil n, by simp [prodL], by simp, by simp [absE]⟩ ?_
    intro x1 hx1 R1 hR1
    obtain ⟨i, es, l⟩ := x1
    obtain ⟨hi, hM, hP, hL, hA⟩ := hx1
    dsimp only at hi hM hP hL hA ⊢
    refine wseq ?_
    refine wreg fun K hK => ?_
    simp [C.impl_MulLaurents, fS]
    refine hK _ ?_; clear hK K
    show AWp _ _ _ _ _
    refine wseq ?_
    refine wcond _ rfl (fun hc2 => ?_) (fun hc2 => ?_)
    · have hif : i < f.ts.length := by have := d_t hc2; omega
      have hT := right_dig hf hn _ (List.getElem_mem hif)
      refine wskip ?_
      show AWp _ _ _ _ _
      refine wseq ?_
      refine wblock ?_
      refine wseq ?_
      refine wreg fun K hK => ?_
      simp [C.impl_MulLaurents, fS, hif, tS_0 hif, tS_1 hif]
      refine hK _ ?_; clear hK K
      show AWp _ _ _ _ _
      refine wseq ?_
      refine wreg fun K hK => ?_
      simp [C.impl_MulLaurents, fS]
      refine hK _ ?_; clear hK K
      show AWp _ _ _ _ _
      refine wblock ?_
      refine wloop (fun x : Nat × List (List Int × Int) × List (List Int × Int) => ⟨ofL [(3, .pt (3, 0) [] 0), (4, .pt (4, 0) [] 0), (6, .pt (6, 0) [] 0), (8, .pt (8, 0) [] 0), (20, .d (.sh 2 f.ts.length (rows tS f.ts))), (21, .int f.ts.length), (22, .int i), (27, .d (.sh 2 g.ts.length (rows tS g.ts))), (28, .int g.ts.length), (29, .int x.1)], ofRO [((3, 0), some (.bx (fS g))), ((4, 0), some (.bx [D.int 0, .v (.slice none 0 0)])), ((6, 0), some (.bx [D.int n, .mp x.2.1])), ((8, 0), some (.bx (tS f.ts[i])))]⟩) (fun x => x.1 ≤ g.ts.length ∧ MapR n x.2.1 x.2.2 ∧ x.2.2.Perm (prodL ((f.ts.map pr).take i) (g.ts.map pr) ++ ((g.ts.map pr).take x.1).map fun y => (addE 1 f.ts[i].e y.1, f.ts[i].c * y.2)) ∧ x.2.2.length ≤ i * 600 + x.1 ∧ absE x.2.2 ≤ (i * 600 + x.1) * 1000000000000) (fun x => g.ts.length - x.1) (0, es, l) (by simp [C.impl_MulLaurents, fS, tS]) ⟨by simp, hM, by simpa using hP, by dsimp only; omega, by dsimp only; omega⟩ ?_
      intro x2 hx2 R2 hR2
      obtain ⟨j, es2, l2⟩ := x2
      obtain ⟨hj, hM2, hP2, hL2, hA2⟩ := hx2
      dsimp only at hj hM2 hP2 hL2 hA2 ⊢
      refine wseq ?_
      refine wreg fun K hK => ?_
      simp [C.impl_MulLaurents, fS]
      refine hK _ ?_; clear hK K
      show AWp _ _ _ _ _
      refine wseq ?_
      refine wcond _ rfl (fun hc3 => ?_) (fun hc3 => ?_)
      · have hjg : j < g.ts.length := by have := d_t hc3; omega
        have hU := right_dig hg hn2 _ (List.getElem_mem hjg)
        refine wskip ?_
        show AWp _ _ _ _ _
        refine wseq ?_
        refine wblock ?_
        refine wseq ?_
        refine wreg fun K hK => ?_
        simp [C.impl_MulLaurents, fS, hjg, tS_0 hjg, tS_1 hjg]
        refine hK _ ?_; clear hK K
        show AWp _ _ _ _ _
        obtain ⟨a0, a1, a2, a3, a4, a5, a6, a7, hpa⟩ := eight (pad_length (e := f.ts[i].e) (by omega))
        obtain ⟨b0, b1, b2, b3, b4, b5, b6, b7, hpb⟩ := eight (pad_length (e := g.ts[j].e) (by omega))
        have hba := pad_bd hT.2.2.1
        have hbb := pad_bd hU.2.2.1
        rw [hpa] at hba
        rw [hpb] at hbb
        have hadd : [a0 + b0, a1 + b1, a2 + b2, a3 + b3, a4 + b4, a5 + b5, a6 + b6, a7 + b7] = pad (addE 1 f.ts[i].e g.ts[j].e) := by
          rw [← pad_add (by omega), hpa, hpb]
          simp [addE]
        have hel : (addE 1 f.ts[i].e g.ts[j].e).length = n := by rw [addE_length _ _ _ (by omega)]; omega
        have hcc := mul_bd hT.2.2.2 hU.2.2.2
        have hval := hM2.val _ hel
        have hco := co_abs (addE 1 f.ts[i].e g.ts[j].e) l2
        refine wdrawI [(true, 0), (true, 1), (true, 2), (true, 4), (true, 5), (true, 8), (true, 9), (true, 10), (true, 11), (true, 12), (false, 3), (false, 6), (false, 7), (false, 13)] ⟨by kernel_rfl, by kernel_rfl⟩ ([0, 1, 2, 4, 5, 8, 9, 10, 11, 12, 3] ++ ([6] ++ ([7] ++ ([13] ++ ([]))))) rfl fun K hK => ?_
        refine opsI_seg fun L hL => ?_
        simp [C.impl_MulLaurents, fS, tS, wrapOk (x := f.ts[i].c * g.ts[j].c) (by omega) (by omega)]
        refine wcall1 (impl_keyOf_calls f.ts[i].e (by omega) a0 a1 a2 a3 a4 a5 a6 a7 hpa) (by simp) (by simp) ?_
        simp [C.impl_MulLaurents, fS, tS, wrapOk (x := f.ts[i].c * g.ts[j].c) (by omega) (by omega)]
        refine hL _ ?_; clear hL L
        refine opsI_seg fun L hL => ?_
        simp [C.impl_MulLaurents, fS, tS, wrapOk (x := f.ts[i].c * g.ts[j].c) (by omega) (by omega)]
        refine wcall1 (impl_keyOf_calls g.ts[j].e (by omega) b0 b1 b2 b3 b4 b5 b6 b7 hpb) (by simp) (by simp) ?_
        simp [C.impl_MulLaurents, fS, tS, wrapOk (x := f.ts[i].c * g.ts[j].c) (by omega) (by omega)]
        refine hL _ ?_; clear hL L
        refine opsI_seg fun L hL => ?_
        simp [C.impl_MulLaurents, fS, tS, wrapOk (x := f.ts[i].c * g.ts[j].c) (by omega) (by omega)]
        refine wcall1 (impl_plusExp_calls 1 a0 a1 a2 a3 a4 a5 a6 a7 b0 b1 b2 b3 b4 b5 b6 b7 (by omega) hba hbb) (by simp) (by simp) ?_
        simp [C.impl_MulLaurents, fS, tS, wrapOk (x := f.ts[i].c * g.ts[j].c) (by omega) (by omega)]
        refine hL _ ?_; clear hL L
        refine opsI_seg fun L hL => ?_
        simp [C.impl_MulLaurents, fS, tS, wrapOk (x := f.ts[i].c * g.ts[j].c) (by omega) (by omega)]
        refine wcall1 (impl_building_add_calls n (f.ts[i].c * g.ts[j].c) es2 (a0 + 1 * b0) (a1 + 1 * b1) (a2 + 1 * b2) (a3 + 1 * b3) (a4 + 1 * b4) (a5 + 1 * b5) (a6 + 1 * b6) (a7 + 1 * b7) (hM2.len8 hn8) (by simp only [Int.one_mul]; rw [hadd, hval]; omega)) (by simp) (by simp) ?_
        simp [C.impl_MulLaurents, fS, tS, wrapOk (x := f.ts[i].c * g.ts[j].c) (by omega) (by omega)]
        refine hL _ ?_; clear hL L
        refine opsI_end fun L hL => ?_
        simp only [AOpsI]
        refine hL _ ?_; clear hL L
        simp [C.impl_MulLaurents, fS, tS, wrapOk (x := f.ts[i].c * g.ts[j].c) (by omega) (by omega)]
        rw [hadd]
        refine hK _ ?_; clear hK K
        show AWp _ _ _ _ _
        refine wreg fun K hK => ?_
        simp [C.impl_MulLaurents, fS, wrap_succ (show j < 4611686018427387904 by omega)]
        refine hK _ ?_; clear hK K
        simp [C.impl_MulLaurents, fS]
        refine hR2 (j + 1, _, (addE 1 f.ts[i].e g.ts[j].e, f.ts[i].c * g.ts[j].c) :: l2) ⟨hjg, hM2.add hel _, ?_, by dsimp only [List.length_cons]; omega, ?_⟩ (by dsimp only; omega)
        · dsimp only
          rw [List.take_succ_eq_append_getElem (by simpa using hjg), List.map_append, ← List.append_assoc]
          refine (List.Perm.cons _ hP2).trans ?_
          simp only [List.getElem_map, List.map_cons, List.map_nil, pr]
          exact (List.perm_append_singleton _ _).symm
        · have := natAbs_bd hcc
          simp only [absE, List.map_cons, List.sum_cons] at hA2 ⊢
          omega
      · have hjg : j = g.ts.length := by have := d_f hc3; omega
        refine wexit ?_
        show AWp _ _ _ _ _
        refine wreg fun K hK => ?_
        simp [C.impl_MulLaurents, fS, wrap_succ (show i < 4611686018427387904 by omega)]
        refine hK _ ?_; clear hK K
        simp [C.impl_MulLaurents, fS]
        refine hR1 (i + 1, es2, l2) ⟨hif, hM2, ?_, by dsimp only; omega, absB hA2 (by omega)⟩ (by dsimp only; omega)
        dsimp only
        rw [prodL_step (by simpa using hif)]
        refine hP2.trans (List.Perm.of_eq ?_)
        rw [List.take_of_length_le (l := g.ts.map pr) (by simp; omega)]
        simp [pr]
    · have hif : i = f.ts.length := by have := d_f hc2; omega
      have hall : l.Perm (prodL (f.ts.map pr) (g.ts.map pr)) := by
        rw [List.take_of_length_le (l := f.ts.map pr) (by simp; omega)] at hP
        exact hP
      have hlen : ∀ x ∈ l, x.1.length = n := fun x hx => by
        have := hall.subset hx
        simp only [prodL, List.mem_flatMap, List.mem_map] at this
        obtain ⟨a, ⟨t, ht, rfl⟩, b, ⟨u, hu, rfl⟩, rfl⟩ := this
        have h1 := right_dig hf hn t ht
        have h2 := right_dig hg hn2 u hu
        simp only [pr]
        rw [addE_length _ _ _ (by omega)]
        omega
      have hs := shutF_perm hall n
      refine wexit ?_
      show AWp _ _ _ _ _
      refine wseq ?_
      refine wregI ([0, 1] ++ ([2, 3, 4, 5])) rfl fun K hK => ?_
      refine opsI_seg fun L hL => ?_
      simp [C.impl_MulLaurents, fS, fO]
      refine wcall1 (hDone n es l hM hlen (by omega) hn8 (by omega)) (by simp) (by simp) ?_
      simp [C.impl_MulLaurents, fS, fO]
      refine hL _ ?_; clear hL L
      refine opsI_end fun L hL => ?_
      simp [C.impl_MulLaurents, fS, fO]
      refine hL _ ?_; clear hL L
      simp [C.impl_MulLaurents, fS, fO]
      refine hK _ ?_; clear hK K
      show AWp _ _ _ _ _
      refine wret ?_
      simp [C.impl_MulLaurents, fS, hm, ← hs, fO]
theorem iMul_calls (hDone : DoneOk) : MulOk := fun f g hx hxe hy hye => (impl_MulLaurents_calls hDone f g hx hxe hy hye).weak1

end Go.Proofs.Ytdgeponcnlkaiaa.Ab
namespace Go.Proofs.Ytdgeponcnlkaiaa.Ab
open Go
set_option linter.unusedSimpArgs false
set_option linter.unusedVariables false
set_option maxRecDepth 10000
set_option maxHeartbeats 2000000
attribute [local simp] mapKV flatInt tileB
def SortOk : Prop := ∀ (ts : List Trm), (∀ t ∈ ts, t.e.length < 4611686018427387904) → (ts.map (·.e)).Nodup → ts.length < 4611686018427387904 →
  ACalls Try.prog F.slices_SortFunc_impl_Term_impl_Term [.al (0, 0) [] 0 ts.length, .d (.fn F.impl_building_done_1 [])] [((0, 0), .ow 2 ts.length (rows tO ts))] true (fun outs res => ∃ r : List Trm, r.Perm ts ∧ DescT r ∧ outs = [.ow 2 ts.length (rows tO r)] ∧ res = [])
theorem insK_len_eq {K : Type} [DecidableEq K] {lt : K → K → Bool} {k : K} {c : Int} (hc : c ≠ 0) : ∀ l : List (K × Int), (∀ x ∈ l, x.1 ≠ k) → (insK lt k c l).length = l.length + 1
  | [], _ => by simp [insK, hc]
  | x :: l, h => by
    simp only [insK]
    rw [if_neg (h x (by simp))]
    split
    · first | rfl | (rw [if_neg hc]; rfl)
    · simp [insK_len_eq hc l fun y hy => h y (by simp [hy])]
theorem nf_len_eq {K : Type} [DecidableEq K] {lt : K → K → Bool} : ∀ l : List (K × Int), (l.map (·.1)).Nodup → (∀ x ∈ l, x.2 ≠ 0) → (nf lt l).length = l.length
  | [], _, _ => rfl
  | x :: l, h, hz => by
    simp only [List.map_cons, List.nodup_cons] at h
    simp only [nf]
    rw [insK_len_eq (hz x (by simp)), nf_len_eq l h.2 fun y hy => hz y (by simp [hy])]
    · rfl
    · intro y hy e
      obtain ⟨z, hz, e2⟩ := nf_mem hy
      exact h.1 (List.mem_map.2 ⟨z, hz, by rw [e2, e]⟩)
theorem unpad_inj {n : Nat} {es l : List (List Int × Int)} (h : MapR n es l) : ((es.map (unpadT n)).map (·.1)).Nodup := by
  have : ∀ es : List (List Int × Int), (es.map (·.1)).Nodup → (∀ x ∈ es, ∃ e, e.length = n ∧ x.1 = pad e) → ((es.map (unpadT n)).map (·.1)).Nodup := by
    intro es
    induction es with
    | nil => intro _ _; simp
    | cons x es ih =>
      intro hn hp
      simp only [List.map_cons, List.nodup_cons] at hn ⊢
      refine ⟨fun hm => ?_, ih hn.2 fun y hy => hp y (by simp [hy])⟩
      obtain ⟨y, hy, e⟩ := List.mem_map.1 hm
      obtain ⟨z, hz, rfl⟩ := List.mem_map.1 hy
      obtain ⟨a, ha, e1⟩ := hp x (by simp)
      obtain ⟨b, hb, e2⟩ := hp z (by simp [hz])
      refine hn.1 (List.mem_map.2 ⟨z, hz, ?_⟩)
      simp only [unpadT] at e
      rw [e1, e2] at e ⊢
      have q1 : (pad a).take n = a := by rw [← ha]; exact pad_take
      have q2 : (pad b).take n = b := by rw [← hb]; exact pad_take
      rw [q1, q2] at e
      rw [e]
  exact this es h.nod fun x hx => (h.nz x hx).2
theorem unpad_nf2 {n : Nat} {es l : List (List Int × Int)} (h : MapR n es l) (hl : ∀ x ∈ l, x.1.length = n) : nf lexlt (es.map (unpadT n)) = nf lexlt l :=
  nf_unique lexOrd (nf_desc lexOrd _) (nf_nz _) fun k => by rw [nf_co, unpad_co h hl]
theorem unpad_len {n : Nat} {es l : List (List Int × Int)} (h : MapR n es l) (hl : ∀ x ∈ l, x.1.length = n) : (nf lexlt l).length = es.length := by
  rw [← unpad_nf2 h hl, nf_len_eq _ (unpad_inj h), List.length_map]
  intro x hx
  obtain ⟨y, hy, rfl⟩ := List.mem_map.1 hx
  exact (h.nz y hy).1
theorem shutF_many {n : Nat} {es l : List (List Int × Int)} (h : MapR n es l) (hl : ∀ x ∈ l, x.1.length = n) (hm : 600 < es.length) : shutF n l = (zeroF, false) := by
  unfold shutF
  rw [if_neg]
  intro hr
  have := hr.2.1
  simp only [List.length_map] at this
  rw [unpad_len h hl] at this
  omega
theorem take_shI {xs : List Int} {n : Nat} (h : n ≤ xs.length) : shI (xs.take n) = .sh 1 n (ints (xs.take n)) := by
  unfold shI
  rw [List.length_take, Nat.min_eq_left h]
theorem erase_perm {α : Type} : ∀ (l : List α) (i : Nat) (h : i < l.length), (l[i] :: l.eraseIdx i).Perm l
  | [], i, h => by simp at h
  | x :: l, 0, h => by simp
  | x :: l, i + 1, h => by
    simp only [List.getElem_cons_succ, List.eraseIdx_cons_succ]
    exact (List.Perm.swap ..).trans (List.Perm.cons x (erase_perm l i (by simpa using h)))
theorem sh8 (n : Nat) (k0 k1 k2 k3 k4 k5 k6 k7 : Int) : shareL (List.take n [D.v (.int .i64 k0), D.v (.int .i64 k1), D.v (.int .i64 k2), D.v (.int .i64 k3), D.v (.int .i64 k4), D.v (.int .i64 k5), D.v (.int .i64 k6), D.v (.int .i64 k7)]) = ints (List.take n [k0, k1, k2, k3, k4, k5, k6, k7]) := by
  rw [show ([D.v (.int .i64 k0), D.v (.int .i64 k1), D.v (.int .i64 k2), D.v (.int .i64 k3), D.v (.int .i64 k4), D.v (.int .i64 k5), D.v (.int .i64 k6), D.v (.int .i64 k7)] : List D) = ints [k0, k1, k2, k3, k4, k5, k6, k7] from rfl, ints_take, shareL_ints]
theorem impl_building_done_1_calls (x y : Trm) (hx : x.e.length < 4611686018427387904) (hy : y.e.length < 4611686018427387904) : ACalls Try.prog F.impl_building_done_1 [.ag [.d (shI x.e), .int x.c], .ag [.d (shI y.e), .int y.c]] [] true (fun outs res => outs = [] ∧ res = [.one (D.int (cmpL y.e x.e))]) := by
  refine ACalls.of_body (C := C.impl_building_done_1) (n := Try.f190.ntmps) tabT folT Try.func190 rfl (by kernel_rfl) rfl (Nat.le_of_ble_eq_true rfl) (by decide) (by kernel_rfl) (by kernel_rfl) rfl (by simp) (by simp) ?_
  simp only [Try.f190]
  refine wseq ?_
  refine wreg fun K hK => ?_
  simp [C.impl_building_done_1]
  refine hK _ ?_; clear hK K
  show AWp _ _ _ _ _
  refine wseq ?_
  refine wregI ([0, 1, 2, 3, 4] ++ ([5])) rfl fun K hK => ?_
  refine opsI_seg fun L hL => ?_
  simp [C.impl_building_done_1]
  refine wcall1 (slices_Compare_int_int_calls y.e x.e hy) (by simp) (by simp) ?_
  simp [C.impl_building_done_1]
  refine hL _ ?_; clear hL L
  refine opsI_end fun L hL => ?_
  simp [C.impl_building_done_1]
  refine hL _ ?_; clear hL L
  simp [C.impl_building_done_1]
  refine hK _ ?_; clear hK K
  show AWp _ _ _ _ _
  refine wret ?_
  simp [C.impl_building_done_1]

theorem impl_building_done_calls (hSort : SortOk) (n : Nat) (es l : List (List Int × Int)) (hM : MapR n es l) (hl : ∀ x ∈ l, x.1.length = n) (h1 : 1 ≤ n) (h8 : n ≤ 8) (hL : l.length ≤ 1000000) : ACalls Try.prog F.impl_building_done [.pt (0, 0) [] 0] [((0, 0), .bx [D.int n, .mp es])] true (fun outs res => outs = [.bx [D.int n, .mp es]] ∧ WkRs res [.ag (fO (shutF n l).1), .one (D.bool (shutF n l).2)]) := by
  refine ACalls.of_body (C := C.impl_building_done) (n := Try.f113.ntmps) tabT folT Try.func113 rfl (by kernel_rfl) rfl (Nat.le_of_ble_eq_true rfl) (by decide) (by kernel_rfl) (by kernel_rfl) rfl (by simp) (by simp) ?_
  simp only [Try.f113]
  refine wseq ?_
  refine wreg fun K hK => ?_
  simp [C.impl_building_done]
  refine hK _ ?_; clear hK K
  show AWp _ _ _ _ _
  refine wseq ?_
  refine wreg fun K hK => ?_
  simp [C.impl_building_done]
  refine hK _ ?_; clear hK K
  show AWp _ _ _ _ _
  refine wseq ?_
  refine wseq ?_
  refine wreg fun K hK => ?_
  simp [C.impl_building_done]
  refine hK _ ?_; clear hK K
  show AWp _ _ _ _ _
  refine wcond _ rfl (fun hc1 => ?_) (fun hc1 => ?_)
  · have hm := shutF_many hM hl (by have := d_t hc1; omega)
    refine wseq ?_
    refine wreg fun K hK => ?_
    simp [C.impl_building_done]
    refine hK _ ?_; clear hK K
    show AWp _ _ _ _ _
    refine wret ?_
    simp [C.impl_building_done, hm, fO, zeroF, rows]
  · have h600 : es.length ≤ 600 := by have := d_f hc1; omega
    refine wskip ?_
    show AWp _ _ _ _ _
    refine wseq ?_
    refine wseq ?_
    refine wreg fun K hK => ?_
    simp [C.impl_building_done]
    refine hK _ ?_; clear hK K
    show AWp _ _ _ _ _
    refine wblock ?_
    refine wloopW (fun x : List Trm × List (List Int × Int) × Option (List Int × Int) => ⟨ofL [(0, .pt (0, 0) [] 0), (2, .pt (2, 0) [] 0), (4, .pt (4, 0) [] 0), (23, .it (23, 0) (0, 0) [1] x.2.1 x.2.2), (1000, .pt (0, 0) [] 0)], ofRO [((0, 0), some (.bx [D.int n, .mp es])), ((2, 0), some (.bx [D.int 0, .v (.slice none 0 0)])), ((4, 0), some (.bx [D.int n, .ow 2 x.1.length (rows tO x.1)])), ((23, 0), some .itr)]⟩) (fun x => (x.1.map pr ++ x.2.1.map (unpadT n)).Perm (es.map (unpadT n)) ∧ ∀ y ∈ x.2.1, y ∈ es) (fun x => x.2.1.length) ([], es, none) [.cell (4, 0) [] 1 2] (by simp [C.impl_building_done, rows]; funext q; by_cases e4 : q = (4, 0); (subst e4; rfl); by_cases e9 : q = (9999, 0); (subst e9; rfl); simp [ofRO, e4, e9, Ne.symm e4]) ⟨by simp, fun y hy => hy⟩ ?_
    intro x1 hx1 R1 hR1
    obtain ⟨q, rest, cur⟩ := x1
    obtain ⟨hq, hin⟩ := hx1
    dsimp only at hq hin ⊢
    refine wseq ?_
    refine wreg fun K hK => ?_
    simp [C.impl_building_done]
    refine ⟨fun hrest => ?_, fun i xk xc hx => ?_⟩
    · refine hK _ ?_; clear hK K
      show AWp _ _ _ _ _
      refine wseq ?_
      refine wcond _ rfl (fun hc2 => ?_) (fun hc2 => ?_)
      · simp at hc2
      · subst hrest
        have hq2 : (q.map pr).Perm (es.map (unpadT n)) := by simpa using hq
        have hqe : ∀ t ∈ q, t.e.length = n := fun t ht => by
          have h3 := hq2.subset (List.mem_map.2 ⟨t, ht, rfl⟩)
          obtain ⟨y, hy, e⟩ := List.mem_map.1 h3
          have e2 : t.e = y.1.take n := by
            have := congrArg Prod.fst e
            simpa [pr, unpadT] using this.symm
          rw [e2, List.length_take, hM.len8 h8 y hy]
          omega
        have hqn : (q.map (·.e)).Nodup := by
          have h3 := (hq2.map (·.1)).nodup_iff.2 (unpad_inj hM)
          rw [List.map_map] at h3
          exact h3
        have hql : q.length = es.length := by simpa using hq2.length_eq
        refine wexit ?_
        show AWp _ _ _ _ _
        refine wseq ?_
        refine wregI ([0, 1, 2] ++ ([])) rfl fun K hK => ?_
        refine opsI_seg fun L hL => ?_
        simp [C.impl_building_done]
        refine wcall (hSort q (fun t ht => by have := hqe t ht; omega) hqn (by omega)) (by simp) (by simp) (by simp) ?_
        rintro outs res ⟨r, hr, hd, rfl, rfl⟩
        simp [C.impl_building_done]
        refine hL _ ?_; clear hL L
        refine opsI_end fun L hL => ?_
        simp only [AOpsI]
        refine hL _ ?_; clear hL L
        simp [C.impl_building_done]
        refine hK _ ?_; clear hK K
        show AWp _ _ _ _ _
        refine wseq ?_
        refine wseq ?_
        have hrl : r.length = q.length := hr.length_eq
        have hrn : r.map pr = nf lexlt l := unpad_nf hM hl ((hr.map pr).trans hq2) (by
          unfold Desc
          rw [List.pairwise_map]
          exact hd)
        have hrt : (nf lexlt l).map tm = r := by
          rw [← hrn, List.map_map]
          have : tm ∘ pr = id := rfl
          rw [this, List.map_id]
        refine wregI ([0, 1] ++ ([2])) rfl fun K hK => ?_
        refine opsI_seg fun L hL => ?_
        simp [C.impl_building_done, hrl]
        refine wcall1 (impl_LaurentOk_calls ⟨n, r⟩ (by dsimp only; omega) (fun t ht => by have := hqe t (hr.subset ht); omega)) (by simp [hrl]) (by simp) ?_
        simp [C.impl_building_done, hrl]
        refine hL _ ?_; clear hL L
        refine opsI_end fun L hL => ?_
        simp [C.impl_building_done, hrl]
        refine hL _ ?_; clear hL L
        simp [C.impl_building_done, hrl]
        refine hK _ ?_; clear hK K
        show AWp _ _ _ _ _
        refine wcond _ rfl (fun hc3 => ?_) (fun hc3 => ?_)
        · have hR : ¬ Right ⟨n, r⟩ := by simpa using hc3
          have hm : shutF n l = (zeroF, false) := by unfold shutF; rw [hrt, if_neg hR]
          refine wseq ?_
          refine wreg fun K hK => ?_
          simp [C.impl_building_done]
          refine hK _ ?_; clear hK K
          show AWp _ _ _ _ _
          refine wret ?_
          simp [C.impl_building_done, hm, fO, zeroF, rows]
        · have hR : Right ⟨n, r⟩ := by simpa using hc3
          have hm : shutF n l = (⟨n, r⟩, true) := by unfold shutF; rw [hrt, if_pos hR]
          refine wskip ?_
          show AWp _ _ _ _ _
          refine wseq ?_
          refine wreg fun K hK => ?_
          simp [C.impl_building_done]
          refine hK _ ?_; clear hK K
          show AWp _ _ _ _ _
          refine wret ?_
          simp [C.impl_building_done, hm, fO, hrl]
    · refine hK _ ?_; clear hK K
      show AWp _ _ _ _ _
      refine wseq ?_
      refine wcond _ rfl (fun hc4 => ?_) (fun hc4 => ?_)
      · have hxm : (xk, xc) ∈ rest := List.mem_of_getElem? hx
        have hxl := hM.len8 h8 _ (hin _ hxm)
        dsimp only at hxl
        obtain ⟨k0, k1, k2, k3, k4, k5, k6, k7, rfl⟩ := eight hxl
        have hql : q.length + rest.length = es.length := by simpa using hq.length_eq
        have hil : i < rest.length := by
          rcases Nat.lt_or_ge i rest.length with h | h
          · exact h
          · rw [List.getElem?_eq_none h] at hx; simp at hx
        refine wskip ?_
        show AWp _ _ _ _ _
        refine wblock ?_
        refine wseq ?_
        refine wreg fun K hK => ?_
        simp [C.impl_building_done]
        refine hK _ ?_; clear hK K
        show AWp _ _ _ _ _
        refine wdrawI [(true, 0), (true, 1), (true, 2), (true, 3), (true, 4), (true, 5), (true, 6), (true, 8), (false, 7), (true, 9), (false, 10), (false, 11), (true, 12), (false, 13)] ⟨by kernel_rfl, by kernel_rfl⟩ ([0, 1, 2, 3, 4, 5, 6, 8, 7] ++ ([9, 10, 11, 12, 13])) rfl fun K hK => ?_
        refine opsI_seg fun L hL => ?_
        simp [C.impl_building_done, tO_snoc, show ((n : Int) ≤ 8) by omega, h8, Nat.min_eq_left h8, sh8, show (q.length + 1) * 32 ≤ 140737488355328 by omega]
        refine wcall1 (clone_calls ([k0, k1, k2, k3, k4, k5, k6, k7].take n) (by simp; omega)) (by simp [tO_snoc, show ((n : Int) ≤ 8) by omega, h8, Nat.min_eq_left h8, sh8, show (q.length + 1) * 32 ≤ 140737488355328 by omega]) (by simp) ?_
        simp [C.impl_building_done, tO_snoc, show ((n : Int) ≤ 8) by omega, h8, Nat.min_eq_left h8, sh8, show (q.length + 1) * 32 ≤ 140737488355328 by omega]
        refine hL _ ?_; clear hL L
        refine opsI_end fun L hL => ?_
        simp [C.impl_building_done, tO_snoc, show ((n : Int) ≤ 8) by omega, h8, Nat.min_eq_left h8, sh8, show (q.length + 1) * 32 ≤ 140737488355328 by omega]
        refine hL _ ?_; clear hL L
        simp [C.impl_building_done, tO_snoc, show ((n : Int) ≤ 8) by omega, h8, Nat.min_eq_left h8, sh8, show (q.length + 1) * 32 ≤ 140737488355328 by omega]
        refine hK _ ?_; clear hK K
        simp [C.impl_building_done]
        have htl : ([k0, k1, k2, k3, k4, k5, k6, k7].take n).length = n := by simp; omega
        have hrow : rows tO q ++ [D.ow 1 n (ints (List.take n [k0, k1, k2, k3, k4, k5, k6, k7])), D.v (.int .i64 xc)] = rows tO (q ++ [⟨List.take n [k0, k1, k2, k3, k4, k5, k6, k7], xc⟩]) := by
          rw [← tO_snoc]
          simp only [htl]
        refine cast (congrArg R1 ?_) (hR1 (q ++ [⟨List.take n [k0, k1, k2, k3, k4, k5, k6, k7], xc⟩], rest.eraseIdx i, some ([k0, k1, k2, k3, k4, k5, k6, k7], xc)) ⟨?_, ?_⟩ ?_)
        · simp [hrow]
        · dsimp only
          have hget : rest[i] = ([k0, k1, k2, k3, k4, k5, k6, k7], xc) := by
            rw [List.getElem?_eq_getElem hil] at hx
            injection hx
          have hper := erase_perm rest i hil
          rw [hget] at hper
          refine List.Perm.trans ?_ hq
          rw [List.map_append, List.append_assoc]
          exact List.Perm.append_left _ (hper.map (unpadT n))
        · exact fun y hy => hin y (List.mem_of_mem_eraseIdx hy)
        · dsimp only
          rw [List.length_eraseIdx_of_lt hil]
          omega
      · simp at hc4

end Go.Proofs.Ytdgeponcnlkaiaa.Ab
namespace Go.Proofs.Ytdgeponcnlkaiaa.Ab
open Go
set_option linter.unusedSimpArgs false
set_option linter.unusedVariables false
theorem sfTerm : SfOk Try.prog F.slices_SortFunc_impl_Term_impl_Term 2 := by
  refine ⟨fun p cap fv w => ?_, fun α _ enc hk h1 cf hO g blk off cap d w eg hcmp hH hblk hsz => ?_⟩
  · have h := AnyF.slices_SortFunc_none sortTerm p cap fv w
    rw [sortTerm_f6] at h
    exact h
  · have h := AnyQ.slices_SortFunc sortTerm 2 sortTerm_agg sortTerm_size enc hk h1 cf hO g #[] blk off cap d w eg hcmp hH hblk hsz
    rw [sortTerm_f6] at h
    exact h
theorem lexlt_ntrans (a b c : List Int) (h1 : lexlt a b = false) (h2 : lexlt b c = false) : lexlt a c = false := by
  cases h : lexlt a c with
  | false => rfl
  | true =>
    exfalso
    rcases lexlt_tot a b with h3 | h3 | h3
    · rw [h1] at h3; simp at h3
    · subst h3
      rw [h2] at h; simp at h
    · have := lexlt_tr b a c h3 h
      rw [h2] at this; simp at this
theorem swoTerm : Go.Sort.SWO (ltOf fun x y : Trm => cmpL y.e x.e) where
  irrefl x := by unfold ltOf; rw [cmpL_neg]; exact lexlt_irr _
  trans x y z h1 h2 := by
    unfold ltOf at *
    rw [cmpL_neg] at *
    exact lexlt_tr _ _ _ h2 h1
  ntrans x y z h1 h2 := by
    unfold ltOf at *
    rw [cmpL_neg] at *
    exact lexlt_ntrans _ _ _ h2 h1
theorem sortOk : SortOk := by
  intro ts hts hnd hlen
  have h := sort_calls (P := Try.prog) (g := F.impl_building_done_1) ⟨Try.f189, _, Try.func189, rfl, by kernel_rfl⟩ sfTerm tO_two (by omega) (fun t => by simp [tO, noShL, noSh]) (fun l => by
    induction l with
    | nil => trivial
    | cons x l ih =>
      simp only [rows, tO, List.cons_append, List.nil_append, solidL]
      exact ⟨rfl, rfl, ih⟩) (fun x y : Trm => cmpL y.e x.e) swoTerm ts hlen (fun x hx y hy => by
    have := impl_building_done_1_calls x y (hts x hx) (hts y hy)
    simpa [tO, shareL, share, shareL_ints] using this)
  refine ACalls.mono h ?_
  rintro outs res ⟨r, h1, h2, h3, h4⟩
  refine ⟨r, h1, ?_, h3, h4⟩
  have hnr : (r.map (·.e)).Nodup := (h1.map (·.e)).nodup_iff.2 hnd
  unfold DescT
  rw [List.Nodup, List.pairwise_map] at hnr
  refine (h2.and hnr).imp ?_
  rintro a b ⟨h5, h6⟩
  have h7 : lexlt a.e b.e = false := by
    rw [← cmpL_neg]
    simpa using h5
  rcases lexlt_tot a.e b.e with h8 | h8 | h8
  · rw [h7] at h8; simp at h8
  · exact absurd h8 h6
  · exact h8
end Go.Proofs.Ytdgeponcnlkaiaa.Ab
namespace Go.Proofs.Ytdgeponcnlkaiaa.Ab
open Go
theorem doneOk : DoneOk := fun n es l hM hl h1 h8 hL => (impl_building_done_calls sortOk n es l hM hl h1 h8 hL).weak1
theorem mulOk : MulOk := iMul_calls doneOk
end Go.Proofs.Ytdgeponcnlkaiaa.Ab
namespace Go.Proofs.Ytdgeponcnlkaiaa.Ab
open Go
set_option linter.unusedSimpArgs false
set_option linter.unusedVariables false
set_option linter.unusedSectionVars false
structure Qtm where
  e : List Int
  h : Int
  c : Int
deriving DecidableEq
structure Qsm where
  v : Int
  ts : List Qtm
deriving DecidableEq
def qtS (t : Qtm) : List D := [shI t.e, D.int t.h, D.int t.c]
def qtO (t : Qtm) : List D := [owI t.e, D.int t.h, D.int t.c]
def qS (f : Qsm) : List D := [D.int f.v, .sh 3 f.ts.length (rows qtS f.ts)]
def qO (f : Qsm) : List D := [D.int f.v, .ow 3 f.ts.length (rows qtO f.ts)]
theorem qtS_three (t : Qtm) : (qtS t).length = 3 := rfl
theorem qtO_three (t : Qtm) : (qtO t).length = 3 := rfl
@[simp] theorem qtS_length (l : List Qtm) : (rows qtS l).length = 3 * l.length := rows_length qtS_three l
@[simp] theorem qtO_length (l : List Qtm) : (rows qtO l).length = 3 * l.length := rows_length qtO_three l
@[simp] theorem qtS_share (l : List Qtm) : shareL (rows qtO l) = rows qtS l := by
  rw [rows_share]
  congr 1
  funext t
  simp [qtO, qtS, shareL, share, shareL_ints]
@[simp] theorem qtO_noSh (l : List Qtm) : noShL (rows qtO l) := rows_noSh (fun t => by simp [qtO, noShL, noSh, noShL_ints]) l
section
variable {l : List Qtm} {i : Nat}
theorem qtS_0 (h : i < l.length) : (rows qtS l)[3 * i]? = some (shI l[i].e) ∧ ∀ h', (rows qtS l)[3 * i]'h' = shI l[i].e := twice (rows_get qtS_three l i 0 h (by omega))
theorem qtS_1 (h : i < l.length) : (rows qtS l)[3 * i + 1]? = some (D.int l[i].h) ∧ ∀ h', (rows qtS l)[3 * i + 1]'h' = D.int l[i].h := twice (rows_get qtS_three l i 1 h (by omega))
theorem qtS_2 (h : i < l.length) : (rows qtS l)[3 * i + 2]? = some (D.int l[i].c) ∧ ∀ h', (rows qtS l)[3 * i + 2]'h' = D.int l[i].c := twice (rows_get qtS_three l i 2 h (by omega))
theorem qtO_0 (h : i < l.length) : (rows qtO l)[3 * i]? = some (owI l[i].e) ∧ ∀ h', (rows qtO l)[3 * i]'h' = owI l[i].e := twice (rows_get qtO_three l i 0 h (by omega))
theorem qtO_1 (h : i < l.length) : (rows qtO l)[3 * i + 1]? = some (D.int l[i].h) ∧ ∀ h', (rows qtO l)[3 * i + 1]'h' = D.int l[i].h := twice (rows_get qtO_three l i 1 h (by omega))
theorem qtO_2 (h : i < l.length) : (rows qtO l)[3 * i + 2]? = some (D.int l[i].c) ∧ ∀ h', (rows qtO l)[3 * i + 2]'h' = D.int l[i].c := twice (rows_get qtO_three l i 2 h (by omega))
theorem qtO_set0 (h : i < l.length) (x : List Int) : (rows qtO l).set (3 * i) (.ow 1 x.length (ints x)) = rows qtO (l.set i ⟨x, l[i].h, l[i].c⟩) := rows_set qtO_three l i 0 _ _ h (by omega) rfl
theorem qtO_set1 (h : i < l.length) (x : Int) : (rows qtO l).set (3 * i + 1) (.v (.int .i64 x)) = rows qtO (l.set i ⟨l[i].e, x, l[i].c⟩) := rows_set qtO_three l i 1 _ _ h (by omega) rfl
theorem qtO_set2 (h : i < l.length) (x : Int) : (rows qtO l).set (3 * i + 2) (.v (.int .i64 x)) = rows qtO (l.set i ⟨l[i].e, l[i].h, x⟩) := rows_set qtO_three l i 2 _ _ h (by omega) rfl
end
def cntQT (t : Qtm) : Nat := t.e.length + 2
def mkQT (t : Qtm) (k : Int) : Qtm := ⟨marks k t.e.length, k + t.e.length, k + t.e.length + 1⟩
def qtZ : Option Qtm → List D
  | none => [.v (.slice none 0 0), D.int 0, D.int 0]
  | some t => qtO t
theorem qtZ_three (t : Option Qtm) : (qtZ t).length = 3 := by cases t <;> rfl
@[simp] theorem qtZ_length (l : List (Option Qtm)) : (rows qtZ l).length = 3 * l.length := rows_length qtZ_three l
theorem qtZ_zero : ∀ n : Nat, zerosD [.slice none 0 0, .int .i64 0, .int .i64 0] n = rows qtZ (List.replicate n none)
  | 0 => rfl
  | n + 1 => by
    simp only [zerosD, qtZ_zero n, List.replicate_succ]
    rfl
theorem qtZ_some (l : List Qtm) : rows qtZ (l.map some) = rows qtO l := by
  induction l with
  | nil => rfl
  | cons x l ih => simp [rows, ih, qtZ]
theorem qtZ_none0 {l : List (Option Qtm)} {i : Nat} (h : l[i]? = some none) : (rows qtZ l)[3 * i]? = some (.v (.slice none 0 0)) ∧ ∀ h', (rows qtZ l)[3 * i]'h' = .v (.slice none 0 0) := by
  refine twice ?_
  obtain ⟨h1, h2⟩ := List.getElem?_eq_some_iff.1 h
  rw [show 3 * i = 3 * i + 0 from rfl, rows_get qtZ_three l i 0 h1 (by omega), h2]
  rfl
theorem qtZ_none1 {l : List (Option Qtm)} {i : Nat} (h : l[i]? = some none) : (rows qtZ l)[3 * i + 1]? = some (D.int 0) ∧ ∀ h', (rows qtZ l)[3 * i + 1]'h' = D.int 0 := by
  refine twice ?_
  obtain ⟨h1, h2⟩ := List.getElem?_eq_some_iff.1 h
  rw [rows_get qtZ_three l i 1 h1 (by omega), h2]
  rfl
theorem qtZ_none2 {l : List (Option Qtm)} {i : Nat} (h : l[i]? = some none) : (rows qtZ l)[3 * i + 1 + 1]? = some (D.int 0) ∧ ∀ h', (rows qtZ l)[3 * i + 1 + 1]'h' = D.int 0 := by
  refine twice ?_
  obtain ⟨h1, h2⟩ := List.getElem?_eq_some_iff.1 h
  rw [show 3 * i + 1 + 1 = 3 * i + 2 from rfl, rows_get qtZ_three l i 2 h1 (by omega), h2]
  rfl
theorem rows_set3 {α : Type} {f : α → List D} (hk : ∀ x, (f x).length = 3) (xs : List α) (i : Nat) (d0 d1 d2 : D) (y : α) (h : i < xs.length) (e : f y = [d0, d1, d2]) : (((rows f xs).set (3 * i) d0).set (3 * i + 1) d1).set (3 * i + 2) d2 = rows f (xs.set i y) := by
  induction xs generalizing i with
  | nil => simp at h
  | cons x xs ih =>
    cases i with
    | zero =>
      have hx := hk x
      match hfx : f x, hx with
      | [a, b, c], _ => simp [rows, hfx, e]
    | succ i =>
      have hx := hk x
      simp only [rows, List.set_cons_succ]
      rw [List.set_append_right _ _ (by rw [hx]; omega), List.set_append_right _ _ (by rw [hx]; omega), List.set_append_right _ _ (by rw [hx]; omega), hx, show 3 * (i + 1) - 3 = 3 * i by omega, show 3 * (i + 1) + 1 - 3 = 3 * i + 1 by omega, show 3 * (i + 1) + 2 - 3 = 3 * i + 2 by omega, ih i (by simpa using h)]
theorem qtZ_set3 {l : List (Option Qtm)} {i : Nat} (h : i < l.length) (e : List Int) (u c : Int) : (((rows qtZ l).set (3 * i) (.ow 1 e.length (ints e))).set (3 * i + 1) (.v (.int .i64 u))).set (3 * i + 1 + 1) (.v (.int .i64 c)) = rows qtZ (l.set i (some ⟨e, u, c⟩)) :=
  rows_set3 qtZ_three l i _ _ _ _ h rfl
theorem qtO_set3 {l : List Qtm} {i n : Nat} (h : i < l.length) (e : List Int) (u c : Int) (hn : e.length = n) : (((rows qtO l).set (3 * i) (.ow 1 n (ints e))).set (3 * i + 1) (.v (.int .i64 u))).set (3 * i + 2) (.v (.int .i64 c)) = rows qtO (l.set i ⟨e, u, c⟩) :=
  rows_set3 qtO_three l i _ _ _ _ h (by subst hn; rfl)
theorem qtO_snoc (l : List Qtm) (t : Qtm) : rows qtO l ++ [D.ow 1 t.e.length (ints t.e), D.v (.int .i64 t.h), D.v (.int .i64 t.c)] = rows qtO (l ++ [t]) := by
  rw [rows_append]
  rfl
def szQT (ts : List Qtm) : Nat := ts.length + cntL (fun t : Qtm => t.e.length) ts
abbrev aQT (t : Qtm) : FV := .ag [.d (shI t.e), .int t.h, .int t.c]
abbrev aQ (f : Qsm) : FV := .ag [.int f.v, .d (.sh 3 f.ts.length (rows qtS f.ts))]
theorem qtm_eq {a b : Qtm} : a = b ↔ a.e = b.e ∧ a.h = b.h ∧ a.c = b.c := by
  cases a; cases b; simp
theorem qsm_eq {a b : Qsm} : a = b ↔ a.v = b.v ∧ a.ts = b.ts := by
  cases a; cases b; simp
end Go.Proofs.Ytdgeponcnlkaiaa.Ab
namespace Go.Proofs.Ytdgeponcnlkaiaa.Ab
open Go
set_option linter.unusedSimpArgs false
set_option linter.unusedVariables false
set_option maxRecDepth 10000
theorem laws_szQTerm_calls (t : Qtm) (left : Int) (h0 : 0 ≤ left) (h1 : left ≤ 1048576) (hx : t.e.length < 4611686018427387904) : ACalls Try.prog F.laws_szQTerm [aQT t, .int left] [] true (fun outs res => outs = [] ∧ ∃ r : Int, res = [.one (D.int r)] ∧ (r = -1 ∨ (0 ≤ r ∧ r + t.e.length = left))) := by
  refine ACalls.of_body (C := C.laws_szQTerm) (n := Try.f200.ntmps) tabT folT Try.func200 rfl (by kernel_rfl) rfl (Nat.le_of_ble_eq_true rfl) (by decide) (by kernel_rfl) (by kernel_rfl) rfl (by simp) (by simp) ?_
  simp only [Try.f200]
  refine wseq ?_
  refine wreg fun K hK => ?_
  simp [C.laws_szQTerm]
  refine hK _ ?_; clear hK K
  show AWp _ _ _ _ _
  refine wseq ?_
  refine wregI ([0, 1, 2, 3] ++ ([4])) rfl fun K hK => ?_
  refine opsI_seg fun L hL => ?_
  simp [C.laws_szQTerm]
  refine wcall (laws_szIntS_calls t.e left h0 h1 hx) (by simp) (by simp) (by simp) ?_
  rintro outs res ⟨rfl, r, rfl, hr⟩
  simp [C.laws_szQTerm]
  refine hL _ ?_; clear hL L
  refine opsI_end fun L hL => ?_
  simp [C.laws_szQTerm]
  refine hL _ ?_; clear hL L
  simp [C.laws_szQTerm]
  refine hK _ ?_; clear hK K
  show AWp _ _ _ _ _
  refine wseq ?_
  refine wseq ?_
  refine wreg fun K hK => ?_
  simp [C.laws_szQTerm]
  refine hK _ ?_; clear hK K
  show AWp _ _ _ _ _
  refine wcond _ rfl (fun hc1 => ?_) (fun hc1 => ?_)
  · refine wseq ?_
    refine wreg fun K hK => ?_
    simp [C.laws_szQTerm]
    refine hK _ ?_; clear hK K
    show AWp _ _ _ _ _
    refine wret ?_
    simp [C.laws_szQTerm]
  · refine wskip ?_
    show AWp _ _ _ _ _
    refine wseq ?_
    refine wreg fun K hK => ?_
    simp [C.laws_szQTerm]
    refine hK _ ?_; clear hK K
    show AWp _ _ _ _ _
    refine wret ?_
    simp at hc1
    simp [C.laws_szQTerm]
    omega

theorem laws_szQTermS_calls (ts : List Qtm) (left : Int) (h0 : 0 ≤ left) (h1 : left ≤ 1048576) (hx : ts.length < 4611686018427387904) (hx2 : ∀ t ∈ ts, t.e.length < 4611686018427387904) : ACalls Try.prog F.laws_szQTermS [.d (.sh 3 ts.length (rows qtS ts)), .int left] [] true (fun outs res => outs = [] ∧ ∃ r : Int, res = [.one (D.int r)] ∧ (r = -1 ∨ (0 ≤ r ∧ r + szQT ts = left))) := by
  refine ACalls.of_body (C := C.laws_szQTermS) (n := Try.f119.ntmps) tabT folT Try.func119 rfl (by kernel_rfl) rfl (Nat.le_of_ble_eq_true rfl) (by decide) (by kernel_rfl) (by kernel_rfl) rfl (by simp) (by simp) ?_
  simp only [Try.f119]
  refine wseq ?_
  refine wreg fun K hK => ?_
  simp [C.laws_szQTermS]
  refine hK _ ?_; clear hK K
  show AWp _ _ _ _ _
  refine wseq ?_
  refine wreg fun K hK => ?_
  simp [C.laws_szQTermS]
  rw [wrapOk (x := left - ts.length) (by omega) (by omega)]
  refine hK _ ?_; clear hK K
  show AWp _ _ _ _ _
  refine wseq ?_
  refine wseq ?_
  refine wreg fun K hK => ?_
  simp [C.laws_szQTermS]
  refine hK _ ?_; clear hK K
  show AWp _ _ _ _ _
  refine wcond _ rfl (fun hc1 => ?_) (fun hc1 => ?_)
  · refine wseq ?_
    refine wreg fun K hK => ?_
    simp [C.laws_szQTermS]
    refine hK _ ?_; clear hK K
    show AWp _ _ _ _ _
    refine wret ?_
    simp [C.laws_szQTermS]
  · refine wskip ?_
    show AWp _ _ _ _ _
    refine wseq ?_
    refine wseq ?_
    refine wreg fun K hK => ?_
    simp [C.laws_szQTermS]
    refine hK _ ?_; clear hK K
    show AWp _ _ _ _ _
    refine wblock ?_
    refine wloop (fun x : Nat × Int => ⟨ofL [(0, .d (.sh 3 ts.length (rows qtS ts))), (1, .int x.2), (5, .int x.1)], ofRO []⟩) (fun x => x.1 ≤ ts.length ∧ 0 ≤ x.2 ∧ x.2 + ts.length + cntL (fun t : Qtm => t.e.length) (ts.take x.1) = left) (fun x => ts.length - x.1) (0, left - ts.length) (by simp [C.laws_szQTermS]) (by simp at hc1; simp [cntL]; omega) ?_
    intro x1 hx1 R1 hR1
    obtain ⟨j, r⟩ := x1
    obtain ⟨hj, hr0, hr⟩ := hx1
    dsimp only at hj hr0 hr ⊢
    refine wseq ?_
    refine wseq ?_
    refine wreg fun K hK => ?_
    simp [C.laws_szQTermS]
    refine hK _ ?_; clear hK K
    show AWp _ _ _ _ _
    refine wcond _ rfl (fun hc2 => ?_) (fun hc2 => ?_)
    · refine wskip ?_
      show AWp _ _ _ _ _
      refine wseq ?_
      refine wblock ?_
      refine wseq ?_
      have h2 : j < ts.length := by simpa using hc2
      refine wregI ([0, 1, 2, 3, 4, 5] ++ ([6])) rfl fun K hK => ?_
      refine opsI_seg fun L hL => ?_
      simp [C.laws_szQTermS, h2, qtS_0 h2, qtS_1 h2, qtS_2 h2]
      refine wcall (laws_szQTerm_calls ts[j] r (by omega) (by omega) (hx2 _ (List.getElem_mem h2))) (by simp) (by simp) (by simp) ?_
      rintro outs res ⟨rfl, r2, rfl, hr2⟩
      simp [C.laws_szQTermS, h2, qtS_0 h2, qtS_1 h2, qtS_2 h2]
      refine hL _ ?_; clear hL L
      refine opsI_end fun L hL => ?_
      simp [C.laws_szQTermS, h2, qtS_0 h2, qtS_1 h2, qtS_2 h2]
      refine hL _ ?_; clear hL L
      simp [C.laws_szQTermS, h2, qtS_0 h2, qtS_1 h2, qtS_2 h2]
      refine hK _ ?_; clear hK K
      show AWp _ _ _ _ _
      refine wseq ?_
      refine wreg fun K hK => ?_
      simp [C.laws_szQTermS]
      refine hK _ ?_; clear hK K
      show AWp _ _ _ _ _
      refine wcond _ rfl (fun hc3 => ?_) (fun hc3 => ?_)
      · refine wseq ?_
        refine wreg fun K hK => ?_
        simp [C.laws_szQTermS]
        refine hK _ ?_; clear hK K
        show AWp _ _ _ _ _
        refine wret ?_
        simp [C.laws_szQTermS]
      · refine wskip ?_
        show AWp _ _ _ _ _
        refine wreg fun K hK => ?_
        simp [C.laws_szQTermS, wrap_succ (show j < 4611686018427387904 by omega)]
        refine hK _ ?_; clear hK K
        simp [C.laws_szQTermS]
        have hc3' : 0 ≤ r2 := by simpa using hc3
        refine hR1 (j + 1, r2) ⟨h2, hc3', ?_⟩ (by dsimp only; omega)
        dsimp only
        rw [cntL_step _ _ _ h2]
        omega
    · refine wexit ?_
      show AWp _ _ _ _ _
      refine wseq ?_
      refine wreg fun K hK => ?_
      simp [C.laws_szQTermS]
      refine hK _ ?_; clear hK K
      show AWp _ _ _ _ _
      refine wret ?_
      have hj2 : j = ts.length := by simp at hc2; omega
      simp [C.laws_szQTermS]
      right
      refine ⟨hr0, ?_⟩
      rw [hj2, List.take_length] at hr
      unfold szQT
      omega

theorem laws_szQSum_calls (f : Qsm) (left : Int) (h0 : 0 ≤ left) (h1 : left ≤ 1048576) (hx : f.ts.length < 4611686018427387904) (hx2 : ∀ t ∈ f.ts, t.e.length < 4611686018427387904) : ACalls Try.prog F.laws_szQSum [aQ f, .int left] [] true (fun outs res => outs = [] ∧ ∃ r : Int, res = [.one (D.int r)] ∧ (r = -1 ∨ (0 ≤ r ∧ r + szQT f.ts = left))) := by
  refine ACalls.of_body (C := C.laws_szQSum) (n := Try.f40.ntmps) tabT folT Try.func40 rfl (by kernel_rfl) rfl (Nat.le_of_ble_eq_true rfl) (by decide) (by kernel_rfl) (by kernel_rfl) rfl (by simp) (by simp) ?_
  simp only [Try.f40]
  refine wseq ?_
  refine wreg fun K hK => ?_
  simp [C.laws_szQSum]
  refine hK _ ?_; clear hK K
  show AWp _ _ _ _ _
  refine wseq ?_
  refine wregI ([0, 1, 2, 3] ++ ([4])) rfl fun K hK => ?_
  refine opsI_seg fun L hL => ?_
  simp [C.laws_szQSum]
  refine wcall (laws_szQTermS_calls f.ts left h0 h1 hx hx2) (by simp) (by simp) (by simp) ?_
  rintro outs res ⟨rfl, r, rfl, hr⟩
  simp [C.laws_szQSum]
  refine hL _ ?_; clear hL L
  refine opsI_end fun L hL => ?_
  simp [C.laws_szQSum]
  refine hL _ ?_; clear hL L
  simp [C.laws_szQSum]
  refine hK _ ?_; clear hK K
  show AWp _ _ _ _ _
  refine wseq ?_
  refine wseq ?_
  refine wreg fun K hK => ?_
  simp [C.laws_szQSum]
  refine hK _ ?_; clear hK K
  show AWp _ _ _ _ _
  refine wcond _ rfl (fun hc1 => ?_) (fun hc1 => ?_)
  · refine wseq ?_
    refine wreg fun K hK => ?_
    simp [C.laws_szQSum]
    refine hK _ ?_; clear hK K
    show AWp _ _ _ _ _
    refine wret ?_
    simp [C.laws_szQSum]
  · refine wskip ?_
    show AWp _ _ _ _ _
    refine wseq ?_
    refine wreg fun K hK => ?_
    simp [C.laws_szQSum]
    refine hK _ ?_; clear hK K
    show AWp _ _ _ _ _
    refine wret ?_
    simp at hc1
    simp [C.laws_szQSum]
    omega

theorem laws_toQTerm_calls (t : Qtm) (hx : t.e.length ≤ 1048576) : ACalls Try.prog F.laws_toQTerm [aQT t] [] true (fun outs res => outs = [] ∧ res = [.ag (qtO t)]) := by
  refine ACalls.of_body (C := C.laws_toQTerm) (n := Try.f204.ntmps) tabT folT Try.func204 rfl (by kernel_rfl) rfl (Nat.le_of_ble_eq_true rfl) (by decide) (by kernel_rfl) (by kernel_rfl) rfl (by simp) (by simp) ?_
  simp only [Try.f204]
  refine wseq ?_
  refine wreg fun K hK => ?_
  simp [C.laws_toQTerm]
  refine hK _ ?_; clear hK K
  show AWp _ _ _ _ _
  refine wseq ?_
  refine wreg fun K hK => ?_
  simp [C.laws_toQTerm]
  refine hK _ ?_; clear hK K
  show AWp _ _ _ _ _
  refine wseq ?_
  refine wregI ([0, 1, 2] ++ ([3, 4])) rfl fun K hK => ?_
  refine opsI_seg fun L hL => ?_
  simp [C.laws_toQTerm]
  refine wcall1 (laws_toIntS_calls t.e hx) (by simp) (by simp) ?_
  simp [C.laws_toQTerm]
  refine hL _ ?_; clear hL L
  refine opsI_end fun L hL => ?_
  simp [C.laws_toQTerm]
  refine hL _ ?_; clear hL L
  simp [C.laws_toQTerm]
  refine hK _ ?_; clear hK K
  show AWp _ _ _ _ _
  refine wseq ?_
  refine wreg fun K hK => ?_
  simp [C.laws_toQTerm]
  refine hK _ ?_; clear hK K
  show AWp _ _ _ _ _
  refine wseq ?_
  refine wreg fun K hK => ?_
  simp [C.laws_toQTerm]
  refine hK _ ?_; clear hK K
  show AWp _ _ _ _ _
  refine wseq ?_
  refine wreg fun K hK => ?_
  simp [C.laws_toQTerm]
  refine hK _ ?_; clear hK K
  show AWp _ _ _ _ _
  refine wret ?_
  simp [C.laws_toQTerm, qtO]

theorem laws_toQTermS_calls (ts : List Qtm) (hx : ts.length ≤ 1048576) (hx2 : ∀ t ∈ ts, t.e.length ≤ 1048576) : ACalls Try.prog F.laws_toQTermS [.d (.sh 3 ts.length (rows qtS ts))] [] true (fun outs res => outs = [] ∧ res = [.one (.ow 3 ts.length (rows qtO ts))]) := by
  refine ACalls.of_body (C := C.laws_toQTermS) (n := Try.f123.ntmps) tabT folT Try.func123 rfl (by kernel_rfl) rfl (Nat.le_of_ble_eq_true rfl) (by decide) (by kernel_rfl) (by kernel_rfl) rfl (by simp) (by simp) ?_
  simp only [Try.f123]
  refine wseq ?_
  refine wreg fun K hK => ?_
  simp [C.laws_toQTermS]
  refine hK _ ?_; clear hK K
  show AWp _ _ _ _ _
  refine wseq ?_
  refine wreg fun K hK => ?_
  simp [C.laws_toQTermS, qtZ_zero, show (40 : Int) * ts.length ≤ 281474976710656 by omega, show (ts.length : Int) ≤ 281474976710656 by omega]
  refine hK _ ?_; clear hK K
  show AWp _ _ _ _ _
  refine wseq ?_
  refine wseq ?_
  refine wreg fun K hK => ?_
  simp [C.laws_toQTermS]
  refine hK _ ?_; clear hK K
  show AWp _ _ _ _ _
  refine wblock ?_
  refine wloop (fun x : Nat × List (Option Qtm) => ⟨ofL [(0, .d (.sh 3 ts.length (rows qtS ts))), (3, .al (3, 0) [] 0 ts.length), (4, .int x.1)], ofRO [((3, 0), some (.ow 3 ts.length (rows qtZ x.2)))]⟩) (fun x => x.1 ≤ ts.length ∧ x.2 = (ts.take x.1).map some ++ List.replicate (ts.length - x.1) none) (fun x => ts.length - x.1) (0, List.replicate ts.length none) (by simp [C.laws_toQTermS]) (by simp) ?_
  intro x1 hx1 R1 hR1
  obtain ⟨j, gs⟩ := x1
  obtain ⟨hj, hg⟩ := hx1
  dsimp only at hj hg ⊢
  refine wseq ?_
  refine wseq ?_
  refine wreg fun K hK => ?_
  simp [C.laws_toQTermS]
  refine hK _ ?_; clear hK K
  show AWp _ _ _ _ _
  refine wcond _ rfl (fun hc1 => ?_) (fun hc1 => ?_)
  · refine wskip ?_
    show AWp _ _ _ _ _
    refine wseq ?_
    refine wblock ?_
    have h1 : j < ts.length := by simpa using hc1
    have hl : gs.length = ts.length := by rw [hg]; simp; omega
    have hn : gs[j]? = some none := by
      rw [hg, List.getElem?_append_right (by simp; omega)]
      simp [Nat.min_eq_left hj, List.getElem?_replicate]
      omega
    refine wregI ([0, 1, 2, 3, 4, 5, 6] ++ ([7, 8])) rfl fun K hK => ?_
    refine opsI_seg fun L hL => ?_
    simp [C.laws_toQTermS, hl, h1, qtS_0 h1, qtS_1 h1, qtS_2 h1, qtO, qtZ_none0 hn, qtZ_none1 hn, qtZ_none2 hn, List.getElem?_set, List.getElem_set, show ¬ (3 * j = 3 * j + 1 + 1) by omega, show ¬ (3 * j + 1 = 3 * j + 1 + 1) by omega, qtZ_set3 (show j < gs.length by omega)]
    refine wcall1 (laws_toQTerm_calls ts[j] (hx2 _ (List.getElem_mem h1))) (by simp) (by simp) ?_
    simp [C.laws_toQTermS, hl, h1, qtS_0 h1, qtS_1 h1, qtS_2 h1, qtO, qtZ_none0 hn, qtZ_none1 hn, qtZ_none2 hn, List.getElem?_set, List.getElem_set, show ¬ (3 * j = 3 * j + 1 + 1) by omega, show ¬ (3 * j + 1 = 3 * j + 1 + 1) by omega, qtZ_set3 (show j < gs.length by omega)]
    refine hL _ ?_; clear hL L
    refine opsI_end fun L hL => ?_
    simp [C.laws_toQTermS, hl, h1, qtS_0 h1, qtS_1 h1, qtS_2 h1, qtO, qtZ_none0 hn, qtZ_none1 hn, qtZ_none2 hn, List.getElem?_set, List.getElem_set, show ¬ (3 * j = 3 * j + 1 + 1) by omega, show ¬ (3 * j + 1 = 3 * j + 1 + 1) by omega, qtZ_set3 (show j < gs.length by omega)]
    refine hL _ ?_; clear hL L
    simp [C.laws_toQTermS, hl, h1, qtS_0 h1, qtS_1 h1, qtS_2 h1, qtO, qtZ_none0 hn, qtZ_none1 hn, qtZ_none2 hn, List.getElem?_set, List.getElem_set, show ¬ (3 * j = 3 * j + 1 + 1) by omega, show ¬ (3 * j + 1 = 3 * j + 1 + 1) by omega, qtZ_set3 (show j < gs.length by omega)]
    refine hK _ ?_; clear hK K
    show AWp _ _ _ _ _
    refine wreg fun K hK => ?_
    simp [C.laws_toQTermS, wrap_succ (show j < 4611686018427387904 by omega)]
    refine hK _ ?_; clear hK K
    simp [C.laws_toQTermS]
    refine hR1 (j + 1, _) ⟨h1, ?_⟩ (by dsimp only; omega)
    dsimp only
    have := fill_step (ts.map some) j (by simpa using h1) none
    simp only [List.length_map, List.getElem_map, ← List.map_take] at this
    rw [hg, ← this]
  · refine wexit ?_
    show AWp _ _ _ _ _
    refine wseq ?_
    refine wreg fun K hK => ?_
    simp [C.laws_toQTermS]
    refine hK _ ?_; clear hK K
    show AWp _ _ _ _ _
    refine wret ?_
    have hj2 : j = ts.length := by simp at hc1; omega
    have hz : rows qtZ gs = rows qtO ts := by rw [hg, hj2]; simp [qtZ_some]
    simp [C.laws_toQTermS, hz, hj2]

theorem laws_toQSum_calls (f : Qsm) (hx : f.ts.length ≤ 1048576) (hx2 : ∀ t ∈ f.ts, t.e.length ≤ 1048576) : ACalls Try.prog F.laws_toQSum [aQ f] [] true (fun outs res => outs = [] ∧ res = [.ag (qO f)]) := by
  refine ACalls.of_body (C := C.laws_toQSum) (n := Try.f42.ntmps) tabT folT Try.func42 rfl (by kernel_rfl) rfl (Nat.le_of_ble_eq_true rfl) (by decide) (by kernel_rfl) (by kernel_rfl) rfl (by simp) (by simp) ?_
  simp only [Try.f42]
  refine wseq ?_
  refine wreg fun K hK => ?_
  simp [C.laws_toQSum]
  refine hK _ ?_; clear hK K
  show AWp _ _ _ _ _
  refine wseq ?_
  refine wreg fun K hK => ?_
  simp [C.laws_toQSum]
  refine hK _ ?_; clear hK K
  show AWp _ _ _ _ _
  refine wseq ?_
  refine wreg fun K hK => ?_
  simp [C.laws_toQSum]
  refine hK _ ?_; clear hK K
  show AWp _ _ _ _ _
  refine wseq ?_
  refine wregI ([0, 1, 2] ++ ([3, 4])) rfl fun K hK => ?_
  refine opsI_seg fun L hL => ?_
  simp [C.laws_toQSum]
  refine wcall1 (laws_toQTermS_calls f.ts hx hx2) (by simp) (by simp) ?_
  simp [C.laws_toQSum]
  refine hL _ ?_; clear hL L
  refine opsI_end fun L hL => ?_
  simp [C.laws_toQSum]
  refine hL _ ?_; clear hL L
  simp [C.laws_toQSum]
  refine hK _ ?_; clear hK K
  show AWp _ _ _ _ _
  refine wseq ?_
  refine wreg fun K hK => ?_
  simp [C.laws_toQSum]
  refine hK _ ?_; clear hK K
  show AWp _ _ _ _ _
  refine wret ?_
  simp [C.laws_toQSum, qO]

theorem laws_eqQTerm_calls (a b : Qtm) (hx : a.e.length < 4611686018427387904) : ACalls Try.prog F.laws_eqQTerm [aQT a, aQT b] [] true (fun outs res => outs = [] ∧ res = [.one (D.bool (decide (a = b)))]) := by
  refine ACalls.of_body (C := C.laws_eqQTerm) (n := Try.f208.ntmps) tabT folT Try.func208 rfl (by kernel_rfl) rfl (Nat.le_of_ble_eq_true rfl) (by decide) (by kernel_rfl) (by kernel_rfl) rfl (by simp) (by simp) ?_
  simp only [Try.f208]
  refine wseq ?_
  refine wreg fun K hK => ?_
  simp [C.laws_eqQTerm]
  refine hK _ ?_; clear hK K
  show AWp _ _ _ _ _
  refine wseq ?_
  refine wseq ?_
  refine wregI ([0, 1, 2, 3, 4] ++ ([5])) rfl fun K hK => ?_
  refine opsI_seg fun L hL => ?_
  simp [C.laws_eqQTerm]
  refine wcall1 (laws_eqIntS_calls a.e b.e hx) (by simp) (by simp) ?_
  simp [C.laws_eqQTerm]
  refine hL _ ?_; clear hL L
  refine opsI_end fun L hL => ?_
  simp [C.laws_eqQTerm]
  refine hL _ ?_; clear hL L
  simp [C.laws_eqQTerm]
  refine hK _ ?_; clear hK K
  show AWp _ _ _ _ _
  refine wcond _ rfl (fun hc1 => ?_) (fun hc1 => ?_)
  · refine wseq ?_
    refine wreg fun K hK => ?_
    simp [C.laws_eqQTerm]
    refine hK _ ?_; clear hK K
    show AWp _ _ _ _ _
    refine wret ?_
    simp at hc1
    simp [C.laws_eqQTerm, qtm_eq, hc1]
  · refine wskip ?_
    show AWp _ _ _ _ _
    refine wseq ?_
    refine wseq ?_
    refine wreg fun K hK => ?_
    simp [C.laws_eqQTerm]
    refine hK _ ?_; clear hK K
    show AWp _ _ _ _ _
    refine wcond _ rfl (fun hc2 => ?_) (fun hc2 => ?_)
    · refine wseq ?_
      refine wreg fun K hK => ?_
      simp [C.laws_eqQTerm]
      refine hK _ ?_; clear hK K
      show AWp _ _ _ _ _
      refine wret ?_
      simp at hc2
      simp [C.laws_eqQTerm, qtm_eq, hc2]
    · refine wskip ?_
      show AWp _ _ _ _ _
      refine wseq ?_
      refine wseq ?_
      refine wreg fun K hK => ?_
      simp [C.laws_eqQTerm]
      refine hK _ ?_; clear hK K
      show AWp _ _ _ _ _
      refine wcond _ rfl (fun hc3 => ?_) (fun hc3 => ?_)
      · refine wseq ?_
        refine wreg fun K hK => ?_
        simp [C.laws_eqQTerm]
        refine hK _ ?_; clear hK K
        show AWp _ _ _ _ _
        refine wret ?_
        simp at hc3
        simp [C.laws_eqQTerm, qtm_eq, hc3]
      · refine wskip ?_
        show AWp _ _ _ _ _
        refine wseq ?_
        refine wreg fun K hK => ?_
        simp [C.laws_eqQTerm]
        refine hK _ ?_; clear hK K
        show AWp _ _ _ _ _
        refine wret ?_
        simp at hc1 hc2 hc3
        simp [C.laws_eqQTerm, qtm_eq, hc1, hc2, hc3]

theorem laws_eqQTermS_calls (xs ys : List Qtm) (hx : xs.length < 4611686018427387904) (hx2 : ∀ t ∈ xs, t.e.length < 4611686018427387904) : ACalls Try.prog F.laws_eqQTermS [.d (.sh 3 xs.length (rows qtS xs)), .d (.sh 3 ys.length (rows qtS ys))] [] true (fun outs res => outs = [] ∧ res = [.one (D.bool (decide (xs = ys)))]) := by
  refine ACalls.of_body (C := C.laws_eqQTermS) (n := Try.f129.ntmps) tabT folT Try.func129 rfl (by kernel_rfl) rfl (Nat.le_of_ble_eq_true rfl) (by decide) (by kernel_rfl) (by kernel_rfl) rfl (by simp) (by simp) ?_
  simp only [Try.f129]
  refine wseq ?_
  refine wreg fun K hK => ?_
  simp [C.laws_eqQTermS]
  refine hK _ ?_; clear hK K
  show AWp _ _ _ _ _
  refine wseq ?_
  refine wseq ?_
  refine wreg fun K hK => ?_
  simp [C.laws_eqQTermS]
  refine hK _ ?_; clear hK K
  show AWp _ _ _ _ _
  refine wcond _ rfl (fun hc1 => ?_) (fun hc1 => ?_)
  · refine wseq ?_
    refine wreg fun K hK => ?_
    simp [C.laws_eqQTermS]
    refine hK _ ?_; clear hK K
    show AWp _ _ _ _ _
    refine wret ?_
    simp at hc1
    simp [C.laws_eqQTermS]
    intro e; simp [e] at hc1
  · refine wskip ?_
    show AWp _ _ _ _ _
    refine wseq ?_
    refine wseq ?_
    refine wreg fun K hK => ?_
    simp [C.laws_eqQTermS]
    refine hK _ ?_; clear hK K
    show AWp _ _ _ _ _
    refine wblock ?_
    have e : xs.length = ys.length := by simp at hc1; omega
    refine wloop (fun k : Nat => ⟨ofL [(0, .d (.sh 3 xs.length (rows qtS xs))), (1, .d (.sh 3 ys.length (rows qtS ys))), (5, FV.int k)], ofRO []⟩) (fun k => k ≤ xs.length ∧ xs.take k = ys.take k) (fun k => xs.length - k) 0 (by simp [C.laws_eqQTermS]) (by simp) ?_
    intro x1 hx1 R1 hR1
    obtain ⟨hk, ht⟩ := hx1
    refine wseq ?_
    refine wseq ?_
    refine wreg fun K hK => ?_
    simp [C.laws_eqQTermS]
    refine hK _ ?_; clear hK K
    show AWp _ _ _ _ _
    refine wcond _ rfl (fun hc2 => ?_) (fun hc2 => ?_)
    · refine wskip ?_
      show AWp _ _ _ _ _
      refine wseq ?_
      refine wblock ?_
      refine wseq ?_
      have h1 : x1 < xs.length := by simpa using hc2
      have h2 : x1 < ys.length := by omega
      refine wdrawI [(true, 0), (true, 1), (true, 2), (true, 3), (true, 4), (true, 5), (true, 6), (true, 7), (false, 8), (true, 9)] ⟨by kernel_rfl, by kernel_rfl⟩ ([0, 1, 2, 3, 4, 5, 6, 7, 8] ++ ([9])) rfl fun K hK => ?_
      refine opsI_seg fun L hL => ?_
      simp [C.laws_eqQTermS, h1, h2, qtS_0 h1, qtS_1 h1, qtS_2 h1, qtS_0 h2, qtS_1 h2, qtS_2 h2]
      refine wcall1 (laws_eqQTerm_calls xs[x1] ys[x1] (hx2 _ (List.getElem_mem h1))) (by simp) (by simp) ?_
      simp [C.laws_eqQTermS, h1, h2, qtS_0 h1, qtS_1 h1, qtS_2 h1, qtS_0 h2, qtS_1 h2, qtS_2 h2]
      refine hL _ ?_; clear hL L
      refine opsI_end fun L hL => ?_
      simp [C.laws_eqQTermS, h1, h2, qtS_0 h1, qtS_1 h1, qtS_2 h1, qtS_0 h2, qtS_1 h2, qtS_2 h2]
      refine hL _ ?_; clear hL L
      simp [C.laws_eqQTermS, h1, h2, qtS_0 h1, qtS_1 h1, qtS_2 h1, qtS_0 h2, qtS_1 h2, qtS_2 h2]
      refine hK _ ?_; clear hK K
      show AWp _ _ _ _ _
      refine wcond _ rfl (fun hc3 => ?_) (fun hc3 => ?_)
      · refine wseq ?_
        refine wreg fun K hK => ?_
        simp [C.laws_eqQTermS]
        refine hK _ ?_; clear hK K
        show AWp _ _ _ _ _
        refine wret ?_
        simp at hc3
        simp [C.laws_eqQTermS]
        intro e; simp [e] at hc3
      · refine wskip ?_
        show AWp _ _ _ _ _
        refine wreg fun K hK => ?_
        simp [C.laws_eqQTermS, wrap_succ (show x1 < 4611686018427387904 by omega)]
        refine hK _ ?_; clear hK K
        simp [C.laws_eqQTermS]
        simp at hc3
        refine hR1 (x1 + 1) ⟨h1, ?_⟩ (by omega)
        rw [List.take_succ_eq_append_getElem h1, List.take_succ_eq_append_getElem h2, ht, hc3]
    · refine wexit ?_
      show AWp _ _ _ _ _
      refine wseq ?_
      refine wreg fun K hK => ?_
      simp [C.laws_eqQTermS]
      refine hK _ ?_; clear hK K
      show AWp _ _ _ _ _
      refine wret ?_
      have hk2 : x1 = xs.length := by simp at hc2; omega
      simp [C.laws_eqQTermS]
      rw [hk2, List.take_length, e, List.take_length] at ht
      exact ht

theorem laws_eqQSum_calls (a b : Qsm) (hx : a.ts.length < 4611686018427387904) (hx2 : ∀ t ∈ a.ts, t.e.length < 4611686018427387904) : ACalls Try.prog F.laws_eqQSum [aQ a, aQ b] [] true (fun outs res => outs = [] ∧ res = [.one (D.bool (decide (a = b)))]) := by
  refine ACalls.of_body (C := C.laws_eqQSum) (n := Try.f44.ntmps) tabT folT Try.func44 rfl (by kernel_rfl) rfl (Nat.le_of_ble_eq_true rfl) (by decide) (by kernel_rfl) (by kernel_rfl) rfl (by simp) (by simp) ?_
  simp only [Try.f44]
  refine wseq ?_
  refine wreg fun K hK => ?_
  simp [C.laws_eqQSum]
  refine hK _ ?_; clear hK K
  show AWp _ _ _ _ _
  refine wseq ?_
  refine wseq ?_
  refine wreg fun K hK => ?_
  simp [C.laws_eqQSum]
  refine hK _ ?_; clear hK K
  show AWp _ _ _ _ _
  refine wcond _ rfl (fun hc1 => ?_) (fun hc1 => ?_)
  · refine wseq ?_
    refine wreg fun K hK => ?_
    simp [C.laws_eqQSum]
    refine hK _ ?_; clear hK K
    show AWp _ _ _ _ _
    refine wret ?_
    simp at hc1
    simp [C.laws_eqQSum, qsm_eq, hc1]
  · refine wskip ?_
    show AWp _ _ _ _ _
    refine wseq ?_
    refine wseq ?_
    refine wregI ([0, 1, 2, 3, 4] ++ ([5])) rfl fun K hK => ?_
    refine opsI_seg fun L hL => ?_
    simp [C.laws_eqQSum]
    refine wcall1 (laws_eqQTermS_calls a.ts b.ts hx hx2) (by simp) (by simp) ?_
    simp [C.laws_eqQSum]
    refine hL _ ?_; clear hL L
    refine opsI_end fun L hL => ?_
    simp [C.laws_eqQSum]
    refine hL _ ?_; clear hL L
    simp [C.laws_eqQSum]
    refine hK _ ?_; clear hK K
    show AWp _ _ _ _ _
    refine wcond _ rfl (fun hc2 => ?_) (fun hc2 => ?_)
    · refine wseq ?_
      refine wreg fun K hK => ?_
      simp [C.laws_eqQSum]
      refine hK _ ?_; clear hK K
      show AWp _ _ _ _ _
      refine wret ?_
      simp at hc2
      simp [C.laws_eqQSum, qsm_eq, hc2]
    · refine wskip ?_
      show AWp _ _ _ _ _
      refine wseq ?_
      refine wreg fun K hK => ?_
      simp [C.laws_eqQSum]
      refine hK _ ?_; clear hK K
      show AWp _ _ _ _ _
      refine wret ?_
      simp at hc1 hc2
      simp [C.laws_eqQSum, qsm_eq, hc1, hc2]

theorem laws_markQTermS_calls (ts : List Qtm) (k : Int) (hk0 : 0 ≤ k) (hk : k + cntL cntQT ts < 4611686018427387904) (hx : ts.length < 4611686018427387904) : ACalls Try.prog F.laws_markQTermS [.al (0, 0) [] 0 ts.length, .int k] [((0, 0), .ow 3 ts.length (rows qtO ts))] true (fun outs res => outs = [.ow 3 ts.length (rows qtO (mkL cntQT mkQT ts k))] ∧ res = [.one (D.int (k + cntL cntQT ts))]) := by
  refine ACalls.of_body (C := C.laws_markQTermS) (n := Try.f130.ntmps) tabT folT Try.func130 rfl (by kernel_rfl) rfl (Nat.le_of_ble_eq_true rfl) (by decide) (by kernel_rfl) (by kernel_rfl) rfl (by simp) (by simp) ?_
  simp only [Try.f130]
  refine wseq ?_
  refine wreg fun K hK => ?_
  simp [C.laws_markQTermS]
  refine hK _ ?_; clear hK K
  show AWp _ _ _ _ _
  refine wseq ?_
  refine wseq ?_
  refine wreg fun K hK => ?_
  simp [C.laws_markQTermS]
  refine hK _ ?_; clear hK K
  show AWp _ _ _ _ _
  refine wblock ?_
  refine wloop (fun x : Nat × List Qtm × Int => ⟨ofL [(0, .al (0, 0) [] 0 ts.length), (1, .int x.2.2), (5, .int x.1), (1000, .al (0, 0) [] 0 ts.length)], ofRO [((0, 0), some (.ow 3 ts.length (rows qtO x.2.1)))]⟩) (fun x => x.1 ≤ ts.length ∧ x.2.1 = mkL cntQT mkQT (ts.take x.1) k ++ ts.drop x.1 ∧ x.2.2 = k + cntL cntQT (ts.take x.1)) (fun x => ts.length - x.1) (0, ts, k) (by simp [C.laws_markQTermS]) (by simp [mkL, cntL]) ?_
  intro x1 hx1 R1 hR1
  obtain ⟨j, gs, kk⟩ := x1
  obtain ⟨h0, hg, he⟩ := hx1
  dsimp only at h0 hg he ⊢
  refine wseq ?_
  refine wseq ?_
  refine wreg fun K hK => ?_
  simp [C.laws_markQTermS]
  refine hK _ ?_; clear hK K
  show AWp _ _ _ _ _
  refine wcond _ rfl (fun hc1 => ?_) (fun hc1 => ?_)
  · refine wskip ?_
    show AWp _ _ _ _ _
    refine wseq ?_
    refine wblock ?_
    refine wseq ?_
    have h1 : j < ts.length := by simpa using hc1
    have hl : gs.length = ts.length := by rw [hg]; simp; omega
    have h2 : j < gs.length := by omega
    have hge : gs[j] = ts[j] := by
      have := mkL_get2 cntQT mkQT ts k j h1
      rw [← hg, List.getElem?_eq_getElem h2] at this
      injection this
    have hb := cntL_le1 cntQT ts j h1
    have hcj : cntQT ts[j] = ts[j].e.length + 2 := rfl
    refine wregI ([0, 1, 2, 3, 4, 5, 6] ++ ([7])) rfl fun K hK => ?_
    refine opsI_seg fun L hL => ?_
    simp [C.laws_markQTermS, hl, h1, h2, hge, qtO_0 h2, qtO_1 h2, qtO_2 h2, modify_const, qtO_set0 h2]
    refine wcall1 (laws_markIntS_calls ts[j].e kk (by omega) (by omega)) (by simp) (by simp) ?_
    simp [C.laws_markQTermS, hl, h1, h2, hge, qtO_0 h2, qtO_1 h2, qtO_2 h2, modify_const, qtO_set0 h2]
    refine hL _ ?_; clear hL L
    refine opsI_end fun L hL => ?_
    simp [C.laws_markQTermS, hl, h1, h2, hge, qtO_0 h2, qtO_1 h2, qtO_2 h2, modify_const, qtO_set0 h2]
    refine hL _ ?_; clear hL L
    simp [C.laws_markQTermS, hl, h1, h2, hge, qtO_0 h2, qtO_1 h2, qtO_2 h2, modify_const, qtO_set0 h2]
    refine hK _ ?_; clear hK K
    show AWp _ _ _ _ _
    refine wseq ?_
    refine wreg fun K hK => ?_
    simp [C.laws_markQTermS, h1, h2, hl, qtO_1 h2]
    refine hK _ ?_; clear hK K
    show AWp _ _ _ _ _
    refine wseq ?_
    refine wreg fun K hK => ?_
    simp [C.laws_markQTermS]
    rw [wrapOk (x := kk + ts[j].e.length + 1) (by omega) (by omega)]
    refine hK _ ?_; clear hK K
    show AWp _ _ _ _ _
    refine wseq ?_
    refine wreg fun K hK => ?_
    simp [C.laws_markQTermS, h1, h2, hl, qtO_2 h2]
    refine hK _ ?_; clear hK K
    show AWp _ _ _ _ _
    refine wreg fun K hK => ?_
    simp [C.laws_markQTermS]
    rw [wrapOk (x := kk + ts[j].e.length + 1 + 1) (by omega) (by omega)]
    refine hK _ ?_; clear hK K
    show AWp _ _ _ _ _
    refine wreg fun K hK => ?_
    simp [C.laws_markQTermS, wrap_succ (show j < 4611686018427387904 by omega)]
    refine hK _ ?_; clear hK K
    simp [C.laws_markQTermS]
    rw [qtO_set3 h2 _ _ _ (by simp)]
    refine hR1 (j + 1, _, _) ⟨h1, ?_, ?_⟩ (by dsimp only; omega)
    · dsimp only
      rw [hg, he]
      exact mkL_step cntQT mkQT ts k j h1
    · dsimp only
      rw [cntL_step _ _ _ h1]
      omega
  · refine wexit ?_
    show AWp _ _ _ _ _
    refine wseq ?_
    refine wreg fun K hK => ?_
    simp [C.laws_markQTermS]
    refine hK _ ?_; clear hK K
    show AWp _ _ _ _ _
    refine wret ?_
    have hj2 : j = ts.length := by simp at hc1; omega
    simp [C.laws_markQTermS, hj2, hg, he]

theorem laws_markQSum_calls (f : Qsm) (k : Int) (hk0 : 0 ≤ k) (hk : k + cntL cntQT f.ts < 4611686018427387904) (hx : f.ts.length < 4611686018427387904) : ACalls Try.prog F.laws_markQSum [.ag [.int f.v, .al (0, 1) [] 0 f.ts.length], .int k] [((0, 1), .ow 3 f.ts.length (rows qtO f.ts))] true (fun outs res => outs = [.ow 3 f.ts.length (rows qtO (mkL cntQT mkQT f.ts k))] ∧ res = [.one (D.int (k + cntL cntQT f.ts))]) := by
  refine ACalls.of_body (C := C.laws_markQSum) (n := Try.f45.ntmps) tabT folT Try.func45 rfl (by kernel_rfl) rfl (Nat.le_of_ble_eq_true rfl) (by decide) (by kernel_rfl) (by kernel_rfl) rfl (by simp) (by simp) ?_
  simp only [Try.f45]
  refine wseq ?_
  refine wreg fun K hK => ?_
  simp [C.laws_markQSum]
  refine hK _ ?_; clear hK K
  show AWp _ _ _ _ _
  refine wseq ?_
  refine wregI ([0, 1, 2, 3] ++ ([4])) rfl fun K hK => ?_
  refine opsI_seg fun L hL => ?_
  simp [C.laws_markQSum, modify_const]
  refine wcall1 (laws_markQTermS_calls f.ts k hk0 hk hx) (by simp) (by simp) ?_
  simp [C.laws_markQSum, modify_const]
  refine hL _ ?_; clear hL L
  refine opsI_end fun L hL => ?_
  simp [C.laws_markQSum, modify_const]
  refine hL _ ?_; clear hL L
  simp [C.laws_markQSum, modify_const]
  refine hK _ ?_; clear hK K
  show AWp _ _ _ _ _
  refine wseq ?_
  refine wreg fun K hK => ?_
  simp [C.laws_markQSum]
  refine hK _ ?_; clear hK K
  show AWp _ _ _ _ _
  refine wret ?_
  simp [C.laws_markQSum]

theorem laws_heldQTermS_calls (ts : List Qtm) (k : Int) (hk0 : 0 ≤ k) (hk : k + cntL cntQT ts < 4611686018427387904) (hx : ts.length < 4611686018427387904) : ACalls Try.prog F.laws_heldQTermS [.d (.sh 3 ts.length (rows qtS (mkL cntQT mkQT ts k))), .int k] [] true (fun outs res => outs = [] ∧ res = [.one (D.int (k + cntL cntQT ts))]) := by
  refine ACalls.of_body (C := C.laws_heldQTermS) (n := Try.f131.ntmps) tabT folT Try.func131 rfl (by kernel_rfl) rfl (Nat.le_of_ble_eq_true rfl) (by decide) (by kernel_rfl) (by kernel_rfl) rfl (by simp) (by simp) ?_
  simp only [Try.f131]
  refine wseq ?_
  refine wreg fun K hK => ?_
  simp [C.laws_heldQTermS]
  refine hK _ ?_; clear hK K
  show AWp _ _ _ _ _
  refine wseq ?_
  refine wseq ?_
  refine wreg fun K hK => ?_
  simp [C.laws_heldQTermS]
  refine hK _ ?_; clear hK K
  show AWp _ _ _ _ _
  refine wblock ?_
  refine wloop (fun x : Nat × Int => ⟨ofL [(0, .d (.sh 3 ts.length (rows qtS (mkL cntQT mkQT ts k)))), (1, .int x.2), (5, .int x.1)], ofRO []⟩) (fun x => x.1 ≤ ts.length ∧ x.2 = k + cntL cntQT (ts.take x.1)) (fun x => ts.length - x.1) (0, k) (by simp [C.laws_heldQTermS]) (by simp [cntL]) ?_
  intro x1 hx1 R1 hR1
  obtain ⟨j, kk⟩ := x1
  obtain ⟨h0, he⟩ := hx1
  dsimp only at h0 he ⊢
  refine wseq ?_
  refine wseq ?_
  refine wreg fun K hK => ?_
  simp [C.laws_heldQTermS]
  refine hK _ ?_; clear hK K
  show AWp _ _ _ _ _
  refine wcond _ rfl (fun hc1 => ?_) (fun hc1 => ?_)
  · refine wskip ?_
    show AWp _ _ _ _ _
    refine wseq ?_
    refine wblock ?_
    refine wseq ?_
    have h1 : j < ts.length := by simpa using hc1
    have h2 : j < (mkL cntQT mkQT ts k).length := by simpa using h1
    have hge : (mkL cntQT mkQT ts k)[j] = ⟨marks kk ts[j].e.length, kk + ts[j].e.length, kk + ts[j].e.length + 1⟩ := by
      rw [mkL_get1 _ _ _ _ _ h1, he]
      rfl
    have hb := cntL_le1 cntQT ts j h1
    have hcj : cntQT ts[j] = ts[j].e.length + 2 := rfl
    refine wregI ([0, 1, 2, 3, 4, 5, 6] ++ ([7])) rfl fun K hK => ?_
    refine opsI_seg fun L hL => ?_
    simp [C.laws_heldQTermS, h1, h2, hge, qtS_0 h2]
    refine wcall1 (laws_heldIntS_calls ts[j].e.length kk (by omega) (by omega)) (by simp) (by simp) ?_
    simp [C.laws_heldQTermS, h1, h2, hge, qtS_0 h2]
    refine hL _ ?_; clear hL L
    refine opsI_end fun L hL => ?_
    simp [C.laws_heldQTermS, h1, h2, hge, qtS_0 h2]
    refine hL _ ?_; clear hL L
    simp [C.laws_heldQTermS, h1, h2, hge, qtS_0 h2]
    refine hK _ ?_; clear hK K
    show AWp _ _ _ _ _
    refine wseq ?_
    refine wseq ?_
    refine wreg fun K hK => ?_
    simp [C.laws_heldQTermS]
    refine hK _ ?_; clear hK K
    show AWp _ _ _ _ _
    refine wcond _ rfl (fun hc2 => ?_) (fun hc2 => ?_)
    · simp at hc2; omega
    · refine wskip ?_
      show AWp _ _ _ _ _
      refine wseq ?_
      refine wseq ?_
      refine wreg fun K hK => ?_
      simp [C.laws_heldQTermS, h1, h2, hge, qtS_1 h2]
      refine hK _ ?_; clear hK K
      show AWp _ _ _ _ _
      refine wcond _ rfl (fun hc3 => ?_) (fun hc3 => ?_)
      · simp at hc3
      · refine wskip ?_
        show AWp _ _ _ _ _
        refine wseq ?_
        refine wreg fun K hK => ?_
        simp [C.laws_heldQTermS]
        rw [wrapOk (x := kk + ts[j].e.length + 1) (by omega) (by omega)]
        refine hK _ ?_; clear hK K
        show AWp _ _ _ _ _
        refine wseq ?_
        refine wseq ?_
        refine wreg fun K hK => ?_
        simp [C.laws_heldQTermS, h1, h2, hge, qtS_2 h2]
        refine hK _ ?_; clear hK K
        show AWp _ _ _ _ _
        refine wcond _ rfl (fun hc4 => ?_) (fun hc4 => ?_)
        · simp at hc4
        · refine wskip ?_
          show AWp _ _ _ _ _
          refine wreg fun K hK => ?_
          simp [C.laws_heldQTermS]
          rw [wrapOk (x := kk + ts[j].e.length + 1 + 1) (by omega) (by omega)]
          refine hK _ ?_; clear hK K
          show AWp _ _ _ _ _
          refine wreg fun K hK => ?_
          simp [C.laws_heldQTermS, wrap_succ (show j < 4611686018427387904 by omega)]
          refine hK _ ?_; clear hK K
          simp [C.laws_heldQTermS]
          refine hR1 (j + 1, _) ⟨h1, ?_⟩ (by dsimp only; omega)
          dsimp only
          rw [cntL_step _ _ _ h1]
          omega
  · refine wexit ?_
    show AWp _ _ _ _ _
    refine wseq ?_
    refine wreg fun K hK => ?_
    simp [C.laws_heldQTermS]
    refine hK _ ?_; clear hK K
    show AWp _ _ _ _ _
    refine wret ?_
    have hj2 : j = ts.length := by simp at hc1; omega
    simp [C.laws_heldQTermS]
    rw [he, hj2, List.take_length]

theorem laws_heldQSum_calls (v : Int) (ts : List Qtm) (k : Int) (hk0 : 0 ≤ k) (hk : k + cntL cntQT ts < 4611686018427387904) (hx : ts.length < 4611686018427387904) : ACalls Try.prog F.laws_heldQSum [.ag [.int v, .d (.sh 3 ts.length (rows qtS (mkL cntQT mkQT ts k)))], .int k] [] true (fun outs res => outs = [] ∧ res = [.one (D.int (k + cntL cntQT ts))]) := by
  refine ACalls.of_body (C := C.laws_heldQSum) (n := Try.f46.ntmps) tabT folT Try.func46 rfl (by kernel_rfl) rfl (Nat.le_of_ble_eq_true rfl) (by decide) (by kernel_rfl) (by kernel_rfl) rfl (by simp) (by simp) ?_
  simp only [Try.f46]
  refine wseq ?_
  refine wreg fun K hK => ?_
  simp [C.laws_heldQSum]
  refine hK _ ?_; clear hK K
  show AWp _ _ _ _ _
  refine wseq ?_
  refine wregI ([0, 1, 2, 3] ++ ([4])) rfl fun K hK => ?_
  refine opsI_seg fun L hL => ?_
  simp [C.laws_heldQSum]
  refine wcall1 (laws_heldQTermS_calls ts k hk0 hk hx) (by simp) (by simp) ?_
  simp [C.laws_heldQSum]
  refine hL _ ?_; clear hL L
  refine opsI_end fun L hL => ?_
  simp [C.laws_heldQSum]
  refine hL _ ?_; clear hL L
  simp [C.laws_heldQSum]
  refine hK _ ?_; clear hK K
  show AWp _ _ _ _ _
  refine wseq ?_
  refine wseq ?_
  refine wreg fun K hK => ?_
  simp [C.laws_heldQSum]
  refine hK _ ?_; clear hK K
  show AWp _ _ _ _ _
  refine wcond _ rfl (fun hc1 => ?_) (fun hc1 => ?_)
  · simp at hc1; omega
  · refine wskip ?_
    show AWp _ _ _ _ _
    refine wseq ?_
    refine wreg fun K hK => ?_
    simp [C.laws_heldQSum]
    refine hK _ ?_; clear hK K
    show AWp _ _ _ _ _
    refine wret ?_
    simp [C.laws_heldQSum]

end Go.Proofs.Ytdgeponcnlkaiaa.Ab
namespace Go.Proofs.Ytdgeponcnlkaiaa.Ab
open Go
set_option linter.unusedSimpArgs false
set_option linter.unusedVariables false
set_option maxRecDepth 10000
set_option maxHeartbeats 2000000
theorem sz_small {ts : List Trm} {r : Int} (h0 : 0 ≤ r) (h : r + szT ts = 1048576) : ts.length ≤ 1048576 ∧ ∀ t ∈ ts, t.e.length ≤ 1048576 := by
  unfold szT at h
  refine ⟨by omega, fun t ht => ?_⟩
  have : t.e.length ≤ cntL (fun t : Trm => t.e.length) ts := by
    clear h
    induction ts with
    | nil => simp at ht
    | cons x ts ih =>
      simp only [cntL]
      rcases List.mem_cons.1 ht with rfl | ht
      · omega
      · have := ih ht; omega
  omega
theorem sz_cnt {ts : List Trm} {r : Int} (h0 : 0 ≤ r) (h : r + szT ts = 1048576) : cntL cntT ts ≤ 1048576 := by
  have : ∀ ts : List Trm, cntL cntT ts = szT ts := fun ts => by
    induction ts with
    | nil => rfl
    | cons x ts ih =>
      simp only [szT, cntL, cntT, List.length_cons] at ih ⊢
      omega
  rw [this]
  omega
theorem sz_small2 {ts : List Trm} {r : Int} (h0 : 0 ≤ r) (h : r + szT ts ≤ 1048576) : ts.length ≤ 1048576 ∧ ∀ t ∈ ts, t.e.length ≤ 1048576 := by
  have := sz_small (ts := ts) (r := 1048576 - szT ts) (by omega) (by omega)
  exact this
theorem sz_cnt2 {ts : List Trm} {r : Int} (h0 : 0 ≤ r) (h : r + szT ts ≤ 1048576) : cntL cntT ts ≤ 1048576 := sz_cnt (r := 1048576 - szT ts) (by omega) (by omega)
def SmallF (g : Lau) : Prop := g.ts.length ≤ 600 ∧ (∀ t ∈ g.ts, t.e.length ≤ 8) ∧ cntL cntT g.ts ≤ 5400
theorem small_right {g : Lau} (h : Right g) : SmallF g := by
  have he : ∀ t ∈ g.ts, t.e.length ≤ 8 := fun t ht => by have := (h.2.2.1 t ht).1; have := h.1; omega
  refine ⟨h.2.1, he, ?_⟩
  have : ∀ ts : List Trm, (∀ t ∈ ts, t.e.length ≤ 8) → cntL cntT ts ≤ ts.length * 9 := fun ts => by
    induction ts with
    | nil => intro _; simp [cntL]
    | cons x ts ih =>
      intro h
      have h1 := h x (by simp)
      have h2 := ih fun y hy => h y (by simp [hy])
      simp only [cntL, cntT, List.length_cons]
      omega
  have h2 := this g.ts he
  have := h.2.1
  omega
theorem small_zero : SmallF zeroF := by simp [SmallF, zeroF, cntL]
theorem powF_right (f : Lau) (n : Int) : Right (powF f n).1 ∨ powF f n = (zeroF, false) := by
  unfold powF
  split
  · rename_i h
    split
    · rename_i g hg
      exact .inl (powL_right h.1 _ g hg)
    · exact .inr rfl
  · exact .inr rfl
theorem powF_small (f : Lau) (n : Int) : SmallF (powF f n).1 := by
  rcases powF_right f n with h | h
  · exact small_right h
  · rw [h]; exact small_zero
theorem laws_FnExactPowerLaurent_calls (hMul : MulOk) (f : Lau) (n : Int) (hx : f.ts.length < 4611686018427387904) (hxe : ∀ t ∈ f.ts, t.e.length < 4611686018427387904) : ACalls Try.prog F.laws_FnExactPowerLaurent [aF f, .int n] [] true (fun outs res => outs = [] ∧ res = [.one (D.bool true)]) := by
  have hgs := powF_small f n
  have hw := sPow_calls f n hx hxe
  have hg := iPow_calls hMul f n hx hxe
  generalize powF f n = g at hgs hw hg
  obtain ⟨g, b⟩ := g
  obtain ⟨hg1, hg2, hg3⟩ := hgs
  dsimp only at hg1 hg2 hg3 hw hg
  refine ACalls.of_body (C := C.laws_FnExactPowerLaurent) (n := Try.f8.ntmps) tabT folT Try.func8 rfl (by kernel_rfl) rfl (Nat.le_of_ble_eq_true rfl) (by decide) (by kernel_rfl) (by kernel_rfl) rfl (by simp) (by simp) ?_
  simp only [Try.f8]
  refine wseq ?_
  refine wreg fun K hK => ?_
  simp [C.laws_FnExactPowerLaurent, fO]
  refine hK _ ?_; clear hK K
  show AWp _ _ _ _ _
  refine wseq ?_
  refine wreg fun K hK => ?_
  simp [C.laws_FnExactPowerLaurent, fO]
  refine hK _ ?_; clear hK K
  show AWp _ _ _ _ _
  refine wseq ?_
  refine wregI ([0, 1, 2] ++ ([3])) rfl fun K hK => ?_
  refine opsI_seg fun L hL => ?_
  simp [C.laws_FnExactPowerLaurent, fO]
  refine wcall (laws_szLaurent_calls f 1048576 (by omega) (by omega) hx hxe) (by simp) (by simp) (by simp) ?_
  rintro outs res ⟨rfl, r, rfl, hr⟩
  simp [C.laws_FnExactPowerLaurent, fO]
  refine hL _ ?_; clear hL L
  refine opsI_end fun L hL => ?_
  simp [C.laws_FnExactPowerLaurent, fO]
  refine hL _ ?_; clear hL L
  simp [C.laws_FnExactPowerLaurent, fO]
  refine hK _ ?_; clear hK K
  show AWp _ _ _ _ _
  refine wseq ?_
  refine wseq ?_
  refine wreg fun K hK => ?_
  simp [C.laws_FnExactPowerLaurent, fO]
  refine hK _ ?_; clear hK K
  show AWp _ _ _ _ _
  refine wcond _ rfl (fun hc1 => ?_) (fun hc1 => ?_)
  · refine wseq ?_
    refine wreg fun K hK => ?_
    simp [C.laws_FnExactPowerLaurent, fO]
    refine hK _ ?_; clear hK K
    show AWp _ _ _ _ _
    refine wret ?_
    simp [C.laws_FnExactPowerLaurent, fO]
  · have hr0 : 0 ≤ r := by have := d_f hc1; omega
    obtain ⟨hl, he⟩ := sz_small (ts := f.ts) hr0 (by omega)
    have hk : cntL cntT f.ts ≤ 1048576 := sz_cnt hr0 (by omega)
    refine wskip ?_
    show AWp _ _ _ _ _
    refine wseq ?_
    refine wregI ([0, 1] ++ ([2, 3] ++ ([4, 5, 6, 7, 8, 9]))) rfl fun K hK => ?_
    refine opsI_seg fun L hL => ?_
    simp [C.laws_FnExactPowerLaurent, fO]
    refine wcall1 (laws_toLaurent_calls f hl he) (by simp) (by simp) ?_
    simp [C.laws_FnExactPowerLaurent, fO]
    refine hL _ ?_; clear hL L
    refine opsI_seg fun L hL => ?_
    simp [C.laws_FnExactPowerLaurent, fO]
    refine wcall1 (hw) (by simp) (by simp) ?_
    simp [C.laws_FnExactPowerLaurent, fO]
    refine hL _ ?_; clear hL L
    refine opsI_end fun L hL => ?_
    simp [C.laws_FnExactPowerLaurent, fO]
    refine hL _ ?_; clear hL L
    simp [C.laws_FnExactPowerLaurent, fO]
    refine hK _ ?_; clear hK K
    show AWp _ _ _ _ _
    refine wseq ?_
    refine wregI ([0, 1] ++ ([2, 3])) rfl fun K hK => ?_
    refine opsI_seg fun L hL => ?_
    simp [C.laws_FnExactPowerLaurent, fO]
    refine wcall1 (laws_toLaurent_calls f hl he) (by simp) (by simp) ?_
    simp [C.laws_FnExactPowerLaurent, fO]
    refine hL _ ?_; clear hL L
    refine opsI_end fun L hL => ?_
    simp [C.laws_FnExactPowerLaurent, fO]
    refine hL _ ?_; clear hL L
    simp [C.laws_FnExactPowerLaurent, fO]
    refine hK _ ?_; clear hK K
    show AWp _ _ _ _ _
    refine wseq ?_
    refine wregI ([0, 1, 2] ++ ([3, 4, 5, 6, 7, 8])) rfl fun K hK => ?_
    refine opsI_seg fun L hL => ?_
    simp [C.laws_FnExactPowerLaurent, fO]
    refine wcall1 (hg) (by simp) (by simp) ?_
    simp [C.laws_FnExactPowerLaurent, fO]
    refine hL _ ?_; clear hL L
    refine opsI_end fun L hL => ?_
    simp [C.laws_FnExactPowerLaurent, fO]
    refine hL _ ?_; clear hL L
    simp [C.laws_FnExactPowerLaurent, fO]
    refine hK _ ?_; clear hK K
    show AWp _ _ _ _ _
    refine wseq ?_
    refine wseq ?_
    refine wregI ([0, 1, 2] ++ ([3, 4, 5, 6, 7, 8])) rfl fun K hK => ?_
    refine opsI_seg fun L hL => ?_
    simp [C.laws_FnExactPowerLaurent, fO]
    refine wcall1 (laws_eqLaurent_calls g g (by omega) (fun t ht => by have := hg2 t ht; omega)) (by simp) (by simp) ?_
    simp [C.laws_FnExactPowerLaurent, fO]
    refine hL _ ?_; clear hL L
    refine opsI_end fun L hL => ?_
    simp [C.laws_FnExactPowerLaurent, fO]
    refine hL _ ?_; clear hL L
    simp [C.laws_FnExactPowerLaurent, fO]
    refine hK _ ?_; clear hK K
    show AWp _ _ _ _ _
    refine wcond _ rfl (fun hc2 => ?_) (fun hc2 => ?_)
    · simp at hc2
    · refine wskip ?_
      show AWp _ _ _ _ _
      refine wseq ?_
      refine wseq ?_
      refine wdrawI [(true, 0), (true, 1), (false, 2), (false, 3), (true, 4)] ⟨by kernel_rfl, by kernel_rfl⟩ ([0, 1, 2] ++ ([3] ++ ([4]))) rfl fun K hK => ?_
      refine opsI_seg fun L hL => ?_
      simp [C.laws_FnExactPowerLaurent, fO]
      refine wcall1 (laws_toLaurent_calls f hl he) (by simp) (by simp) ?_
      simp [C.laws_FnExactPowerLaurent, fO]
      refine hL _ ?_; clear hL L
      refine opsI_seg fun L hL => ?_
      simp [C.laws_FnExactPowerLaurent, fO]
      refine wcall1 (laws_eqLaurent_calls f f hx hxe) (by simp) (by simp) ?_
      simp [C.laws_FnExactPowerLaurent, fO]
      refine hL _ ?_; clear hL L
      refine opsI_end fun L hL => ?_
      simp [C.laws_FnExactPowerLaurent, fO]
      refine hL _ ?_; clear hL L
      simp [C.laws_FnExactPowerLaurent, fO]
      refine hK _ ?_; clear hK K
      show AWp _ _ _ _ _
      refine wcond _ rfl (fun hc3 => ?_) (fun hc3 => ?_)
      · simp at hc3
      · refine wskip ?_
        show AWp _ _ _ _ _
        refine wseq ?_
        refine wreg fun K hK => ?_
        simp [C.laws_FnExactPowerLaurent, fO]
        refine hK _ ?_; clear hK K
        show AWp _ _ _ _ _
        refine wseq ?_
        refine wregI ([0, 1, 2] ++ ([3])) rfl fun K hK => ?_
        refine opsI_seg fun L hL => ?_
        simp [C.laws_FnExactPowerLaurent, fO]
        refine wcall1 (laws_markLaurent_calls f 1 (by omega) (by omega) hx) (by simp) (by simp) ?_
        simp [C.laws_FnExactPowerLaurent, fO]
        refine hL _ ?_; clear hL L
        refine opsI_end fun L hL => ?_
        simp [C.laws_FnExactPowerLaurent, fO]
        refine hL _ ?_; clear hL L
        simp [C.laws_FnExactPowerLaurent, fO]
        refine hK _ ?_; clear hK K
        show AWp _ _ _ _ _
        refine wseq ?_
        refine wseq ?_
        refine wregI ([0, 1, 2, 3, 4, 5] ++ ([6, 7, 8, 9, 10, 11, 12])) rfl fun K hK => ?_
        refine opsI_seg fun L hL => ?_
        simp [C.laws_FnExactPowerLaurent, fO, show (0 : Int) ≤ 1 + (cntL cntT f.ts : Nat) by omega, show ¬ ((1 : Int) + (cntL cntT f.ts : Nat) < 0) by omega]
        refine wcall1 (laws_eqLaurent_calls g g (by omega) (fun t ht => by have := hg2 t ht; omega)) (by simp) (by simp) ?_
        simp [C.laws_FnExactPowerLaurent, fO, show (0 : Int) ≤ 1 + (cntL cntT f.ts : Nat) by omega, show ¬ ((1 : Int) + (cntL cntT f.ts : Nat) < 0) by omega]
        refine hL _ ?_; clear hL L
        refine opsI_end fun L hL => ?_
        simp [C.laws_FnExactPowerLaurent, fO, show (0 : Int) ≤ 1 + (cntL cntT f.ts : Nat) by omega, show ¬ ((1 : Int) + (cntL cntT f.ts : Nat) < 0) by omega]
        refine hL _ ?_; clear hL L
        simp [C.laws_FnExactPowerLaurent, fO, show (0 : Int) ≤ 1 + (cntL cntT f.ts : Nat) by omega, show ¬ ((1 : Int) + (cntL cntT f.ts : Nat) < 0) by omega]
        refine hK _ ?_; clear hK K
        show AWp _ _ _ _ _
        refine wcond _ rfl (fun hc4 => ?_) (fun hc4 => ?_)
        · simp at hc4
        · refine wskip ?_
          show AWp _ _ _ _ _
          refine wseq ?_
          refine wreg fun K hK => ?_
          simp [C.laws_FnExactPowerLaurent, fO]
          refine hK _ ?_; clear hK K
          show AWp _ _ _ _ _
          refine wseq ?_
          refine wregI ([0, 1, 2] ++ ([3])) rfl fun K hK => ?_
          refine opsI_seg fun L hL => ?_
          simp [C.laws_FnExactPowerLaurent, fO]
          refine wcall1 (laws_markLaurent_calls g 1 (by omega) (by omega) (by omega)) (by simp) (by simp) ?_
          simp [C.laws_FnExactPowerLaurent, fO]
          refine hL _ ?_; clear hL L
          refine opsI_end fun L hL => ?_
          simp [C.laws_FnExactPowerLaurent, fO]
          refine hL _ ?_; clear hL L
          simp [C.laws_FnExactPowerLaurent, fO]
          refine hK _ ?_; clear hK K
          show AWp _ _ _ _ _
          refine wseq ?_
          refine wreg fun K hK => ?_
          simp [C.laws_FnExactPowerLaurent, fO]
          refine hK _ ?_; clear hK K
          show AWp _ _ _ _ _
          refine wseq ?_
          refine wregI ([0, 1, 2] ++ ([3])) rfl fun K hK => ?_
          refine opsI_seg fun L hL => ?_
          simp [C.laws_FnExactPowerLaurent, fO]
          refine wcall1 (laws_heldLaurent_calls g.v g.ts 1 (by omega) (by omega) (by omega)) (by simp) (by simp) ?_
          simp [C.laws_FnExactPowerLaurent, fO]
          refine hL _ ?_; clear hL L
          refine opsI_end fun L hL => ?_
          simp [C.laws_FnExactPowerLaurent, fO]
          refine hL _ ?_; clear hL L
          simp [C.laws_FnExactPowerLaurent, fO]
          refine hK _ ?_; clear hK K
          show AWp _ _ _ _ _
          refine wseq ?_
          refine wseq ?_
          refine wreg fun K hK => ?_
          simp [C.laws_FnExactPowerLaurent, fO]
          refine hK _ ?_; clear hK K
          show AWp _ _ _ _ _
          refine wcond _ rfl (fun hc5 => ?_) (fun hc5 => ?_)
          · have := d_t hc5; omega
          · refine wskip ?_
            show AWp _ _ _ _ _
            refine wseq ?_
            refine wseq ?_
            refine wreg fun K hK => ?_
            simp [C.laws_FnExactPowerLaurent, fO]
            refine hK _ ?_; clear hK K
            show AWp _ _ _ _ _
            refine wcond _ rfl (fun hc6 => ?_) (fun hc6 => ?_)
            · simp at hc6
            · refine wskip ?_
              show AWp _ _ _ _ _
              refine wseq ?_
              refine wregI ([0, 1] ++ ([2, 3] ++ ([4, 5, 6, 7, 8, 9]))) rfl fun K hK => ?_
              refine opsI_seg fun L hL => ?_
              simp [C.laws_FnExactPowerLaurent, fO]
              refine wcall1 (laws_toLaurent_calls f hl he) (by simp) (by simp) ?_
              simp [C.laws_FnExactPowerLaurent, fO]
              refine hL _ ?_; clear hL L
              refine opsI_seg fun L hL => ?_
              simp [C.laws_FnExactPowerLaurent, fO]
              refine wcall1 (hg) (by simp) (by simp) ?_
              simp [C.laws_FnExactPowerLaurent, fO]
              refine hL _ ?_; clear hL L
              refine opsI_end fun L hL => ?_
              simp [C.laws_FnExactPowerLaurent, fO]
              refine hL _ ?_; clear hL L
              simp [C.laws_FnExactPowerLaurent, fO]
              refine hK _ ?_; clear hK K
              show AWp _ _ _ _ _
              refine wseq ?_
              refine wseq ?_
              refine wregI ([0, 1, 2] ++ ([3, 4, 5, 6, 7, 8])) rfl fun K hK => ?_
              refine opsI_seg fun L hL => ?_
              simp [C.laws_FnExactPowerLaurent, fO]
              refine wcall1 (laws_eqLaurent_calls g g (by omega) (fun t ht => by have := hg2 t ht; omega)) (by simp) (by simp) ?_
              simp [C.laws_FnExactPowerLaurent, fO]
              refine hL _ ?_; clear hL L
              refine opsI_end fun L hL => ?_
              simp [C.laws_FnExactPowerLaurent, fO]
              refine hL _ ?_; clear hL L
              simp [C.laws_FnExactPowerLaurent, fO]
              refine hK _ ?_; clear hK K
              show AWp _ _ _ _ _
              refine wcond _ rfl (fun hc7 => ?_) (fun hc7 => ?_)
              · simp at hc7
              · refine wskip ?_
                show AWp _ _ _ _ _
                refine wseq ?_
                refine wreg fun K hK => ?_
                simp [C.laws_FnExactPowerLaurent, fO]
                refine hK _ ?_; clear hK K
                show AWp _ _ _ _ _
                refine wseq ?_
                refine wregI ([0, 1, 2] ++ ([3])) rfl fun K hK => ?_
                refine opsI_seg fun L hL => ?_
                simp [C.laws_FnExactPowerLaurent, fO]
                refine wcall1 (laws_heldLaurent_calls g.v g.ts 1 (by omega) (by omega) (by omega)) (by simp) (by simp) ?_
                simp [C.laws_FnExactPowerLaurent, fO]
                refine hL _ ?_; clear hL L
                refine opsI_end fun L hL => ?_
                simp [C.laws_FnExactPowerLaurent, fO]
                refine hL _ ?_; clear hL L
                simp [C.laws_FnExactPowerLaurent, fO]
                refine hK _ ?_; clear hK K
                show AWp _ _ _ _ _
                refine wseq ?_
                refine wseq ?_
                refine wreg fun K hK => ?_
                simp [C.laws_FnExactPowerLaurent, fO]
                refine hK _ ?_; clear hK K
                show AWp _ _ _ _ _
                refine wcond _ rfl (fun hc8 => ?_) (fun hc8 => ?_)
                · have := d_t hc8; omega
                · refine wskip ?_
                  show AWp _ _ _ _ _
                  refine wseq ?_
                  refine wseq ?_
                  refine wreg fun K hK => ?_
                  simp [C.laws_FnExactPowerLaurent, fO]
                  refine hK _ ?_; clear hK K
                  show AWp _ _ _ _ _
                  refine wcond _ rfl (fun hc9 => ?_) (fun hc9 => ?_)
                  · simp at hc9
                  · refine wskip ?_
                    show AWp _ _ _ _ _
                    refine wseq ?_
                    refine wreg fun K hK => ?_
                    simp [C.laws_FnExactPowerLaurent, fO]
                    refine hK _ ?_; clear hK K
                    show AWp _ _ _ _ _
                    refine wret ?_
                    simp [C.laws_FnExactPowerLaurent, fO]

end Go.Proofs.Ytdgeponcnlkaiaa.Ab
namespace Go.Proofs.Ytdgeponcnlkaiaa.Ab
open Go
set_option linter.unusedSimpArgs false
set_option linter.unusedVariables false
set_option maxRecDepth 10000
set_option maxHeartbeats 2000000
theorem cmpL_zero : ∀ (a b : List Int), cmpL a b = 0 ↔ a = b
  | [], [] => by simp [cmpL]
  | [], _ :: _ => by simp [cmpL]
  | _ :: _, [] => by simp [cmpL]
  | a :: x, b :: y => by
    have ih := cmpL_zero x y
    by_cases h : a = b
    · simp [cmpL, h, ih]
    · by_cases h2 : a < b
      · simp [cmpL, h, h2]
      · simp [cmpL, h, h2]
def cmpQ (a : List Int) (ah : Int) (b : List Int) (bh : Int) : Int := if cmpL b a = 0 then cmpI bh ah else cmpL b a
theorem cmpQ_pos (a : List Int) (ah : Int) (b : List Int) (bh : Int) : decide (0 ≤ cmpQ a ah b bh) = !qlt (b, bh) (a, ah) := by
  have hn := cmpL_neg b a
  have hz := cmpL_zero b a
  unfold cmpQ qlt
  by_cases h : b = a
  · rw [if_pos (hz.2 h)]
    simp only [h, if_true]
    unfold cmpI
    by_cases h1 : bh < ah
    · simp [h1]
    · by_cases h2 : ah < bh <;> simp [h1, h2]
  · have : ¬ cmpL b a = 0 := fun e => h (hz.1 e)
    rw [if_neg this]
    simp only [h, if_false]
    rw [← hn]
    by_cases q : cmpL b a < 0
    · simp [q]
    · simp [q]
      omega
def qk (t : Qtm) : List Int × Int := (t.e, t.h)
def QGood (v : Int) (t : Qtm) : Prop := (t.e.length : Int) = v ∧ t.c ≠ 0 ∧ (-1000000 ≤ t.c ∧ t.c ≤ 1000000) ∧ (-200 ≤ t.h ∧ t.h ≤ 200) ∧ ∀ x ∈ t.e, -20 ≤ x ∧ x ≤ 20
def DescQ (ts : List Qtm) : Prop := ts.Pairwise fun a b => qlt (qk b) (qk a) = true
def QRight (f : Qsm) : Prop := (1 ≤ f.v ∧ f.v ≤ 8) ∧ f.ts.length ≤ 600 ∧ (∀ t ∈ f.ts, QGood f.v t) ∧ DescQ f.ts
noncomputable instance (f : Qsm) : Decidable (QRight f) := Classical.propDecidable _
def zeroQ : Qsm := ⟨0, []⟩
theorem descQ_snoc {ts : List Qtm} {t : Qtm} (h : DescQ ts) (hl : ∀ x, ts.getLast? = some x → qlt (qk t) (qk x) = true) : DescQ (ts ++ [t]) := by
  unfold DescQ at *
  rw [List.pairwise_append]
  refine ⟨h, List.pairwise_singleton _ _, fun a ha b hb => ?_⟩
  simp only [List.mem_singleton] at hb
  subst hb
  rcases List.eq_nil_or_concat ts with rfl | ⟨l, x, rfl⟩
  · simp at ha
  · have hx := hl x (by simp)
    simp only [List.concat_eq_append] at ha h
    rcases List.mem_append.1 ha with ha | ha
    · have := (List.pairwise_append.1 h).2.2 a ha x (by simp)
      exact qOrd.tr _ _ _ hx this
    · simp only [List.mem_singleton] at ha
      rw [ha]
      exact hx
theorem descQ_step {ts : List Qtm} {j : Nat} (h1 : j < ts.length) (h : DescQ (ts.take j)) (hl : j = 0 ∨ qlt (qk ts[j]) (qk ts[j - 1]) = true) : DescQ (ts.take (j + 1)) := by
  rw [List.take_succ_eq_append_getElem h1]
  refine descQ_snoc h fun x hx => ?_
  rcases hl with rfl | hl
  · simp at hx
  · rcases Nat.eq_zero_or_pos j with rfl | hj
    · simp at hx
    · rw [List.getLast?_eq_getElem?] at hx
      simp only [List.length_take, List.getElem?_take] at hx
      rw [Nat.min_eq_left (by omega), if_pos (by omega), List.getElem?_eq_getElem (by omega)] at hx
      injection hx with hx
      rw [← hx]
      exact hl
theorem descQ_next {ts : List Qtm} {j : Nat} (h1 : j < ts.length) (h : DescQ ts) : j = 0 ∨ qlt (qk ts[j]) (qk ts[j - 1]) = true := by
  rcases Nat.eq_zero_or_pos j with rfl | hj
  · exact .inl rfl
  · right
    exact List.pairwise_iff_getElem.1 h (j - 1) j (by omega) h1 (by omega)
theorem szQ_small2 {ts : List Qtm} {r : Int} (h0 : 0 ≤ r) (h : r + szQT ts ≤ 1048576) : ts.length ≤ 1048576 ∧ ∀ t ∈ ts, t.e.length ≤ 1048576 := by
  unfold szQT at h
  refine ⟨by omega, fun t ht => ?_⟩
  have : t.e.length ≤ cntL (fun t : Qtm => t.e.length) ts := by
    clear h
    induction ts with
    | nil => simp at ht
    | cons x ts ih =>
      simp only [cntL]
      rcases List.mem_cons.1 ht with rfl | ht
      · omega
      · have := ih ht; omega
  omega
theorem szQ_cnt2 {ts : List Qtm} {r : Int} (h0 : 0 ≤ r) (h : r + szQT ts ≤ 1048576) : cntL cntQT ts ≤ 3145728 := by
  have : ∀ ts : List Qtm, cntL cntQT ts = cntL (fun t : Qtm => t.e.length) ts + 2 * ts.length := fun ts => by
    induction ts with
    | nil => rfl
    | cons x ts ih =>
      simp only [cntL, cntQT, List.length_cons] at ih ⊢
      omega
  rw [this]
  unfold szQT at h
  omega

theorem orI : ∀ (xs : List Int) (k : Nat) (h1 : k < xs.length), (∀ x ∈ xs.take k, x = 0) → xs[k] ≠ 0 → (xs.find? (fun x => x ≠ 0)).getD 0 = xs[k]
  | x :: xs, 0, _, _, h => by simpa using by simp [show x ≠ 0 from h]
  | x :: xs, k + 1, h1, ht, h => by
    have hx : x = 0 := ht x (by simp)
    have := orI xs k (by simpa using h1) (fun y hy => ht y (by simp [hy])) (by simpa using h)
    simpa [hx] using this
theorem cmp_Or_int_calls (xs : List Int) (hx : xs.length < 4611686018427387904) : ACalls Try.prog F.cmp_Or_int [.d (shI xs)] [] true (fun outs res => outs = [] ∧ res = [.one (D.int ((xs.find? (fun x => x ≠ 0)).getD 0))]) := by
  refine ACalls.of_body (C := C.cmp_Or_int) (n := Try.f216.ntmps) tabT folT Try.func216 rfl (by kernel_rfl) rfl (Nat.le_of_ble_eq_true rfl) (by decide) (by kernel_rfl) (by kernel_rfl) rfl (by simp) (by simp) ?_
  simp only [Try.f216]
  refine wseq ?_
  refine wreg fun K hK => ?_
  simp [C.cmp_Or_int]
  refine hK _ ?_; clear hK K
  show AWp _ _ _ _ _
  refine wseq ?_
  refine wreg fun K hK => ?_
  simp [C.cmp_Or_int]
  refine hK _ ?_; clear hK K
  show AWp _ _ _ _ _
  refine wseq ?_
  refine wseq ?_
  refine wreg fun K hK => ?_
  simp [C.cmp_Or_int]
  refine hK _ ?_; clear hK K
  show AWp _ _ _ _ _
  refine wblock ?_
  refine wloop (fun k : Nat => ⟨ofL [(3, .int 0), (6, .d (shI xs)), (7, .int xs.length), (8, FV.int k)], ofRO []⟩) (fun k => k ≤ xs.length ∧ ∀ x ∈ xs.take k, x = 0) (fun k => xs.length - k) 0 (by simp [C.cmp_Or_int]) (by simp) ?_
  intro x1 hx1 R1 hR1
  obtain ⟨hk, ht⟩ := hx1
  refine wseq ?_
  refine wreg fun K hK => ?_
  simp [C.cmp_Or_int]
  refine hK _ ?_; clear hK K
  show AWp _ _ _ _ _
  refine wseq ?_
  refine wcond _ rfl (fun hc1 => ?_) (fun hc1 => ?_)
  · have h1 : x1 < xs.length := by have := d_t hc1; omega
    refine wskip ?_
    show AWp _ _ _ _ _
    refine wseq ?_
    refine wblock ?_
    refine wseq ?_
    refine wreg fun K hK => ?_
    simp [C.cmp_Or_int, get_ints, h1]
    refine hK _ ?_; clear hK K
    show AWp _ _ _ _ _
    refine wseq ?_
    refine wreg fun K hK => ?_
    simp [C.cmp_Or_int]
    refine hK _ ?_; clear hK K
    show AWp _ _ _ _ _
    refine wcond _ rfl (fun hc2 => ?_) (fun hc2 => ?_)
    · have h2 : xs[x1] ≠ 0 := by simpa using hc2
      refine wseq ?_
      refine wreg fun K hK => ?_
      simp [C.cmp_Or_int]
      refine hK _ ?_; clear hK K
      show AWp _ _ _ _ _
      refine wret ?_
      simp [C.cmp_Or_int]
      have := orI xs x1 h1 ht h2
      simpa using this.symm
    · have h2 : xs[x1] = 0 := by simpa using hc2
      refine wskip ?_
      show AWp _ _ _ _ _
      refine wreg fun K hK => ?_
      simp [C.cmp_Or_int, wrap_succ (show x1 < 4611686018427387904 by omega)]
      refine hK _ ?_; clear hK K
      simp [C.cmp_Or_int]
      refine hR1 (x1 + 1) ⟨h1, ?_⟩ (by omega)
      rw [List.take_succ_eq_append_getElem h1]
      intro x hx
      rcases List.mem_append.1 hx with hx | hx
      · exact ht x hx
      · simp only [List.mem_singleton] at hx
        rw [hx, h2]
  · have h1 : x1 = xs.length := by have := d_f hc1; omega
    rw [h1, List.take_length] at ht
    refine wexit ?_
    show AWp _ _ _ _ _
    refine wseq ?_
    refine wreg fun K hK => ?_
    simp [C.cmp_Or_int]
    refine hK _ ?_; clear hK K
    show AWp _ _ _ _ _
    refine wret ?_
    simp [C.cmp_Or_int]
    rw [List.find?_eq_none.2 (fun x hx => by simp [ht x hx])]
    rfl
theorem or2 (a b : Int) : ACalls Try.prog F.cmp_Or_int [.d (.sh 1 2 [D.int a, D.int b])] [] true (fun outs res => outs = [] ∧ res = [.one (D.int (([a, b].find? (fun x => x ≠ 0)).getD 0))]) := cmp_Or_int_calls [a, b] (by simp)

theorem impl_descending_calls (a : List Int) (ah : Int) (b : List Int) (bh : Int) (ha : b.length < 4611686018427387904) : ACalls Try.prog F.impl_descending [.d (shI a), .int ah, .d (shI b), .int bh] [] true (fun outs res => outs = [] ∧ res = [.one (D.int (cmpQ a ah b bh))]) := by
  refine ACalls.of_body (C := C.impl_descending) (n := Try.f160.ntmps) tabT folT Try.func160 rfl (by kernel_rfl) rfl (Nat.le_of_ble_eq_true rfl) (by decide) (by kernel_rfl) (by kernel_rfl) rfl (by simp) (by simp) ?_
  simp only [Try.f160]
  refine wseq ?_
  refine wreg fun K hK => ?_
  simp [C.impl_descending]
  refine hK _ ?_; clear hK K
  show AWp _ _ _ _ _
  refine wseq ?_
  refine wregI ([0, 1, 2] ++ ([3, 4, 5] ++ ([6, 7] ++ ([8])))) rfl fun K hK => ?_
  refine opsI_seg fun L hL => ?_
  simp [C.impl_descending]
  refine wcall1 (slices_Compare_int_int_calls b a ha) (by simp) (by simp) ?_
  simp [C.impl_descending]
  refine hL _ ?_; clear hL L
  refine opsI_seg fun L hL => ?_
  simp [C.impl_descending]
  refine wcall1 (cmp_Compare_int_calls bh ah) (by simp) (by simp) ?_
  simp [C.impl_descending]
  refine hL _ ?_; clear hL L
  refine opsI_seg fun L hL => ?_
  simp [C.impl_descending]
  refine wcall1 (or2 (cmpL b a) (cmpI bh ah)) (by simp) (by simp) ?_
  simp [C.impl_descending]
  refine hL _ ?_; clear hL L
  refine opsI_end fun L hL => ?_
  simp [C.impl_descending]
  refine hL _ ?_; clear hL L
  simp [C.impl_descending]
  refine hK _ ?_; clear hK K
  show AWp _ _ _ _ _
  refine wret ?_
  simp [C.impl_descending]
  simp only [cmpQ]
  by_cases h : cmpL b a = 0
  · by_cases h2 : cmpI bh ah = 0 <;> simp [h, h2]
  · simp [h]

theorem spec_l8Less_calls (a b : Qtm) (ha : a.e.length < 4611686018427387904) (hb : b.e.length < 4611686018427387904) : ACalls Try.prog F.spec_l8Less [aQT a, aQT b] [] true (fun outs res => outs = [] ∧ res = [.one (D.bool (qlt (qk b) (qk a)))]) := by
  refine ACalls.of_body (C := C.spec_l8Less) (n := Try.f201.ntmps) tabT folT Try.func201 rfl (by kernel_rfl) rfl (Nat.le_of_ble_eq_true rfl) (by decide) (by kernel_rfl) (by kernel_rfl) rfl (by simp) (by simp) ?_
  simp only [Try.f201]
  refine wseq ?_
  refine wreg fun K hK => ?_
  simp [C.spec_l8Less]
  refine hK _ ?_; clear hK K
  show AWp _ _ _ _ _
  refine wseq ?_
  refine wseq ?_
  refine wregI ([0, 1, 2, 3, 4] ++ ([5])) rfl fun K hK => ?_
  refine opsI_seg fun L hL => ?_
  simp [C.spec_l8Less]
  refine wcall1 (spec_l1Same_calls a.e b.e ha) (by simp) (by simp) ?_
  simp [C.spec_l8Less]
  refine hL _ ?_; clear hL L
  refine opsI_end fun L hL => ?_
  simp [C.spec_l8Less]
  refine hL _ ?_; clear hL L
  simp [C.spec_l8Less]
  refine hK _ ?_; clear hK K
  show AWp _ _ _ _ _
  refine wcond _ rfl (fun hc1 => ?_) (fun hc1 => ?_)
  · have hc := nd_t hc1
    refine wseq ?_
    refine wregI ([0, 1, 2, 3, 4] ++ ([5])) rfl fun K hK => ?_
    refine opsI_seg fun L hL => ?_
    simp [C.spec_l8Less]
    refine wcall1 (spec_l1Less_calls b.e a.e hb) (by simp) (by simp) ?_
    simp [C.spec_l8Less]
    refine hL _ ?_; clear hL L
    refine opsI_end fun L hL => ?_
    simp [C.spec_l8Less]
    refine hL _ ?_; clear hL L
    simp [C.spec_l8Less]
    refine hK _ ?_; clear hK K
    show AWp _ _ _ _ _
    refine wret ?_
    simp [C.spec_l8Less, qlt, qk, Ne.symm hc]
  · have hc := nd_f hc1
    refine wskip ?_
    show AWp _ _ _ _ _
    refine wseq ?_
    refine wreg fun K hK => ?_
    simp [C.spec_l8Less]
    refine hK _ ?_; clear hK K
    show AWp _ _ _ _ _
    refine wret ?_
    simp [C.spec_l8Less, qlt, qk, hc]

end Go.Proofs.Ytdgeponcnlkaiaa.Ab
namespace Go.Proofs.Ytdgeponcnlkaiaa.Ab
open Go
set_option linter.unusedSimpArgs false
set_option linter.unusedVariables false
set_option maxRecDepth 10000
set_option maxHeartbeats 2000000
theorem spec_QSumOk_calls (f : Qsm) (hx : f.ts.length < 4611686018427387904) (hxe : ∀ t ∈ f.ts, t.e.length < 4611686018427387904) : ACalls Try.prog F.spec_QSumOk [aQ f] [] true (fun outs res => outs = [] ∧ res = [.one (D.bool (decide (QRight f)))]) := by
  refine ACalls.of_body (C := C.spec_QSumOk) (n := Try.f120.ntmps) tabT folT Try.func120 rfl (by kernel_rfl) rfl (Nat.le_of_ble_eq_true rfl) (by decide) (by kernel_rfl) (by kernel_rfl) rfl (by simp) (by simp) ?_
  simp only [Try.f120]
  refine wseq ?_
  refine wreg fun K hK => ?_
  simp [C.spec_QSumOk, qS, qtS]
  refine hK _ ?_; clear hK K
  show AWp _ _ _ _ _
  refine wseq ?_
  refine wseq ?_
  refine wregI ([0, 1, 2] ++ ([3, 4, 5, 6, 7, 8, 9])) rfl fun K hK => ?_
  have hJ : K ⟨ofL [(1, .pt (1, 0) [] 0), (15, .bool (decide (¬ (1 ≤ f.v ∧ f.v ≤ 8) ∨ 600 < (f.ts.length : Int))))], ofRO [((1, 0), some (.bx (qS f)))]⟩ := by
    refine hK _ ?_; clear hK K
    show AWp _ _ _ _ _
    refine wcond _ rfl (fun hc1 => ?_) (fun hc1 => ?_)
    · have hh := d_t hc1
      refine wseq ?_
      refine wreg fun K hK => ?_
      simp [C.spec_QSumOk, qS, qtS]
      refine hK _ ?_; clear hK K
      show AWp _ _ _ _ _
      refine wret ?_
      simp [C.spec_QSumOk, qS, qtS]
      intro hr; have := hr.1; have := hr.2.1; omega
    · have hh0 := d_f hc1
      have hh : (1 ≤ f.v ∧ f.v ≤ 8) ∧ f.ts.length ≤ 600 := by omega
      refine wskip ?_
      show AWp _ _ _ _ _
      refine wseq ?_
      refine wseq ?_
      refine wreg fun K hK => ?_
      simp [C.spec_QSumOk, qS, qtS]
      refine hK _ ?_; clear hK K
      show AWp _ _ _ _ _
      refine wblock ?_
      refine wloop (fun k : Nat => ⟨ofL [(1, .pt (1, 0) [] 0), (3, .int k)], ofRO [((1, 0), some (.bx (qS f)))]⟩) (fun k => k ≤ f.ts.length ∧ (∀ t ∈ f.ts.take k, QGood f.v t) ∧ DescQ (f.ts.take k)) (fun k => f.ts.length - k) 0 (by simp [C.spec_QSumOk, qS]) (by simp [DescQ]) ?_
      intro x1 hx1 R1 hR1
      obtain ⟨hk, hgood, hdesc⟩ := hx1
      refine wseq ?_
      refine wseq ?_
      refine wreg fun K hK => ?_
      simp [C.spec_QSumOk, qS, qtS]
      refine hK _ ?_; clear hK K
      show AWp _ _ _ _ _
      refine wcond _ rfl (fun hc2 => ?_) (fun hc2 => ?_)
      · have h1 : x1 < f.ts.length := by simpa using hc2
        refine wskip ?_
        show AWp _ _ _ _ _
        refine wseq ?_
        refine wblock ?_
        refine wseq ?_
        refine wreg fun K hK => ?_
        simp [C.spec_QSumOk, qS, qtS, h1, qtS_0 h1, qtS_1 h1, qtS_2 h1]
        refine hK _ ?_; clear hK K
        show AWp _ _ _ _ _
        refine wseq ?_
        refine wseq ?_
        have hp : 0 < x1 → x1 - 1 < f.ts.length := by omega
        refine wdrawI [(true, 0), (true, 1), (true, 2), (true, 3), (true, 4), (true, 5), (true, 6), (true, 7), (true, 8), (true, 9), (true, 10), (true, 11), (true, 12), (true, 13), (false, 14), (true, 15), (true, 16), (true, 17), (true, 18), (true, 19), (false, 20), (true, 21), (true, 22), (true, 23), (true, 24), (true, 25), (true, 26), (true, 27), (true, 28), (true, 29), (true, 30), (true, 31), (true, 32), (true, 33), (false, 34), (true, 35), (true, 36), (true, 37)] ⟨by kernel_rfl, by kernel_rfl⟩ ([0, 1, 2, 3, 4, 5, 6, 7, 8, 9, 10, 11, 12, 13, 14] ++ ([15, 16, 17, 18, 19, 20] ++ ([21, 22, 23, 24, 25, 26, 27, 28, 29, 30, 31, 32, 33, 34] ++ ([35, 36, 37])))) rfl fun K hK => ?_
        have hJ : K ⟨ofL [(1, .pt (1, 0) [] 0), (3, .int x1), (4, .pt (4, 0) [] 0), (65, .bool (!decide ((f.ts[x1].e.length : Int) = f.v ∧ f.ts[x1].c ≠ 0 ∧ (-1000000 ≤ f.ts[x1].c ∧ f.ts[x1].c ≤ 1000000) ∧ (-200 ≤ f.ts[x1].h ∧ f.ts[x1].h ≤ 200) ∧ (x1 = 0 ∨ qlt (qk f.ts[x1]) (qk f.ts[x1 - 1]) = true))))], ofRO [((1, 0), some (.bx (qS f))), ((4, 0), some (.bx (qtS f.ts[x1])))]⟩ := by
          refine hK _ ?_; clear hK K
          show AWp _ _ _ _ _
          refine wcond _ rfl (fun hc3 => ?_) (fun hc3 => ?_)
          · have hb := nd_t hc3
            refine wseq ?_
            refine wreg fun K hK => ?_
            simp [C.spec_QSumOk, qS, qtS]
            refine hK _ ?_; clear hK K
            show AWp _ _ _ _ _
            refine wret ?_
            simp [C.spec_QSumOk, qS, qtS]
            intro hr
            have hg := hr.2.2.1 _ (List.getElem_mem h1)
            exact hb ⟨hg.1, hg.2.1, hg.2.2.1, hg.2.2.2.1, descQ_next h1 hr.2.2.2⟩
          · have hb := nd_f hc3
            refine wskip ?_
            show AWp _ _ _ _ _
            refine wseq ?_
            refine wreg fun K hK => ?_
            simp [C.spec_QSumOk, qS, qtS]
            refine hK _ ?_; clear hK K
            show AWp _ _ _ _ _
            refine wblock ?_
            refine wloop (fun i : Nat => ⟨ofL [(1, .pt (1, 0) [] 0), (3, .int x1), (4, .pt (4, 0) [] 0), (5, .int i)], ofRO [((1, 0), some (.bx (qS f))), ((4, 0), some (.bx (qtS f.ts[x1])))]⟩) (fun i => i ≤ f.ts[x1].e.length ∧ ∀ x ∈ f.ts[x1].e.take i, -20 ≤ x ∧ x ≤ 20) (fun i => f.ts[x1].e.length - i) 0 (by simp [C.spec_QSumOk, qS, qtS]) (by simp) ?_
            intro x2 hx2 R2 hR2
            obtain ⟨hi, hin⟩ := hx2
            refine wseq ?_
            refine wseq ?_
            refine wreg fun K hK => ?_
            simp [C.spec_QSumOk, qS, qtS]
            refine hK _ ?_; clear hK K
            show AWp _ _ _ _ _
            refine wcond _ rfl (fun hc4 => ?_) (fun hc4 => ?_)
            · have h2 : x2 < f.ts[x1].e.length := by have := d_t hc4; omega
              refine wskip ?_
              show AWp _ _ _ _ _
              refine wseq ?_
              refine wblock ?_
              refine wseq ?_
              refine wregI ([0, 1, 2, 3, 4, 5] ++ ([6])) rfl fun K hK => ?_
              refine opsI_seg fun L hL => ?_
              simp [C.spec_QSumOk, qS, qtS, h1, h2, get_ints]
              refine wcall1 (spec_l1In_calls f.ts[x1].e[x2] (-20) 20) (by simp) (by simp) ?_
              simp [C.spec_QSumOk, qS, qtS, h1, h2, get_ints]
              refine hL _ ?_; clear hL L
              refine opsI_end fun L hL => ?_
              simp [C.spec_QSumOk, qS, qtS, h1, h2, get_ints]
              refine hL _ ?_; clear hL L
              simp [C.spec_QSumOk, qS, qtS, h1, h2, get_ints]
              refine hK _ ?_; clear hK K
              show AWp _ _ _ _ _
              refine wcond _ rfl (fun hc5 => ?_) (fun hc5 => ?_)
              · have hb2 : ¬ (-20 ≤ f.ts[x1].e[x2] ∧ f.ts[x1].e[x2] ≤ 20) := by simp at hc5; omega
                refine wseq ?_
                refine wreg fun K hK => ?_
                simp [C.spec_QSumOk, qS, qtS]
                refine hK _ ?_; clear hK K
                show AWp _ _ _ _ _
                refine wret ?_
                simp [C.spec_QSumOk, qS, qtS]
                intro hr
                exact hb2 ((hr.2.2.1 _ (List.getElem_mem h1)).2.2.2.2 _ (List.getElem_mem h2))
              · have hb2 : -20 ≤ f.ts[x1].e[x2] ∧ f.ts[x1].e[x2] ≤ 20 := by simpa using hc5
                refine wskip ?_
                show AWp _ _ _ _ _
                refine wreg fun K hK => ?_
                simp [C.spec_QSumOk, qS, qtS, wrap_succ (show x2 < 4611686018427387904 by have := hxe _ (List.getElem_mem h1); omega)]
                refine hK _ ?_; clear hK K
                simp [C.spec_QSumOk, qS, qtS]
                refine hR2 (x2 + 1) ⟨h2, ?_⟩ (by omega)
                rw [List.take_succ_eq_append_getElem h2]
                intro x hx
                rcases List.mem_append.1 hx with hx | hx
                · exact hin x hx
                · simp only [List.mem_singleton] at hx
                  rw [hx]
                  exact hb2
            · have h2 : x2 = f.ts[x1].e.length := by have := d_f hc4; omega
              refine wexit ?_
              show AWp _ _ _ _ _
              refine wreg fun K hK => ?_
              simp [C.spec_QSumOk, qS, qtS, wrap_succ (show x1 < 4611686018427387904 by omega)]
              refine hK _ ?_; clear hK K
              simp [C.spec_QSumOk, qS, qtS]
              refine hR1 (x1 + 1) ⟨h1, ?_, descQ_step h1 hdesc hb.2.2.2.2⟩ (by omega)
              rw [List.take_succ_eq_append_getElem h1]
              intro t ht
              rcases List.mem_append.1 ht with ht | ht
              · exact hgood t ht
              · simp only [List.mem_singleton] at ht
                rw [ht]
                refine ⟨hb.1, hb.2.1, hb.2.2.1, hb.2.2.2.1, ?_⟩
                rw [h2, List.take_length] at hin
                exact hin
        clear hK
        by_cases ha : (f.ts[x1].e.length : Int) = f.v
        · by_cases hb : f.ts[x1].c = 0
          · refine opsI_seg fun L hL => ?_
            simp [C.spec_QSumOk, qS, qtS, ha, hb]
            refine hL _ ?_; clear hL L
            refine opsI_seg fun L hL => ?_
            simp [C.spec_QSumOk, qS, qtS, ha, hb]
            refine hL _ ?_; clear hL L
            refine opsI_seg fun L hL => ?_
            simp [C.spec_QSumOk, qS, qtS, ha, hb]
            refine hL _ ?_; clear hL L
            refine opsI_end fun L hL => ?_
            simp [C.spec_QSumOk, qS, qtS, ha, hb]
            refine hL _ ?_; clear hL L
            simp [C.spec_QSumOk, qS, qtS, ha, hb]
            refine cast (congrArg K ?_) hJ
            simp [qS, qtS, ha, hb]
          · by_cases hc : -1000000 ≤ f.ts[x1].c ∧ f.ts[x1].c ≤ 1000000
            · by_cases he : -200 ≤ f.ts[x1].h ∧ f.ts[x1].h ≤ 200
              · by_cases hd : 0 < x1
                · obtain ⟨m, rfl⟩ : ∃ m, x1 = m + 1 := ⟨x1 - 1, by omega⟩
                  have hm : m < f.ts.length := by omega
                  refine opsI_seg fun L hL => ?_
                  simp [C.spec_QSumOk, qS, qtS, hm, qtS_0 hm, qtS_1 hm, qtS_2 hm, wrap_nat (show m < 4611686018427387904 by omega), ha, hb, hc, he, hd]
                  refine wcall1 (spec_l1In_calls f.ts[m + 1].c (-1000000) 1000000) (by simp) (by simp) ?_
                  simp [C.spec_QSumOk, qS, qtS, hm, qtS_0 hm, qtS_1 hm, qtS_2 hm, wrap_nat (show m < 4611686018427387904 by omega), ha, hb, hc, he, hd]
                  refine hL _ ?_; clear hL L
                  refine opsI_seg fun L hL => ?_
                  simp [C.spec_QSumOk, qS, qtS, hm, qtS_0 hm, qtS_1 hm, qtS_2 hm, wrap_nat (show m < 4611686018427387904 by omega), ha, hb, hc, he, hd]
                  refine wcall1 (spec_l1In_calls f.ts[m + 1].h (-200) 200) (by simp) (by simp) ?_
                  simp [C.spec_QSumOk, qS, qtS, hm, qtS_0 hm, qtS_1 hm, qtS_2 hm, wrap_nat (show m < 4611686018427387904 by omega), ha, hb, hc, he, hd]
                  refine hL _ ?_; clear hL L
                  refine opsI_seg fun L hL => ?_
                  simp [C.spec_QSumOk, qS, qtS, hm, qtS_0 hm, qtS_1 hm, qtS_2 hm, wrap_nat (show m < 4611686018427387904 by omega), ha, hb, hc, he, hd]
                  refine wcall1 (spec_l8Less_calls f.ts[m] f.ts[m + 1] (hxe _ (List.getElem_mem hm)) (hxe _ (List.getElem_mem h1))) (by simp) (by simp) ?_
                  simp [C.spec_QSumOk, qS, qtS, hm, qtS_0 hm, qtS_1 hm, qtS_2 hm, wrap_nat (show m < 4611686018427387904 by omega), ha, hb, hc, he, hd]
                  refine hL _ ?_; clear hL L
                  refine opsI_end fun L hL => ?_
                  simp [C.spec_QSumOk, qS, qtS, hm, qtS_0 hm, qtS_1 hm, qtS_2 hm, wrap_nat (show m < 4611686018427387904 by omega), ha, hb, hc, he, hd]
                  refine hL _ ?_; clear hL L
                  simp [C.spec_QSumOk, qS, qtS, hm, qtS_0 hm, qtS_1 hm, qtS_2 hm, wrap_nat (show m < 4611686018427387904 by omega), ha, hb, hc, he, hd]
                  refine cast (congrArg K ?_) hJ
                  simp [qS, qtS, ha, hb, hc, he, hd]
                · obtain rfl : x1 = 0 := by omega
                  refine opsI_seg fun L hL => ?_
                  simp [C.spec_QSumOk, qS, qtS, ha, hb, hc, he, hd]
                  refine wcall1 (spec_l1In_calls f.ts[0].c (-1000000) 1000000) (by simp) (by simp) ?_
                  simp [C.spec_QSumOk, qS, qtS, ha, hb, hc, he, hd]
                  refine hL _ ?_; clear hL L
                  refine opsI_seg fun L hL => ?_
                  simp [C.spec_QSumOk, qS, qtS, ha, hb, hc, he, hd]
                  refine wcall1 (spec_l1In_calls f.ts[0].h (-200) 200) (by simp) (by simp) ?_
                  simp [C.spec_QSumOk, qS, qtS, ha, hb, hc, he, hd]
                  refine hL _ ?_; clear hL L
                  refine opsI_seg fun L hL => ?_
                  simp [C.spec_QSumOk, qS, qtS, ha, hb, hc, he, hd]
                  refine hL _ ?_; clear hL L
                  refine opsI_end fun L hL => ?_
                  simp [C.spec_QSumOk, qS, qtS, ha, hb, hc, he, hd]
                  refine hL _ ?_; clear hL L
                  simp [C.spec_QSumOk, qS, qtS, ha, hb, hc, he, hd]
                  refine cast (congrArg K ?_) hJ
                  simp [qS, qtS, ha, hb, hc, he, hd]
              · refine opsI_seg fun L hL => ?_
                simp [C.spec_QSumOk, qS, qtS, ha, hb, hc, he]
                refine wcall1 (spec_l1In_calls f.ts[x1].c (-1000000) 1000000) (by simp) (by simp) ?_
                simp [C.spec_QSumOk, qS, qtS, ha, hb, hc, he]
                refine hL _ ?_; clear hL L
                refine opsI_seg fun L hL => ?_
                simp [C.spec_QSumOk, qS, qtS, ha, hb, hc, he]
                refine wcall1 (spec_l1In_calls f.ts[x1].h (-200) 200) (by simp) (by simp) ?_
                simp [C.spec_QSumOk, qS, qtS, ha, hb, hc, he]
                refine hL _ ?_; clear hL L
                refine opsI_seg fun L hL => ?_
                simp [C.spec_QSumOk, qS, qtS, ha, hb, hc, he]
                refine hL _ ?_; clear hL L
                refine opsI_end fun L hL => ?_
                simp [C.spec_QSumOk, qS, qtS, ha, hb, hc, he]
                refine hL _ ?_; clear hL L
                simp [C.spec_QSumOk, qS, qtS, ha, hb, hc, he]
                refine cast (congrArg K ?_) hJ
                simp [qS, qtS, ha, hb, hc, he]
            · refine opsI_seg fun L hL => ?_
              simp [C.spec_QSumOk, qS, qtS, ha, hb, hc]
              refine wcall1 (spec_l1In_calls f.ts[x1].c (-1000000) 1000000) (by simp) (by simp) ?_
              simp [C.spec_QSumOk, qS, qtS, ha, hb, hc]
              refine hL _ ?_; clear hL L
              refine opsI_seg fun L hL => ?_
              simp [C.spec_QSumOk, qS, qtS, ha, hb, hc]
              refine hL _ ?_; clear hL L
              refine opsI_seg fun L hL => ?_
              simp [C.spec_QSumOk, qS, qtS, ha, hb, hc]
              refine hL _ ?_; clear hL L
              refine opsI_end fun L hL => ?_
              simp [C.spec_QSumOk, qS, qtS, ha, hb, hc]
              refine hL _ ?_; clear hL L
              simp [C.spec_QSumOk, qS, qtS, ha, hb, hc]
              refine cast (congrArg K ?_) hJ
              simp [qS, qtS, ha, hb, hc]
        · refine opsI_seg fun L hL => ?_
          simp [C.spec_QSumOk, qS, qtS, ha]
          refine hL _ ?_; clear hL L
          refine opsI_seg fun L hL => ?_
          simp [C.spec_QSumOk, qS, qtS, ha]
          refine hL _ ?_; clear hL L
          refine opsI_seg fun L hL => ?_
          simp [C.spec_QSumOk, qS, qtS, ha]
          refine hL _ ?_; clear hL L
          refine opsI_end fun L hL => ?_
          simp [C.spec_QSumOk, qS, qtS, ha]
          refine hL _ ?_; clear hL L
          simp [C.spec_QSumOk, qS, qtS, ha]
          refine cast (congrArg K ?_) hJ
          simp [qS, qtS, ha]
      · have h2 : x1 = f.ts.length := by have := d_f hc2; omega
        refine wexit ?_
        show AWp _ _ _ _ _
        refine wseq ?_
        refine wreg fun K hK => ?_
        simp [C.spec_QSumOk, qS, qtS]
        refine hK _ ?_; clear hK K
        show AWp _ _ _ _ _
        refine wret ?_
        simp [C.spec_QSumOk, qS, qtS]
        rw [h2, List.take_length] at hgood hdesc
        exact ⟨hh.1, hh.2, hgood, hdesc⟩
  clear hK
  by_cases ha : 1 ≤ f.v ∧ f.v ≤ 8
  · refine opsI_seg fun L hL => ?_
    simp [C.spec_QSumOk, qS, qtS, ha]
    refine wcall1 (spec_l1In_calls f.v 1 8) (by simp) (by simp) ?_
    simp [C.spec_QSumOk, qS, qtS, ha]
    refine hL _ ?_; clear hL L
    refine opsI_end fun L hL => ?_
    simp [C.spec_QSumOk, qS, qtS, ha]
    refine hL _ ?_; clear hL L
    simp [C.spec_QSumOk, qS, qtS, ha]
    refine cast (congrArg K ?_) hJ
    simp [qS, qtS, ha]
  · refine opsI_seg fun L hL => ?_
    simp [C.spec_QSumOk, qS, qtS, ha]
    refine wcall1 (spec_l1In_calls f.v 1 8) (by simp) (by simp) ?_
    simp [C.spec_QSumOk, qS, qtS, ha]
    refine hL _ ?_; clear hL L
    refine opsI_end fun L hL => ?_
    simp [C.spec_QSumOk, qS, qtS, ha]
    refine hL _ ?_; clear hL L
    simp [C.spec_QSumOk, qS, qtS, ha]
    refine cast (congrArg K ?_) hJ
    simp [qS, qtS, ha]

theorem impl_QSumOk_calls (f : Qsm) (hx : f.ts.length < 4611686018427387904) (hxe : ∀ t ∈ f.ts, t.e.length < 4611686018427387904) : ACalls Try.prog F.impl_QSumOk [aQ f] [] true (fun outs res => outs = [] ∧ res = [.one (D.bool (decide (QRight f)))]) := by
  refine ACalls.of_body (C := C.impl_QSumOk) (n := Try.f124.ntmps) tabT folT Try.func124 rfl (by kernel_rfl) rfl (Nat.le_of_ble_eq_true rfl) (by decide) (by kernel_rfl) (by kernel_rfl) rfl (by simp) (by simp) ?_
  simp only [Try.f124]
  refine wseq ?_
  refine wreg fun K hK => ?_
  simp [C.impl_QSumOk, qS, qtS]
  refine hK _ ?_; clear hK K
  show AWp _ _ _ _ _
  refine wseq ?_
  refine wseq ?_
  refine wregI ([0, 1, 2] ++ ([3, 4, 5, 6, 7, 8, 9])) rfl fun K hK => ?_
  have hJ : K ⟨ofL [(1, .pt (1, 0) [] 0), (14, .bool (decide (¬ (1 ≤ f.v ∧ f.v ≤ 8) ∨ 600 < (f.ts.length : Int))))], ofRO [((1, 0), some (.bx (qS f)))]⟩ := by
    refine hK _ ?_; clear hK K
    show AWp _ _ _ _ _
    refine wcond _ rfl (fun hc1 => ?_) (fun hc1 => ?_)
    · have hh := d_t hc1
      refine wseq ?_
      refine wreg fun K hK => ?_
      simp [C.impl_QSumOk, qS, qtS]
      refine hK _ ?_; clear hK K
      show AWp _ _ _ _ _
      refine wret ?_
      simp [C.impl_QSumOk, qS, qtS]
      intro hr; have := hr.1; have := hr.2.1; omega
    · have hh0 := d_f hc1
      have hh : (1 ≤ f.v ∧ f.v ≤ 8) ∧ f.ts.length ≤ 600 := by omega
      refine wskip ?_
      show AWp _ _ _ _ _
      refine wseq ?_
      refine wseq ?_
      refine wreg fun K hK => ?_
      simp [C.impl_QSumOk, qS, qtS]
      refine hK _ ?_; clear hK K
      show AWp _ _ _ _ _
      refine wblock ?_
      refine wloop (fun k : Nat => ⟨ofL [(1, .pt (1, 0) [] 0), (16, .d (.sh 3 f.ts.length (rows qtS f.ts))), (17, .int f.ts.length), (18, .int k)], ofRO [((1, 0), some (.bx (qS f)))]⟩) (fun k => k ≤ f.ts.length ∧ (∀ t ∈ f.ts.take k, QGood f.v t) ∧ DescQ (f.ts.take k)) (fun k => f.ts.length - k) 0 (by simp [C.impl_QSumOk, qS]) (by simp [DescQ]) ?_
      intro x1 hx1 R1 hR1
      obtain ⟨hk, hgood, hdesc⟩ := hx1
      refine wseq ?_
      refine wreg fun K hK => ?_
      simp [C.impl_QSumOk, qS, qtS]
      refine hK _ ?_; clear hK K
      show AWp _ _ _ _ _
      refine wseq ?_
      refine wcond _ rfl (fun hc2 => ?_) (fun hc2 => ?_)
      · have h1 : x1 < f.ts.length := by have := d_t hc2; omega
        refine wskip ?_
        show AWp _ _ _ _ _
        refine wseq ?_
        refine wblock ?_
        refine wseq ?_
        refine wreg fun K hK => ?_
        simp [C.impl_QSumOk, qS, qtS, h1, qtS_0 h1, qtS_1 h1, qtS_2 h1]
        refine hK _ ?_; clear hK K
        show AWp _ _ _ _ _
        refine wseq ?_
        refine wseq ?_
        refine wregI ([0, 1, 2, 3, 4] ++ ([5, 6, 7, 8, 9] ++ ([10, 11, 12, 13, 14, 15] ++ ([16, 17])))) rfl fun K hK => ?_
        have hJ : K ⟨ofL [(1, .pt (1, 0) [] 0), (3, .int x1), (4, .pt (4, 0) [] 0), (16, .d (.sh 3 f.ts.length (rows qtS f.ts))), (17, .int f.ts.length), (18, .int x1), (40, .bool (!decide (okE f.ts[x1].e f.v = true ∧ (-200 ≤ f.ts[x1].h ∧ f.ts[x1].h ≤ 200) ∧ (f.ts[x1].c ≠ 0 ∧ -1000000 ≤ f.ts[x1].c ∧ f.ts[x1].c ≤ 1000000))))], ofRO [((1, 0), some (.bx (qS f))), ((4, 0), some (.bx (qtS f.ts[x1])))]⟩ := by
          refine hK _ ?_; clear hK K
          show AWp _ _ _ _ _
          refine wcond _ rfl (fun hc3 => ?_) (fun hc3 => ?_)
          · have hb := nd_t hc3
            refine wseq ?_
            refine wreg fun K hK => ?_
            simp [C.impl_QSumOk, qS, qtS]
            refine hK _ ?_; clear hK K
            show AWp _ _ _ _ _
            refine wret ?_
            simp [C.impl_QSumOk, qS, qtS]
            intro hr
            have hg := hr.2.2.1 _ (List.getElem_mem h1)
            exact hb ⟨okE_iff.2 ⟨hg.1, hg.2.2.2.2⟩, hg.2.2.2.1, hg.2.1, hg.2.2.1⟩
          · have hb := nd_f hc3
            refine wskip ?_
            show AWp _ _ _ _ _
            refine wseq ?_
            have hp : 0 < x1 → x1 - 1 < f.ts.length := by omega
            refine wdrawI [(true, 0), (true, 1), (true, 2), (true, 3), (true, 4), (true, 5), (true, 6), (true, 7), (true, 8), (true, 9), (true, 10), (true, 11), (true, 12), (true, 13), (true, 14), (true, 15), (true, 16), (true, 17), (true, 18), (true, 19), (true, 20), (false, 21), (true, 22), (true, 23)] ⟨by kernel_rfl, by kernel_rfl⟩ ([0, 1, 2, 3, 4, 5, 6, 7, 8, 9, 10, 11, 12, 13, 14, 15, 16, 17, 18, 19, 20, 21] ++ ([22, 23])) rfl fun K hK => ?_
            have hJ : K ⟨ofL [(1, .pt (1, 0) [] 0), (16, .d (.sh 3 f.ts.length (rows qtS f.ts))), (17, .int f.ts.length), (18, .int x1), (64, .bool (!decide (x1 = 0 ∨ qlt (qk f.ts[x1]) (qk f.ts[x1 - 1]) = true)))], ofRO [((1, 0), some (.bx (qS f)))]⟩ := by
              refine hK _ ?_; clear hK K
              show AWp _ _ _ _ _
              refine wcond _ rfl (fun hc4 => ?_) (fun hc4 => ?_)
              · have hb2 := nd_t hc4
                refine wseq ?_
                refine wreg fun K hK => ?_
                simp [C.impl_QSumOk, qS, qtS]
                refine hK _ ?_; clear hK K
                show AWp _ _ _ _ _
                refine wret ?_
                simp [C.impl_QSumOk, qS, qtS]
                intro hr
                exact hb2 (descQ_next h1 hr.2.2.2)
              · have hb2 := nd_f hc4
                refine wskip ?_
                show AWp _ _ _ _ _
                refine wreg fun K hK => ?_
                simp [C.impl_QSumOk, qS, qtS, wrap_succ (show x1 < 4611686018427387904 by omega)]
                refine hK _ ?_; clear hK K
                simp [C.impl_QSumOk, qS, qtS]
                refine hR1 (x1 + 1) ⟨h1, ?_, descQ_step h1 hdesc hb2⟩ (by omega)
                rw [List.take_succ_eq_append_getElem h1]
                intro t ht
                rcases List.mem_append.1 ht with ht | ht
                · exact hgood t ht
                · simp only [List.mem_singleton] at ht
                  rw [ht]
                  have ho := okE_iff.1 hb.1
                  exact ⟨ho.1, hb.2.2.1, hb.2.2.2, hb.2.1, ho.2⟩
            clear hK
            by_cases hd : 0 < x1
            · obtain ⟨m, rfl⟩ : ∃ m, x1 = m + 1 := ⟨x1 - 1, by omega⟩
              have hm : m < f.ts.length := by omega
              refine opsI_seg fun L hL => ?_
              simp [C.impl_QSumOk, qS, qtS, hm, qtS_0 hm, qtS_1 hm, qtS_2 hm, wrap_nat (show m < 4611686018427387904 by omega), hd]
              refine wcall1 (impl_descending_calls f.ts[m].e f.ts[m].h f.ts[m + 1].e f.ts[m + 1].h (hxe _ (List.getElem_mem h1))) (by simp) (by simp) ?_
              simp [C.impl_QSumOk, qS, qtS, hm, qtS_0 hm, qtS_1 hm, qtS_2 hm, wrap_nat (show m < 4611686018427387904 by omega), hd]
              refine hL _ ?_; clear hL L
              refine opsI_end fun L hL => ?_
              simp [C.impl_QSumOk, qS, qtS, hm, qtS_0 hm, qtS_1 hm, qtS_2 hm, wrap_nat (show m < 4611686018427387904 by omega), hd]
              refine hL _ ?_; clear hL L
              simp [C.impl_QSumOk, qS, qtS, hm, qtS_0 hm, qtS_1 hm, qtS_2 hm, wrap_nat (show m < 4611686018427387904 by omega), hd]
              refine cast (congrArg K ?_) hJ
              simp [cmpQ_pos, qk, qS, qtS, hd]
            · obtain rfl : x1 = 0 := by omega
              refine opsI_seg fun L hL => ?_
              simp [C.impl_QSumOk, qS, qtS, hd]
              refine hL _ ?_; clear hL L
              refine opsI_end fun L hL => ?_
              simp [C.impl_QSumOk, qS, qtS, hd]
              refine hL _ ?_; clear hL L
              simp [C.impl_QSumOk, qS, qtS, hd]
              refine cast (congrArg K ?_) hJ
              simp [qS, qtS, hd]
        clear hK
        by_cases ha : okE f.ts[x1].e f.v = true
        · by_cases he : -200 ≤ f.ts[x1].h ∧ f.ts[x1].h ≤ 200
          · refine opsI_seg fun L hL => ?_
            simp [C.impl_QSumOk, qS, qtS, ha, he]
            refine wcall1 (impl_expOk_calls f.ts[x1].e f.v (hxe _ (List.getElem_mem h1))) (by simp) (by simp) ?_
            simp [C.impl_QSumOk, qS, qtS, ha, he]
            refine hL _ ?_; clear hL L
            refine opsI_seg fun L hL => ?_
            simp [C.impl_QSumOk, qS, qtS, ha, he]
            refine wcall1 (impl_within_calls f.ts[x1].h (-200) 200) (by simp) (by simp) ?_
            simp [C.impl_QSumOk, qS, qtS, ha, he]
            refine hL _ ?_; clear hL L
            refine opsI_seg fun L hL => ?_
            simp [C.impl_QSumOk, qS, qtS, ha, he]
            refine wcall1 (impl_coefOk_calls f.ts[x1].c) (by simp) (by simp) ?_
            simp [C.impl_QSumOk, qS, qtS, ha, he]
            refine hL _ ?_; clear hL L
            refine opsI_end fun L hL => ?_
            simp [C.impl_QSumOk, qS, qtS, ha, he]
            refine hL _ ?_; clear hL L
            simp [C.impl_QSumOk, qS, qtS, ha, he]
            refine cast (congrArg K ?_) hJ
            simp [qS, qtS, ha, he]
          · refine opsI_seg fun L hL => ?_
            simp [C.impl_QSumOk, qS, qtS, ha, he]
            refine wcall1 (impl_expOk_calls f.ts[x1].e f.v (hxe _ (List.getElem_mem h1))) (by simp) (by simp) ?_
            simp [C.impl_QSumOk, qS, qtS, ha, he]
            refine hL _ ?_; clear hL L
            refine opsI_seg fun L hL => ?_
            simp [C.impl_QSumOk, qS, qtS, ha, he]
            refine wcall1 (impl_within_calls f.ts[x1].h (-200) 200) (by simp) (by simp) ?_
            simp [C.impl_QSumOk, qS, qtS, ha, he]
            refine hL _ ?_; clear hL L
            refine opsI_seg fun L hL => ?_
            simp [C.impl_QSumOk, qS, qtS, ha, he]
            refine hL _ ?_; clear hL L
            refine opsI_end fun L hL => ?_
            simp [C.impl_QSumOk, qS, qtS, ha, he]
            refine hL _ ?_; clear hL L
            simp [C.impl_QSumOk, qS, qtS, ha, he]
            refine cast (congrArg K ?_) hJ
            simp [qS, qtS, ha, he]
        · refine opsI_seg fun L hL => ?_
          simp [C.impl_QSumOk, qS, qtS, ha]
          refine wcall1 (impl_expOk_calls f.ts[x1].e f.v (hxe _ (List.getElem_mem h1))) (by simp) (by simp) ?_
          simp [C.impl_QSumOk, qS, qtS, ha]
          refine hL _ ?_; clear hL L
          refine opsI_seg fun L hL => ?_
          simp [C.impl_QSumOk, qS, qtS, ha]
          refine hL _ ?_; clear hL L
          refine opsI_seg fun L hL => ?_
          simp [C.impl_QSumOk, qS, qtS, ha]
          refine hL _ ?_; clear hL L
          refine opsI_end fun L hL => ?_
          simp [C.impl_QSumOk, qS, qtS, ha]
          refine hL _ ?_; clear hL L
          simp [C.impl_QSumOk, qS, qtS, ha]
          refine cast (congrArg K ?_) hJ
          simp [qS, qtS, ha]
      · have h2 : x1 = f.ts.length := by have := d_f hc2; omega
        refine wexit ?_
        show AWp _ _ _ _ _
        refine wseq ?_
        refine wreg fun K hK => ?_
        simp [C.impl_QSumOk, qS, qtS]
        refine hK _ ?_; clear hK K
        show AWp _ _ _ _ _
        refine wret ?_
        simp [C.impl_QSumOk, qS, qtS]
        rw [h2, List.take_length] at hgood hdesc
        exact ⟨hh.1, hh.2, hgood, hdesc⟩
  clear hK
  by_cases ha : 1 ≤ f.v ∧ f.v ≤ 8
  · refine opsI_seg fun L hL => ?_
    simp [C.impl_QSumOk, qS, qtS, ha]
    refine wcall1 (impl_within_calls f.v 1 8) (by simp) (by simp) ?_
    simp [C.impl_QSumOk, qS, qtS, ha]
    refine hL _ ?_; clear hL L
    refine opsI_end fun L hL => ?_
    simp [C.impl_QSumOk, qS, qtS, ha]
    refine hL _ ?_; clear hL L
    simp [C.impl_QSumOk, qS, qtS, ha]
    refine cast (congrArg K ?_) hJ
    simp [qS, qtS, ha]
  · refine opsI_seg fun L hL => ?_
    simp [C.impl_QSumOk, qS, qtS, ha]
    refine wcall1 (impl_within_calls f.v 1 8) (by simp) (by simp) ?_
    simp [C.impl_QSumOk, qS, qtS, ha]
    refine hL _ ?_; clear hL L
    refine opsI_end fun L hL => ?_
    simp [C.impl_QSumOk, qS, qtS, ha]
    refine hL _ ?_; clear hL L
    simp [C.impl_QSumOk, qS, qtS, ha]
    refine cast (congrArg K ?_) hJ
    simp [qS, qtS, ha]

end Go.Proofs.Ytdgeponcnlkaiaa.Ab
namespace Go.Proofs.Ytdgeponcnlkaiaa.Ab
open Go
set_option linter.unusedSimpArgs false
set_option linter.unusedVariables false
set_option linter.unusedSectionVars false

section
variable {K : Type} [DecidableEq K]
structure Act (lt : K → K → Bool) (mul dv : K → K → K) (D : K → Prop) : Prop where
  mul_dv : ∀ a b, D a → D b → mul (dv a b) b = a
  dv_lt : ∀ x y b, D x → D y → D b → lt x y = true → lt (dv x b) (dv y b) = true
  mul_lt : ∀ e x y, D e → D x → D y → lt x y = true → lt (mul e x) (mul e y) = true
  dmul : ∀ a b, D a → D b → D (mul a b)
  ddv : ∀ a b, D a → D b → D (dv a b)
/-- A term times a sum. -/
def mulT (mul : K → K → K) (e : K) (q : Int) (g : List (K × Int)) : List (K × Int) := g.map fun y => (mul e y.1, q * y.2)
def prodK (mul : K → K → K) (a g : List (K × Int)) : List (K × Int) := a.flatMap fun x => mulT mul x.1 x.2 g
def divGo (lt : K → K → Bool) (mul dv : K → K → K) (chk : K → Int → Bool) (g : List (K × Int)) (b : K) (d : Int) : Nat → List (K × Int) → Option (List (K × Int))
  | _, [] => some []
  | 0, _ :: _ => none
  | k + 1, x :: R => if x.2.tmod d = 0 ∧ chk (dv x.1 b) (x.2.tdiv d) = true then
      (divGo lt mul dv chk g b d k (nf lt (x :: R ++ mulT mul (dv x.1 b) (-(x.2.tdiv d)) g))).map ((dv x.1 b, x.2.tdiv d) :: ·) else none

variable {lt : K → K → Bool} {mul dv : K → K → K} {D : K → Prop} {chk chk' : K → Int → Bool} {g : List (K × Int)} {b : K} {d : Int}
theorem co_mulT_neg (mul : K → K → K) (k e : K) (q : Int) : ∀ g : List (K × Int), co k (mulT mul e (-q) g) = -co k (mulT mul e q g)
  | [] => rfl
  | y :: g => by
    simp only [mulT, List.map_cons, co]
    have := co_mulT_neg mul k e q g
    simp only [mulT] at this
    rw [this]
    split
    · rw [Int.neg_mul]; omega
    · omega
/-- Whether a term is let in decides; where all are let in by another test too, that one leads to the same. -/
theorem divGo_chk : ∀ (k : Nat) (R O : List (K × Int)), divGo lt mul dv chk g b d k R = some O → (∀ x ∈ O, chk' x.1 x.2 = true) → divGo lt mul dv chk' g b d k R = some O
  | k, [], O, h, _ => by cases k <;> exact h
  | 0, x :: R, O, h, _ => by simp [divGo] at h
  | k + 1, x :: R, O, h, hc => by
    simp only [divGo] at h ⊢
    split at h
    · rename_i h1
      obtain ⟨O', h2, h3⟩ := Option.map_eq_some_iff.1 h
      subst h3
      rw [if_pos ⟨h1.1, hc (dv x.1 b, x.2.tdiv d) (List.mem_cons_self ..)⟩, divGo_chk k _ O' h2 fun y hy => hc y (by simp [hy])]
      rfl
    · simp at h
theorem divGo_all : ∀ (k : Nat) (R O : List (K × Int)), divGo lt mul dv chk g b d k R = some O → (∀ x ∈ O, chk x.1 x.2 = true) ∧ O.length ≤ k
  | k, [], O, h => by
    cases k <;> simp [divGo] at h <;> subst h <;> simp
  | 0, x :: R, O, h => by simp [divGo] at h
  | k + 1, x :: R, O, h => by
    simp only [divGo] at h
    split at h
    · rename_i h1
      obtain ⟨O', h2, h3⟩ := Option.map_eq_some_iff.1 h
      subst h3
      obtain ⟨h4, h5⟩ := divGo_all k _ O' h2
      refine ⟨fun y hy => ?_, by simp; omega⟩
      rcases List.mem_cons.1 hy with rfl | hy
      · exact h1.2
      · exact h4 y hy
    · simp at h
/-- What is found, times the divisor, is what was divided. -/
theorem divGo_exact : ∀ (k : Nat) (R O : List (K × Int)), divGo lt mul dv chk g b d k R = some O → ∀ q, co q R = co q (prodK mul O g)
  | k, [], O, h, q => by
    cases k <;> simp [divGo] at h <;> subst h <;> rfl
  | 0, x :: R, O, h, _ => by simp [divGo] at h
  | k + 1, x :: R, O, h, q => by
    simp only [divGo] at h
    split at h
    · obtain ⟨O', h2, h3⟩ := Option.map_eq_some_iff.1 h
      subst h3
      have h4 := divGo_exact k _ O' h2 q
      rw [nf_co, co_append, co_mulT_neg] at h4
      simp only [prodK, List.flatMap_cons, co_append]
      simp only [prodK] at h4
      omega
    · simp at h
theorem tmod_tdiv {a d : Int} (h : a.tmod d = 0) : a.tdiv d * d = a := by
  have := Int.mul_tdiv_add_tmod a d
  rw [h, Int.mul_comm] at this
  omega
/-- Behind a step all keys are less. -/
theorem step_less (ho : Ord lt) (ha : Act lt mul dv D) {x : K × Int} {R : List (K × Int)} {G : List (K × Int)} (hR : Desc lt (x :: R)) (hRD : ∀ y ∈ x :: R, D y.1) (hg : Desc lt ((b, d) :: G)) (hgD : ∀ y ∈ (b, d) :: G, D y.1) (hm : x.2.tmod d = 0) :
    (∀ y ∈ nf lt (x :: R ++ mulT mul (dv x.1 b) (-(x.2.tdiv d)) ((b, d) :: G)), lt y.1 x.1 = true ∧ D y.1) := by
  intro y hy
  have hb := hgD (b, d) (by simp)
  have hx := hRD x (by simp)
  have hdv := ha.ddv x.1 b hx hb
  have key : D y.1 ∧ (y.1 = x.1 ∨ lt y.1 x.1 = true) := by
    obtain ⟨z, hz, e⟩ := nf_mem hy
    rw [← e]
    rcases List.mem_append.1 hz with hz | hz
    · refine ⟨hRD z hz, ?_⟩
      rcases List.mem_cons.1 hz with rfl | hz
      · exact .inl rfl
      · exact .inr (List.rel_of_pairwise_cons hR hz)
    · obtain ⟨u, hu, rfl⟩ := List.mem_map.1 hz
      refine ⟨ha.dmul _ _ hdv (hgD u hu), ?_⟩
      rcases List.mem_cons.1 hu with rfl | hu2
      · exact .inl (ha.mul_dv _ _ hx hb)
      · right
        have := ha.mul_lt (dv x.1 b) u.1 b hdv (hgD u hu) hb (List.rel_of_pairwise_cons hg hu2)
        rwa [ha.mul_dv _ _ hx hb] at this
  refine ⟨?_, key.1⟩
  rcases key.2 with e | h
  · exfalso
    have hz := nf_nz _ y hy
    have h1 : co y.1 (nf lt (x :: R ++ mulT mul (dv x.1 b) (-(x.2.tdiv d)) ((b, d) :: G))) = y.2 := by
      have hd := nf_desc ho (x :: R ++ mulT mul (dv x.1 b) (-(x.2.tdiv d)) ((b, d) :: G))
      generalize nf lt (x :: R ++ mulT mul (dv x.1 b) (-(x.2.tdiv d)) ((b, d) :: G)) = N at hy hd
      clear hz e key
      induction N with
      | nil => simp at hy
      | cons z N ih =>
        simp only [co]
        rcases List.mem_cons.1 hy with rfl | hy2
        · rw [if_pos rfl, co_none _ _ (desc_tail_ne ho hd)]
          omega
        · rw [if_neg (fun e => desc_tail_ne ho hd y hy2 e.symm), ih hy2 (List.Pairwise.of_cons hd)]
          omega
    rw [nf_co, co_append, co_mulT_neg, e] at h1
    simp only [co, if_pos, mulT, List.map_cons, ha.mul_dv _ _ hx hb] at h1
    rw [co_none _ R (desc_tail_ne ho hR), co_none x.1 _ (fun z hz => ?_), tmod_tdiv hm] at h1
    · exact hz (by omega)
    · obtain ⟨u, hu, rfl⟩ := List.mem_map.1 hz
      have h2 := ha.mul_lt (dv x.1 b) u.1 b hdv (hgD u (by simp [hu])) hb (List.rel_of_pairwise_cons hg hu)
      rw [ha.mul_dv _ _ hx hb] at h2
      intro e3
      simp only at e3
      rw [e3, ho.irr] at h2
      simp at h2
  · exact h
/-- What is found descends, and lies below what was divided. -/
theorem divGo_desc (ho : Ord lt) (ha : Act lt mul dv D) {G : List (K × Int)} (hg : Desc lt ((b, d) :: G)) (hgD : ∀ y ∈ (b, d) :: G, D y.1) : ∀ (k : Nat) (R O : List (K × Int)), divGo lt mul dv chk ((b, d) :: G) b d k R = some O → Desc lt R → (∀ y ∈ R, D y.1) →
    Desc lt O ∧ (∀ x ∈ O, D x.1) ∧ ∀ u, D u → (∀ y ∈ R, lt y.1 u = true) → ∀ x ∈ O, lt x.1 (dv u b) = true
  | k, [], O, h, _, _ => by
    have e : O = [] := by cases k <;> simp [divGo] at h <;> exact h
    subst e
    exact ⟨List.Pairwise.nil, by simp, by simp⟩
  | 0, x :: R, O, h, _, _ => by simp [divGo] at h
  | k + 1, x :: R, O, h, hR, hRD => by
    simp only [divGo] at h
    split at h
    · rename_i h1
      obtain ⟨O', h2, h3⟩ := Option.map_eq_some_iff.1 h
      subst h3
      have hl := step_less ho ha hR hRD hg hgD h1.1
      have hb := hgD (b, d) (by simp)
      have hx := hRD x (by simp)
      obtain ⟨i1, i2, i3⟩ := divGo_desc ho ha hg hgD k _ O' h2 (nf_desc ho _) fun y hy => (hl y hy).2
      have i4 := i3 x.1 hx fun y hy => (hl y hy).1
      refine ⟨List.Pairwise.cons (fun y hy => i4 y hy) i1, fun y hy => ?_, fun u hu hlu y hy => ?_⟩
      · rcases List.mem_cons.1 hy with rfl | hy
        · exact ha.ddv _ _ hx hb
        · exact i2 y hy
      · have h5 := ha.dv_lt x.1 u b hx hu hb (hlu x (by simp))
        rcases List.mem_cons.1 hy with rfl | hy
        · exact h5
        · exact ho.tr _ _ _ (i4 y hy) h5
    · simp at h
theorem co_single (ho : Ord lt) : ∀ {l : List (K × Int)} {x : K × Int}, Desc lt l → x ∈ l → co x.1 l = x.2
  | [], x, _, h => by simp at h
  | z :: l, x, hd, h => by
    simp only [co]
    rcases List.mem_cons.1 h with rfl | h2
    · rw [if_pos rfl, co_none _ _ (desc_tail_ne ho hd)]
      omega
    · rw [if_neg (fun e => desc_tail_ne ho hd x h2 e.symm), co_single ho (List.Pairwise.of_cons hd) h2]
      omega
/-- Where just one pair of terms makes a key, that key's number is the product. -/
theorem co_pair2 (ho : Ord lt) : ∀ {O g : List (K × Int)} {x y : K × Int}, Desc lt O → Desc lt g → x ∈ O → y ∈ g → (∀ u ∈ O, ∀ v ∈ g, mul u.1 v.1 = mul x.1 y.1 → u = x ∧ v = y) → co (mul x.1 y.1) (prodK mul O g) = x.2 * y.2 := by
  intro O g x y hO hg hx hy hu
  have row : ∀ u ∈ O, co (mul x.1 y.1) (mulT mul u.1 u.2 g) = if u = x then x.2 * y.2 else 0 := by
    intro u huO
    by_cases e : u = x
    · rw [if_pos e]
      subst e
      have : ∀ l : List (K × Int), Desc lt l → (∀ v ∈ l, v ∈ g) → co (mul u.1 y.1) (mulT mul u.1 u.2 l) = if y ∈ l then u.2 * y.2 else 0 := by
        intro l
        induction l with
        | nil => intro _ _; simp [mulT, co]
        | cons z l ih =>
          intro hd hs
          have h1 := ih (List.Pairwise.of_cons hd) fun v hv => hs v (by simp [hv])
          simp only [mulT, List.map_cons, co] at h1 ⊢
          rw [h1]
          by_cases e2 : z = y
          · subst e2
            have : z ∉ l := fun hz => desc_tail_ne ho hd z hz rfl
            rw [if_pos rfl, if_neg this, if_pos (by simp)]
            omega
          · rw [if_neg (fun e3 => e2 (hu u hx z (hs z (by simp)) e3).2)]
            by_cases e4 : y ∈ l
            · rw [if_pos e4, if_pos (by simp [e4])]; omega
            · rw [if_neg e4, if_neg (by simp [e4, Ne.symm e2])]; rfl
      rw [this g hg fun _ h => h, if_pos hy]
    · rw [if_neg e]
      refine co_none _ _ fun z hz => ?_
      obtain ⟨v, hv, rfl⟩ := List.mem_map.1 hz
      exact fun e3 => e (hu u huO v hv e3).1
  have : ∀ l : List (K × Int), Desc lt l → (∀ u ∈ l, u ∈ O) → co (mul x.1 y.1) (prodK mul l g) = if x ∈ l then x.2 * y.2 else 0 := by
    intro l
    induction l with
    | nil => intro _ _; simp [prodK, co]
    | cons z l ih =>
      intro hd hs
      have h1 := ih (List.Pairwise.of_cons hd) fun v hv => hs v (by simp [hv])
      simp only [prodK, List.flatMap_cons, co_append] at h1 ⊢
      rw [h1, row z (hs z (by simp))]
      by_cases e2 : z = x
      · subst e2
        have : z ∉ l := fun hz => desc_tail_ne ho hd z hz rfl
        rw [if_pos rfl, if_neg this, if_pos (by simp)]
        omega
      · rw [if_neg e2]
        by_cases e4 : x ∈ l
        · rw [if_pos e4, if_pos (by simp [e4])]; omega
        · rw [if_neg e4, if_neg (by simp [e4, Ne.symm e2])]; rfl
  rw [this O hO fun _ h => h, if_pos hx]
/-! ### How great numbers become -/
def absK (l : List (K × Int)) : Nat := (l.map fun x => x.2.natAbs).sum
theorem absK_append (l r : List (K × Int)) : absK (l ++ r) = absK l + absK r := by simp [absK]
theorem insK_abs (k : K) (c : Int) : ∀ l : List (K × Int), absK (insK lt k c l) ≤ c.natAbs + absK l ∧ (insK lt k c l).length ≤ l.length + 1
  | [] => by
    simp only [insK]
    split <;> simp [absK]
  | x :: l => by
    have ih := insK_abs k c l
    simp only [insK]
    split
    · split
      · simp [absK]; omega
      · simp [absK]; omega
    · split
      · split
        · simp [absK]
        · simp [absK]
      · simp only [absK, List.map_cons, List.sum_cons, List.length_cons] at ih ⊢
        omega
theorem nf_abs : ∀ l : List (K × Int), absK (nf lt l) ≤ absK l ∧ (nf lt l).length ≤ l.length
  | [] => by simp [nf, absK]
  | x :: l => by
    have ih := nf_abs l
    have h := insK_abs (lt := lt) x.1 x.2 (nf lt l)
    simp only [nf]
    simp only [absK, List.map_cons, List.sum_cons, List.length_cons] at ih h ⊢
    omega
theorem mulT_abs (e : K) (q : Int) : ∀ g : List (K × Int), absK (mulT mul e q g) = q.natAbs * absK g
  | [] => rfl
  | y :: g => by
    have := mulT_abs e q g
    simp only [absK, mulT, List.map_cons, List.sum_cons, List.map_map] at this ⊢
    rw [Int.natAbs_mul, Nat.mul_add]
    omega
@[simp] theorem mulT_length (e : K) (q : Int) (g : List (K × Int)) : (mulT mul e q g).length = g.length := by simp [mulT]
end
end Go.Proofs.Ytdgeponcnlkaiaa.Ab
namespace Go.Proofs.Ytdgeponcnlkaiaa.Ab
open Go
set_option linter.unusedSimpArgs false
set_option linter.unusedVariables false
set_option maxRecDepth 10000
set_option maxHeartbeats 1000000
abbrev aM (m : Mat) : FV := .ag [.int m.n, .int m.r, .d (shI m.d)]
abbrev aS (s : Sed) : FV := .ag [.int s.m.n, .int s.m.r, .d (shI s.m.d), .d (.sh 2 s.f.length (rows fS s.f))]
abbrev aZ (z : Ses) : FV := .ag [.int z.a.n, .int z.a.r, .d (shI z.a.d), .d (shI z.k), .int z.s.m.n, .int z.s.m.r, .d (shI z.s.m.d), .d (.sh 2 z.s.f.length (rows fS z.s.f))]
theorem mat_eq {a b : Mat} : a = b ↔ a.n = b.n ∧ a.r = b.r ∧ a.d = b.d := by
  cases a; cases b; simp
theorem sed_eq {a b : Sed} : a = b ↔ a.m = b.m ∧ a.f = b.f := by
  cases a; cases b; simp
theorem ses_eq {a b : Ses} : a = b ↔ a.a = b.a ∧ a.k = b.k ∧ a.s = b.s := by
  cases a; cases b; simp
def SmF (f : Lau) : Prop := f.ts.length < 4611686018427387904 ∧ ∀ t ∈ f.ts, t.e.length < 4611686018427387904
def SmS (s : Sed) : Prop := s.m.d.length < 4611686018427387904 ∧ s.f.length < 4611686018427387904 ∧ ∀ f ∈ s.f, SmF f
def SmZ (z : Ses) : Prop := z.a.d.length < 4611686018427387904 ∧ z.k.length < 4611686018427387904 ∧ SmS z.s
theorem laws_eqMatrix_calls (a b : Mat) (hx : a.d.length < 4611686018427387904) : ACalls Try.prog F.laws_eqMatrix [aM a, aM b] [] true (fun outs res => outs = [] ∧ res = [.one (D.bool (decide (a = b)))]) := by
  refine ACalls.of_body (C := C.laws_eqMatrix) (n := Try.f78.ntmps) tabT folT Try.func78 rfl (by kernel_rfl) rfl (Nat.le_of_ble_eq_true rfl) (by decide) (by kernel_rfl) (by kernel_rfl) rfl (by simp) (by simp) ?_
  simp only [Try.f78]
  refine wseq ?_
  refine wreg fun K hK => ?_
  simp [C.laws_eqMatrix]
  refine hK _ ?_; clear hK K
  show AWp _ _ _ _ _
  refine wseq ?_
  refine wseq ?_
  refine wreg fun K hK => ?_
  simp [C.laws_eqMatrix]
  refine hK _ ?_; clear hK K
  show AWp _ _ _ _ _
  refine wcond _ rfl (fun hc1 => ?_) (fun hc1 => ?_)
  · refine wseq ?_
    refine wreg fun K hK => ?_
    simp [C.laws_eqMatrix]
    refine hK _ ?_; clear hK K
    show AWp _ _ _ _ _
    refine wret ?_
    simp at hc1
    simp [C.laws_eqMatrix, mat_eq, hc1]
  · refine wskip ?_
    show AWp _ _ _ _ _
    refine wseq ?_
    refine wseq ?_
    refine wreg fun K hK => ?_
    simp [C.laws_eqMatrix]
    refine hK _ ?_; clear hK K
    show AWp _ _ _ _ _
    refine wcond _ rfl (fun hc2 => ?_) (fun hc2 => ?_)
    · refine wseq ?_
      refine wreg fun K hK => ?_
      simp [C.laws_eqMatrix]
      refine hK _ ?_; clear hK K
      show AWp _ _ _ _ _
      refine wret ?_
      simp at hc2
      simp [C.laws_eqMatrix, mat_eq, hc2]
    · refine wskip ?_
      show AWp _ _ _ _ _
      refine wseq ?_
      refine wseq ?_
      refine wregI ([0, 1, 2, 3, 4] ++ ([5])) rfl fun K hK => ?_
      refine opsI_seg fun L hL => ?_
      simp [C.laws_eqMatrix]
      refine wcall1 (laws_eqIntS_calls a.d b.d hx) (by simp) (by simp) ?_
      simp [C.laws_eqMatrix]
      refine hL _ ?_; clear hL L
      refine opsI_end fun L hL => ?_
      simp [C.laws_eqMatrix]
      refine hL _ ?_; clear hL L
      simp [C.laws_eqMatrix]
      refine hK _ ?_; clear hK K
      show AWp _ _ _ _ _
      refine wcond _ rfl (fun hc3 => ?_) (fun hc3 => ?_)
      · refine wseq ?_
        refine wreg fun K hK => ?_
        simp [C.laws_eqMatrix]
        refine hK _ ?_; clear hK K
        show AWp _ _ _ _ _
        refine wret ?_
        simp at hc3
        simp [C.laws_eqMatrix, mat_eq, hc3]
      · refine wskip ?_
        show AWp _ _ _ _ _
        refine wseq ?_
        refine wreg fun K hK => ?_
        simp [C.laws_eqMatrix]
        refine hK _ ?_; clear hK K
        show AWp _ _ _ _ _
        refine wret ?_
        simp at hc1 hc2 hc3
        simp [C.laws_eqMatrix, mat_eq, hc1, hc2, hc3]

theorem laws_eqLaurentS_calls (xs ys : List Lau) (hx : xs.length < 4611686018427387904) (hx2 : ∀ t ∈ xs, SmF t) : ACalls Try.prog F.laws_eqLaurentS [.d (.sh 2 xs.length (rows fS xs)), .d (.sh 2 ys.length (rows fS ys))] [] true (fun outs res => outs = [] ∧ res = [.one (D.bool (decide (xs = ys)))]) := by
  refine ACalls.of_body (C := C.laws_eqLaurentS) (n := Try.f170.ntmps) tabT folT Try.func170 rfl (by kernel_rfl) rfl (Nat.le_of_ble_eq_true rfl) (by decide) (by kernel_rfl) (by kernel_rfl) rfl (by simp) (by simp) ?_
  simp only [Try.f170]
  refine wseq ?_
  refine wreg fun K hK => ?_
  simp [C.laws_eqLaurentS]
  refine hK _ ?_; clear hK K
  show AWp _ _ _ _ _
  refine wseq ?_
  refine wseq ?_
  refine wreg fun K hK => ?_
  simp [C.laws_eqLaurentS]
  refine hK _ ?_; clear hK K
  show AWp _ _ _ _ _
  refine wcond _ rfl (fun hc1 => ?_) (fun hc1 => ?_)
  · refine wseq ?_
    refine wreg fun K hK => ?_
    simp [C.laws_eqLaurentS]
    refine hK _ ?_; clear hK K
    show AWp _ _ _ _ _
    refine wret ?_
    simp at hc1
    simp [C.laws_eqLaurentS]
    intro e; simp [e] at hc1
  · refine wskip ?_
    show AWp _ _ _ _ _
    refine wseq ?_
    refine wseq ?_
    refine wreg fun K hK => ?_
    simp [C.laws_eqLaurentS]
    refine hK _ ?_; clear hK K
    show AWp _ _ _ _ _
    refine wblock ?_
    have e : xs.length = ys.length := by simp at hc1; omega
    refine wloop (fun k : Nat => ⟨ofL [(0, .d (.sh 2 xs.length (rows fS xs))), (1, .d (.sh 2 ys.length (rows fS ys))), (5, FV.int k)], ofRO []⟩) (fun k => k ≤ xs.length ∧ xs.take k = ys.take k) (fun k => xs.length - k) 0 (by simp [C.laws_eqLaurentS]) (by simp) ?_
    intro x1 hx1 R1 hR1
    obtain ⟨hk, ht⟩ := hx1
    refine wseq ?_
    refine wseq ?_
    refine wreg fun K hK => ?_
    simp [C.laws_eqLaurentS]
    refine hK _ ?_; clear hK K
    show AWp _ _ _ _ _
    refine wcond _ rfl (fun hc2 => ?_) (fun hc2 => ?_)
    · refine wskip ?_
      show AWp _ _ _ _ _
      refine wseq ?_
      refine wblock ?_
      refine wseq ?_
      have h1 : x1 < xs.length := by simpa using hc2
      have h2 : x1 < ys.length := by omega
      refine wdrawI [(true, 0), (true, 1), (true, 2), (true, 3), (true, 4), (true, 5), (true, 6), (true, 7), (false, 8), (true, 9)] ⟨by kernel_rfl, by kernel_rfl⟩ ([0, 1, 2, 3, 4, 5, 6, 7, 8] ++ ([9])) rfl fun K hK => ?_
      refine opsI_seg fun L hL => ?_
      simp [C.laws_eqLaurentS, h1, h2, fS_0 h1, fS_1 h1, fS_0 h2, fS_1 h2]
      refine wcall1 (laws_eqLaurent_calls xs[x1] ys[x1] (hx2 _ (List.getElem_mem h1)).1 (hx2 _ (List.getElem_mem h1)).2) (by simp) (by simp) ?_
      simp [C.laws_eqLaurentS, h1, h2, fS_0 h1, fS_1 h1, fS_0 h2, fS_1 h2]
      refine hL _ ?_; clear hL L
      refine opsI_end fun L hL => ?_
      simp [C.laws_eqLaurentS, h1, h2, fS_0 h1, fS_1 h1, fS_0 h2, fS_1 h2]
      refine hL _ ?_; clear hL L
      simp [C.laws_eqLaurentS, h1, h2, fS_0 h1, fS_1 h1, fS_0 h2, fS_1 h2]
      refine hK _ ?_; clear hK K
      show AWp _ _ _ _ _
      refine wcond _ rfl (fun hc3 => ?_) (fun hc3 => ?_)
      · refine wseq ?_
        refine wreg fun K hK => ?_
        simp [C.laws_eqLaurentS]
        refine hK _ ?_; clear hK K
        show AWp _ _ _ _ _
        refine wret ?_
        simp at hc3
        simp [C.laws_eqLaurentS]
        intro e; simp [e] at hc3
      · refine wskip ?_
        show AWp _ _ _ _ _
        refine wreg fun K hK => ?_
        simp [C.laws_eqLaurentS, wrap_succ (show x1 < 4611686018427387904 by omega)]
        refine hK _ ?_; clear hK K
        simp [C.laws_eqLaurentS]
        simp at hc3
        refine hR1 (x1 + 1) ⟨h1, ?_⟩ (by omega)
        rw [List.take_succ_eq_append_getElem h1, List.take_succ_eq_append_getElem h2, ht, hc3]
    · refine wexit ?_
      show AWp _ _ _ _ _
      refine wseq ?_
      refine wreg fun K hK => ?_
      simp [C.laws_eqLaurentS]
      refine hK _ ?_; clear hK K
      show AWp _ _ _ _ _
      refine wret ?_
      have hk2 : x1 = xs.length := by simp at hc2; omega
      simp [C.laws_eqLaurentS]
      rw [hk2, List.take_length, e, List.take_length] at ht
      exact ht

theorem laws_eqSeed_calls (a b : Sed) (hx : SmS a) : ACalls Try.prog F.laws_eqSeed [aS a, aS b] [] true (fun outs res => outs = [] ∧ res = [.one (D.bool (decide (a = b)))]) := by
  refine ACalls.of_body (C := C.laws_eqSeed) (n := Try.f80.ntmps) tabT folT Try.func80 rfl (by kernel_rfl) rfl (Nat.le_of_ble_eq_true rfl) (by decide) (by kernel_rfl) (by kernel_rfl) rfl (by simp) (by simp) ?_
  simp only [Try.f80]
  refine wseq ?_
  refine wreg fun K hK => ?_
  simp [C.laws_eqSeed]
  refine hK _ ?_; clear hK K
  show AWp _ _ _ _ _
  refine wseq ?_
  refine wseq ?_
  refine wregI ([0, 1, 2, 3, 4] ++ ([5])) rfl fun K hK => ?_
  refine opsI_seg fun L hL => ?_
  simp [C.laws_eqSeed]
  refine wcall1 (laws_eqMatrix_calls a.m b.m hx.1) (by simp) (by simp) ?_
  simp [C.laws_eqSeed]
  refine hL _ ?_; clear hL L
  refine opsI_end fun L hL => ?_
  simp [C.laws_eqSeed]
  refine hL _ ?_; clear hL L
  simp [C.laws_eqSeed]
  refine hK _ ?_; clear hK K
  show AWp _ _ _ _ _
  refine wcond _ rfl (fun hc1 => ?_) (fun hc1 => ?_)
  · refine wseq ?_
    refine wreg fun K hK => ?_
    simp [C.laws_eqSeed]
    refine hK _ ?_; clear hK K
    show AWp _ _ _ _ _
    refine wret ?_
    simp at hc1
    simp [C.laws_eqSeed, sed_eq, hc1]
  · refine wskip ?_
    show AWp _ _ _ _ _
    refine wseq ?_
    refine wseq ?_
    refine wregI ([0, 1, 2, 3, 4] ++ ([5])) rfl fun K hK => ?_
    refine opsI_seg fun L hL => ?_
    simp [C.laws_eqSeed]
    refine wcall1 (laws_eqLaurentS_calls a.f b.f hx.2.1 hx.2.2) (by simp) (by simp) ?_
    simp [C.laws_eqSeed]
    refine hL _ ?_; clear hL L
    refine opsI_end fun L hL => ?_
    simp [C.laws_eqSeed]
    refine hL _ ?_; clear hL L
    simp [C.laws_eqSeed]
    refine hK _ ?_; clear hK K
    show AWp _ _ _ _ _
    refine wcond _ rfl (fun hc2 => ?_) (fun hc2 => ?_)
    · refine wseq ?_
      refine wreg fun K hK => ?_
      simp [C.laws_eqSeed]
      refine hK _ ?_; clear hK K
      show AWp _ _ _ _ _
      refine wret ?_
      simp at hc2
      simp [C.laws_eqSeed, sed_eq, hc2]
    · refine wskip ?_
      show AWp _ _ _ _ _
      refine wseq ?_
      refine wreg fun K hK => ?_
      simp [C.laws_eqSeed]
      refine hK _ ?_; clear hK K
      show AWp _ _ _ _ _
      refine wret ?_
      simp at hc1 hc2
      simp [C.laws_eqSeed, sed_eq, hc1, hc2]

theorem laws_eqSession_calls (a b : Ses) (hx : SmZ a) : ACalls Try.prog F.laws_eqSession [aZ a, aZ b] [] true (fun outs res => outs = [] ∧ res = [.one (D.bool (decide (a = b)))]) := by
  refine ACalls.of_body (C := C.laws_eqSession) (n := Try.f17.ntmps) tabT folT Try.func17 rfl (by kernel_rfl) rfl (Nat.le_of_ble_eq_true rfl) (by decide) (by kernel_rfl) (by kernel_rfl) rfl (by simp) (by simp) ?_
  simp only [Try.f17]
  refine wseq ?_
  refine wreg fun K hK => ?_
  simp [C.laws_eqSession]
  refine hK _ ?_; clear hK K
  show AWp _ _ _ _ _
  refine wseq ?_
  refine wseq ?_
  refine wregI ([0, 1, 2, 3, 4] ++ ([5])) rfl fun K hK => ?_
  refine opsI_seg fun L hL => ?_
  simp [C.laws_eqSession]
  refine wcall1 (laws_eqMatrix_calls a.a b.a hx.1) (by simp) (by simp) ?_
  simp [C.laws_eqSession]
  refine hL _ ?_; clear hL L
  refine opsI_end fun L hL => ?_
  simp [C.laws_eqSession]
  refine hL _ ?_; clear hL L
  simp [C.laws_eqSession]
  refine hK _ ?_; clear hK K
  show AWp _ _ _ _ _
  refine wcond _ rfl (fun hc1 => ?_) (fun hc1 => ?_)
  · refine wseq ?_
    refine wreg fun K hK => ?_
    simp [C.laws_eqSession]
    refine hK _ ?_; clear hK K
    show AWp _ _ _ _ _
    refine wret ?_
    simp at hc1
    simp [C.laws_eqSession, ses_eq, hc1]
  · refine wskip ?_
    show AWp _ _ _ _ _
    refine wseq ?_
    refine wseq ?_
    refine wregI ([0, 1, 2, 3, 4] ++ ([5])) rfl fun K hK => ?_
    refine opsI_seg fun L hL => ?_
    simp [C.laws_eqSession]
    refine wcall1 (laws_eqIntS_calls a.k b.k hx.2.1) (by simp) (by simp) ?_
    simp [C.laws_eqSession]
    refine hL _ ?_; clear hL L
    refine opsI_end fun L hL => ?_
    simp [C.laws_eqSession]
    refine hL _ ?_; clear hL L
    simp [C.laws_eqSession]
    refine hK _ ?_; clear hK K
    show AWp _ _ _ _ _
    refine wcond _ rfl (fun hc2 => ?_) (fun hc2 => ?_)
    · refine wseq ?_
      refine wreg fun K hK => ?_
      simp [C.laws_eqSession]
      refine hK _ ?_; clear hK K
      show AWp _ _ _ _ _
      refine wret ?_
      simp at hc2
      simp [C.laws_eqSession, ses_eq, hc2]
    · refine wskip ?_
      show AWp _ _ _ _ _
      refine wseq ?_
      refine wseq ?_
      refine wregI ([0, 1, 2, 3, 4] ++ ([5])) rfl fun K hK => ?_
      refine opsI_seg fun L hL => ?_
      simp [C.laws_eqSession]
      refine wcall1 (laws_eqSeed_calls a.s b.s hx.2.2) (by simp) (by simp) ?_
      simp [C.laws_eqSession]
      refine hL _ ?_; clear hL L
      refine opsI_end fun L hL => ?_
      simp [C.laws_eqSession]
      refine hL _ ?_; clear hL L
      simp [C.laws_eqSession]
      refine hK _ ?_; clear hK K
      show AWp _ _ _ _ _
      refine wcond _ rfl (fun hc3 => ?_) (fun hc3 => ?_)
      · refine wseq ?_
        refine wreg fun K hK => ?_
        simp [C.laws_eqSession]
        refine hK _ ?_; clear hK K
        show AWp _ _ _ _ _
        refine wret ?_
        simp at hc3
        simp [C.laws_eqSession, ses_eq, hc3]
      · refine wskip ?_
        show AWp _ _ _ _ _
        refine wseq ?_
        refine wreg fun K hK => ?_
        simp [C.laws_eqSession]
        refine hK _ ?_; clear hK K
        show AWp _ _ _ _ _
        refine wret ?_
        simp at hc1 hc2 hc3
        simp [C.laws_eqSession, ses_eq, hc1, hc2, hc3]

theorem laws_markMatrix_calls (m : Mat) (k : Int) (hk0 : 0 ≤ k) (hk : k + m.d.length < 4611686018427387904) : ACalls Try.prog F.laws_markMatrix [.ag [.int m.n, .int m.r, .al (0, 2) [] 0 m.d.length], .int k] [((0, 2), owI m.d)] true (fun outs res => outs = [.ow 1 m.d.length (ints (marks k m.d.length))] ∧ res = [.one (D.int (k + m.d.length))]) := by
  refine ACalls.of_body (C := C.laws_markMatrix) (n := Try.f81.ntmps) tabT folT Try.func81 rfl (by kernel_rfl) rfl (Nat.le_of_ble_eq_true rfl) (by decide) (by kernel_rfl) (by kernel_rfl) rfl (by simp) (by simp) ?_
  simp only [Try.f81]
  refine wseq ?_
  refine wreg fun K hK => ?_
  simp [C.laws_markMatrix]
  refine hK _ ?_; clear hK K
  show AWp _ _ _ _ _
  refine wseq ?_
  refine wregI ([0, 1, 2, 3] ++ ([4])) rfl fun K hK => ?_
  refine opsI_seg fun L hL => ?_
  simp [C.laws_markMatrix, modify_const]
  refine wcall1 (laws_markIntS_calls m.d k hk0 hk) (by simp) (by simp) ?_
  simp [C.laws_markMatrix, modify_const]
  refine hL _ ?_; clear hL L
  refine opsI_end fun L hL => ?_
  simp [C.laws_markMatrix, modify_const]
  refine hL _ ?_; clear hL L
  simp [C.laws_markMatrix, modify_const]
  refine hK _ ?_; clear hK K
  show AWp _ _ _ _ _
  refine wseq ?_
  refine wreg fun K hK => ?_
  simp [C.laws_markMatrix]
  refine hK _ ?_; clear hK K
  show AWp _ _ _ _ _
  refine wret ?_
  simp [C.laws_markMatrix]

theorem laws_markLaurentS_calls (fs : List Lau) (k : Int) (hk0 : 0 ≤ k) (hk : k + cntL cntF fs < 4611686018427387904) (hx : fs.length < 4611686018427387904) (hx2 : ∀ f ∈ fs, SmF f) : ACalls Try.prog F.laws_markLaurentS [.al (0, 0) [] 0 fs.length, .int k] [((0, 0), .ow 2 fs.length (rows fO fs))] true (fun outs res => outs = [.ow 2 fs.length (rows fO (mkL cntF mkF fs k))] ∧ res = [.one (D.int (k + cntL cntF fs))]) := by
  refine ACalls.of_body (C := C.laws_markLaurentS) (n := Try.f171.ntmps) tabT folT Try.func171 rfl (by kernel_rfl) rfl (Nat.le_of_ble_eq_true rfl) (by decide) (by kernel_rfl) (by kernel_rfl) rfl (by simp) (by simp) ?_
  simp only [Try.f171]
  refine wseq ?_
  refine wreg fun K hK => ?_
  simp [C.laws_markLaurentS]
  refine hK _ ?_; clear hK K
  show AWp _ _ _ _ _
  refine wseq ?_
  refine wseq ?_
  refine wreg fun K hK => ?_
  simp [C.laws_markLaurentS]
  refine hK _ ?_; clear hK K
  show AWp _ _ _ _ _
  refine wblock ?_
  refine wloop (fun x : Nat × List Lau × Int => ⟨ofL [(0, .al (0, 0) [] 0 fs.length), (1, .int x.2.2), (5, .int x.1), (1000, .al (0, 0) [] 0 fs.length)], ofRO [((0, 0), some (.ow 2 fs.length (rows fO x.2.1)))]⟩) (fun x => x.1 ≤ fs.length ∧ x.2.1 = mkL cntF mkF (fs.take x.1) k ++ fs.drop x.1 ∧ x.2.2 = k + cntL cntF (fs.take x.1)) (fun x => fs.length - x.1) (0, fs, k) (by simp [C.laws_markLaurentS]) (by simp [mkL, cntL]) ?_
  intro x1 hx1 R1 hR1
  obtain ⟨j, gs, kk⟩ := x1
  obtain ⟨h0, hg, he⟩ := hx1
  dsimp only at h0 hg he ⊢
  refine wseq ?_
  refine wseq ?_
  refine wreg fun K hK => ?_
  simp [C.laws_markLaurentS]
  refine hK _ ?_; clear hK K
  show AWp _ _ _ _ _
  refine wcond _ rfl (fun hc1 => ?_) (fun hc1 => ?_)
  · refine wskip ?_
    show AWp _ _ _ _ _
    refine wseq ?_
    refine wblock ?_
    refine wseq ?_
    have h1 : j < fs.length := by simpa using hc1
    have hl : gs.length = fs.length := by rw [hg]; simp; omega
    have h2 : j < gs.length := by omega
    have hge : gs[j] = fs[j] := by
      have := mkL_get2 cntF mkF fs k j h1
      rw [← hg, List.getElem?_eq_getElem h2] at this
      injection this
    have hb := cntL_le1 cntF fs j h1
    have hcj : cntF fs[j] = 1 + cntL cntT fs[j].ts := rfl
    refine wreg fun K hK => ?_
    simp [C.laws_markLaurentS, hl, h1, h2, hge, fO_0 h2, fO_1 h2]
    refine hK _ ?_; clear hK K
    show AWp _ _ _ _ _
    refine wseq ?_
    refine wreg fun K hK => ?_
    simp [C.laws_markLaurentS]
    rw [wrapOk (x := kk + 1) (by omega) (by omega)]
    refine hK _ ?_; clear hK K
    show AWp _ _ _ _ _
    refine wregI ([0, 1, 2, 3, 4, 5, 6] ++ ([7])) rfl fun K hK => ?_
    refine opsI_seg fun L hL => ?_
    simp [C.laws_markLaurentS, hl, h1, h2, hge, fO_0 h2, fO_1 h2, modify_const]
    refine wcall1 (laws_markTermS_calls fs[j].ts (kk + 1) (by omega) (by omega) (hx2 _ (List.getElem_mem h1)).1) (by simp) (by simp) ?_
    simp [C.laws_markLaurentS, hl, h1, h2, hge, fO_0 h2, fO_1 h2, modify_const]
    refine hL _ ?_; clear hL L
    refine opsI_end fun L hL => ?_
    simp [C.laws_markLaurentS, hl, h1, h2, hge, fO_0 h2, fO_1 h2, modify_const]
    refine hL _ ?_; clear hL L
    simp [C.laws_markLaurentS, hl, h1, h2, hge, fO_0 h2, fO_1 h2, modify_const]
    refine hK _ ?_; clear hK K
    show AWp _ _ _ _ _
    refine wreg fun K hK => ?_
    simp [C.laws_markLaurentS, wrap_succ (show j < 4611686018427387904 by omega)]
    refine hK _ ?_; clear hK K
    simp [C.laws_markLaurentS]
    rw [fO_set2 h2 _ _ (by simp)]
    refine hR1 (j + 1, _, _) ⟨h1, ?_, ?_⟩ (by dsimp only; omega)
    · dsimp only
      rw [hg, he]
      exact mkL_step cntF mkF fs k j h1
    · dsimp only
      rw [cntL_step _ _ _ h1]
      omega
  · refine wexit ?_
    show AWp _ _ _ _ _
    refine wseq ?_
    refine wreg fun K hK => ?_
    simp [C.laws_markLaurentS]
    refine hK _ ?_; clear hK K
    show AWp _ _ _ _ _
    refine wret ?_
    have hj2 : j = fs.length := by simp at hc1; omega
    simp [C.laws_markLaurentS, hj2, hg, he]

theorem laws_markSeed_calls (s : Sed) (k : Int) (hk0 : 0 ≤ k) (hk : k + cntS s < 4611686018427387904) (hx : SmS s) : ACalls Try.prog F.laws_markSeed [.ag [.int s.m.n, .int s.m.r, .al (0, 2) [] 0 s.m.d.length, .al (0, 3) [] 0 s.f.length], .int k] [((0, 2), owI s.m.d), ((0, 3), .ow 2 s.f.length (rows fO s.f))] true (fun outs res => outs = [.ow 1 s.m.d.length (ints (marks k s.m.d.length)), .ow 2 s.f.length (rows fO (mkL cntF mkF s.f (k + s.m.d.length)))] ∧ res = [.one (D.int (k + cntS s))]) := by
  refine ACalls.of_body (C := C.laws_markSeed) (n := Try.f83.ntmps) tabT folT Try.func83 rfl (by kernel_rfl) rfl (Nat.le_of_ble_eq_true rfl) (by decide) (by kernel_rfl) (by kernel_rfl) rfl (by simp) (by simp) ?_
  simp only [Try.f83]
  refine wseq ?_
  refine wreg fun K hK => ?_
  simp [C.laws_markSeed]
  refine hK _ ?_; clear hK K
  show AWp _ _ _ _ _
  refine wseq ?_
  have hcs : cntS s = s.m.d.length + cntL cntF s.f := rfl
  refine wregI ([0, 1, 2, 3] ++ ([4])) rfl fun K hK => ?_
  refine opsI_seg fun L hL => ?_
  simp [C.laws_markSeed, modify_const]
  refine wcall1 (laws_markMatrix_calls s.m k hk0 (by omega)) (by simp) (by simp) ?_
  simp [C.laws_markSeed, modify_const]
  refine hL _ ?_; clear hL L
  refine opsI_end fun L hL => ?_
  simp [C.laws_markSeed, modify_const]
  refine hL _ ?_; clear hL L
  simp [C.laws_markSeed, modify_const]
  refine hK _ ?_; clear hK K
  show AWp _ _ _ _ _
  refine wseq ?_
  refine wregI ([0, 1, 2, 3] ++ ([4])) rfl fun K hK => ?_
  refine opsI_seg fun L hL => ?_
  simp [C.laws_markSeed, modify_const]
  refine wcall1 (laws_markLaurentS_calls s.f (k + s.m.d.length) (by omega) (by omega) hx.2.1 hx.2.2) (by simp) (by simp) ?_
  simp [C.laws_markSeed, modify_const]
  refine hL _ ?_; clear hL L
  refine opsI_end fun L hL => ?_
  simp [C.laws_markSeed, modify_const]
  refine hL _ ?_; clear hL L
  simp [C.laws_markSeed, modify_const]
  refine hK _ ?_; clear hK K
  show AWp _ _ _ _ _
  refine wseq ?_
  refine wreg fun K hK => ?_
  simp [C.laws_markSeed]
  refine hK _ ?_; clear hK K
  show AWp _ _ _ _ _
  refine wret ?_
  simp [C.laws_markSeed]
  omega

theorem laws_markSession_calls (z : Ses) (k : Int) (hk0 : 0 ≤ k) (hk : k + cntZ z < 4611686018427387904) (hx : SmZ z) : ACalls Try.prog F.laws_markSession [.ag [.int z.a.n, .int z.a.r, .al (0, 2) [] 0 z.a.d.length, .al (0, 3) [] 0 z.k.length, .int z.s.m.n, .int z.s.m.r, .al (0, 6) [] 0 z.s.m.d.length, .al (0, 7) [] 0 z.s.f.length], .int k] [((0, 2), owI z.a.d), ((0, 3), owI z.k), ((0, 6), owI z.s.m.d), ((0, 7), .ow 2 z.s.f.length (rows fO z.s.f))] true (fun outs res => outs = [.ow 1 z.a.d.length (ints (marks k z.a.d.length)), .ow 1 z.k.length (ints (marks (k + z.a.d.length) z.k.length)), .ow 1 z.s.m.d.length (ints (marks (k + z.a.d.length + z.k.length) z.s.m.d.length)), .ow 2 z.s.f.length (rows fO (mkL cntF mkF z.s.f (k + z.a.d.length + z.k.length + z.s.m.d.length)))] ∧ res = [.one (D.int (k + cntZ z))]) := by
  refine ACalls.of_body (C := C.laws_markSession) (n := Try.f18.ntmps) tabT folT Try.func18 rfl (by kernel_rfl) rfl (Nat.le_of_ble_eq_true rfl) (by decide) (by kernel_rfl) (by kernel_rfl) rfl (by simp) (by simp) ?_
  simp only [Try.f18]
  refine wseq ?_
  refine wreg fun K hK => ?_
  simp [C.laws_markSession]
  refine hK _ ?_; clear hK K
  show AWp _ _ _ _ _
  refine wseq ?_
  have hcz : cntZ z = z.a.d.length + z.k.length + cntS z.s := rfl
  refine wregI ([0, 1, 2, 3] ++ ([4])) rfl fun K hK => ?_
  refine opsI_seg fun L hL => ?_
  simp [C.laws_markSession]
  refine wcall1 (laws_markMatrix_calls z.a k hk0 (by omega)) (by simp) (by simp) ?_
  simp [C.laws_markSession]
  refine hL _ ?_; clear hL L
  refine opsI_end fun L hL => ?_
  simp [C.laws_markSession]
  refine hL _ ?_; clear hL L
  simp [C.laws_markSession]
  refine hK _ ?_; clear hK K
  show AWp _ _ _ _ _
  refine wseq ?_
  refine wregI ([0, 1, 2, 3] ++ ([4])) rfl fun K hK => ?_
  refine opsI_seg fun L hL => ?_
  simp [C.laws_markSession]
  refine wcall1 (laws_markIntS_calls z.k (k + z.a.d.length) (by omega) (by omega)) (by simp) (by simp) ?_
  simp [C.laws_markSession]
  refine hL _ ?_; clear hL L
  refine opsI_end fun L hL => ?_
  simp [C.laws_markSession]
  refine hL _ ?_; clear hL L
  simp [C.laws_markSession]
  refine hK _ ?_; clear hK K
  show AWp _ _ _ _ _
  refine wseq ?_
  refine wregI ([0, 1, 2, 3] ++ ([4])) rfl fun K hK => ?_
  refine opsI_seg fun L hL => ?_
  simp [C.laws_markSession]
  refine wcall1 (laws_markSeed_calls z.s (k + z.a.d.length + z.k.length) (by omega) (by omega) hx.2.2) (by simp) (by simp) ?_
  simp [C.laws_markSession]
  refine hL _ ?_; clear hL L
  refine opsI_end fun L hL => ?_
  simp [C.laws_markSession]
  refine hL _ ?_; clear hL L
  simp [C.laws_markSession]
  refine hK _ ?_; clear hK K
  show AWp _ _ _ _ _
  refine wseq ?_
  refine wreg fun K hK => ?_
  simp [C.laws_markSession]
  refine hK _ ?_; clear hK K
  show AWp _ _ _ _ _
  refine wret ?_
  simp [C.laws_markSession]
  omega

theorem laws_heldMatrix_calls (n r : Int) (l : Nat) (k : Int) (hk0 : 0 ≤ k) (hk : k + l < 4611686018427387904) : ACalls Try.prog F.laws_heldMatrix [.ag [.int n, .int r, .d (.sh 1 l (ints (marks k l)))], .int k] [] true (fun outs res => outs = [] ∧ res = [.one (D.int (k + l))]) := by
  refine ACalls.of_body (C := C.laws_heldMatrix) (n := Try.f84.ntmps) tabT folT Try.func84 rfl (by kernel_rfl) rfl (Nat.le_of_ble_eq_true rfl) (by decide) (by kernel_rfl) (by kernel_rfl) rfl (by simp) (by simp) ?_
  simp only [Try.f84]
  refine wseq ?_
  refine wreg fun K hK => ?_
  simp [C.laws_heldMatrix]
  refine hK _ ?_; clear hK K
  show AWp _ _ _ _ _
  refine wseq ?_
  refine wregI ([0, 1, 2, 3] ++ ([4])) rfl fun K hK => ?_
  refine opsI_seg fun L hL => ?_
  simp [C.laws_heldMatrix]
  refine wcall1 (laws_heldIntS_calls l k hk0 hk) (by simp) (by simp) ?_
  simp [C.laws_heldMatrix]
  refine hL _ ?_; clear hL L
  refine opsI_end fun L hL => ?_
  simp [C.laws_heldMatrix]
  refine hL _ ?_; clear hL L
  simp [C.laws_heldMatrix]
  refine hK _ ?_; clear hK K
  show AWp _ _ _ _ _
  refine wseq ?_
  refine wseq ?_
  refine wreg fun K hK => ?_
  simp [C.laws_heldMatrix]
  refine hK _ ?_; clear hK K
  show AWp _ _ _ _ _
  refine wcond _ rfl (fun hc1 => ?_) (fun hc1 => ?_)
  · simp at hc1; omega
  · refine wskip ?_
    show AWp _ _ _ _ _
    refine wseq ?_
    refine wreg fun K hK => ?_
    simp [C.laws_heldMatrix]
    refine hK _ ?_; clear hK K
    show AWp _ _ _ _ _
    refine wret ?_
    simp [C.laws_heldMatrix]

theorem laws_heldLaurentS_calls (fs : List Lau) (k : Int) (hk0 : 0 ≤ k) (hk : k + cntL cntF fs < 4611686018427387904) (hx : fs.length < 4611686018427387904) (hx2 : ∀ f ∈ fs, SmF f) : ACalls Try.prog F.laws_heldLaurentS [.d (.sh 2 fs.length (rows fS (mkL cntF mkF fs k))), .int k] [] true (fun outs res => outs = [] ∧ res = [.one (D.int (k + cntL cntF fs))]) := by
  refine ACalls.of_body (C := C.laws_heldLaurentS) (n := Try.f172.ntmps) tabT folT Try.func172 rfl (by kernel_rfl) rfl (Nat.le_of_ble_eq_true rfl) (by decide) (by kernel_rfl) (by kernel_rfl) rfl (by simp) (by simp) ?_
  simp only [Try.f172]
  refine wseq ?_
  refine wreg fun K hK => ?_
  simp [C.laws_heldLaurentS]
  refine hK _ ?_; clear hK K
  show AWp _ _ _ _ _
  refine wseq ?_
  refine wseq ?_
  refine wreg fun K hK => ?_
  simp [C.laws_heldLaurentS]
  refine hK _ ?_; clear hK K
  show AWp _ _ _ _ _
  refine wblock ?_
  refine wloop (fun x : Nat × Int => ⟨ofL [(0, .d (.sh 2 fs.length (rows fS (mkL cntF mkF fs k)))), (1, .int x.2), (5, .int x.1)], ofRO []⟩) (fun x => x.1 ≤ fs.length ∧ x.2 = k + cntL cntF (fs.take x.1)) (fun x => fs.length - x.1) (0, k) (by simp [C.laws_heldLaurentS]) (by simp [cntL]) ?_
  intro x1 hx1 R1 hR1
  obtain ⟨j, kk⟩ := x1
  obtain ⟨h0, he⟩ := hx1
  dsimp only at h0 he ⊢
  refine wseq ?_
  refine wseq ?_
  refine wreg fun K hK => ?_
  simp [C.laws_heldLaurentS]
  refine hK _ ?_; clear hK K
  show AWp _ _ _ _ _
  refine wcond _ rfl (fun hc1 => ?_) (fun hc1 => ?_)
  · refine wskip ?_
    show AWp _ _ _ _ _
    refine wseq ?_
    refine wblock ?_
    refine wseq ?_
    refine wseq ?_
    have h1 : j < fs.length := by simpa using hc1
    have h2 : j < (mkL cntF mkF fs k).length := by simpa using h1
    have hge : (mkL cntF mkF fs k)[j] = ⟨kk, mkL cntT mkT fs[j].ts (kk + 1)⟩ := by
      rw [mkL_get1 _ _ _ _ _ h1, he]
      rfl
    have hb := cntL_le1 cntF fs j h1
    have hcj : cntF fs[j] = 1 + cntL cntT fs[j].ts := rfl
    refine wreg fun K hK => ?_
    simp [C.laws_heldLaurentS, h1, h2, hge, fS_0 h2, fS_1 h2]
    refine hK _ ?_; clear hK K
    show AWp _ _ _ _ _
    refine wcond _ rfl (fun hc2 => ?_) (fun hc2 => ?_)
    · simp at hc2
    · refine wskip ?_
      show AWp _ _ _ _ _
      refine wseq ?_
      refine wreg fun K hK => ?_
      simp [C.laws_heldLaurentS]
      rw [wrapOk (x := kk + 1) (by omega) (by omega)]
      refine hK _ ?_; clear hK K
      show AWp _ _ _ _ _
      refine wseq ?_
      refine wregI ([0, 1, 2, 3, 4, 5, 6] ++ ([7])) rfl fun K hK => ?_
      refine opsI_seg fun L hL => ?_
      simp [C.laws_heldLaurentS, h1, h2, hge, fS_0 h2, fS_1 h2]
      refine wcall1 (laws_heldTermS_calls fs[j].ts (kk + 1) (by omega) (by omega) (hx2 _ (List.getElem_mem h1)).1) (by simp) (by simp) ?_
      simp [C.laws_heldLaurentS, h1, h2, hge, fS_0 h2, fS_1 h2]
      refine hL _ ?_; clear hL L
      refine opsI_end fun L hL => ?_
      simp [C.laws_heldLaurentS, h1, h2, hge, fS_0 h2, fS_1 h2]
      refine hL _ ?_; clear hL L
      simp [C.laws_heldLaurentS, h1, h2, hge, fS_0 h2, fS_1 h2]
      refine hK _ ?_; clear hK K
      show AWp _ _ _ _ _
      refine wseq ?_
      refine wreg fun K hK => ?_
      simp [C.laws_heldLaurentS]
      refine hK _ ?_; clear hK K
      show AWp _ _ _ _ _
      refine wcond _ rfl (fun hc3 => ?_) (fun hc3 => ?_)
      · simp at hc3; omega
      · refine wskip ?_
        show AWp _ _ _ _ _
        refine wreg fun K hK => ?_
        simp [C.laws_heldLaurentS, wrap_succ (show j < 4611686018427387904 by omega)]
        refine hK _ ?_; clear hK K
        simp [C.laws_heldLaurentS]
        refine hR1 (j + 1, _) ⟨h1, ?_⟩ (by dsimp only; omega)
        dsimp only
        rw [cntL_step _ _ _ h1]
        omega
  · refine wexit ?_
    show AWp _ _ _ _ _
    refine wseq ?_
    refine wreg fun K hK => ?_
    simp [C.laws_heldLaurentS]
    refine hK _ ?_; clear hK K
    show AWp _ _ _ _ _
    refine wret ?_
    have hj2 : j = fs.length := by simp at hc1; omega
    simp [C.laws_heldLaurentS, hj2, he]

theorem laws_heldSeed_calls (s : Sed) (n r : Int) (k : Int) (hk0 : 0 ≤ k) (hk : k + cntS s < 4611686018427387904) (hx : SmS s) : ACalls Try.prog F.laws_heldSeed [.ag [.int n, .int r, .d (.sh 1 s.m.d.length (ints (marks k s.m.d.length))), .d (.sh 2 s.f.length (rows fS (mkL cntF mkF s.f (k + s.m.d.length))))], .int k] [] true (fun outs res => outs = [] ∧ res = [.one (D.int (k + cntS s))]) := by
  refine ACalls.of_body (C := C.laws_heldSeed) (n := Try.f86.ntmps) tabT folT Try.func86 rfl (by kernel_rfl) rfl (Nat.le_of_ble_eq_true rfl) (by decide) (by kernel_rfl) (by kernel_rfl) rfl (by simp) (by simp) ?_
  simp only [Try.f86]
  refine wseq ?_
  refine wreg fun K hK => ?_
  simp [C.laws_heldSeed]
  refine hK _ ?_; clear hK K
  show AWp _ _ _ _ _
  refine wseq ?_
  have hcs : cntS s = s.m.d.length + cntL cntF s.f := rfl
  refine wregI ([0, 1, 2, 3] ++ ([4])) rfl fun K hK => ?_
  refine opsI_seg fun L hL => ?_
  simp [C.laws_heldSeed]
  refine wcall1 (laws_heldMatrix_calls n r s.m.d.length k hk0 (by omega)) (by simp) (by simp) ?_
  simp [C.laws_heldSeed]
  refine hL _ ?_; clear hL L
  refine opsI_end fun L hL => ?_
  simp [C.laws_heldSeed]
  refine hL _ ?_; clear hL L
  simp [C.laws_heldSeed]
  refine hK _ ?_; clear hK K
  show AWp _ _ _ _ _
  refine wseq ?_
  refine wseq ?_
  refine wreg fun K hK => ?_
  simp [C.laws_heldSeed]
  refine hK _ ?_; clear hK K
  show AWp _ _ _ _ _
  refine wcond _ rfl (fun hc1 => ?_) (fun hc1 => ?_)
  · simp at hc1; omega
  · refine wskip ?_
    show AWp _ _ _ _ _
    refine wseq ?_
    refine wregI ([0, 1, 2, 3] ++ ([4])) rfl fun K hK => ?_
    refine opsI_seg fun L hL => ?_
    simp [C.laws_heldSeed]
    refine wcall1 (laws_heldLaurentS_calls s.f (k + s.m.d.length) (by omega) (by omega) hx.2.1 hx.2.2) (by simp) (by simp) ?_
    simp [C.laws_heldSeed]
    refine hL _ ?_; clear hL L
    refine opsI_end fun L hL => ?_
    simp [C.laws_heldSeed]
    refine hL _ ?_; clear hL L
    simp [C.laws_heldSeed]
    refine hK _ ?_; clear hK K
    show AWp _ _ _ _ _
    refine wseq ?_
    refine wseq ?_
    refine wreg fun K hK => ?_
    simp [C.laws_heldSeed]
    refine hK _ ?_; clear hK K
    show AWp _ _ _ _ _
    refine wcond _ rfl (fun hc2 => ?_) (fun hc2 => ?_)
    · simp at hc2; omega
    · refine wskip ?_
      show AWp _ _ _ _ _
      refine wseq ?_
      refine wreg fun K hK => ?_
      simp [C.laws_heldSeed]
      refine hK _ ?_; clear hK K
      show AWp _ _ _ _ _
      refine wret ?_
      simp [C.laws_heldSeed]
      omega

theorem laws_heldSession_calls (z : Ses) (n r n2 r2 : Int) (k : Int) (hk0 : 0 ≤ k) (hk : k + cntZ z < 4611686018427387904) (hx : SmZ z) : ACalls Try.prog F.laws_heldSession [.ag [.int n, .int r, .d (.sh 1 z.a.d.length (ints (marks k z.a.d.length))), .d (.sh 1 z.k.length (ints (marks (k + z.a.d.length) z.k.length))), .int n2, .int r2, .d (.sh 1 z.s.m.d.length (ints (marks (k + z.a.d.length + z.k.length) z.s.m.d.length))), .d (.sh 2 z.s.f.length (rows fS (mkL cntF mkF z.s.f (k + z.a.d.length + z.k.length + z.s.m.d.length))))], .int k] [] true (fun outs res => outs = [] ∧ res = [.one (D.int (k + cntZ z))]) := by
  refine ACalls.of_body (C := C.laws_heldSession) (n := Try.f19.ntmps) tabT folT Try.func19 rfl (by kernel_rfl) rfl (Nat.le_of_ble_eq_true rfl) (by decide) (by kernel_rfl) (by kernel_rfl) rfl (by simp) (by simp) ?_
  simp only [Try.f19]
  refine wseq ?_
  refine wreg fun K hK => ?_
  simp [C.laws_heldSession]
  refine hK _ ?_; clear hK K
  show AWp _ _ _ _ _
  refine wseq ?_
  have hcz : cntZ z = z.a.d.length + z.k.length + cntS z.s := rfl
  refine wregI ([0, 1, 2, 3] ++ ([4])) rfl fun K hK => ?_
  refine opsI_seg fun L hL => ?_
  simp [C.laws_heldSession]
  refine wcall1 (laws_heldMatrix_calls n r z.a.d.length k hk0 (by omega)) (by simp) (by simp) ?_
  simp [C.laws_heldSession]
  refine hL _ ?_; clear hL L
  refine opsI_end fun L hL => ?_
  simp [C.laws_heldSession]
  refine hL _ ?_; clear hL L
  simp [C.laws_heldSession]
  refine hK _ ?_; clear hK K
  show AWp _ _ _ _ _
  refine wseq ?_
  refine wseq ?_
  refine wreg fun K hK => ?_
  simp [C.laws_heldSession]
  refine hK _ ?_; clear hK K
  show AWp _ _ _ _ _
  refine wcond _ rfl (fun hc1 => ?_) (fun hc1 => ?_)
  · simp at hc1; omega
  · refine wskip ?_
    show AWp _ _ _ _ _
    refine wseq ?_
    refine wregI ([0, 1, 2, 3] ++ ([4])) rfl fun K hK => ?_
    refine opsI_seg fun L hL => ?_
    simp [C.laws_heldSession]
    refine wcall1 (laws_heldIntS_calls z.k.length (k + z.a.d.length) (by omega) (by omega)) (by simp) (by simp) ?_
    simp [C.laws_heldSession]
    refine hL _ ?_; clear hL L
    refine opsI_end fun L hL => ?_
    simp [C.laws_heldSession]
    refine hL _ ?_; clear hL L
    simp [C.laws_heldSession]
    refine hK _ ?_; clear hK K
    show AWp _ _ _ _ _
    refine wseq ?_
    refine wseq ?_
    refine wreg fun K hK => ?_
    simp [C.laws_heldSession]
    refine hK _ ?_; clear hK K
    show AWp _ _ _ _ _
    refine wcond _ rfl (fun hc2 => ?_) (fun hc2 => ?_)
    · simp at hc2; omega
    · refine wskip ?_
      show AWp _ _ _ _ _
      refine wseq ?_
      refine wregI ([0, 1, 2, 3] ++ ([4])) rfl fun K hK => ?_
      refine opsI_seg fun L hL => ?_
      simp [C.laws_heldSession]
      refine wcall1 (laws_heldSeed_calls z.s n2 r2 (k + z.a.d.length + z.k.length) (by omega) (by omega) hx.2.2) (by simp) (by simp) ?_
      simp [C.laws_heldSession]
      refine hL _ ?_; clear hL L
      refine opsI_end fun L hL => ?_
      simp [C.laws_heldSession]
      refine hL _ ?_; clear hL L
      simp [C.laws_heldSession]
      refine hK _ ?_; clear hK K
      show AWp _ _ _ _ _
      refine wseq ?_
      refine wseq ?_
      refine wreg fun K hK => ?_
      simp [C.laws_heldSession]
      refine hK _ ?_; clear hK K
      show AWp _ _ _ _ _
      refine wcond _ rfl (fun hc3 => ?_) (fun hc3 => ?_)
      · simp at hc3; omega
      · refine wskip ?_
        show AWp _ _ _ _ _
        refine wseq ?_
        refine wreg fun K hK => ?_
        simp [C.laws_heldSession]
        refine hK _ ?_; clear hK K
        show AWp _ _ _ _ _
        refine wret ?_
        simp [C.laws_heldSession]
        omega

end Go.Proofs.Ytdgeponcnlkaiaa.Ab
namespace Go.Proofs.Ytdgeponcnlkaiaa.Ab
open Go
set_option linter.unusedSimpArgs false
set_option linter.unusedVariables false
set_option maxRecDepth 10000
set_option maxHeartbeats 2000000
def unitL (n i : Nat) : List Int := (List.replicate n 0).set i 1
theorem unitL_length (n i : Nat) : (unitL n i).length = n := by simp [unitL]
noncomputable def monoF (e : List Int) : Lau := if Right ⟨e.length, [⟨e, 1⟩]⟩ then ⟨e.length, [⟨e, 1⟩]⟩ else zeroF
noncomputable def varsL (r : Nat) : List Lau := (List.range r).map fun i => monoF (unitL r i)
theorem fO_snoc (l : List Lau) (f : Lau) : rows fO l ++ [D.v (.int .i64 f.v), D.ow 2 f.ts.length (rows tO f.ts)] = rows fO (l ++ [f]) := by
  rw [rows_append]
  rfl
theorem mono_right {e : List Int} : Right ⟨e.length, [⟨e, 1⟩]⟩ ↔ (1 ≤ (e.length : Int) ∧ (e.length : Int) ≤ 8) ∧ okE e e.length = true := by
  rw [okE_iff]
  unfold Right Good DescT
  simp
theorem spec_l1CopyMatrix_calls (m : Mat) (hx : m.d.length < 17592186044416) : ACalls Try.prog F.spec_l1CopyMatrix [aM m] [] true (fun outs res => outs = [] ∧ res = [.ag (mO m)]) := by
  refine ACalls.of_body (C := C.spec_l1CopyMatrix) (n := Try.f166.ntmps) tabT folT Try.func166 rfl (by kernel_rfl) rfl (Nat.le_of_ble_eq_true rfl) (by decide) (by kernel_rfl) (by kernel_rfl) rfl (by simp) (by simp) ?_
  simp only [Try.f166]
  refine wseq ?_
  refine wreg fun K hK => ?_
  simp [C.spec_l1CopyMatrix]
  refine hK _ ?_; clear hK K
  show AWp _ _ _ _ _
  refine wseq ?_
  refine wdrawI [(true, 0), (true, 1), (true, 2), (true, 3), (true, 4), (true, 5), (false, 6), (true, 7), (false, 8)] ⟨by kernel_rfl, by kernel_rfl⟩ ([0, 1, 2, 3, 4, 5, 6] ++ ([7, 8])) rfl fun K hK => ?_
  refine opsI_seg fun L hL => ?_
  simp [C.spec_l1CopyMatrix]
  refine wcall1 (spec_l1Ints_calls m.d hx) (by simp) (by simp) ?_
  simp [C.spec_l1CopyMatrix]
  refine hL _ ?_; clear hL L
  refine opsI_end fun L hL => ?_
  simp [C.spec_l1CopyMatrix]
  refine hL _ ?_; clear hL L
  simp [C.spec_l1CopyMatrix]
  refine hK _ ?_; clear hK K
  show AWp _ _ _ _ _
  refine wret ?_
  simp [C.spec_l1CopyMatrix, mO]

theorem spec_l3Unit_calls (n i : Nat) (hn : n ≤ 8) (hi : i < n) : ACalls Try.prog F.spec_l3Unit [.int n, .int i] [] true (fun outs res => outs = [] ∧ res = [.one (owI (unitL n i))]) := by
  refine ACalls.of_body (C := C.spec_l3Unit) (n := Try.f167.ntmps) tabT folT Try.func167 rfl (by kernel_rfl) rfl (Nat.le_of_ble_eq_true rfl) (by decide) (by kernel_rfl) (by kernel_rfl) rfl (by simp) (by simp) ?_
  simp only [Try.f167]
  refine wseq ?_
  refine wreg fun K hK => ?_
  simp [C.spec_l3Unit]
  refine hK _ ?_; clear hK K
  show AWp _ _ _ _ _
  refine wseq ?_
  refine wreg fun K hK => ?_
  simp [C.spec_l3Unit, zeros_ints, show (8 : Int) * n ≤ 281474976710656 by omega, show (n : Int) ≤ 281474976710656 by omega]
  refine hK _ ?_; clear hK K
  show AWp _ _ _ _ _
  refine wseq ?_
  refine wreg fun K hK => ?_
  simp [C.spec_l3Unit, hi]
  refine hK _ ?_; clear hK K
  show AWp _ _ _ _ _
  refine wseq ?_
  refine wreg fun K hK => ?_
  simp [C.spec_l3Unit]
  refine hK _ ?_; clear hK K
  show AWp _ _ _ _ _
  refine wret ?_
  simp [C.spec_l3Unit, unitL]

theorem impl_unit_calls (n i : Nat) (hn : n ≤ 8) (hi : i < n) : ACalls Try.prog F.impl_unit [.int n, .int i] [] true (fun outs res => outs = [] ∧ res = [.one (owI (unitL n i))]) := by
  refine ACalls.of_body (C := C.impl_unit) (n := Try.f97.ntmps) tabT folT Try.func97 rfl (by kernel_rfl) rfl (Nat.le_of_ble_eq_true rfl) (by decide) (by kernel_rfl) (by kernel_rfl) rfl (by simp) (by simp) ?_
  simp only [Try.f97]
  refine wseq ?_
  refine wreg fun K hK => ?_
  simp [C.impl_unit]
  refine hK _ ?_; clear hK K
  show AWp _ _ _ _ _
  refine wseq ?_
  refine wreg fun K hK => ?_
  simp [C.impl_unit, zeros_ints, show (8 : Int) * n ≤ 281474976710656 by omega, show (n : Int) ≤ 281474976710656 by omega]
  refine hK _ ?_; clear hK K
  show AWp _ _ _ _ _
  refine wseq ?_
  refine wreg fun K hK => ?_
  simp [C.impl_unit, hi]
  refine hK _ ?_; clear hK K
  show AWp _ _ _ _ _
  refine wseq ?_
  refine wreg fun K hK => ?_
  simp [C.impl_unit]
  refine hK _ ?_; clear hK K
  show AWp _ _ _ _ _
  refine wret ?_
  simp [C.impl_unit, unitL]

theorem spec_MonomialLaurent_calls (e : List Int) (hx : e.length < 17592186044416) : ACalls Try.prog F.spec_MonomialLaurent [.d (shI e)] [] true (fun outs res => outs = [] ∧ WkRs res [.ag (fO (monoF e))]) := by
  refine ACalls.of_body (C := C.spec_MonomialLaurent) (n := Try.f151.ntmps) tabT folT Try.func151 rfl (by kernel_rfl) rfl (Nat.le_of_ble_eq_true rfl) (by decide) (by kernel_rfl) (by kernel_rfl) rfl (by simp) (by simp) ?_
  simp only [Try.f151]
  refine wseq ?_
  refine wreg fun K hK => ?_
  simp [C.spec_MonomialLaurent]
  refine hK _ ?_; clear hK K
  show AWp _ _ _ _ _
  refine wseq ?_
  refine wregI ([0, 1, 2, 3] ++ ([4, 5, 6, 7, 8])) rfl fun K hK => ?_
  refine opsI_seg fun L hL => ?_
  simp [C.spec_MonomialLaurent]
  refine wcall1 (spec_l1Ints_calls e hx) (by simp) (by simp) ?_
  simp [C.spec_MonomialLaurent]
  refine hL _ ?_; clear hL L
  refine opsI_end fun L hL => ?_
  simp [C.spec_MonomialLaurent]
  refine hL _ ?_; clear hL L
  simp [C.spec_MonomialLaurent]
  refine hK _ ?_; clear hK K
  show AWp _ _ _ _ _
  refine wseq ?_
  refine wseq ?_
  refine wregI ([0, 1] ++ ([2])) rfl fun K hK => ?_
  refine opsI_seg fun L hL => ?_
  simp [C.spec_MonomialLaurent, rows, tO, tS]
  refine wcall1 (spec_l2Right_calls ⟨e.length, [⟨e, 1⟩]⟩ (by simp) (by simp; omega)) (by simp [rows, tO, tS]) (by simp) ?_
  simp [C.spec_MonomialLaurent, rows, tO, tS]
  refine hL _ ?_; clear hL L
  refine opsI_end fun L hL => ?_
  simp [C.spec_MonomialLaurent, rows, tO, tS]
  refine hL _ ?_; clear hL L
  simp [C.spec_MonomialLaurent, rows, tO, tS]
  refine hK _ ?_; clear hK K
  show AWp _ _ _ _ _
  refine wcond _ rfl (fun hc1 => ?_) (fun hc1 => ?_)
  · have hr := nd_t hc1
    refine wseq ?_
    refine wreg fun K hK => ?_
    simp [C.spec_MonomialLaurent]
    refine hK _ ?_; clear hK K
    show AWp _ _ _ _ _
    refine wret ?_
    simp [C.spec_MonomialLaurent, monoF, hr, fO, zeroF, rows]
  · have hr := nd_f hc1
    refine wskip ?_
    show AWp _ _ _ _ _
    refine wseq ?_
    refine wreg fun K hK => ?_
    simp [C.spec_MonomialLaurent]
    refine hK _ ?_; clear hK K
    show AWp _ _ _ _ _
    refine wret ?_
    simp [C.spec_MonomialLaurent, monoF, hr, fO, rows, tO]
theorem sMono_calls (e : List Int) (hx : e.length < 17592186044416) : ACalls Try.prog F.spec_MonomialLaurent [.d (shI e)] [] true (fun outs res => outs = [] ∧ res = [.ag (fO (monoF e))]) := (spec_MonomialLaurent_calls e hx).weak1

theorem impl_MonomialLaurent_calls (e : List Int) (hx : e.length < 17592186044416) : ACalls Try.prog F.impl_MonomialLaurent [.d (shI e)] [] true (fun outs res => outs = [] ∧ WkRs res [.ag (fO (monoF e))]) := by
  refine ACalls.of_body (C := C.impl_MonomialLaurent) (n := Try.f153.ntmps) tabT folT Try.func153 rfl (by kernel_rfl) rfl (Nat.le_of_ble_eq_true rfl) (by decide) (by kernel_rfl) (by kernel_rfl) rfl (by simp) (by simp) ?_
  simp only [Try.f153]
  refine wseq ?_
  refine wreg fun K hK => ?_
  simp [C.impl_MonomialLaurent]
  refine hK _ ?_; clear hK K
  show AWp _ _ _ _ _
  refine wseq ?_
  refine wseq ?_
  refine wregI ([0, 1, 2] ++ ([3, 4, 5, 6, 7, 8] ++ ([9, 10]))) rfl fun K hK => ?_
  have hJ : K ⟨ofL [(0, .d (shI e)), (2, .pt (2, 0) [] 0), (13, .bool (!decide ((1 ≤ (e.length : Int) ∧ (e.length : Int) ≤ 8) ∧ okE e e.length = true)))], ofRO [((2, 0), some (.bx [D.int 0, .v (.slice none 0 0)]))]⟩ := by
    refine hK _ ?_; clear hK K
    show AWp _ _ _ _ _
    refine wcond _ rfl (fun hc1 => ?_) (fun hc1 => ?_)
    · have hr : ¬ Right ⟨e.length, [⟨e, 1⟩]⟩ := fun h => nd_t hc1 (mono_right.1 h)
      refine wseq ?_
      refine wreg fun K hK => ?_
      simp [C.impl_MonomialLaurent]
      refine hK _ ?_; clear hK K
      show AWp _ _ _ _ _
      refine wret ?_
      simp [C.impl_MonomialLaurent, monoF, hr, fO, zeroF, rows]
    · have hr : Right ⟨e.length, [⟨e, 1⟩]⟩ := mono_right.2 (nd_f hc1)
      refine wskip ?_
      show AWp _ _ _ _ _
      refine wseq ?_
      refine wregI ([0, 1, 2, 3] ++ ([4, 5, 6, 7])) rfl fun K hK => ?_
      refine opsI_seg fun L hL => ?_
      simp [C.impl_MonomialLaurent]
      refine wcall1 (clone_calls e hx) (by simp) (by simp) ?_
      simp [C.impl_MonomialLaurent]
      refine hL _ ?_; clear hL L
      refine opsI_end fun L hL => ?_
      simp [C.impl_MonomialLaurent]
      refine hL _ ?_; clear hL L
      simp [C.impl_MonomialLaurent]
      refine hK _ ?_; clear hK K
      show AWp _ _ _ _ _
      refine wret ?_
      simp [C.impl_MonomialLaurent, monoF, hr, fO, rows, tO]
  clear hK
  by_cases ha : 1 ≤ (e.length : Int) ∧ (e.length : Int) ≤ 8
  · refine opsI_seg fun L hL => ?_
    simp [C.impl_MonomialLaurent, ha]
    refine wcall1 (impl_within_calls e.length 1 8) (by simp) (by simp) ?_
    simp [C.impl_MonomialLaurent, ha]
    refine hL _ ?_; clear hL L
    refine opsI_seg fun L hL => ?_
    simp [C.impl_MonomialLaurent, ha]
    refine wcall1 (impl_expOk_calls e e.length (by omega)) (by simp) (by simp) ?_
    simp [C.impl_MonomialLaurent, ha]
    refine hL _ ?_; clear hL L
    refine opsI_end fun L hL => ?_
    simp [C.impl_MonomialLaurent, ha]
    refine hL _ ?_; clear hL L
    simp [C.impl_MonomialLaurent, ha]
    refine cast (congrArg K ?_) hJ
    simp [Bool.not_and, ha]
  · refine opsI_seg fun L hL => ?_
    simp [C.impl_MonomialLaurent, ha]
    refine wcall1 (impl_within_calls e.length 1 8) (by simp) (by simp) ?_
    simp [C.impl_MonomialLaurent, ha]
    refine hL _ ?_; clear hL L
    refine opsI_seg fun L hL => ?_
    simp [C.impl_MonomialLaurent, ha]
    refine hL _ ?_; clear hL L
    refine opsI_end fun L hL => ?_
    simp [C.impl_MonomialLaurent, ha]
    refine hL _ ?_; clear hL L
    simp [C.impl_MonomialLaurent, ha]
    refine cast (congrArg K ?_) hJ
    simp [Bool.not_and, ha]
theorem iMono_calls (e : List Int) (hx : e.length < 17592186044416) : ACalls Try.prog F.impl_MonomialLaurent [.d (shI e)] [] true (fun outs res => outs = [] ∧ res = [.ag (fO (monoF e))]) := (impl_MonomialLaurent_calls e hx).weak1

theorem spec_l3Initial_calls (n : Int) (r : Nat) (d : List Int) (hr : r ≤ 8) (hx : d.length < 17592186044416) : ACalls Try.prog F.spec_l3Initial [.ag [.int n, .int r, .d (shI d)]] [] true (fun outs res => outs = [] ∧ res = [.ag (sO ⟨⟨n, r, d⟩, varsL r⟩)]) := by
  refine ACalls.of_body (C := C.spec_l3Initial) (n := Try.f76.ntmps) tabT folT Try.func76 rfl (by kernel_rfl) rfl (Nat.le_of_ble_eq_true rfl) (by decide) (by kernel_rfl) (by kernel_rfl) rfl (by simp) (by simp) ?_
  simp only [Try.f76]
  refine wseq ?_
  refine wreg fun K hK => ?_
  simp [C.spec_l3Initial]
  refine hK _ ?_; clear hK K
  show AWp _ _ _ _ _
  refine wseq ?_
  refine wregI ([0, 1] ++ ([2, 3, 4])) rfl fun K hK => ?_
  refine opsI_seg fun L hL => ?_
  simp [C.spec_l3Initial, mO]
  refine wcall1 (spec_l1CopyMatrix_calls ⟨n, r, d⟩ hx) (by simp) (by simp) ?_
  simp [C.spec_l3Initial, mO]
  refine hL _ ?_; clear hL L
  refine opsI_end fun L hL => ?_
  simp [C.spec_l3Initial, mO]
  refine hL _ ?_; clear hL L
  simp [C.spec_l3Initial, mO]
  refine hK _ ?_; clear hK K
  show AWp _ _ _ _ _
  refine wseq ?_
  refine wseq ?_
  refine wreg fun K hK => ?_
  simp [C.spec_l3Initial]
  refine hK _ ?_; clear hK K
  show AWp _ _ _ _ _
  refine wblock ?_
  refine wloopW (fun x : Nat × List Lau => ⟨ofL [(1, .pt (1, 0) [] 0), (2, .pt (2, 0) [] 0), (3, .pt (3, 0) [] 0), (4, .int x.1)], ofRO [((1, 0), some (.bx [D.int n, D.int r, shI d])), ((2, 0), some (.bx [D.int 0, D.int 0, .v (.slice none 0 0), .v (.slice none 0 0)])), ((3, 0), some (.bx [D.int n, D.int r, owI d, .ow 2 x.1 (rows fO x.2)]))]⟩) (fun x => x.1 ≤ r ∧ x.2 = (List.range x.1).map fun i => monoF (unitL r i)) (fun x => r - x.1) (0, []) [.cell (3, 0) [] 3 2] (by simp [C.spec_l3Initial, rows]; (first | (constructor <;> funext t) | funext t) <;> simp only [ofL, ofRO] <;> (repeat' (first | rfl | split)) <;> simp_all) (by simp) ?_
  intro x1 hx1 R1 hR1
  obtain ⟨j, gs⟩ := x1
  obtain ⟨hj, hg⟩ := hx1
  dsimp only at hj hg ⊢
  refine wseq ?_
  refine wseq ?_
  refine wreg fun K hK => ?_
  simp [C.spec_l3Initial]
  refine hK _ ?_; clear hK K
  show AWp _ _ _ _ _
  refine wcond _ rfl (fun hc1 => ?_) (fun hc1 => ?_)
  · have h1 : j < r := by have := d_t hc1; omega
    have hgl : gs.length = j := by rw [hg]; simp
    refine wskip ?_
    show AWp _ _ _ _ _
    refine wseq ?_
    refine wblock ?_
    refine wdrawI [(true, 0), (true, 1), (true, 2), (true, 3), (true, 4), (false, 5), (false, 6), (false, 7), (false, 8), (true, 9), (false, 10)] ⟨by kernel_rfl, by kernel_rfl⟩ ([0, 1, 2, 3, 4, 5] ++ ([6] ++ ([7, 8, 9, 10]))) rfl fun K hK => ?_
    refine opsI_seg fun L hL => ?_
    simp [C.spec_l3Initial, fO, fO_snoc, show (j + 1) * 32 ≤ 140737488355328 by omega]
    refine wcall1 (spec_l3Unit_calls r j hr h1) (by simp) (by simp) ?_
    simp [C.spec_l3Initial, fO, fO_snoc, show (j + 1) * 32 ≤ 140737488355328 by omega]
    refine hL _ ?_; clear hL L
    refine opsI_seg fun L hL => ?_
    simp [C.spec_l3Initial, fO, fO_snoc, show (j + 1) * 32 ≤ 140737488355328 by omega]
    refine wcall1 (sMono_calls (unitL r j) (by rw [unitL_length]; omega)) (by simp) (by simp) ?_
    simp [C.spec_l3Initial, fO, fO_snoc, show (j + 1) * 32 ≤ 140737488355328 by omega]
    refine hL _ ?_; clear hL L
    refine opsI_end fun L hL => ?_
    simp [C.spec_l3Initial, fO, fO_snoc, show (j + 1) * 32 ≤ 140737488355328 by omega]
    refine hL _ ?_; clear hL L
    simp [C.spec_l3Initial, fO, fO_snoc, show (j + 1) * 32 ≤ 140737488355328 by omega]
    refine hK _ ?_; clear hK K
    show AWp _ _ _ _ _
    refine wreg fun K hK => ?_
    simp [C.spec_l3Initial, wrap_succ (show j < 4611686018427387904 by omega)]
    refine hK _ ?_; clear hK K
    simp [C.spec_l3Initial]
    refine hR1 (j + 1, _) ⟨h1, ?_⟩ (by dsimp only; omega)
    dsimp only
    rw [hg, List.range_succ, List.map_append]
    rfl
  · have h1 : j = r := by have := d_f hc1; omega
    subst h1
    refine wexit ?_
    show AWp _ _ _ _ _
    refine wseq ?_
    refine wreg fun K hK => ?_
    simp [C.spec_l3Initial]
    refine hK _ ?_; clear hK K
    show AWp _ _ _ _ _
    refine wret ?_
    simp [C.spec_l3Initial, hg, sO, varsL]

abbrev m0 : Mat := ⟨2, 2, [0, 1, -1, 0]⟩
noncomputable abbrev z0 : Ses := ⟨m0, [], ⟨m0, varsL 2⟩⟩
theorem ints0 : [D.v (.int .i64 0), D.v (.int .i64 1), D.v (.int .i64 (-1)), D.v (.int .i64 0)] = ints [0, 1, -1, 0] := rfl
theorem spec_NewSession_calls : ACalls Try.prog F.spec_NewSession [] [] true (fun outs res => outs = [] ∧ res = [.ag (zO z0)]) := by
  refine ACalls.of_body (C := C.spec_NewSession) (n := Try.f15.ntmps) tabT folT Try.func15 rfl (by kernel_rfl) rfl (Nat.le_of_ble_eq_true rfl) (by decide) (by kernel_rfl) (by kernel_rfl) rfl (by simp) (by simp) ?_
  simp only [Try.f15]
  refine wseq ?_
  refine wreg fun K hK => ?_
  simp [C.spec_NewSession]
  refine hK _ ?_; clear hK K
  show AWp _ _ _ _ _
  refine wseq ?_
  refine wreg fun K hK => ?_
  simp [C.spec_NewSession, ints0]
  refine hK _ ?_; clear hK K
  show AWp _ _ _ _ _
  refine wseq ?_
  refine wdraw (.take 0 (.take 2 (.all [(1, .all [(3, .take 4 (.all [(5, .done)]))]), (3, .all [(1, .take 4 (.all [(5, .done)]))])]))) ⟨by kernel_rfl, by kernel_rfl⟩ fun K hK => ?_
  have hJ : K ⟨ofL [(0, .pt (0, 0) [] 0)], ofRO [((0, 0), some (.bx (zO z0)))]⟩ := by
    refine hK _ ?_; clear hK K
    show AWp _ _ _ _ _
    refine wret ?_
    simp [C.spec_NewSession, zO]
  clear hK
  simp [C.spec_NewSession]
  refine ⟨?_, ?_⟩
  · refine wcall1 (spec_l3Initial_calls 2 2 [0, 1, -1, 0] (by omega) (by simp)) (by simp) (by simp) ?_
    simp [C.spec_NewSession, sO]
    refine cast (congrArg K ?_) hJ
    rfl
  · refine wcall1 (spec_l3Initial_calls 2 2 [0, 1, -1, 0] (by omega) (by simp)) (by simp) (by simp) ?_
    simp [C.spec_NewSession, sO]
    refine cast (congrArg K ?_) hJ
    rfl

theorem impl_InitialSeed_calls (n : Int) (r : Nat) (d : List Int) (hr : r ≤ 8) (hx : d.length < 17592186044416) (hok : ACalls Try.prog F.impl_MatrixOk [.ag [.int n, .int r, .d (shI d)]] [] true (fun outs res => outs = [] ∧ res = [.one (D.bool true)])) : ACalls Try.prog F.impl_InitialSeed [.ag [.int n, .int r, .d (shI d)]] [] true (fun outs res => outs = [] ∧ res = [.ag (sO ⟨⟨n, r, d⟩, varsL r⟩), .one (D.bool true)]) := by
  refine ACalls.of_body (C := C.impl_InitialSeed) (n := Try.f168.ntmps) tabT folT Try.func168 rfl (by kernel_rfl) rfl (Nat.le_of_ble_eq_true rfl) (by decide) (by kernel_rfl) (by kernel_rfl) rfl (by simp) (by simp) ?_
  simp only [Try.f168]
  refine wseq ?_
  refine wreg fun K hK => ?_
  simp [C.impl_InitialSeed]
  refine hK _ ?_; clear hK K
  show AWp _ _ _ _ _
  refine wseq ?_
  refine wseq ?_
  refine wregI ([0, 1] ++ ([2])) rfl fun K hK => ?_
  refine opsI_seg fun L hL => ?_
  simp [C.impl_InitialSeed]
  refine wcall1 (hok) (by simp) (by simp) ?_
  simp [C.impl_InitialSeed]
  refine hL _ ?_; clear hL L
  refine opsI_end fun L hL => ?_
  simp [C.impl_InitialSeed]
  refine hL _ ?_; clear hL L
  simp [C.impl_InitialSeed]
  refine hK _ ?_; clear hK K
  show AWp _ _ _ _ _
  refine wcond _ rfl (fun hc1 => ?_) (fun hc1 => ?_)
  · simp at hc1
  · refine wskip ?_
    show AWp _ _ _ _ _
    refine wseq ?_
    refine wdraw (.take 0 (.take 1 (.take 2 (.take 3 (.take 4 (.take 5 (.all [(6, .take 7 (.take 8 (.all [(9, .all [(10, .done)])]))), (9, .all [(6, .take 7 (.take 8 (.all [(10, .done)])))])]))))))) ⟨by kernel_rfl, by kernel_rfl⟩ fun K hK => ?_
    have hJ : K ⟨ofL [(1, .pt (1, 0) [] 0), (2, .pt (2, 0) [] 0), (4, .pt (4, 0) [] 0)], ofRO [((1, 0), some (.bx [D.int n, D.int r, shI d])), ((2, 0), some (.bx [D.int 0, D.int 0, .v (.slice none 0 0), .v (.slice none 0 0)])), ((4, 0), some (.bx [D.int n, D.int r, owI d, .v (.slice none 0 0)]))]⟩ := by
      refine hK _ ?_; clear hK K
      show AWp _ _ _ _ _
      refine wseq ?_
      refine wseq ?_
      refine wreg fun K hK => ?_
      simp [C.impl_InitialSeed]
      refine hK _ ?_; clear hK K
      show AWp _ _ _ _ _
      refine wblock ?_
      refine wloopW (fun x : Nat × List Lau => ⟨ofL [(1, .pt (1, 0) [] 0), (2, .pt (2, 0) [] 0), (4, .pt (4, 0) [] 0), (5, .int x.1)], ofRO [((1, 0), some (.bx [D.int n, D.int r, shI d])), ((2, 0), some (.bx [D.int 0, D.int 0, .v (.slice none 0 0), .v (.slice none 0 0)])), ((4, 0), some (.bx [D.int n, D.int r, owI d, .ow 2 x.1 (rows fO x.2)]))]⟩) (fun x => x.1 ≤ r ∧ x.2 = (List.range x.1).map fun i => monoF (unitL r i)) (fun x => r - x.1) (0, []) [.cell (4, 0) [] 3 2] (by simp [C.impl_InitialSeed, rows]; (first | (constructor <;> funext t) | funext t) <;> simp only [ofL, ofRO] <;> (repeat' (first | rfl | split)) <;> simp_all) (by simp) ?_
      intro x1 hx1 R1 hR1
      obtain ⟨j, gs⟩ := x1
      obtain ⟨hj, hg⟩ := hx1
      dsimp only at hj hg ⊢
      refine wseq ?_
      refine wseq ?_
      refine wreg fun K hK => ?_
      simp [C.impl_InitialSeed]
      refine hK _ ?_; clear hK K
      show AWp _ _ _ _ _
      refine wcond _ rfl (fun hc2 => ?_) (fun hc2 => ?_)
      · have h1 : j < r := by have := d_t hc2; omega
        have hgl : gs.length = j := by rw [hg]; simp
        refine wskip ?_
        show AWp _ _ _ _ _
        refine wseq ?_
        refine wblock ?_
        refine wdrawI [(true, 0), (true, 1), (true, 2), (true, 3), (true, 4), (false, 5), (false, 6), (false, 7), (false, 8), (true, 9), (false, 10)] ⟨by kernel_rfl, by kernel_rfl⟩ ([0, 1, 2, 3, 4, 5] ++ ([6] ++ ([7, 8, 9, 10]))) rfl fun K hK => ?_
        refine opsI_seg fun L hL => ?_
        simp [C.impl_InitialSeed, fO, fO_snoc, show (j + 1) * 32 ≤ 140737488355328 by omega]
        refine wcall1 (impl_unit_calls r j hr h1) (by simp) (by simp) ?_
        simp [C.impl_InitialSeed, fO, fO_snoc, show (j + 1) * 32 ≤ 140737488355328 by omega]
        refine hL _ ?_; clear hL L
        refine opsI_seg fun L hL => ?_
        simp [C.impl_InitialSeed, fO, fO_snoc, show (j + 1) * 32 ≤ 140737488355328 by omega]
        refine wcall1 (iMono_calls (unitL r j) (by rw [unitL_length]; omega)) (by simp) (by simp) ?_
        simp [C.impl_InitialSeed, fO, fO_snoc, show (j + 1) * 32 ≤ 140737488355328 by omega]
        refine hL _ ?_; clear hL L
        refine opsI_end fun L hL => ?_
        simp [C.impl_InitialSeed, fO, fO_snoc, show (j + 1) * 32 ≤ 140737488355328 by omega]
        refine hL _ ?_; clear hL L
        simp [C.impl_InitialSeed, fO, fO_snoc, show (j + 1) * 32 ≤ 140737488355328 by omega]
        refine hK _ ?_; clear hK K
        show AWp _ _ _ _ _
        refine wreg fun K hK => ?_
        simp [C.impl_InitialSeed, wrap_succ (show j < 4611686018427387904 by omega)]
        refine hK _ ?_; clear hK K
        simp [C.impl_InitialSeed]
        refine hR1 (j + 1, _) ⟨h1, ?_⟩ (by dsimp only; omega)
        dsimp only
        rw [hg, List.range_succ, List.map_append]
        rfl
      · have h1 : j = r := by have := d_f hc2; omega
        subst h1
        refine wexit ?_
        show AWp _ _ _ _ _
        refine wseq ?_
        refine wreg fun K hK => ?_
        simp [C.impl_InitialSeed]
        refine hK _ ?_; clear hK K
        show AWp _ _ _ _ _
        refine wret ?_
        simp [C.impl_InitialSeed, hg, sO, varsL]
    clear hK
    simp [C.impl_InitialSeed]
    refine ⟨?_, ?_⟩
    · refine wcall1 (clone_calls d hx) (by simp) (by simp) ?_
      simp [C.impl_InitialSeed]
      exact hJ
    · refine wcall1 (clone_calls d hx) (by simp) (by simp) ?_
      simp [C.impl_InitialSeed]
      exact hJ

theorem impl_copyLaurent_calls (f : Lau) (hl : f.ts.length ≤ 1000000) (he : ∀ t ∈ f.ts, t.e.length < 17592186044416) : ACalls Try.prog F.impl_copyLaurent [aF f] [] true (fun outs res => outs = [] ∧ res = [.ag (fO f)]) := by
  refine ACalls.of_body (C := C.impl_copyLaurent) (n := Try.f218.ntmps) tabT folT Try.func218 rfl (by kernel_rfl) rfl (Nat.le_of_ble_eq_true rfl) (by decide) (by kernel_rfl) (by kernel_rfl) rfl (by simp) (by simp) ?_
  simp only [Try.f218]
  refine wseq ?_
  refine wreg fun K hK => ?_
  simp [C.impl_copyLaurent]
  refine hK _ ?_; clear hK K
  show AWp _ _ _ _ _
  refine wseq ?_
  refine wreg fun K hK => ?_
  simp [C.impl_copyLaurent]
  refine hK _ ?_; clear hK K
  show AWp _ _ _ _ _
  refine wseq ?_
  refine wseq ?_
  refine wreg fun K hK => ?_
  simp [C.impl_copyLaurent]
  refine hK _ ?_; clear hK K
  show AWp _ _ _ _ _
  refine wblock ?_
  refine wloopW (fun x : Nat × List Trm => ⟨ofL [(2, .pt (2, 0) [] 0), (3, .pt (3, 0) [] 0), (10, .d (.sh 2 f.ts.length (rows tS f.ts))), (11, .int f.ts.length), (12, .int x.1)], ofRO [((2, 0), some (.bx [D.int 0, .v (.slice none 0 0)])), ((3, 0), some (.bx [D.int f.v, .ow 2 x.1 (rows tO x.2)]))]⟩) (fun x => x.1 ≤ f.ts.length ∧ x.2 = f.ts.take x.1) (fun x => f.ts.length - x.1) (0, []) [.cell (3, 0) [] 1 2] (by simp [C.impl_copyLaurent, rows]; (first | (constructor <;> funext t) | funext t) <;> simp only [ofL, ofRO] <;> (repeat' (first | rfl | split)) <;> simp_all) (by simp) ?_
  intro x1 hx1 R1 hR1
  obtain ⟨j, gs⟩ := x1
  obtain ⟨hj, hg⟩ := hx1
  dsimp only at hj hg ⊢
  refine wseq ?_
  refine wreg fun K hK => ?_
  simp [C.impl_copyLaurent]
  refine hK _ ?_; clear hK K
  show AWp _ _ _ _ _
  refine wseq ?_
  refine wcond _ rfl (fun hc1 => ?_) (fun hc1 => ?_)
  · have h1 : j < f.ts.length := by have := d_t hc1; omega
    have hgl : gs.length = j := by rw [hg]; simp; omega
    refine wskip ?_
    show AWp _ _ _ _ _
    refine wseq ?_
    refine wblock ?_
    refine wseq ?_
    refine wreg fun K hK => ?_
    simp [C.impl_copyLaurent, h1, tS_0 h1, tS_1 h1]
    refine hK _ ?_; clear hK K
    show AWp _ _ _ _ _
    refine wdrawI [(true, 0), (true, 1), (true, 2), (true, 3), (true, 5), (true, 6), (false, 4), (true, 7), (false, 8), (false, 9), (true, 10), (false, 11)] ⟨by kernel_rfl, by kernel_rfl⟩ ([0, 1, 2, 3, 5, 6, 4] ++ ([7, 8, 9, 10, 11])) rfl fun K hK => ?_
    refine opsI_seg fun L hL => ?_
    simp [C.impl_copyLaurent, h1, tO_snoc, show (j + 1) * 32 ≤ 140737488355328 by omega]
    refine wcall1 (clone_calls f.ts[j].e (he _ (List.getElem_mem h1))) (by simp) (by simp) ?_
    simp [C.impl_copyLaurent, h1, tO_snoc, show (j + 1) * 32 ≤ 140737488355328 by omega]
    refine hL _ ?_; clear hL L
    refine opsI_end fun L hL => ?_
    simp [C.impl_copyLaurent, h1, tO_snoc, show (j + 1) * 32 ≤ 140737488355328 by omega]
    refine hL _ ?_; clear hL L
    simp [C.impl_copyLaurent, h1, tO_snoc, show (j + 1) * 32 ≤ 140737488355328 by omega]
    refine hK _ ?_; clear hK K
    show AWp _ _ _ _ _
    refine wreg fun K hK => ?_
    simp [C.impl_copyLaurent, wrap_succ (show j < 4611686018427387904 by omega)]
    refine hK _ ?_; clear hK K
    simp [C.impl_copyLaurent]
    refine hR1 (j + 1, _) ⟨h1, ?_⟩ (by dsimp only; omega)
    dsimp only
    rw [hg, List.take_succ_eq_append_getElem h1]
  · have h1 : j = f.ts.length := by have := d_f hc1; omega
    refine wexit ?_
    show AWp _ _ _ _ _
    refine wseq ?_
    refine wreg fun K hK => ?_
    simp [C.impl_copyLaurent]
    refine hK _ ?_; clear hK K
    show AWp _ _ _ _ _
    refine wret ?_
    simp [C.impl_copyLaurent, hg, h1, fO]

theorem impl_copySeed_calls (s : Sed) (hx : s.m.d.length < 17592186044416) (hl : s.f.length ≤ 1000000) (hf : ∀ f ∈ s.f, f.ts.length ≤ 1000000 ∧ ∀ t ∈ f.ts, t.e.length < 17592186044416) : ACalls Try.prog F.impl_copySeed [aS s] [] true (fun outs res => outs = [] ∧ res = [.ag (sO s)]) := by
  refine ACalls.of_body (C := C.impl_copySeed) (n := Try.f169.ntmps) tabT folT Try.func169 rfl (by kernel_rfl) rfl (Nat.le_of_ble_eq_true rfl) (by decide) (by kernel_rfl) (by kernel_rfl) rfl (by simp) (by simp) ?_
  simp only [Try.f169]
  refine wseq ?_
  refine wreg fun K hK => ?_
  simp [C.impl_copySeed, sS]
  refine hK _ ?_; clear hK K
  show AWp _ _ _ _ _
  refine wseq ?_
  refine wdraw (.take 0 (.take 1 (.take 2 (.take 3 (.take 4 (.take 5 (.take 6 (.take 7 (.take 8 (.all [(9, .take 10 (.take 11 (.all [(12, .all [(13, .done)])]))), (12, .all [(9, .take 10 (.take 11 (.all [(13, .done)])))])])))))))))) ⟨by kernel_rfl, by kernel_rfl⟩ fun K hK => ?_
  have hJ : K ⟨ofL [(1, .pt (1, 0) [] 0), (2, .pt (2, 0) [] 0), (3, .pt (3, 0) [] 0)], ofRO [((1, 0), some (.bx (sS s))), ((2, 0), some (.bx [D.int 0, D.int 0, .v (.slice none 0 0), .v (.slice none 0 0)])), ((3, 0), some (.bx [D.int s.m.n, D.int s.m.r, owI s.m.d, .v (.slice none 0 0)]))]⟩ := by
    refine hK _ ?_; clear hK K
    show AWp _ _ _ _ _
    refine wseq ?_
    refine wseq ?_
    refine wreg fun K hK => ?_
    simp [C.impl_copySeed, sS]
    refine hK _ ?_; clear hK K
    show AWp _ _ _ _ _
    refine wblock ?_
    refine wloopW (fun x : Nat × List Lau => ⟨ofL [(2, .pt (2, 0) [] 0), (3, .pt (3, 0) [] 0), (19, .d (.sh 2 s.f.length (rows fS s.f))), (20, .int s.f.length), (21, .int x.1)], ofRO [((2, 0), some (.bx [D.int 0, D.int 0, .v (.slice none 0 0), .v (.slice none 0 0)])), ((3, 0), some (.bx [D.int s.m.n, D.int s.m.r, owI s.m.d, .ow 2 x.1 (rows fO x.2)]))]⟩) (fun x => x.1 ≤ s.f.length ∧ x.2 = s.f.take x.1) (fun x => s.f.length - x.1) (0, []) [.cell (3, 0) [] 3 2] (by simp [C.impl_copySeed, rows]; (first | (constructor <;> funext t) | funext t) <;> simp only [ofL, ofRO] <;> (repeat' (first | rfl | split)) <;> simp_all) (by simp) ?_
    intro x1 hx1 R1 hR1
    obtain ⟨j, gs⟩ := x1
    obtain ⟨hj, hg⟩ := hx1
    dsimp only at hj hg ⊢
    refine wseq ?_
    refine wreg fun K hK => ?_
    simp [C.impl_copySeed, sS]
    refine hK _ ?_; clear hK K
    show AWp _ _ _ _ _
    refine wseq ?_
    refine wcond _ rfl (fun hc1 => ?_) (fun hc1 => ?_)
    · have h1 : j < s.f.length := by have := d_t hc1; omega
      have hgl : gs.length = j := by rw [hg]; simp; omega
      refine wskip ?_
      show AWp _ _ _ _ _
      refine wseq ?_
      refine wblock ?_
      refine wseq ?_
      refine wreg fun K hK => ?_
      simp [C.impl_copySeed, sS, h1, fS_0 h1, fS_1 h1]
      refine hK _ ?_; clear hK K
      show AWp _ _ _ _ _
      refine wdrawI [(true, 0), (true, 1), (true, 2), (false, 3), (false, 4), (false, 5), (true, 6), (false, 7)] ⟨by kernel_rfl, by kernel_rfl⟩ ([0, 1, 2, 3] ++ ([4, 5, 6, 7])) rfl fun K hK => ?_
      refine opsI_seg fun L hL => ?_
      simp [C.impl_copySeed, sS, h1, fO, fO_snoc, show (j + 1) * 32 ≤ 140737488355328 by omega]
      refine wcall1 (impl_copyLaurent_calls s.f[j] (hf _ (List.getElem_mem h1)).1 (hf _ (List.getElem_mem h1)).2) (by simp) (by simp) ?_
      simp [C.impl_copySeed, sS, h1, fO, fO_snoc, show (j + 1) * 32 ≤ 140737488355328 by omega]
      refine hL _ ?_; clear hL L
      refine opsI_end fun L hL => ?_
      simp [C.impl_copySeed, sS, h1, fO, fO_snoc, show (j + 1) * 32 ≤ 140737488355328 by omega]
      refine hL _ ?_; clear hL L
      simp [C.impl_copySeed, sS, h1, fO, fO_snoc, show (j + 1) * 32 ≤ 140737488355328 by omega]
      refine hK _ ?_; clear hK K
      show AWp _ _ _ _ _
      refine wreg fun K hK => ?_
      simp [C.impl_copySeed, sS, wrap_succ (show j < 4611686018427387904 by omega)]
      refine hK _ ?_; clear hK K
      simp [C.impl_copySeed, sS]
      refine hR1 (j + 1, _) ⟨h1, ?_⟩ (by dsimp only; omega)
      dsimp only
      rw [hg, List.take_succ_eq_append_getElem h1]
    · have h1 : j = s.f.length := by have := d_f hc1; omega
      refine wexit ?_
      show AWp _ _ _ _ _
      refine wseq ?_
      refine wreg fun K hK => ?_
      simp [C.impl_copySeed, sS]
      refine hK _ ?_; clear hK K
      show AWp _ _ _ _ _
      refine wret ?_
      simp [C.impl_copySeed, sS, hg, h1, sO]
  clear hK
  simp [C.impl_copySeed]
  refine ⟨?_, ?_⟩
  · refine wcall1 (clone_calls s.m.d hx) (by simp) (by simp) ?_
    simp [C.impl_copySeed]
    exact hJ
  · refine wcall1 (clone_calls s.m.d hx) (by simp) (by simp) ?_
    simp [C.impl_copySeed]
    exact hJ

end Go.Proofs.Ytdgeponcnlkaiaa.Ab
namespace Go.Proofs.Ytdgeponcnlkaiaa.Ab
open Go
set_option linter.unusedSimpArgs false
set_option linter.unusedVariables false
set_option maxRecDepth 10000
set_option maxHeartbeats 2000000
def minF (x : Int) (ts : List Trm) (i : Nat) : Int := ts.foldl (fun m t => min m (t.e.getD i 0)) x
theorem minF_snoc (x : Int) (ts : List Trm) (t : Trm) (i : Nat) : minF x (ts ++ [t]) i = min (minF x ts i) (t.e.getD i 0) := by simp [minF, List.foldl_append]
theorem minF_le (x : Int) (i : Nat) : ∀ ts : List Trm, minF x ts i ≤ x ∧ (∀ t ∈ ts, minF x ts i ≤ t.e.getD i 0) ∧ (minF x ts i = x ∨ ∃ t ∈ ts, minF x ts i = t.e.getD i 0) := by
  intro ts
  induction ts generalizing x with
  | nil => simp [minF]
  | cons t ts ih =>
    obtain ⟨h1, h2, h3⟩ := ih (min x (t.e.getD i 0))
    have e : minF x (t :: ts) i = minF (min x (t.e.getD i 0)) ts i := rfl
    rw [e]
    refine ⟨by omega, fun u hu => ?_, ?_⟩
    · rcases List.mem_cons.1 hu with rfl | hu
      · omega
      · exact h2 u hu
    · rcases h3 with h3 | ⟨u, hu, h3⟩
      · by_cases hle : x ≤ t.e.getD i 0
        · exact .inl (by rw [h3]; omega)
        · exact .inr ⟨t, by simp, by rw [h3]; omega⟩
      · exact .inr ⟨u, by simp [hu], h3⟩
def lowA (x : Nat → Int) (ts : List Trm) (n : Nat) : List Int := (List.range n).map fun i => minF (x i) ts i
@[simp] theorem lowA_length (x : Nat → Int) (ts : List Trm) (n : Nat) : (lowA x ts n).length = n := by simp [lowA]
theorem lowA_get (x : Nat → Int) (ts : List Trm) (n i : Nat) (h : i < n) : (lowA x ts n)[i]'(by simpa using h) = minF (x i) ts i := by simp [lowA]
theorem getD_eq {l : List Int} {i : Nat} (h : i < l.length) : l.getD i 0 = l[i] := by simp [List.getD, h]
theorem mix_set {α : Type} (xs ys : List α) (i : Nat) (h : i < xs.length) (hl : xs.length = ys.length) : (xs.take i ++ ys.drop i).set i xs[i] = xs.take (i + 1) ++ ys.drop (i + 1) := by
  rw [List.set_append_right _ _ (by simp; omega), List.take_succ_eq_append_getElem h]
  simp only [List.length_take, Nat.min_eq_left (Nat.le_of_lt h), Nat.sub_self]
  rw [List.drop_eq_getElem_cons (by omega), List.set_cons_zero, List.append_assoc]
  rfl
theorem mix_get {α : Type} (xs ys : List α) (i : Nat) (h : i < ys.length) (hl : xs.length = ys.length) : (xs.take i ++ ys.drop i)[i]? = some ys[i] := by
  rw [List.getElem?_append_right (by simp; omega)]
  simp [Nat.min_eq_left (show i ≤ xs.length by omega), h]
def headE (ts : List Trm) (i : Nat) : Int := match ts with | [] => 0 | t :: _ => t.e.getD i 0
theorem lowA_start (ts : List Trm) (n : Nat) (h : 0 < ts.length) (he : ∀ t ∈ ts, t.e.length = n) : lowA (headE ts) [] n = (ts[0]'h).e := by
  match ts, h with
  | t :: ts, _ =>
    have h1 := he t (by simp)
    apply List.ext_getElem
    · simp [h1]
    · intro i h2 h3
      rw [lowA_get _ _ _ _ (by simpa using h2)]
      simp only [minF, List.foldl_nil, headE, List.getElem_cons_zero]
      exact getD_eq h3
def lowL (ts : List Trm) (n : Nat) : List Int := lowA (headE ts) ts n
theorem lowL_20 {ts : List Trm} {n : Nat} (h : 0 < ts.length) (he : ∀ t ∈ ts, t.e.length = n ∧ ∀ x ∈ t.e, -20 ≤ x ∧ x ≤ 20) : lowL ts n = lowA (fun _ => 20) ts n := by
  unfold lowL lowA
  apply List.map_congr_left
  intro i hi
  have hi2 : i < n := by simpa using hi
  match ts, h with
  | t :: ts, _ =>
    have h1 := he t (by simp)
    have h2 := h1.2 _ (List.getElem_mem (show i < t.e.length by omega))
    simp only [minF, List.foldl_cons, headE, getD_eq (show i < t.e.length by omega)]
    rw [show min (20 : Int) t.e[i] = t.e[i] by omega, show min t.e[i] t.e[i] = t.e[i] by omega]
theorem lowA_bd {ts : List Trm} {n : Nat} (he : ∀ t ∈ ts, t.e.length = n ∧ ∀ x ∈ t.e, -20 ≤ x ∧ x ≤ 20) : ∀ x ∈ lowA (fun _ => 20) ts n, -20 ≤ x ∧ x ≤ 20 := by
  intro x hx
  unfold lowA at hx
  obtain ⟨i, hi, rfl⟩ := List.mem_map.1 hx
  have hi2 : i < n := by simpa using hi
  obtain ⟨h1, _, h3⟩ := minF_le 20 i ts
  show -20 ≤ minF 20 ts i ∧ minF 20 ts i ≤ 20
  refine ⟨?_, h1⟩
  rcases h3 with h3 | ⟨t, ht, h3⟩
  · omega
  · have h4 := he t ht
    rw [h3, getD_eq (by omega)]
    exact (h4.2 _ (List.getElem_mem _)).1
theorem spec_l2Least_calls (f : Lau) (n : Nat) (hn : f.v = n) (hn8 : n ≤ 8) (h0 : 0 < f.ts.length) (hl : f.ts.length ≤ 600) (he : ∀ t ∈ f.ts, t.e.length = n) : ACalls Try.prog F.spec_l2Least [aF f] [] true (fun outs res => outs = [] ∧ res = [.one (owI (lowL f.ts n))]) := by
  have h0e := he _ (List.getElem_mem h0)
  refine ACalls.of_body (C := C.spec_l2Least) (n := Try.f195.ntmps) tabT folT Try.func195 rfl (by kernel_rfl) rfl (Nat.le_of_ble_eq_true rfl) (by decide) (by kernel_rfl) (by kernel_rfl) rfl (by simp) (by simp) ?_
  simp only [Try.f195]
  refine wseq ?_
  refine wreg fun K hK => ?_
  simp [C.spec_l2Least, fS, hn]
  refine hK _ ?_; clear hK K
  show AWp _ _ _ _ _
  refine wseq ?_
  refine wregI ([0, 1, 2, 3, 4, 5] ++ ([6])) rfl fun K hK => ?_
  refine opsI_seg fun L hL => ?_
  simp [C.spec_l2Least, fS, hn, h0, tS_0 h0]
  refine wcall1 (spec_l1Ints_calls f.ts[0].e (by omega)) (by simp) (by simp) ?_
  simp [C.spec_l2Least, fS, hn, h0, tS_0 h0]
  refine hL _ ?_; clear hL L
  refine opsI_end fun L hL => ?_
  simp [C.spec_l2Least, fS, hn, h0, tS_0 h0]
  refine hL _ ?_; clear hL L
  simp [C.spec_l2Least, fS, hn, h0, tS_0 h0]
  refine hK _ ?_; clear hK K
  show AWp _ _ _ _ _
  refine wseq ?_
  refine wseq ?_
  refine wreg fun K hK => ?_
  simp [C.spec_l2Least, fS, hn]
  refine hK _ ?_; clear hK K
  show AWp _ _ _ _ _
  refine wblock ?_
  refine wloop (fun x : Nat => ⟨ofL [(1, .pt (1, 0) [] 0), (3, .al (3, 0) [] 0 n), (4, .int x)], ofRO [((1, 0), some (.bx (fS f))), ((3, 0), some (.ow 1 n (ints (lowA (headE f.ts) (f.ts.take x) n))))]⟩) (fun x => x ≤ f.ts.length) (fun x => f.ts.length - x) 0 (by simp [C.spec_l2Least, fS, hn, lowA_start f.ts n h0 he, h0e]) (by simp) ?_
  intro x1 hx1 R1 hR1
  refine wseq ?_
  refine wseq ?_
  refine wreg fun K hK => ?_
  simp [C.spec_l2Least, fS, hn]
  refine hK _ ?_; clear hK K
  show AWp _ _ _ _ _
  refine wcond _ rfl (fun hc1 => ?_) (fun hc1 => ?_)
  · have h1 : x1 < f.ts.length := d_t hc1
    have h1e := he _ (List.getElem_mem h1)
    refine wskip ?_
    show AWp _ _ _ _ _
    refine wseq ?_
    refine wblock ?_
    refine wseq ?_
    refine wreg fun K hK => ?_
    simp [C.spec_l2Least, fS, hn]
    refine hK _ ?_; clear hK K
    show AWp _ _ _ _ _
    refine wblock ?_
    refine wloop (fun x : Nat => ⟨ofL [(1, .pt (1, 0) [] 0), (3, .al (3, 0) [] 0 n), (4, .int x1), (5, .int x)], ofRO [((1, 0), some (.bx (fS f))), ((3, 0), some (.ow 1 n (ints ((lowA (headE f.ts) (f.ts.take (x1 + 1)) n).take x ++ (lowA (headE f.ts) (f.ts.take x1) n).drop x))))]⟩) (fun x => x ≤ n) (fun x => n - x) 0 (by simp [C.spec_l2Least, fS, hn]) (by simp) ?_
    intro x2 hx2 R2 hR2
    refine wseq ?_
    refine wseq ?_
    refine wreg fun K hK => ?_
    simp [C.spec_l2Least, fS, hn]
    refine hK _ ?_; clear hK K
    show AWp _ _ _ _ _
    refine wcond _ rfl (fun hc2 => ?_) (fun hc2 => ?_)
    · have h2 : x2 < n := by have := d_t hc2; omega
      have hg1 := mix_get (lowA (headE f.ts) (f.ts.take (x1 + 1)) n) (lowA (headE f.ts) (f.ts.take x1) n) x2 (by simpa using h2) (by simp)
      have hg2 : minF (headE f.ts x2) (f.ts.take (x1 + 1)) x2 = min (minF (headE f.ts x2) (f.ts.take x1) x2) (f.ts[x1].e[x2]'(by omega)) := by
        rw [List.take_succ_eq_append_getElem h1, minF_snoc, getD_eq (by omega)]
      have hset := mix_set (lowA (headE f.ts) (f.ts.take (x1 + 1)) n) (lowA (headE f.ts) (f.ts.take x1) n) x2 (by simpa using h2) (by simp)
      rw [lowA_get _ _ _ _ h2] at hset hg1
      rw [hg2] at hset
      have hlen : ((lowA (headE f.ts) (f.ts.take (x1 + 1)) n).take x2 ++ (lowA (headE f.ts) (f.ts.take x1) n).drop x2).length = n := by simp; omega
      generalize hM : (lowA (headE f.ts) (f.ts.take (x1 + 1)) n).take x2 ++ (lowA (headE f.ts) (f.ts.take x1) n).drop x2 = M at hset hg1 hlen
      have h2M : x2 < M.length := by omega
      rw [List.getElem?_eq_getElem h2M] at hg1
      have hg3 : M[x2] = minF (headE f.ts x2) (f.ts.take x1) x2 := by injection hg1
      rw [← hg3] at hset
      refine wskip ?_
      show AWp _ _ _ _ _
      refine wseq ?_
      refine wblock ?_
      refine wdrawI [(true, 0), (true, 1), (true, 2), (true, 3), (true, 4), (true, 5), (true, 6), (true, 7), (true, 8), (true, 9), (true, 10), (true, 11), (true, 12), (true, 13), (true, 14), (true, 15), (true, 16), (false, 17)] ⟨by kernel_rfl, by kernel_rfl⟩ ([0, 1, 2, 3, 4, 5, 6, 7, 8, 9, 10, 11, 12, 13, 14, 15, 16, 17]) rfl fun K hK => ?_
      refine opsI_end fun L hL => ?_
      simp [C.spec_l2Least, fS, hn, h1, tS_0 h1, h1e, h2, hlen, get_ints, h2M]
      refine hL _ ?_; clear hL L
      simp [C.spec_l2Least, fS, hn, h1, tS_0 h1, h1e, h2, hlen, get_ints, h2M]
      refine hK _ ?_; clear hK K
      show AWp _ _ _ _ _
      refine wreg fun K hK => ?_
      simp [C.spec_l2Least, fS, hn, wrap_succ (show x2 < 4611686018427387904 by omega), hset, modify_const, ints_set]
      refine hK _ ?_; clear hK K
      simp [C.spec_l2Least, fS, hn]
      refine cast (congrArg R2 ?_) (hR2 (x2 + 1) h2 (by omega))
      simp [fS, hn]
    · have h2 : x2 = n := by have := d_f hc2; omega
      refine wexit ?_
      show AWp _ _ _ _ _
      refine wreg fun K hK => ?_
      simp [C.spec_l2Least, fS, hn, wrap_succ (show x1 < 4611686018427387904 by omega)]
      refine hK _ ?_; clear hK K
      simp [C.spec_l2Least, fS, hn]
      refine cast (congrArg R1 ?_) (hR1 (x1 + 1) h1 (by omega))
      simp [fS, hn, h2, List.take_of_length_le, List.drop_of_length_le]
  · have h1 : x1 = f.ts.length := by have := d_f hc1; omega
    refine wexit ?_
    show AWp _ _ _ _ _
    refine wseq ?_
    refine wreg fun K hK => ?_
    simp [C.spec_l2Least, fS, hn]
    refine hK _ ?_; clear hK K
    show AWp _ _ _ _ _
    refine wret ?_
    simp [C.spec_l2Least, fS, hn, h1, lowL]

def denL (f : Lau) : List Int := (lowL f.ts f.v.toNat).map fun x => -x
@[simp] theorem denL_length (f : Lau) : (denL f).length = f.v.toNat := by simp [denL, lowL]
noncomputable def denD (f : Lau) : D := if Right f ∧ f.ts ≠ [] then owI (denL f) else .v (.slice none 0 0)
theorem right_he {f : Lau} {n : Nat} (h : Right f) (hn : f.v = n) : ∀ t ∈ f.ts, t.e.length = n ∧ ∀ x ∈ t.e, -20 ≤ x ∧ x ≤ 20 := fun t ht => by
  have := h.2.2.1 t ht
  exact ⟨by have := this.1; omega, this.2.2.2⟩
theorem map_mix (xs : List Int) (i : Nat) (h : i < xs.length) : ((xs.map fun x => -x).take i ++ xs.drop i).set i (-xs[i]) = (xs.map fun x => -x).take (i + 1) ++ xs.drop (i + 1) := by
  have := mix_set (xs.map fun x => -x) xs i (by simpa using h) (by simp)
  simpa using this
theorem ieq0 (n : Nat) : ((n : Int) == 0) = decide (n = 0) := by
  rw [Bool.eq_iff_iff]; simp
theorem spec_DenominatorOf_calls (f : Lau) (hx : f.ts.length < 4611686018427387904) (hxe : ∀ t ∈ f.ts, t.e.length < 4611686018427387904) : ACalls Try.prog F.spec_DenominatorOf [aF f] [] true (fun outs res => outs = [] ∧ res = [.one (denD f)]) := by
  refine ACalls.of_body (C := C.spec_DenominatorOf) (n := Try.f150.ntmps) tabT folT Try.func150 rfl (by kernel_rfl) rfl (Nat.le_of_ble_eq_true rfl) (by decide) (by kernel_rfl) (by kernel_rfl) rfl (by simp) (by simp) ?_
  simp only [Try.f150]
  refine wseq ?_
  refine wreg fun K hK => ?_
  simp [C.spec_DenominatorOf, fS]
  refine hK _ ?_; clear hK K
  show AWp _ _ _ _ _
  refine wseq ?_
  refine wseq ?_
  refine wregI ([0, 1] ++ ([2, 3, 4, 5, 6, 7, 8])) rfl fun K hK => ?_
  have hJ : K ⟨ofL [(1, .pt (1, 0) [] 0), (13, .bool (!decide (Right f ∧ f.ts ≠ [])))], ofRO [((1, 0), some (.bx (fS f)))]⟩ := by
    refine hK _ ?_; clear hK K
    show AWp _ _ _ _ _
    refine wcond _ rfl (fun hc1 => ?_) (fun hc1 => ?_)
    · have hr := nd_t hc1
      have hm : denD f = .v (.slice none 0 0) := if_neg hr
      refine wseq ?_
      refine wreg fun K hK => ?_
      simp [C.spec_DenominatorOf, fS]
      refine hK _ ?_; clear hK K
      show AWp _ _ _ _ _
      refine wret ?_
      simp [C.spec_DenominatorOf, fS, hm]
    · obtain ⟨hf, hne⟩ := nd_f hc1
      obtain ⟨n, hn⟩ : ∃ n : Nat, f.v = n := ⟨f.v.toNat, by have := hf.1; omega⟩
      have hm : denD f = owI (denL f) := if_pos ⟨hf, hne⟩
      have hv := hf.1
      have hl := hf.2.1
      have he := right_he hf hn
      have h0 : 0 < f.ts.length := List.length_pos_iff.2 hne
      have hd : denL f = (lowL f.ts n).map fun x => -x := by unfold denL; rw [hn]; rfl
      have hll : (lowL f.ts n).length = n := by simp [lowL]
      have hlb := lowA_bd he
      rw [← lowL_20 h0 he] at hlb
      refine wskip ?_
      show AWp _ _ _ _ _
      refine wseq ?_
      refine wregI ([0, 1] ++ ([2])) rfl fun K hK => ?_
      refine opsI_seg fun L hL => ?_
      simp [C.spec_DenominatorOf, fS, hn]
      refine wcall1 (spec_l2Least_calls f n hn (by omega) h0 hl (fun t ht => (he t ht).1)) (by simp [fS, hn]) (by simp) ?_
      simp [C.spec_DenominatorOf, fS, hn]
      refine hL _ ?_; clear hL L
      refine opsI_end fun L hL => ?_
      simp [C.spec_DenominatorOf, fS, hn]
      refine hL _ ?_; clear hL L
      simp [C.spec_DenominatorOf, fS, hn]
      refine hK _ ?_; clear hK K
      show AWp _ _ _ _ _
      refine wseq ?_
      refine wseq ?_
      refine wreg fun K hK => ?_
      simp [C.spec_DenominatorOf, fS]
      refine hK _ ?_; clear hK K
      show AWp _ _ _ _ _
      refine wblock ?_
      refine wloop (fun x : Nat => ⟨ofL [(1, .pt (1, 0) [] 0), (3, .al (3, 0) [] 0 n), (4, .int x)], ofRO [((1, 0), some (.bx (fS f))), ((3, 0), some (.ow 1 n (ints (((lowL f.ts n).map fun x => -x).take x ++ (lowL f.ts n).drop x))))]⟩) (fun x => x ≤ n) (fun x => n - x) 0 (by simp [C.spec_DenominatorOf, fS, hn, hll]) (by simp) ?_
      intro x1 hx1 R1 hR1
      refine wseq ?_
      refine wseq ?_
      refine wreg fun K hK => ?_
      simp [C.spec_DenominatorOf, fS]
      refine hK _ ?_; clear hK K
      show AWp _ _ _ _ _
      refine wcond _ rfl (fun hc2 => ?_) (fun hc2 => ?_)
      · have h2 : x1 < n := by have := d_t hc2; omega
        have hx1l : x1 < (lowL f.ts n).length := by omega
        have hset := map_mix (lowL f.ts n) x1 hx1l
        have hg1 := mix_get ((lowL f.ts n).map fun x => -x) (lowL f.ts n) x1 hx1l (by simp)
        have hb := hlb _ (List.getElem_mem hx1l)
        have hlen : (((lowL f.ts n).map fun x => -x).take x1 ++ (lowL f.ts n).drop x1).length = n := by simp; omega
        generalize hM : ((lowL f.ts n).map fun x => -x).take x1 ++ (lowL f.ts n).drop x1 = M at hset hg1 hlen
        have h2M : x1 < M.length := by omega
        rw [List.getElem?_eq_getElem h2M] at hg1
        have hg3 : M[x1] = (lowL f.ts n)[x1]'hx1l := by injection hg1
        rw [← hg3] at hset hb
        refine wskip ?_
        show AWp _ _ _ _ _
        refine wseq ?_
        refine wblock ?_
        refine wreg fun K hK => ?_
        simp [C.spec_DenominatorOf, fS, h2, hlen, get_ints, h2M, wrapOk (x := -M[x1]) (by omega) (by omega), hset, modify_const, ints_set]
        refine hK _ ?_; clear hK K
        show AWp _ _ _ _ _
        refine wreg fun K hK => ?_
        simp [C.spec_DenominatorOf, fS, wrap_succ (show x1 < 4611686018427387904 by omega)]
        refine hK _ ?_; clear hK K
        simp [C.spec_DenominatorOf, fS]
        refine cast (congrArg R1 ?_) (hR1 (x1 + 1) h2 (by omega))
        simp [fS, hn]
      · have h2 : x1 = n := by have := d_f hc2; omega
        refine wexit ?_
        show AWp _ _ _ _ _
        refine wseq ?_
        refine wreg fun K hK => ?_
        simp [C.spec_DenominatorOf, fS]
        refine hK _ ?_; clear hK K
        show AWp _ _ _ _ _
        refine wret ?_
        simp [C.spec_DenominatorOf, fS, hm, h2, hd, hll, List.take_of_length_le, List.drop_of_length_le]
  clear hK
  by_cases ha : Right f
  · refine opsI_seg fun L hL => ?_
    simp [C.spec_DenominatorOf, fS, ha]
    refine wcall1 (spec_l2Right_calls f hx hxe) (by simp) (by simp) ?_
    simp [C.spec_DenominatorOf, fS, ha]
    refine hL _ ?_; clear hL L
    refine opsI_end fun L hL => ?_
    simp [C.spec_DenominatorOf, fS, ha]
    refine hL _ ?_; clear hL L
    simp [C.spec_DenominatorOf, fS, ha]
    refine cast (congrArg K ?_) hJ
    simp [ieq0, fS, ha]
  · refine opsI_seg fun L hL => ?_
    simp [C.spec_DenominatorOf, fS, ha]
    refine wcall1 (spec_l2Right_calls f hx hxe) (by simp) (by simp) ?_
    simp [C.spec_DenominatorOf, fS, ha]
    refine hL _ ?_; clear hL L
    refine opsI_end fun L hL => ?_
    simp [C.spec_DenominatorOf, fS, ha]
    refine hL _ ?_; clear hL L
    simp [C.spec_DenominatorOf, fS, ha]
    refine cast (congrArg K ?_) hJ
    simp [ieq0, fS, ha]

theorem impl_DenominatorOf_calls (f : Lau) (hx : f.ts.length < 4611686018427387904) (hxe : ∀ t ∈ f.ts, t.e.length < 4611686018427387904) : ACalls Try.prog F.impl_DenominatorOf [aF f] [] true (fun outs res => outs = [] ∧ res = [.one (denD f)]) := by
  refine ACalls.of_body (C := C.impl_DenominatorOf) (n := Try.f152.ntmps) tabT folT Try.func152 rfl (by kernel_rfl) rfl (Nat.le_of_ble_eq_true rfl) (by decide) (by kernel_rfl) (by kernel_rfl) rfl (by simp) (by simp) ?_
  simp only [Try.f152]
  refine wseq ?_
  refine wreg fun K hK => ?_
  simp [C.impl_DenominatorOf, fS]
  refine hK _ ?_; clear hK K
  show AWp _ _ _ _ _
  refine wseq ?_
  refine wseq ?_
  refine wregI ([0, 1] ++ ([2, 3, 4, 5, 6, 7, 8])) rfl fun K hK => ?_
  have hJ : K ⟨ofL [(1, .pt (1, 0) [] 0), (16, .bool (!decide (Right f ∧ f.ts ≠ [])))], ofRO [((1, 0), some (.bx (fS f)))]⟩ := by
    refine hK _ ?_; clear hK K
    show AWp _ _ _ _ _
    refine wcond _ rfl (fun hc1 => ?_) (fun hc1 => ?_)
    · have hr := nd_t hc1
      have hm : denD f = .v (.slice none 0 0) := if_neg hr
      refine wseq ?_
      refine wreg fun K hK => ?_
      simp [C.impl_DenominatorOf, fS]
      refine hK _ ?_; clear hK K
      show AWp _ _ _ _ _
      refine wret ?_
      simp [C.impl_DenominatorOf, fS, hm]
    · obtain ⟨hf, hne⟩ := nd_f hc1
      obtain ⟨n, hn⟩ : ∃ n : Nat, f.v = n := ⟨f.v.toNat, by have := hf.1; omega⟩
      have hm : denD f = owI (denL f) := if_pos ⟨hf, hne⟩
      have hv := hf.1
      have hl := hf.2.1
      have he := right_he hf hn
      have h0 : 0 < f.ts.length := List.length_pos_iff.2 hne
      have hd : denL f = (lowA (fun _ => 20) f.ts n).map fun x => -x := by unfold denL; rw [hn, ← lowL_20 h0 he]; rfl
      have hlb := lowA_bd he
      refine wskip ?_
      show AWp _ _ _ _ _
      refine wseq ?_
      refine wreg fun K hK => ?_
      simp [C.impl_DenominatorOf, fS, hn, show (8 : Int) * n ≤ 281474976710656 by omega, show (n : Int) ≤ 281474976710656 by omega, zeros_ints]
      refine hK _ ?_; clear hK K
      show AWp _ _ _ _ _
      refine wseq ?_
      refine wseq ?_
      refine wreg fun K hK => ?_
      simp [C.impl_DenominatorOf, fS]
      refine hK _ ?_; clear hK K
      show AWp _ _ _ _ _
      refine wblock ?_
      refine wloop (fun x : Nat => ⟨ofL [(1, .pt (1, 0) [] 0), (3, .al (3, 0) [] 0 n), (21, .int n), (22, .int x)], ofRO [((1, 0), some (.bx (fS f))), ((3, 0), some (.ow 1 n (ints (((lowA (fun _ => 20) f.ts n).map fun x => -x).take x ++ List.replicate (n - x) 0))))]⟩) (fun x => x ≤ n) (fun x => n - x) 0 (by simp [C.impl_DenominatorOf, fS, hn]) (by simp) ?_
      intro x1 hx1 R1 hR1
      refine wseq ?_
      refine wreg fun K hK => ?_
      simp [C.impl_DenominatorOf, fS]
      refine hK _ ?_; clear hK K
      show AWp _ _ _ _ _
      refine wseq ?_
      refine wcond _ rfl (fun hc2 => ?_) (fun hc2 => ?_)
      · have h2 : x1 < n := by have := d_t hc2; omega
        refine wskip ?_
        show AWp _ _ _ _ _
        refine wseq ?_
        refine wblock ?_
        refine wseq ?_
        refine wreg fun K hK => ?_
        simp [C.impl_DenominatorOf, fS]
        refine hK _ ?_; clear hK K
        show AWp _ _ _ _ _
        refine wseq ?_
        refine wreg fun K hK => ?_
        simp [C.impl_DenominatorOf, fS]
        refine hK _ ?_; clear hK K
        show AWp _ _ _ _ _
        refine wseq ?_
        refine wseq ?_
        refine wreg fun K hK => ?_
        simp [C.impl_DenominatorOf, fS]
        refine hK _ ?_; clear hK K
        show AWp _ _ _ _ _
        refine wblock ?_
        refine wloop (fun x : Nat => ⟨ofL [(1, .pt (1, 0) [] 0), (3, .al (3, 0) [] 0 n), (4, .int x1), (5, .int (minF 20 (f.ts.take x) x1)), (21, .int n), (22, .int x1), (26, .d (.sh 2 f.ts.length (rows tS f.ts))), (27, .int f.ts.length), (28, .int x)], ofRO [((1, 0), some (.bx (fS f))), ((3, 0), some (.ow 1 n (ints (((lowA (fun _ => 20) f.ts n).map fun x => -x).take x1 ++ List.replicate (n - x1) 0))))]⟩) (fun x => x ≤ f.ts.length) (fun x => f.ts.length - x) 0 (by simp [C.impl_DenominatorOf, fS, hn, minF]) (by simp) ?_
        intro x2 hx2 R2 hR2
        refine wseq ?_
        refine wreg fun K hK => ?_
        simp [C.impl_DenominatorOf, fS]
        refine hK _ ?_; clear hK K
        show AWp _ _ _ _ _
        refine wseq ?_
        refine wcond _ rfl (fun hc3 => ?_) (fun hc3 => ?_)
        · have h3 : x2 < f.ts.length := by have := d_t hc3; omega
          have h3e := (he _ (List.getElem_mem h3)).1
          have hmin : minF 20 (f.ts.take (x2 + 1)) x1 = min (minF 20 (f.ts.take x2) x1) (f.ts[x2].e[x1]'(by omega)) := by
            rw [List.take_succ_eq_append_getElem h3, minF_snoc, getD_eq (by omega)]
          refine wskip ?_
          show AWp _ _ _ _ _
          refine wseq ?_
          refine wblock ?_
          refine wseq ?_
          refine wreg fun K hK => ?_
          simp [C.impl_DenominatorOf, fS, h3, tS_0 h3, tS_1 h3]
          refine hK _ ?_; clear hK K
          show AWp _ _ _ _ _
          refine wreg fun K hK => ?_
          simp [C.impl_DenominatorOf, fS, get_ints, h3e, h2]
          refine hK _ ?_; clear hK K
          show AWp _ _ _ _ _
          refine wreg fun K hK => ?_
          simp [C.impl_DenominatorOf, fS, wrap_succ (show x2 < 4611686018427387904 by omega)]
          refine hK _ ?_; clear hK K
          simp [C.impl_DenominatorOf, fS]
          refine cast (congrArg R2 ?_) (hR2 (x2 + 1) h3 (by omega))
          simp [fS, hn, hmin]
        · have h3 : x2 = f.ts.length := by have := d_f hc3; omega
          subst h3
          have hgl : minF 20 f.ts x1 = (lowA (fun _ => 20) f.ts n)[x1]'(by simpa using h2) := (lowA_get (fun _ => 20) f.ts n x1 h2).symm
          have hb := hlb _ (List.getElem_mem (show x1 < (lowA (fun _ => 20) f.ts n).length by simpa using h2))
          rw [← hgl] at hb
          have hfs := fill_step ((lowA (fun _ => 20) f.ts n).map fun x => -x) x1 (by simpa using h2) 0
          simp only [List.length_map, lowA_length, List.getElem_map, ← hgl] at hfs
          have hlen : (((lowA (fun _ => 20) f.ts n).map fun x => -x).take x1 ++ List.replicate (n - x1) 0).length = n := by simp; omega
          refine wexit ?_
          show AWp _ _ _ _ _
          refine wreg fun K hK => ?_
          simp [C.impl_DenominatorOf, fS, List.take_length, wrapOk (x := -(minF 20 f.ts x1)) (by omega) (by omega), h2, hlen, hfs, modify_const, ints_set]
          refine hK _ ?_; clear hK K
          show AWp _ _ _ _ _
          refine wreg fun K hK => ?_
          simp [C.impl_DenominatorOf, fS, wrap_succ (show x1 < 4611686018427387904 by omega)]
          refine hK _ ?_; clear hK K
          simp [C.impl_DenominatorOf, fS]
          refine cast (congrArg R1 ?_) (hR1 (x1 + 1) h2 (by omega))
          simp [fS, hn]
      · have h2 : x1 = n := by have := d_f hc2; omega
        refine wexit ?_
        show AWp _ _ _ _ _
        refine wseq ?_
        refine wreg fun K hK => ?_
        simp [C.impl_DenominatorOf, fS]
        refine hK _ ?_; clear hK K
        show AWp _ _ _ _ _
        refine wret ?_
        simp [C.impl_DenominatorOf, fS, hm, h2, hd, List.take_of_length_le, List.drop_of_length_le]
  clear hK
  by_cases ha : Right f
  · refine opsI_seg fun L hL => ?_
    simp [C.impl_DenominatorOf, fS, ha]
    refine wcall1 (impl_LaurentOk_calls f hx hxe) (by simp) (by simp) ?_
    simp [C.impl_DenominatorOf, fS, ha]
    refine hL _ ?_; clear hL L
    refine opsI_end fun L hL => ?_
    simp [C.impl_DenominatorOf, fS, ha]
    refine hL _ ?_; clear hL L
    simp [C.impl_DenominatorOf, fS, ha]
    refine cast (congrArg K ?_) hJ
    simp [ieq0, fS, ha]
  · refine opsI_seg fun L hL => ?_
    simp [C.impl_DenominatorOf, fS, ha]
    refine wcall1 (impl_LaurentOk_calls f hx hxe) (by simp) (by simp) ?_
    simp [C.impl_DenominatorOf, fS, ha]
    refine hL _ ?_; clear hL L
    refine opsI_end fun L hL => ?_
    simp [C.impl_DenominatorOf, fS, ha]
    refine hL _ ?_; clear hL L
    simp [C.impl_DenominatorOf, fS, ha]
    refine cast (congrArg K ?_) hJ
    simp [ieq0, fS, ha]
theorem sDen_some (f : Lau) (hx : f.ts.length < 4611686018427387904) (hxe : ∀ t ∈ f.ts, t.e.length < 4611686018427387904) (h : Right f ∧ f.ts ≠ []) : ACalls Try.prog F.spec_DenominatorOf [aF f] [] true (fun outs res => outs = [] ∧ res = [.one (owI (denL f))]) := by
  have := spec_DenominatorOf_calls f hx hxe
  rwa [show denD f = owI (denL f) from if_pos h] at this
theorem sDen_none (f : Lau) (hx : f.ts.length < 4611686018427387904) (hxe : ∀ t ∈ f.ts, t.e.length < 4611686018427387904) (h : ¬ (Right f ∧ f.ts ≠ [])) : ACalls Try.prog F.spec_DenominatorOf [aF f] [] true (fun outs res => outs = [] ∧ res = [.one (.v (.slice none 0 0))]) := by
  have := spec_DenominatorOf_calls f hx hxe
  rwa [show denD f = .v (.slice none 0 0) from if_neg h] at this
theorem iDen_some (f : Lau) (hx : f.ts.length < 4611686018427387904) (hxe : ∀ t ∈ f.ts, t.e.length < 4611686018427387904) (h : Right f ∧ f.ts ≠ []) : ACalls Try.prog F.impl_DenominatorOf [aF f] [] true (fun outs res => outs = [] ∧ res = [.one (owI (denL f))]) := by
  have := impl_DenominatorOf_calls f hx hxe
  rwa [show denD f = owI (denL f) from if_pos h] at this
theorem iDen_none (f : Lau) (hx : f.ts.length < 4611686018427387904) (hxe : ∀ t ∈ f.ts, t.e.length < 4611686018427387904) (h : ¬ (Right f ∧ f.ts ≠ [])) : ACalls Try.prog F.impl_DenominatorOf [aF f] [] true (fun outs res => outs = [] ∧ res = [.one (.v (.slice none 0 0))]) := by
  have := impl_DenominatorOf_calls f hx hxe
  rwa [show denD f = .v (.slice none 0 0) from if_neg h] at this
theorem mono_sm (e : List Int) : (monoF e).ts.length ≤ 1 ∧ ∀ t ∈ (monoF e).ts, t.e.length ≤ e.length := by
  unfold monoF
  split
  · simp
  · simp [zeroF]
theorem denL_sm {f : Lau} (h : Right f) : (denL f).length ≤ 8 := by rw [denL_length]; have := h.1; omega
noncomputable def numF (f : Lau) : Lau × Bool := if Right f ∧ f.ts ≠ [] then mulF f (monoF (denL f)) else (zeroF, false)

theorem spec_NumeratorOf_calls (f : Lau) (hx : f.ts.length < 4611686018427387904) (hxe : ∀ t ∈ f.ts, t.e.length < 4611686018427387904) : ACalls Try.prog F.spec_NumeratorOf [aF f] [] true (fun outs res => outs = [] ∧ WkRs res [.ag (fO (numF f).1), .one (D.bool (numF f).2)]) := by
  refine ACalls.of_body (C := C.spec_NumeratorOf) (n := Try.f59.ntmps) tabT folT Try.func59 rfl (by kernel_rfl) rfl (Nat.le_of_ble_eq_true rfl) (by decide) (by kernel_rfl) (by kernel_rfl) rfl (by simp) (by simp) ?_
  simp only [Try.f59]
  refine wseq ?_
  refine wreg fun K hK => ?_
  simp [C.spec_NumeratorOf, fS]
  refine hK _ ?_; clear hK K
  show AWp _ _ _ _ _
  refine wseq ?_
  refine wregI ([0, 1] ++ ([2])) rfl fun K hK => ?_
  by_cases hr : Right f ∧ f.ts ≠ []
  · refine opsI_seg fun L hL => ?_
    simp [C.spec_NumeratorOf, fS, hr]
    refine wcall1 (sDen_some f hx hxe hr) (by simp) (by simp) ?_
    simp [C.spec_NumeratorOf, fS, hr]
    refine hL _ ?_; clear hL L
    refine opsI_end fun L hL => ?_
    simp [C.spec_NumeratorOf, fS, hr]
    refine hL _ ?_; clear hL L
    simp [C.spec_NumeratorOf, fS, hr]
    have hm : numF f = mulF f (monoF (denL f)) := if_pos hr
    have hv := hr.1.1
    have hd8 := denL_sm hr.1
    have hms := mono_sm (denL f)
    refine hK _ ?_; clear hK K
    show AWp _ _ _ _ _
    refine wseq ?_
    refine wseq ?_
    refine wreg fun K hK => ?_
    simp [C.spec_NumeratorOf, fS]
    refine hK _ ?_; clear hK K
    show AWp _ _ _ _ _
    refine wcond _ rfl (fun hc1 => ?_) (fun hc1 => ?_)
    · exfalso
      simp at hc1
      omega
    · refine wskip ?_
      show AWp _ _ _ _ _
      refine wseq ?_
      refine wdrawI [(true, 0), (true, 1), (false, 2), (false, 3), (true, 4), (true, 5), (false, 6), (true, 7)] ⟨by kernel_rfl, by kernel_rfl⟩ ([0, 1, 2] ++ ([3] ++ ([4, 5, 6, 7]))) rfl fun K hK => ?_
      refine opsI_seg fun L hL => ?_
      simp [C.spec_NumeratorOf, fS, denL_length]
      refine wcall1 (sMono_calls (denL f) (by omega)) (by simp [fS, denL_length]) (by simp) ?_
      simp [C.spec_NumeratorOf, fS, denL_length]
      refine hL _ ?_; clear hL L
      refine opsI_seg fun L hL => ?_
      simp [C.spec_NumeratorOf, fS, denL_length]
      refine wcall1 (sMul_calls f (monoF (denL f)) hx hxe (by omega) (fun t ht => by have := hms.2 t ht; omega)) (by simp) (by simp) ?_
      simp [C.spec_NumeratorOf, fS, denL_length]
      refine hL _ ?_; clear hL L
      refine opsI_end fun L hL => ?_
      simp [C.spec_NumeratorOf, fS, denL_length]
      refine hL _ ?_; clear hL L
      simp [C.spec_NumeratorOf, fS, denL_length]
      refine hK _ ?_; clear hK K
      show AWp _ _ _ _ _
      refine wret ?_
      simp [C.spec_NumeratorOf, fS, hm, fO]
  · refine opsI_seg fun L hL => ?_
    simp [C.spec_NumeratorOf, fS, hr]
    refine wcall1 (sDen_none f hx hxe hr) (by simp) (by simp) ?_
    simp [C.spec_NumeratorOf, fS, hr]
    refine hL _ ?_; clear hL L
    refine opsI_end fun L hL => ?_
    simp [C.spec_NumeratorOf, fS, hr]
    refine hL _ ?_; clear hL L
    simp [C.spec_NumeratorOf, fS, hr]
    have hm : numF f = (zeroF, false) := if_neg hr
    refine hK _ ?_; clear hK K
    show AWp _ _ _ _ _
    refine wseq ?_
    refine wseq ?_
    refine wreg fun K hK => ?_
    simp [C.spec_NumeratorOf, fS]
    refine hK _ ?_; clear hK K
    show AWp _ _ _ _ _
    refine wcond _ rfl (fun hc2 => ?_) (fun hc2 => ?_)
    · refine wseq ?_
      refine wreg fun K hK => ?_
      simp [C.spec_NumeratorOf, fS]
      refine hK _ ?_; clear hK K
      show AWp _ _ _ _ _
      refine wret ?_
      simp [C.spec_NumeratorOf, fS, hm, zeroF, fO, rows]
    · simp at hc2

theorem impl_NumeratorOf_calls (hMul : MulOk) (f : Lau) (hx : f.ts.length < 4611686018427387904) (hxe : ∀ t ∈ f.ts, t.e.length < 4611686018427387904) : ACalls Try.prog F.impl_NumeratorOf [aF f] [] true (fun outs res => outs = [] ∧ WkRs res [.ag (fO (numF f).1), .one (D.bool (numF f).2)]) := by
  refine ACalls.of_body (C := C.impl_NumeratorOf) (n := Try.f60.ntmps) tabT folT Try.func60 rfl (by kernel_rfl) rfl (Nat.le_of_ble_eq_true rfl) (by decide) (by kernel_rfl) (by kernel_rfl) rfl (by simp) (by simp) ?_
  simp only [Try.f60]
  refine wseq ?_
  refine wreg fun K hK => ?_
  simp [C.impl_NumeratorOf, fS]
  refine hK _ ?_; clear hK K
  show AWp _ _ _ _ _
  refine wseq ?_
  refine wregI ([0, 1] ++ ([2])) rfl fun K hK => ?_
  by_cases hr : Right f ∧ f.ts ≠ []
  · refine opsI_seg fun L hL => ?_
    simp [C.impl_NumeratorOf, fS, hr]
    refine wcall1 (iDen_some f hx hxe hr) (by simp) (by simp) ?_
    simp [C.impl_NumeratorOf, fS, hr]
    refine hL _ ?_; clear hL L
    refine opsI_end fun L hL => ?_
    simp [C.impl_NumeratorOf, fS, hr]
    refine hL _ ?_; clear hL L
    simp [C.impl_NumeratorOf, fS, hr]
    have hm : numF f = mulF f (monoF (denL f)) := if_pos hr
    have hv := hr.1.1
    have hd8 := denL_sm hr.1
    have hms := mono_sm (denL f)
    refine hK _ ?_; clear hK K
    show AWp _ _ _ _ _
    refine wseq ?_
    refine wseq ?_
    refine wreg fun K hK => ?_
    simp [C.impl_NumeratorOf, fS]
    refine ⟨?_, fun h9 => absurd h9 (by omega)⟩
    refine hK _ ?_; clear hK K
    show AWp _ _ _ _ _
    refine wcond _ rfl (fun hc1 => ?_) (fun hc1 => ?_)
    · simp at hc1
    · refine wskip ?_
      show AWp _ _ _ _ _
      refine wseq ?_
      refine wdrawI [(true, 0), (true, 1), (false, 2), (false, 3), (true, 4), (true, 5), (false, 6), (true, 7)] ⟨by kernel_rfl, by kernel_rfl⟩ ([0, 1, 2] ++ ([3] ++ ([4, 5, 6, 7]))) rfl fun K hK => ?_
      refine opsI_seg fun L hL => ?_
      simp [C.impl_NumeratorOf, fS, denL_length]
      refine wcall1 (iMono_calls (denL f) (by omega)) (by simp [fS, denL_length]) (by simp) ?_
      simp [C.impl_NumeratorOf, fS, denL_length]
      refine hL _ ?_; clear hL L
      refine opsI_seg fun L hL => ?_
      simp [C.impl_NumeratorOf, fS, denL_length]
      refine wcall1 (hMul f (monoF (denL f)) hx hxe (by omega) (fun t ht => by have := hms.2 t ht; omega)) (by simp) (by simp) ?_
      simp [C.impl_NumeratorOf, fS, denL_length]
      refine hL _ ?_; clear hL L
      refine opsI_end fun L hL => ?_
      simp [C.impl_NumeratorOf, fS, denL_length]
      refine hL _ ?_; clear hL L
      simp [C.impl_NumeratorOf, fS, denL_length]
      refine hK _ ?_; clear hK K
      show AWp _ _ _ _ _
      refine wret ?_
      simp [C.impl_NumeratorOf, fS, hm, fO]
  · refine opsI_seg fun L hL => ?_
    simp [C.impl_NumeratorOf, fS, hr]
    refine wcall1 (iDen_none f hx hxe hr) (by simp) (by simp) ?_
    simp [C.impl_NumeratorOf, fS, hr]
    refine hL _ ?_; clear hL L
    refine opsI_end fun L hL => ?_
    simp [C.impl_NumeratorOf, fS, hr]
    refine hL _ ?_; clear hL L
    simp [C.impl_NumeratorOf, fS, hr]
    have hm : numF f = (zeroF, false) := if_neg hr
    refine hK _ ?_; clear hK K
    show AWp _ _ _ _ _
    refine wseq ?_
    refine wseq ?_
    refine wreg fun K hK => ?_
    simp [C.impl_NumeratorOf, fS]
    refine hK _ ?_; clear hK K
    show AWp _ _ _ _ _
    refine wcond _ rfl (fun hc2 => ?_) (fun hc2 => ?_)
    · refine wseq ?_
      refine wreg fun K hK => ?_
      simp [C.impl_NumeratorOf, fS]
      refine hK _ ?_; clear hK K
      show AWp _ _ _ _ _
      refine wret ?_
      simp [C.impl_NumeratorOf, fS, hm, zeroF, fO, rows]
    · simp at hc2
theorem sNum_calls (f : Lau) (hx : f.ts.length < 4611686018427387904) (hxe : ∀ t ∈ f.ts, t.e.length < 4611686018427387904) : ACalls Try.prog F.spec_NumeratorOf [aF f] [] true (fun outs res => outs = [] ∧ res = [.ag (fO (numF f).1), .one (D.bool (numF f).2)]) := (spec_NumeratorOf_calls f hx hxe).weak1
theorem iNum_calls (hMul : MulOk) (f : Lau) (hx : f.ts.length < 4611686018427387904) (hxe : ∀ t ∈ f.ts, t.e.length < 4611686018427387904) : ACalls Try.prog F.impl_NumeratorOf [aF f] [] true (fun outs res => outs = [] ∧ res = [.ag (fO (numF f).1), .one (D.bool (numF f).2)]) := (impl_NumeratorOf_calls hMul f hx hxe).weak1
theorem numF_small (f : Lau) : SmallF (numF f).1 := by
  unfold numF
  split
  · rcases mulF_right f (monoF (denL f)) with h | h
    · exact small_right h
    · rw [h]; exact small_zero
  · exact small_zero

end Go.Proofs.Ytdgeponcnlkaiaa.Ab
namespace Go.Proofs.Ytdgeponcnlkaiaa.Ab
open Go
set_option linter.unusedSimpArgs false
set_option linter.unusedVariables false
theorem addE_dv : ∀ (a b : List Int), a.length = b.length → addE 1 (addE (-1) a b) b = a
  | [], [], _ => rfl
  | x :: a, y :: b, h => by
    simp only [addE, addE_dv a b (by simpa using h)]
    congr 1
    omega
  | [], _ :: _, h => by simp at h
  | _ :: _, [], h => by simp at h
theorem lexlt_addE (k : Int) : ∀ (x y b : List Int), x.length = b.length → y.length = b.length → lexlt (addE k x b) (addE k y b) = lexlt x y
  | [], [], [], _, _ => rfl
  | u :: x, v :: y, w :: b, h1, h2 => by
    simp only [addE, lexlt, lexlt_addE k x y b (by simpa using h1) (by simpa using h2)]
    by_cases e : u = v
    · rw [if_pos e, if_pos (by omega)]
    · rw [if_neg e, if_neg (by omega)]
      congr 1
      simp only [eq_iff_iff]
      omega
  | [], _ :: _, _, h1, h2 => by simp at h1 h2; omega
  | _ :: _, [], _, h1, h2 => by simp at h1 h2; omega
  | _ :: _, _ :: _, [], h1, _ => by simp at h1
  | [], [], _ :: _, h1, _ => by simp at h1
theorem lexlt_addE2 : ∀ (e x y : List Int), e.length = x.length → e.length = y.length → lexlt (addE 1 e x) (addE 1 e y) = lexlt x y
  | [], [], [], _, _ => rfl
  | w :: e, u :: x, v :: y, h1, h2 => by
    simp only [addE, lexlt, lexlt_addE2 e x y (by simpa using h1) (by simpa using h2)]
    by_cases e : u = v
    · rw [if_pos e, if_pos (by omega)]
    · rw [if_neg e, if_neg (by omega)]
      congr 1
      simp only [eq_iff_iff]
      omega
  | [], _ :: _, _, h1, _ => by simp at h1
  | _ :: _, [], _, h1, _ => by simp at h1
  | [], [], _ :: _, _, h2 => by simp at h2
  | _ :: _, _ :: _, [], _, h2 => by simp at h2
theorem lauAct (n : Nat) : Act lexlt (addE 1) (addE (-1)) (fun e => e.length = n) where
  mul_dv a b h1 h2 := addE_dv a b (h1.trans h2.symm)
  dv_lt x y b h1 h2 h3 h := by rw [lexlt_addE _ _ _ _ (h1.trans h3.symm) (h2.trans h3.symm)]; exact h
  mul_lt e x y h1 h2 h3 h := by rw [lexlt_addE2 _ _ _ (h1.trans h2.symm) (h1.trans h3.symm)]; exact h
  dmul a b h1 h2 := by rw [addE_length _ _ _ (h1.trans h2.symm)]; exact h1
  ddv a b h1 h2 := by rw [addE_length _ _ _ (h1.trans h2.symm)]; exact h1
/-! ### Greatest and least exponents -/
theorem least_of {α : Type} (f : α → Int) : ∀ l : List α, l ≠ [] → ∃ x ∈ l, ∀ y ∈ l, f x ≤ f y
  | [], h => absurd rfl h
  | [x], _ => ⟨x, by simp, by simp⟩
  | x :: y :: l, _ => by
    obtain ⟨z, hz, hm⟩ := least_of f (y :: l) (by simp)
    by_cases h : f x ≤ f z
    · refine ⟨x, by simp, fun u hu => ?_⟩
      rcases List.mem_cons.1 hu with rfl | hu
      · omega
      · have := hm u hu; omega
    · refine ⟨z, by simp [hz], fun u hu => ?_⟩
      rcases List.mem_cons.1 hu with rfl | hu
      · omega
      · exact hm u hu
theorem getD_addE (k : Int) (i : Nat) : ∀ (a b : List Int), a.length = b.length → (addE k a b).getD i 0 = a.getD i 0 + k * b.getD i 0 := by
  induction i with
  | zero =>
    intro a b h
    match a, b, h with
    | [], [], _ => simp [addE]
    | x :: a, y :: b, _ => simp [addE]
  | succ i ih =>
    intro a b h
    match a, b, h with
    | [], [], _ => simp [addE]
    | x :: a, y :: b, h =>
      have := ih a b (by simpa using h)
      simpa [addE, List.getD_cons_succ] using this
/-- A number that tells exponents apart, goes with sums, and goes by the i-th exponent first. -/
def wei (s : Int) (i : Nat) (e : List Int) : Int := s * (e.getD i 0 * 144115188075855872 + keyA 0 e)
theorem wei_add (s : Int) (i : Nat) (a b : List Int) (h : a.length = b.length) : wei s i (addE 1 a b) = wei s i a + wei s i b - s * keyA 0 (List.replicate a.length 0) := by
  unfold wei
  have := keyA_add a b 0 0 0 h
  simp only [Int.add_zero, Int.sub_zero] at this
  rw [this, getD_addE 1 i a b h, ← Int.mul_add, ← Int.mul_sub]
  congr 1
  omega
theorem wei_bd {e : List Int} (hd : Dig e) (h8 : e.length ≤ 8) : 0 ≤ keyA 0 e ∧ keyA 0 e < 144115188075855872 := by
  have := keyA_key hd h8
  omega
theorem wei_inj {s : Int} (hs : s = 1 ∨ s = -1) {i : Nat} {a b : List Int} (hl : a.length = b.length) (ha : Dig a) (hb : Dig b) (h8 : a.length ≤ 8) (h : wei s i a = wei s i b) : a = b := by
  have h1 := wei_bd ha h8
  have h2 := wei_bd hb (by omega)
  refine keyA_inj hl ha hb (p := 0) ?_
  unfold wei at h
  rcases hs with rfl | rfl <;> omega
theorem wei_le {s : Int} (hs : s = 1 ∨ s = -1) {i : Nat} {a b : List Int} (ha : Dig a) (hb : Dig b) (h8 : a.length ≤ 8) (h8b : b.length ≤ 8) (h : wei s i a ≤ wei s i b) : s * a.getD i 0 ≤ s * b.getD i 0 := by
  have h1 := wei_bd ha h8
  have h2 := wei_bd hb h8b
  unfold wei at h
  rcases hs with rfl | rfl <;> omega
theorem mem_of_co {k : List Int} {l : List (List Int × Int)} (h : co k l ≠ 0) : ∃ x ∈ l, x.1 = k := co_mem h
/-- An outermost exponent of a product is the sum of outermost ones. -/
theorem outer {s : Int} (hs : s = 1 ∨ s = -1) {n i : Nat} (h8 : n ≤ 8) {F O g : List (List Int × Int)} (hO : Desc lexlt O) (hg : Desc lexlt g) (hOz : Nz O) (hgz : Nz g) (hne : g ≠ []) (hOD : ∀ x ∈ O, x.1.length = n ∧ Dig x.1) (hgD : ∀ x ∈ g, x.1.length = n ∧ Dig x.1)
    (hF : ∀ q, co q F = co q (prodK (addE 1) O g)) : ∀ x ∈ O, ∃ t ∈ F, ∃ y ∈ g, (∀ z ∈ g, s * y.1.getD i 0 ≤ s * z.1.getD i 0) ∧ s * t.1.getD i 0 ≤ s * x.1.getD i 0 + s * y.1.getD i 0 := by
  intro x hx
  obtain ⟨a, haO, ham⟩ := least_of (fun u : List Int × Int => wei s i u.1) O (fun e => by rw [e] at hx; simp at hx)
  obtain ⟨y, hyg, hym⟩ := least_of (fun u : List Int × Int => wei s i u.1) g hne
  have ha := hOD a haO
  have hy := hgD y hyg
  have huniq : ∀ u ∈ O, ∀ v ∈ g, addE 1 u.1 v.1 = addE 1 a.1 y.1 → u = a ∧ v = y := by
    intro u hu v hv e
    have h1 := hOD u hu
    have h2 := hgD v hv
    have e1 := wei_add s i u.1 v.1 (h1.1.trans h2.1.symm)
    have e2 := wei_add s i a.1 y.1 (ha.1.trans hy.1.symm)
    rw [e, e2, h1.1, ha.1] at e1
    have m1 : wei s i a.1 ≤ wei s i u.1 := ham u hu
    have m2 : wei s i y.1 ≤ wei s i v.1 := hym v hv
    have k1 : u.1 = a.1 := wei_inj (i := i) hs (h1.1.trans ha.1.symm) h1.2 ha.2 (by omega) (by omega)
    have k2 : v.1 = y.1 := wei_inj (i := i) hs (h2.1.trans hy.1.symm) h2.2 hy.2 (by omega) (by omega)
    have c1 := co_single lexOrd hO hu
    have c2 := co_single lexOrd hO haO
    have c3 := co_single lexOrd hg hv
    have c4 := co_single lexOrd hg hyg
    rw [k1] at c1
    rw [k2] at c3
    exact ⟨Prod.ext k1 (c1.symm.trans c2), Prod.ext k2 (c3.symm.trans c4)⟩
  have hc := co_pair2 (mul := addE 1) lexOrd hO hg haO hyg huniq
  have hnz : co (addE 1 a.1 y.1) F ≠ 0 := by
    rw [hF, hc]
    exact Int.mul_ne_zero (hOz a haO) (hgz y hyg)
  obtain ⟨t, ht, et⟩ := co_mem hnz
  refine ⟨t, ht, y, hyg, fun z hz => wei_le hs hy.2 (hgD z hz).2 (by omega) (by have := (hgD z hz).1; omega) (hym z hz), ?_⟩
  rw [et, getD_addE 1 i _ _ (ha.1.trans hy.1.symm)]
  have := wei_le hs ha.2 (hOD x hx).2 (by omega) (by have := (hOD x hx).1; omega) (ham x hx)
  rw [Int.one_mul, Int.mul_add]
  omega

/-! ### Greatest exponents of terms -/
def maxF (x : Int) (ts : List Trm) (i : Nat) : Int := ts.foldl (fun m t => max m (t.e.getD i 0)) x
theorem maxF_snoc (x : Int) (ts : List Trm) (t : Trm) (i : Nat) : maxF x (ts ++ [t]) i = max (maxF x ts i) (t.e.getD i 0) := by simp [maxF, List.foldl_append]
theorem maxF_ge (x : Int) (i : Nat) : ∀ ts : List Trm, x ≤ maxF x ts i ∧ (∀ t ∈ ts, t.e.getD i 0 ≤ maxF x ts i) ∧ (maxF x ts i = x ∨ ∃ t ∈ ts, maxF x ts i = t.e.getD i 0) := by
  intro ts
  induction ts generalizing x with
  | nil => simp [maxF]
  | cons t ts ih =>
    obtain ⟨h1, h2, h3⟩ := ih (max x (t.e.getD i 0))
    have e : maxF x (t :: ts) i = maxF (max x (t.e.getD i 0)) ts i := rfl
    rw [e]
    refine ⟨by omega, fun u hu => ?_, ?_⟩
    · rcases List.mem_cons.1 hu with rfl | hu
      · omega
      · exact h2 u hu
    · rcases h3 with h3 | ⟨u, hu, h3⟩
      · by_cases hle : t.e.getD i 0 ≤ x
        · exact .inl (by rw [h3]; omega)
        · exact .inr ⟨t, by simp, by rw [h3]; omega⟩
      · exact .inr ⟨u, by simp [hu], h3⟩
def highA (x : Nat → Int) (ts : List Trm) (n : Nat) : List Int := (List.range n).map fun i => maxF (x i) ts i
@[simp] theorem highA_length (x : Nat → Int) (ts : List Trm) (n : Nat) : (highA x ts n).length = n := by simp [highA]
theorem highA_get (x : Nat → Int) (ts : List Trm) (n i : Nat) (h : i < n) : (highA x ts n)[i]'(by simpa using h) = maxF (x i) ts i := by simp [highA]
theorem highA_start (ts : List Trm) (n : Nat) (h : 0 < ts.length) (he : ∀ t ∈ ts, t.e.length = n) : highA (headE ts) [] n = (ts[0]'h).e := by
  have := lowA_start ts n h he
  rw [← this]
  unfold highA lowA minF maxF
  rfl
def highL (ts : List Trm) (n : Nat) : List Int := highA (headE ts) ts n
theorem headE_mem {ts : List Trm} (h : ts ≠ []) (i : Nat) : ∃ t ∈ ts, headE ts i = t.e.getD i 0 := by
  match ts, h with
  | t :: ts, _ => exact ⟨t, by simp, rfl⟩
theorem lowL_at {ts : List Trm} (h : ts ≠ []) {n i : Nat} (hi : i < n) : (∀ t ∈ ts, (lowL ts n).getD i 0 ≤ t.e.getD i 0) ∧ ∃ t ∈ ts, (lowL ts n).getD i 0 = t.e.getD i 0 := by
  have e : (lowL ts n).getD i 0 = minF (headE ts i) ts i := by
    rw [getD_eq (by simpa [lowL] using hi)]
    exact lowA_get _ _ _ _ hi
  rw [e]
  obtain ⟨_, h2, h3⟩ := minF_le (headE ts i) i ts
  refine ⟨h2, ?_⟩
  rcases h3 with h3 | h3
  · rw [h3]; exact headE_mem h i
  · exact h3
theorem highL_at {ts : List Trm} (h : ts ≠ []) {n i : Nat} (hi : i < n) : (∀ t ∈ ts, t.e.getD i 0 ≤ (highL ts n).getD i 0) ∧ ∃ t ∈ ts, (highL ts n).getD i 0 = t.e.getD i 0 := by
  have e : (highL ts n).getD i 0 = maxF (headE ts i) ts i := by
    rw [getD_eq (by simpa [highL] using hi)]
    exact highA_get _ _ _ _ hi
  rw [e]
  obtain ⟨_, h2, h3⟩ := maxF_ge (headE ts i) i ts
  refine ⟨h2, ?_⟩
  rcases h3 with h3 | h3
  · rw [h3]; exact headE_mem h i
  · exact h3

/-! ### The two divisions -/
def chkI (e : List Int) (q : Int) : Bool := decide ((∀ x ∈ e, -20 ≤ x ∧ x ≤ 20) ∧ q ≠ 0 ∧ -1000000 ≤ q ∧ q ≤ 1000000)
def inBox (f g : Lau) (n : Nat) (e : List Int) : Prop := ∀ i, i < n → (lowL f.ts n).getD i 0 - (lowL g.ts n).getD i 0 ≤ e.getD i 0 ∧ e.getD i 0 ≤ (highL f.ts n).getD i 0 - (highL g.ts n).getD i 0
instance (f g : Lau) (n : Nat) (e : List Int) : Decidable (inBox f g n e) := Nat.decidableBallLT n _
def chkS (f g : Lau) (n : Nat) (e : List Int) (q : Int) : Bool := decide (inBox f g n e ∧ -1000000 ≤ q ∧ q ≤ 1000000)
def leadE (g : Lau) : List Int := match g.ts with | [] => [] | t :: _ => t.e
def leadC (g : Lau) : Int := match g.ts with | [] => 1 | t :: _ => t.c
def divL (chk : List Int → Int → Bool) (g : Lau) (k : Nat) (R : List (List Int × Int)) : Option (List (List Int × Int)) := divGo lexlt (addE 1) (addE (-1)) chk (g.ts.map pr) (leadE g) (leadC g) k R
noncomputable def endF (v : Int) : Option (List (List Int × Int)) → Lau × Bool
  | some O => if Right ⟨v, O.map tm⟩ then (⟨v, O.map tm⟩, true) else (zeroF, false)
  | none => (zeroF, false)
noncomputable def divF (f g : Lau) : Lau × Bool := if (Right f ∧ Right g ∧ f.v = g.v) ∧ g.ts ≠ [] then endF f.v (divL chkI g 600 (f.ts.map pr)) else (zeroF, false)
noncomputable def divS (f g : Lau) : Lau × Bool := if (Right f ∧ Right g ∧ f.v = g.v) ∧ g.ts ≠ [] then endF f.v (divL (chkS f g f.v.toNat) g 600 (f.ts.map pr)) else (zeroF, false)
theorem pr_desc {f : Lau} (h : Right f) : Desc lexlt (f.ts.map pr) := by
  unfold Desc
  rw [List.pairwise_map]
  exact h.2.2.2
theorem pr_nz {f : Lau} (h : Right f) : Nz (f.ts.map pr) := fun x hx => by
  obtain ⟨t, ht, rfl⟩ := List.mem_map.1 hx
  exact (h.2.2.1 t ht).2.1
theorem pr_dig {f : Lau} {n : Nat} (h : Right f) (hn : f.v = n) : ∀ x ∈ f.ts.map pr, x.1.length = n ∧ Dig x.1 := fun x hx => by
  obtain ⟨t, ht, rfl⟩ := List.mem_map.1 hx
  have := right_he h hn t ht
  exact ⟨this.1, fun y hy => by have := this.2 y hy; omega⟩
theorem divS_eq (f g : Lau) : divS f g = divF f g := by
  unfold divS divF
  split
  · rename_i hc
    obtain ⟨⟨hf, hg, hfg⟩, hne⟩ := hc
    obtain ⟨n, hn⟩ : ∃ n : Nat, f.v = n := ⟨f.v.toNat, by have := hf.1; omega⟩
    have hgn : g.v = n := by omega
    have hnt : f.v.toNat = n := by omega
    have h8 : n ≤ 8 := by have := hf.1; omega
    rw [hnt]
    have hgd := pr_desc hg
    have hgm : g.ts.map pr = (leadE g, leadC g) :: (g.ts.tail.map pr) := by
      unfold leadE leadC
      match hh : g.ts, hne with
      | t :: ts, _ => rfl
    cases hI : divL chkI g 600 (f.ts.map pr) with
    | some O =>
      have hch := (divGo_all _ _ _ hI).1
      have hOd : Desc lexlt O ∧ (∀ x ∈ O, x.1.length = n) := by
        unfold divL at hI
        rw [hgm] at hI hgd
        have := divGo_desc (chk := chkI) lexOrd (lauAct n) hgd (by rw [← hgm]; exact fun y hy => (pr_dig hg hgn y hy).1) 600 _ O hI (pr_desc hf) fun y hy => (pr_dig hf hn y hy).1
        exact ⟨this.1, this.2.1⟩
      have hOz : Nz O := fun x hx => by
        have := hch x hx
        simp only [chkI, decide_eq_true_eq] at this
        exact this.2.1
      have hex := divGo_exact _ _ _ hI
      have hS : divL (chkS f g n) g 600 (f.ts.map pr) = some O := by
        refine divGo_chk _ _ _ hI fun x hx => ?_
        have hcx := hch x hx
        simp only [chkI, decide_eq_true_eq] at hcx
        simp only [chkS, decide_eq_true_eq]
        refine ⟨fun i hi => ?_, hcx.2.2⟩
        have hOD : ∀ x ∈ O, x.1.length = n ∧ Dig x.1 := fun x hx => ⟨hOd.2 x hx, fun z hz => by
          have := hch x hx
          simp only [chkI, decide_eq_true_eq] at this
          have := this.1 z hz
          omega⟩
        have hfne : f.ts ≠ [] := by
          rintro e
          have := outer (s := 1) (i := i) (.inl rfl) h8 hOd.1 (pr_desc hg) hOz (pr_nz hg) (by simpa using hne) hOD (pr_dig hg hgn) hex x hx
          obtain ⟨t, ht, _⟩ := this
          rw [e] at ht
          simp at ht
        obtain ⟨lf1, _⟩ := lowL_at hfne hi
        obtain ⟨_, tl, htl, lg2⟩ := lowL_at hne hi
        obtain ⟨hf1, _⟩ := highL_at hfne hi
        obtain ⟨_, th, hth, hg2⟩ := highL_at hne hi
        obtain ⟨t, ht, y, hy, m1, m2⟩ := outer (s := 1) (i := i) (.inl rfl) h8 hOd.1 (pr_desc hg) hOz (pr_nz hg) (by simpa using hne) hOD (pr_dig hg hgn) hex x hx
        obtain ⟨t', ht', y', hy', m1', m2'⟩ := outer (s := -1) (i := i) (.inr rfl) h8 hOd.1 (pr_desc hg) hOz (pr_nz hg) (by simpa using hne) hOD (pr_dig hg hgn) hex x hx
        obtain ⟨u, hu, rfl⟩ := List.mem_map.1 ht
        obtain ⟨u', hu', rfl⟩ := List.mem_map.1 ht'
        have a1 := lf1 u hu
        have a2 := m1 (pr tl) (List.mem_map.2 ⟨tl, htl, rfl⟩)
        have a3 := hf1 u' hu'
        have a4 := m1' (pr th) (List.mem_map.2 ⟨th, hth, rfl⟩)
        simp only [pr] at m2 m2' a2 a4
        constructor <;> omega
      rw [hS]
    | none =>
      cases hS : divL (chkS f g n) g 600 (f.ts.map pr) with
      | none => rfl
      | some O =>
        simp only [endF]
        rw [if_neg]
        intro hr
        have : divL chkI g 600 (f.ts.map pr) = some O := by
          refine divGo_chk _ _ _ hS fun x hx => ?_
          have := hr.2.2.1 (tm x) (List.mem_map.2 ⟨x, hx, rfl⟩)
          simp only [chkI, decide_eq_true_eq]
          exact ⟨this.2.2.2, this.2.1, this.2.2.1⟩
        rw [hI] at this
        simp at this
  · rfl
end Go.Proofs.Ytdgeponcnlkaiaa.Ab
