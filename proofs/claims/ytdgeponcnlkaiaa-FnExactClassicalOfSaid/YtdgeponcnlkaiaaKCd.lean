/- Small functions on numbers and lists of numbers: what they answer. Sums: their size, copies, what is equal, marks. Sums as lists of keys with numbers: the descending list without zeros is told by the sum that belongs to each key. Exponents as one number: the code is one to one, keeps the order, and goes with sums. Sums that are right; their coded terms; what products and sums come to. The reference's sums: which are right; codes and their decoding. The reference's coded terms: opened, multiplied, shut. Merging runs sorts; terms of one key that lie together are added. The reference's gathering: terms in order, those of one key added. The reference's products of coded terms. The reference's products and powers of sums. The reference's powers of sums. The program's sums: what is right, keys, comparisons. Keys of the program's sums, and their building. The program's powers of sums, over its products. A map of padded exponents as a sum. No condition. -/
import Derived.Test.YtdgeponcnlkaiaaKCc
set_option linter.unusedVariables false
set_option linter.unusedSimpArgs false
namespace Go.Proofs.Ytdgeponcnlkaiaa.Ab
open Go
set_option linter.unusedSimpArgs false
set_option linter.unusedVariables false
set_option maxRecDepth 10000
theorem tabT : tabB Try.prog TTab = true := by kernel_rfl
theorem folT : Try.prog.follows .mixedOrders = true := by kernel_rfl
theorem wrap_succ {j : Nat} (h : j < 4611686018427387904) : IntKind.i64.wrap ((j : Int) + 1) = ((j + 1 : Nat) : Int) := by
  rw [wrapOk (by omega) (by omega)]
  omega
theorem impl_within_calls (n low high : Int) : ACalls Try.prog F.impl_within [.int n, .int low, .int high] [] true (fun outs res => outs = [] ∧ res = [.one (D.bool (decide (low ≤ n ∧ n ≤ high)))]) := by
  refine ACalls.of_body (C := C.impl_within) (n := Try.f94.ntmps) tabT folT Try.func94 rfl (by kernel_rfl) rfl (Nat.le_of_ble_eq_true rfl) (by decide) (by kernel_rfl) (by kernel_rfl) rfl (by simp) (by simp) ?_
  simp only [Try.f94]
  refine wseq ?_
  refine wreg fun K hK => ?_
  simp [C.impl_within]
  refine hK _ ?_; clear hK K
  show AWp _ _ _ _ _
  refine wseq ?_
  refine wreg fun K hK => ?_
  have hJ : K ⟨ofL [(6, .bool (decide (low ≤ n ∧ n ≤ high)))], ofRO []⟩ := by
    refine hK _ ?_; clear hK K
    show AWp _ _ _ _ _
    refine wret ?_
    simp [C.impl_within]
  by_cases h : low ≤ n
  · simp [C.impl_within, h]
    simpa [h] using hJ
  · simp [C.impl_within, h]
    simpa [h] using hJ

theorem spec_l1In_calls (n low high : Int) : ACalls Try.prog F.spec_l1In [.int n, .int low, .int high] [] true (fun outs res => outs = [] ∧ res = [.one (D.bool (decide (low ≤ n ∧ n ≤ high)))]) := by
  refine ACalls.of_body (C := C.spec_l1In) (n := Try.f103.ntmps) tabT folT Try.func103 rfl (by kernel_rfl) rfl (Nat.le_of_ble_eq_true rfl) (by decide) (by kernel_rfl) (by kernel_rfl) rfl (by simp) (by simp) ?_
  simp only [Try.f103]
  refine wseq ?_
  refine wreg fun K hK => ?_
  simp [C.spec_l1In]
  refine hK _ ?_; clear hK K
  show AWp _ _ _ _ _
  refine wseq ?_
  refine wreg fun K hK => ?_
  have hJ : K ⟨ofL [(6, .bool (decide (low ≤ n ∧ n ≤ high)))], ofRO []⟩ := by
    refine hK _ ?_; clear hK K
    show AWp _ _ _ _ _
    refine wret ?_
    simp [C.spec_l1In]
  by_cases h : low ≤ n
  · simp [C.spec_l1In, h]
    simpa [h] using hJ
  · simp [C.spec_l1In, h]
    simpa [h] using hJ

theorem spec_l1Ints_calls (xs : List Int) (hx : xs.length < 17592186044416) : ACalls Try.prog F.spec_l1Ints [.d (shI xs)] [] true (fun outs res => outs = [] ∧ res = [.one (owI xs)]) := by
  refine ACalls.of_body (C := C.spec_l1Ints) (n := Try.f203.ntmps) tabT folT Try.func203 rfl (by kernel_rfl) rfl (Nat.le_of_ble_eq_true rfl) (by decide) (by kernel_rfl) (by kernel_rfl) rfl (by simp) (by simp) ?_
  simp only [Try.f203]
  refine wseq ?_
  refine wreg fun K hK => ?_
  simp [C.spec_l1Ints]
  refine hK _ ?_; clear hK K
  show AWp _ _ _ _ _
  refine wseq ?_
  refine wreg fun K hK => ?_
  simp [C.spec_l1Ints, show xs.length * 8 ≤ 140737488355328 by omega]
  refine hK _ ?_; clear hK K
  show AWp _ _ _ _ _
  refine wret ?_
  simp [C.spec_l1Ints]

theorem slices_Clone_int_int_calls (xs : List Int) (hx : xs.length < 17592186044416) : ACalls Try.prog F.slices_Clone_int_int [.d (shI xs)] [] true (fun outs res => outs = [] ∧ WkRs res [.one (owI xs)]) := by
  refine ACalls.of_body (C := C.slices_Clone_int_int) (n := Try.f91.ntmps) tabT folT Try.func91 rfl (by kernel_rfl) rfl (Nat.le_of_ble_eq_true rfl) (by decide) (by kernel_rfl) (by kernel_rfl) rfl (by simp) (by simp) ?_
  simp only [Try.f91]
  refine wseq ?_
  refine wreg fun K hK => ?_
  simp [C.slices_Clone_int_int]
  refine hK _ ?_; clear hK K
  show AWp _ _ _ _ _
  refine wseq ?_
  refine wseq ?_
  refine wreg fun K hK => ?_
  simp [C.slices_Clone_int_int]
  refine ⟨?_, fun h => ?_⟩
  · refine hK _ ?_; clear hK K
    show AWp _ _ _ _ _
    refine wcond _ rfl (fun hc1 => ?_) (fun hc1 => ?_)
    · simp at hc1
    · refine wskip ?_
      show AWp _ _ _ _ _
      refine wseq ?_
      refine wreg fun K hK => ?_
      simp [C.slices_Clone_int_int, show xs.length * 8 ≤ 140737488355328 by omega]
      refine hK _ ?_; clear hK K
      show AWp _ _ _ _ _
      refine wret ?_
      simp [C.slices_Clone_int_int]
  · refine hK _ ?_; clear hK K
    show AWp _ _ _ _ _
    refine wcond _ rfl (fun hc2 => ?_) (fun hc2 => ?_)
    · refine wseq ?_
      refine wreg fun K hK => ?_
      simp [C.slices_Clone_int_int]
      refine hK _ ?_; clear hK K
      show AWp _ _ _ _ _
      refine wret ?_
      simp [C.slices_Clone_int_int, h, ints]
    · simp at hc2
theorem clone_calls (xs : List Int) (hx : xs.length < 17592186044416) : ACalls Try.prog F.slices_Clone_int_int [.d (shI xs)] [] true (fun outs res => outs = [] ∧ res = [.one (owI xs)]) := (slices_Clone_int_int_calls xs hx).weak1

theorem laws_eqIntS_calls (xs ys : List Int) (hx : xs.length < 4611686018427387904) : ACalls Try.prog F.laws_eqIntS [.d (shI xs), .d (shI ys)] [] true (fun outs res => outs = [] ∧ res = [.one (D.bool (decide (xs = ys)))]) := by
  refine ACalls.of_body (C := C.laws_eqIntS) (n := Try.f79.ntmps) tabT folT Try.func79 rfl (by kernel_rfl) rfl (Nat.le_of_ble_eq_true rfl) (by decide) (by kernel_rfl) (by kernel_rfl) rfl (by simp) (by simp) ?_
  simp only [Try.f79]
  refine wseq ?_
  refine wreg fun K hK => ?_
  simp [C.laws_eqIntS]
  refine hK _ ?_; clear hK K
  show AWp _ _ _ _ _
  refine wseq ?_
  refine wseq ?_
  refine wreg fun K hK => ?_
  simp [C.laws_eqIntS]
  refine hK _ ?_; clear hK K
  show AWp _ _ _ _ _
  refine wcond _ rfl (fun hc1 => ?_) (fun hc1 => ?_)
  · refine wseq ?_
    refine wreg fun K hK => ?_
    simp [C.laws_eqIntS]
    refine hK _ ?_; clear hK K
    show AWp _ _ _ _ _
    refine wret ?_
    simp at hc1
    simp [C.laws_eqIntS]
    intro e; simp [e] at hc1
  · refine wskip ?_
    show AWp _ _ _ _ _
    refine wseq ?_
    refine wseq ?_
    refine wreg fun K hK => ?_
    simp [C.laws_eqIntS]
    refine hK _ ?_; clear hK K
    show AWp _ _ _ _ _
    refine wblock ?_
    have e : xs.length = ys.length := by simp at hc1; omega
    refine wloop (fun k : Nat => ⟨ofL [(0, .d (shI xs)), (1, .d (shI ys)), (5, FV.int k)], ofRO []⟩) (fun k => k ≤ xs.length ∧ xs.take k = ys.take k) (fun k => xs.length - k) 0 (by simp [C.laws_eqIntS]) (by simp) ?_
    intro x1 hx1 R1 hR1
    obtain ⟨hk, ht⟩ := hx1
    refine wseq ?_
    refine wseq ?_
    refine wreg fun K hK => ?_
    simp [C.laws_eqIntS]
    refine hK _ ?_; clear hK K
    show AWp _ _ _ _ _
    refine wcond _ rfl (fun hc2 => ?_) (fun hc2 => ?_)
    · refine wskip ?_
      show AWp _ _ _ _ _
      refine wseq ?_
      refine wblock ?_
      refine wseq ?_
      have h1 : x1 < xs.length := by simpa using hc2
      have h2 : x1 < ys.length := by omega
      refine wdraw (.take 0 (.take 1 (.take 2 (.take 3 (.take 4 (.take 5 (.take 6 (.take 7 (.take 8 (.done)))))))))) ⟨by kernel_rfl, by kernel_rfl⟩ fun K hK => ?_
      simp [C.laws_eqIntS, get_ints, h1, h2]
      refine hK _ ?_; clear hK K
      show AWp _ _ _ _ _
      refine wcond _ rfl (fun hc3 => ?_) (fun hc3 => ?_)
      · refine wseq ?_
        refine wreg fun K hK => ?_
        simp [C.laws_eqIntS]
        refine hK _ ?_; clear hK K
        show AWp _ _ _ _ _
        refine wret ?_
        simp at hc3
        simp [C.laws_eqIntS]
        intro e; simp [e] at hc3
      · refine wskip ?_
        show AWp _ _ _ _ _
        refine wreg fun K hK => ?_
        simp [C.laws_eqIntS, wrap_succ (show x1 < 4611686018427387904 by omega)]
        refine hK _ ?_; clear hK K
        simp [C.laws_eqIntS]
        simp at hc3
        refine hR1 (x1 + 1) ⟨h1, ?_⟩ (by omega)
        rw [List.take_succ_eq_append_getElem h1, List.take_succ_eq_append_getElem h2, ht, hc3]
    · refine wexit ?_
      show AWp _ _ _ _ _
      refine wseq ?_
      refine wreg fun K hK => ?_
      simp [C.laws_eqIntS]
      refine hK _ ?_; clear hK K
      show AWp _ _ _ _ _
      refine wret ?_
      have hk2 : x1 = xs.length := by simp at hc2; omega
      simp [C.laws_eqIntS]
      rw [hk2, List.take_length, e, List.take_length] at ht
      exact ht

theorem spec_l1Same_calls (xs ys : List Int) (hx : xs.length < 4611686018427387904) : ACalls Try.prog F.spec_l1Same [.d (shI xs), .d (shI ys)] [] true (fun outs res => outs = [] ∧ res = [.one (D.bool (decide (xs = ys)))]) := by
  refine ACalls.of_body (C := C.spec_l1Same) (n := Try.f202.ntmps) tabT folT Try.func202 rfl (by kernel_rfl) rfl (Nat.le_of_ble_eq_true rfl) (by decide) (by kernel_rfl) (by kernel_rfl) rfl (by simp) (by simp) ?_
  simp only [Try.f202]
  refine wseq ?_
  refine wreg fun K hK => ?_
  simp [C.spec_l1Same]
  refine hK _ ?_; clear hK K
  show AWp _ _ _ _ _
  refine wseq ?_
  refine wseq ?_
  refine wreg fun K hK => ?_
  simp [C.spec_l1Same]
  refine hK _ ?_; clear hK K
  show AWp _ _ _ _ _
  refine wcond _ rfl (fun hc1 => ?_) (fun hc1 => ?_)
  · refine wseq ?_
    refine wreg fun K hK => ?_
    simp [C.spec_l1Same]
    refine hK _ ?_; clear hK K
    show AWp _ _ _ _ _
    refine wret ?_
    simp at hc1
    simp [C.spec_l1Same]
    intro e; simp [e] at hc1
  · refine wskip ?_
    show AWp _ _ _ _ _
    refine wseq ?_
    refine wseq ?_
    refine wreg fun K hK => ?_
    simp [C.spec_l1Same]
    refine hK _ ?_; clear hK K
    show AWp _ _ _ _ _
    refine wblock ?_
    have e : xs.length = ys.length := by simp at hc1; omega
    refine wloop (fun k : Nat => ⟨ofL [(0, .d (shI xs)), (1, .d (shI ys)), (5, FV.int k)], ofRO []⟩) (fun k => k ≤ xs.length ∧ xs.take k = ys.take k) (fun k => xs.length - k) 0 (by simp [C.spec_l1Same]) (by simp) ?_
    intro x1 hx1 R1 hR1
    obtain ⟨hk, ht⟩ := hx1
    refine wseq ?_
    refine wseq ?_
    refine wreg fun K hK => ?_
    simp [C.spec_l1Same]
    refine hK _ ?_; clear hK K
    show AWp _ _ _ _ _
    refine wcond _ rfl (fun hc2 => ?_) (fun hc2 => ?_)
    · refine wskip ?_
      show AWp _ _ _ _ _
      refine wseq ?_
      refine wblock ?_
      refine wseq ?_
      have h1 : x1 < xs.length := by simpa using hc2
      have h2 : x1 < ys.length := by omega
      refine wdraw (.take 0 (.take 1 (.take 2 (.take 3 (.take 4 (.take 5 (.take 6 (.take 7 (.take 8 (.done)))))))))) ⟨by kernel_rfl, by kernel_rfl⟩ fun K hK => ?_
      simp [C.spec_l1Same, get_ints, h1, h2]
      refine hK _ ?_; clear hK K
      show AWp _ _ _ _ _
      refine wcond _ rfl (fun hc3 => ?_) (fun hc3 => ?_)
      · refine wseq ?_
        refine wreg fun K hK => ?_
        simp [C.spec_l1Same]
        refine hK _ ?_; clear hK K
        show AWp _ _ _ _ _
        refine wret ?_
        simp at hc3
        simp [C.spec_l1Same]
        intro e; simp [e] at hc3
      · refine wskip ?_
        show AWp _ _ _ _ _
        refine wreg fun K hK => ?_
        simp [C.spec_l1Same, wrap_succ (show x1 < 4611686018427387904 by omega)]
        refine hK _ ?_; clear hK K
        simp [C.spec_l1Same]
        simp at hc3
        refine hR1 (x1 + 1) ⟨h1, ?_⟩ (by omega)
        rw [List.take_succ_eq_append_getElem h1, List.take_succ_eq_append_getElem h2, ht, hc3]
    · refine wexit ?_
      show AWp _ _ _ _ _
      refine wseq ?_
      refine wreg fun K hK => ?_
      simp [C.spec_l1Same]
      refine hK _ ?_; clear hK K
      show AWp _ _ _ _ _
      refine wret ?_
      have hk2 : x1 = xs.length := by simp at hc2; omega
      simp [C.spec_l1Same]
      rw [hk2, List.take_length, e, List.take_length] at ht
      exact ht

theorem laws_markIntS_calls (xs : List Int) (k : Int) (hk0 : 0 ≤ k) (hk : k + xs.length < 4611686018427387904) : ACalls Try.prog F.laws_markIntS [.al (0, 0) [] 0 xs.length, .int k] [((0, 0), owI xs)] true (fun outs res => outs = [.ow 1 xs.length (ints (marks k xs.length))] ∧ res = [.one (D.int (k + xs.length))]) := by
  refine ACalls.of_body (C := C.laws_markIntS) (n := Try.f82.ntmps) tabT folT Try.func82 rfl (by kernel_rfl) rfl (Nat.le_of_ble_eq_true rfl) (by decide) (by kernel_rfl) (by kernel_rfl) rfl (by simp) (by simp) ?_
  simp only [Try.f82]
  refine wseq ?_
  refine wreg fun K hK => ?_
  simp [C.laws_markIntS]
  refine hK _ ?_; clear hK K
  show AWp _ _ _ _ _
  refine wseq ?_
  refine wseq ?_
  refine wreg fun K hK => ?_
  simp [C.laws_markIntS]
  refine hK _ ?_; clear hK K
  show AWp _ _ _ _ _
  refine wblock ?_
  refine wloop (fun x : Nat × List Int × Int => ⟨ofL [(0, .al (0, 0) [] 0 xs.length), (1, .int x.2.2), (5, .int x.1), (1000, .al (0, 0) [] 0 xs.length)], ofRO [((0, 0), some (.ow 1 xs.length (ints x.2.1)))]⟩) (fun x => x.1 ≤ xs.length ∧ x.2.1 = marks k x.1 ++ xs.drop x.1 ∧ x.2.2 = k + x.1) (fun x => xs.length - x.1) (0, xs, k) (by simp [C.laws_markIntS]) (by simp [marks]) ?_
  intro x1 hx1 R1 hR1
  obtain ⟨j, gs, kk⟩ := x1
  obtain ⟨h0, hg, he⟩ := hx1
  dsimp only at h0 hg he ⊢
  refine wseq ?_
  refine wseq ?_
  refine wreg fun K hK => ?_
  simp [C.laws_markIntS]
  refine hK _ ?_; clear hK K
  show AWp _ _ _ _ _
  refine wcond _ rfl (fun hc1 => ?_) (fun hc1 => ?_)
  · refine wskip ?_
    show AWp _ _ _ _ _
    refine wseq ?_
    refine wblock ?_
    refine wseq ?_
    have h1 : j < xs.length := by simpa using hc1
    have hl : gs.length = xs.length := by rw [hg]; simp; omega
    refine wreg fun K hK => ?_
    simp [C.laws_markIntS, hl, h1]
    refine hK _ ?_; clear hK K
    show AWp _ _ _ _ _
    refine wreg fun K hK => ?_
    simp [C.laws_markIntS]
    rw [wrapOk (x := kk + 1) (by omega) (by omega)]
    refine hK _ ?_; clear hK K
    show AWp _ _ _ _ _
    refine wreg fun K hK => ?_
    simp [C.laws_markIntS, wrap_succ (show j < 4611686018427387904 by omega)]
    refine hK _ ?_; clear hK K
    simp [C.laws_markIntS]
    refine hR1 (j + 1, _, kk + 1) ⟨h1, ?_, by dsimp only; omega⟩ (by dsimp only; omega)
    dsimp only
    rw [hg, List.set_append_right _ _ (by simp), he]
    simp [marks_succ]
    rw [List.drop_eq_getElem_cons h1]
    rfl
  · refine wexit ?_
    show AWp _ _ _ _ _
    refine wseq ?_
    refine wreg fun K hK => ?_
    simp [C.laws_markIntS]
    refine hK _ ?_; clear hK K
    show AWp _ _ _ _ _
    refine wret ?_
    have hj2 : j = xs.length := by simp at hc1; omega
    simp [C.laws_markIntS, hj2, hg, he]

theorem laws_heldIntS_calls (n : Nat) (k : Int) (hk0 : 0 ≤ k) (hk : k + n < 4611686018427387904) : ACalls Try.prog F.laws_heldIntS [.d (.sh 1 n (ints (marks k n))), .int k] [] true (fun outs res => outs = [] ∧ res = [.one (D.int (k + n))]) := by
  refine ACalls.of_body (C := C.laws_heldIntS) (n := Try.f85.ntmps) tabT folT Try.func85 rfl (by kernel_rfl) rfl (Nat.le_of_ble_eq_true rfl) (by decide) (by kernel_rfl) (by kernel_rfl) rfl (by simp) (by simp) ?_
  simp only [Try.f85]
  refine wseq ?_
  refine wreg fun K hK => ?_
  simp [C.laws_heldIntS]
  refine hK _ ?_; clear hK K
  show AWp _ _ _ _ _
  refine wseq ?_
  refine wseq ?_
  refine wreg fun K hK => ?_
  simp [C.laws_heldIntS]
  refine hK _ ?_; clear hK K
  show AWp _ _ _ _ _
  refine wblock ?_
  refine wloop (fun x : Nat => ⟨ofL [(0, .d (.sh 1 n (ints (marks k n)))), (1, .int (k + x)), (5, .int x)], ofRO []⟩) (fun x => x ≤ n) (fun x => n - x) 0 (by simp [C.laws_heldIntS]) (by simp) ?_
  intro x1 hx1 R1 hR1
  refine wseq ?_
  refine wseq ?_
  refine wreg fun K hK => ?_
  simp [C.laws_heldIntS]
  refine hK _ ?_; clear hK K
  show AWp _ _ _ _ _
  refine wcond _ rfl (fun hc1 => ?_) (fun hc1 => ?_)
  · refine wskip ?_
    show AWp _ _ _ _ _
    refine wseq ?_
    refine wblock ?_
    refine wseq ?_
    refine wseq ?_
    have h1 : x1 < n := by simpa using hc1
    refine wreg fun K hK => ?_
    simp [C.laws_heldIntS, get_ints, marks_get, h1]
    refine hK _ ?_; clear hK K
    show AWp _ _ _ _ _
    refine wcond _ rfl (fun hc2 => ?_) (fun hc2 => ?_)
    · simp at hc2
    · refine wskip ?_
      show AWp _ _ _ _ _
      refine wreg fun K hK => ?_
      simp [C.laws_heldIntS]
      rw [wrapOk (x := k + x1 + 1) (by omega) (by omega)]
      refine hK _ ?_; clear hK K
      show AWp _ _ _ _ _
      refine wreg fun K hK => ?_
      simp [C.laws_heldIntS, wrap_succ (show x1 < 4611686018427387904 by omega)]
      refine hK _ ?_; clear hK K
      simp [C.laws_heldIntS]
      rw [show k + (x1 : Int) + 1 = k + ((x1 + 1 : Nat) : Int) by omega]
      exact hR1 (x1 + 1) h1 (by omega)
  · refine wexit ?_
    show AWp _ _ _ _ _
    refine wseq ?_
    refine wreg fun K hK => ?_
    simp [C.laws_heldIntS]
    refine hK _ ?_; clear hK K
    show AWp _ _ _ _ _
    refine wret ?_
    have hj2 : x1 = n := by simp at hc1; omega
    simp [C.laws_heldIntS, hj2]

theorem impl_gcd_calls (a b : Int) (ha : -4611686018427387904 < a ∧ a < 4611686018427387904) (hb : -4611686018427387904 < b ∧ b < 4611686018427387904) : ACalls Try.prog F.impl_gcd [.int a, .int b] [] true (fun outs res => outs = [] ∧ res = [.one (D.int (Int.gcd a b : Int))]) := by
  refine ACalls.of_body (C := C.impl_gcd) (n := Try.f178.ntmps) tabT folT Try.func178 rfl (by kernel_rfl) rfl (Nat.le_of_ble_eq_true rfl) (by decide) (by kernel_rfl) (by kernel_rfl) rfl (by simp) (by simp) ?_
  simp only [Try.f178]
  refine wseq ?_
  refine wreg fun K hK => ?_
  simp [C.impl_gcd]
  refine hK _ ?_; clear hK K
  show AWp _ _ _ _ _
  refine wseq ?_
  refine wblock ?_
  refine wloop (fun x : Int × Int => ⟨ofL [(0, .int x.1), (1, .int x.2)], ofRO []⟩) (fun x => Int.gcd x.1 x.2 = Int.gcd a b ∧ (-4611686018427387904 < x.1 ∧ x.1 < 4611686018427387904) ∧ (-4611686018427387904 < x.2 ∧ x.2 < 4611686018427387904)) (fun x => x.2.natAbs) (a, b) (by simp [C.impl_gcd]) ⟨rfl, ha, hb⟩ ?_
  intro x1 hx1 R1 hR1
  obtain ⟨p, q⟩ := x1
  obtain ⟨hg, hp, hq⟩ := hx1
  dsimp only at hg hp hq ⊢
  refine wseq ?_
  refine wseq ?_
  refine wreg fun K hK => ?_
  simp [C.impl_gcd]
  refine hK _ ?_; clear hK K
  show AWp _ _ _ _ _
  refine wcond _ rfl (fun hc1 => ?_) (fun hc1 => ?_)
  · refine wskip ?_
    show AWp _ _ _ _ _
    refine wblock ?_
    have hq0 : q ≠ 0 := by simpa using hc1
    refine wdraw (.take 0 (.take 1 (.take 2 (.take 3 (.take 4 (.take 5 (.done))))))) ⟨by kernel_rfl, by kernel_rfl⟩ fun K hK => ?_
    simp [C.impl_gcd, hq0]
    refine hK _ ?_; clear hK K
    simp [C.impl_gcd]
    have hn : (p.tmod q).natAbs < q.natAbs := by rw [Int.natAbs_tmod]; exact Nat.mod_lt _ (by omega)
    refine hR1 (q, p.tmod q) ⟨?_, hq, by dsimp only; omega⟩ hn
    rw [← hg]
    unfold Int.gcd
    rw [Int.natAbs_tmod, Nat.gcd_comm p.natAbs, Nat.gcd_rec q.natAbs p.natAbs, Nat.gcd_comm]
  · refine wexit ?_
    show AWp _ _ _ _ _
    refine wseq ?_
    have hq0 : q = 0 := by simpa using hc1
    subst hq0
    refine wreg fun K hK => ?_
    simp [C.impl_gcd]
    rw [wrapOk (x := -p) (by omega) (by omega)]
    refine hK _ ?_; clear hK K
    show AWp _ _ _ _ _
    refine wret ?_
    have hpg : max p (-p) = (Int.gcd a b : Int) := by rw [← hg]; simp [Int.gcd]; omega
    simp [C.impl_gcd, hpg]

end Go.Proofs.Ytdgeponcnlkaiaa.Ab
namespace Go.Proofs.Ytdgeponcnlkaiaa.Ab
open Go
set_option linter.unusedSimpArgs false
set_option linter.unusedVariables false
set_option maxRecDepth 10000
abbrev aT (t : Trm) : FV := .ag [.d (shI t.e), .int t.c]
abbrev aF (f : Lau) : FV := .ag [.int f.v, .d (.sh 2 f.ts.length (rows tS f.ts))]
theorem trm_eq {a b : Trm} : a = b ↔ a.e = b.e ∧ a.c = b.c := by
  cases a; cases b; simp
theorem lau_eq {a b : Lau} : a = b ↔ a.v = b.v ∧ a.ts = b.ts := by
  cases a; cases b; simp
theorem laws_szIntS_calls (xs : List Int) (left : Int) (h0 : 0 ≤ left) (h1 : left ≤ 1048576) (hx : xs.length < 4611686018427387904) : ACalls Try.prog F.laws_szIntS [.d (shI xs), .int left] [] true (fun outs res => outs = [] ∧ ∃ r : Int, res = [.one (D.int r)] ∧ (r = -1 ∨ (0 ≤ r ∧ r + xs.length = left))) := by
  refine ACalls.of_body (C := C.laws_szIntS) (n := Try.f163.ntmps) tabT folT Try.func163 rfl (by kernel_rfl) rfl (Nat.le_of_ble_eq_true rfl) (by decide) (by kernel_rfl) (by kernel_rfl) rfl (by simp) (by simp) ?_
  simp only [Try.f163]
  refine wseq ?_
  refine wreg fun K hK => ?_
  simp [C.laws_szIntS]
  refine hK _ ?_; clear hK K
  show AWp _ _ _ _ _
  refine wseq ?_
  refine wreg fun K hK => ?_
  simp [C.laws_szIntS]
  rw [wrapOk (x := left - xs.length) (by omega) (by omega)]
  refine hK _ ?_; clear hK K
  show AWp _ _ _ _ _
  refine wseq ?_
  refine wseq ?_
  refine wreg fun K hK => ?_
  simp [C.laws_szIntS]
  refine hK _ ?_; clear hK K
  show AWp _ _ _ _ _
  refine wcond _ rfl (fun hc1 => ?_) (fun hc1 => ?_)
  · refine wseq ?_
    refine wreg fun K hK => ?_
    simp [C.laws_szIntS]
    refine hK _ ?_; clear hK K
    show AWp _ _ _ _ _
    refine wret ?_
    simp [C.laws_szIntS]
  · refine wskip ?_
    show AWp _ _ _ _ _
    refine wseq ?_
    refine wreg fun K hK => ?_
    simp [C.laws_szIntS]
    refine hK _ ?_; clear hK K
    show AWp _ _ _ _ _
    refine wret ?_
    simp at hc1
    simp [C.laws_szIntS]
    right; omega

theorem laws_szTerm_calls (t : Trm) (left : Int) (h0 : 0 ≤ left) (h1 : left ≤ 1048576) (hx : t.e.length < 4611686018427387904) : ACalls Try.prog F.laws_szTerm [aT t, .int left] [] true (fun outs res => outs = [] ∧ ∃ r : Int, res = [.one (D.int r)] ∧ (r = -1 ∨ (0 ≤ r ∧ r + t.e.length = left))) := by
  refine ACalls.of_body (C := C.laws_szTerm) (n := Try.f213.ntmps) tabT folT Try.func213 rfl (by kernel_rfl) rfl (Nat.le_of_ble_eq_true rfl) (by decide) (by kernel_rfl) (by kernel_rfl) rfl (by simp) (by simp) ?_
  simp only [Try.f213]
  refine wseq ?_
  refine wreg fun K hK => ?_
  simp [C.laws_szTerm]
  refine hK _ ?_; clear hK K
  show AWp _ _ _ _ _
  refine wseq ?_
  refine wreg fun K hK => ?_
  simp [C.laws_szTerm]
  refine wcall (laws_szIntS_calls t.e left h0 h1 hx) (by simp) (by simp) (by simp) ?_
  rintro outs res ⟨rfl, r, rfl, hr⟩
  simp [C.laws_szTerm]
  refine hK _ ?_; clear hK K
  show AWp _ _ _ _ _
  refine wseq ?_
  refine wseq ?_
  refine wreg fun K hK => ?_
  simp [C.laws_szTerm]
  refine hK _ ?_; clear hK K
  show AWp _ _ _ _ _
  refine wcond _ rfl (fun hc1 => ?_) (fun hc1 => ?_)
  · refine wseq ?_
    refine wreg fun K hK => ?_
    simp [C.laws_szTerm]
    refine hK _ ?_; clear hK K
    show AWp _ _ _ _ _
    refine wret ?_
    simp [C.laws_szTerm]
  · refine wskip ?_
    show AWp _ _ _ _ _
    refine wseq ?_
    refine wreg fun K hK => ?_
    simp [C.laws_szTerm]
    refine hK _ ?_; clear hK K
    show AWp _ _ _ _ _
    refine wret ?_
    simp at hc1
    simp [C.laws_szTerm]
    omega

theorem laws_szTermS_calls (ts : List Trm) (left : Int) (h0 : 0 ≤ left) (h1 : left ≤ 1048576) (hx : ts.length < 4611686018427387904) (hx2 : ∀ t ∈ ts, t.e.length < 4611686018427387904) : ACalls Try.prog F.laws_szTermS [.d (.sh 2 ts.length (rows tS ts)), .int left] [] true (fun outs res => outs = [] ∧ ∃ r : Int, res = [.one (D.int r)] ∧ (r = -1 ∨ (0 ≤ r ∧ r + szT ts = left))) := by
  refine ACalls.of_body (C := C.laws_szTermS) (n := Try.f143.ntmps) tabT folT Try.func143 rfl (by kernel_rfl) rfl (Nat.le_of_ble_eq_true rfl) (by decide) (by kernel_rfl) (by kernel_rfl) rfl (by simp) (by simp) ?_
  simp only [Try.f143]
  refine wseq ?_
  refine wreg fun K hK => ?_
  simp [C.laws_szTermS]
  refine hK _ ?_; clear hK K
  show AWp _ _ _ _ _
  refine wseq ?_
  refine wreg fun K hK => ?_
  simp [C.laws_szTermS]
  rw [wrapOk (x := left - ts.length) (by omega) (by omega)]
  refine hK _ ?_; clear hK K
  show AWp _ _ _ _ _
  refine wseq ?_
  refine wseq ?_
  refine wreg fun K hK => ?_
  simp [C.laws_szTermS]
  refine hK _ ?_; clear hK K
  show AWp _ _ _ _ _
  refine wcond _ rfl (fun hc1 => ?_) (fun hc1 => ?_)
  · refine wseq ?_
    refine wreg fun K hK => ?_
    simp [C.laws_szTermS]
    refine hK _ ?_; clear hK K
    show AWp _ _ _ _ _
    refine wret ?_
    simp [C.laws_szTermS]
  · refine wskip ?_
    show AWp _ _ _ _ _
    refine wseq ?_
    refine wseq ?_
    refine wreg fun K hK => ?_
    simp [C.laws_szTermS]
    refine hK _ ?_; clear hK K
    show AWp _ _ _ _ _
    refine wblock ?_
    refine wloop (fun x : Nat × Int => ⟨ofL [(0, .d (.sh 2 ts.length (rows tS ts))), (1, .int x.2), (5, .int x.1)], ofRO []⟩) (fun x => x.1 ≤ ts.length ∧ 0 ≤ x.2 ∧ x.2 + ts.length + cntL (fun t : Trm => t.e.length) (ts.take x.1) = left) (fun x => ts.length - x.1) (0, left - ts.length) (by simp [C.laws_szTermS]) (by simp at hc1; simp [cntL]; omega) ?_
    intro x1 hx1 R1 hR1
    obtain ⟨j, r⟩ := x1
    obtain ⟨hj, hr0, hr⟩ := hx1
    dsimp only at hj hr0 hr ⊢
    refine wseq ?_
    refine wseq ?_
    refine wreg fun K hK => ?_
    simp [C.laws_szTermS]
    refine hK _ ?_; clear hK K
    show AWp _ _ _ _ _
    refine wcond _ rfl (fun hc2 => ?_) (fun hc2 => ?_)
    · refine wskip ?_
      show AWp _ _ _ _ _
      refine wseq ?_
      refine wblock ?_
      refine wseq ?_
      have h2 : j < ts.length := by simpa using hc2
      refine wreg fun K hK => ?_
      simp [C.laws_szTermS, h2, tS_0 h2, tS_1 h2]
      refine wcall (laws_szTerm_calls ts[j] r (by omega) (by omega) (hx2 _ (List.getElem_mem h2))) (by simp) (by simp) (by simp) ?_
      rintro outs res ⟨rfl, r2, rfl, hr2⟩
      simp [C.laws_szTermS, h2, tS_0 h2, tS_1 h2]
      refine hK _ ?_; clear hK K
      show AWp _ _ _ _ _
      refine wseq ?_
      refine wreg fun K hK => ?_
      simp [C.laws_szTermS]
      refine hK _ ?_; clear hK K
      show AWp _ _ _ _ _
      refine wcond _ rfl (fun hc3 => ?_) (fun hc3 => ?_)
      · refine wseq ?_
        refine wreg fun K hK => ?_
        simp [C.laws_szTermS]
        refine hK _ ?_; clear hK K
        show AWp _ _ _ _ _
        refine wret ?_
        simp [C.laws_szTermS]
      · refine wskip ?_
        show AWp _ _ _ _ _
        refine wreg fun K hK => ?_
        simp [C.laws_szTermS, wrap_succ (show j < 4611686018427387904 by omega)]
        refine hK _ ?_; clear hK K
        simp [C.laws_szTermS]
        have hc3' : 0 ≤ r2 := by simpa using hc3
        refine hR1 (j + 1, r2) ⟨h2, hc3', ?_⟩ (by dsimp only; omega)
        dsimp only
        rw [cntL_step _ _ _ h2]
        omega
    · refine wexit ?_
      show AWp _ _ _ _ _
      refine wseq ?_
      refine wreg fun K hK => ?_
      simp [C.laws_szTermS]
      refine hK _ ?_; clear hK K
      show AWp _ _ _ _ _
      refine wret ?_
      have hj2 : j = ts.length := by simp at hc2; omega
      simp [C.laws_szTermS]
      right
      refine ⟨hr0, ?_⟩
      rw [hj2, List.take_length] at hr
      unfold szT
      omega

theorem laws_szLaurent_calls (f : Lau) (left : Int) (h0 : 0 ≤ left) (h1 : left ≤ 1048576) (hx : f.ts.length < 4611686018427387904) (hx2 : ∀ t ∈ f.ts, t.e.length < 4611686018427387904) : ACalls Try.prog F.laws_szLaurent [aF f, .int left] [] true (fun outs res => outs = [] ∧ ∃ r : Int, res = [.one (D.int r)] ∧ (r = -1 ∨ (0 ≤ r ∧ r + szT f.ts = left))) := by
  refine ACalls.of_body (C := C.laws_szLaurent) (n := Try.f53.ntmps) tabT folT Try.func53 rfl (by kernel_rfl) rfl (Nat.le_of_ble_eq_true rfl) (by decide) (by kernel_rfl) (by kernel_rfl) rfl (by simp) (by simp) ?_
  simp only [Try.f53]
  refine wseq ?_
  refine wreg fun K hK => ?_
  simp [C.laws_szLaurent]
  refine hK _ ?_; clear hK K
  show AWp _ _ _ _ _
  refine wseq ?_
  refine wreg fun K hK => ?_
  simp [C.laws_szLaurent]
  refine wcall (laws_szTermS_calls f.ts left h0 h1 hx hx2) (by simp) (by simp) (by simp) ?_
  rintro outs res ⟨rfl, r, rfl, hr⟩
  simp [C.laws_szLaurent]
  refine hK _ ?_; clear hK K
  show AWp _ _ _ _ _
  refine wseq ?_
  refine wseq ?_
  refine wreg fun K hK => ?_
  simp [C.laws_szLaurent]
  refine hK _ ?_; clear hK K
  show AWp _ _ _ _ _
  refine wcond _ rfl (fun hc1 => ?_) (fun hc1 => ?_)
  · refine wseq ?_
    refine wreg fun K hK => ?_
    simp [C.laws_szLaurent]
    refine hK _ ?_; clear hK K
    show AWp _ _ _ _ _
    refine wret ?_
    simp [C.laws_szLaurent]
  · refine wskip ?_
    show AWp _ _ _ _ _
    refine wseq ?_
    refine wreg fun K hK => ?_
    simp [C.laws_szLaurent]
    refine hK _ ?_; clear hK K
    show AWp _ _ _ _ _
    refine wret ?_
    simp at hc1
    simp [C.laws_szLaurent]
    omega

theorem laws_toIntS_calls (xs : List Int) (hx : xs.length ≤ 1048576) : ACalls Try.prog F.laws_toIntS [.d (shI xs)] [] true (fun outs res => outs = [] ∧ res = [.one (owI xs)]) := by
  refine ACalls.of_body (C := C.laws_toIntS) (n := Try.f165.ntmps) tabT folT Try.func165 rfl (by kernel_rfl) rfl (Nat.le_of_ble_eq_true rfl) (by decide) (by kernel_rfl) (by kernel_rfl) rfl (by simp) (by simp) ?_
  simp only [Try.f165]
  refine wseq ?_
  refine wreg fun K hK => ?_
  simp [C.laws_toIntS]
  refine hK _ ?_; clear hK K
  show AWp _ _ _ _ _
  refine wseq ?_
  refine wreg fun K hK => ?_
  simp [C.laws_toIntS, zeros_ints, show (8 : Int) * xs.length ≤ 281474976710656 by omega, show (xs.length : Int) ≤ 281474976710656 by omega]
  refine hK _ ?_; clear hK K
  show AWp _ _ _ _ _
  refine wseq ?_
  refine wseq ?_
  refine wreg fun K hK => ?_
  simp [C.laws_toIntS]
  refine hK _ ?_; clear hK K
  show AWp _ _ _ _ _
  refine wblock ?_
  refine wloop (fun x : Nat × List Int => ⟨ofL [(0, .d (shI xs)), (3, .al (3, 0) [] 0 xs.length), (4, .int x.1)], ofRO [((3, 0), some (.ow 1 xs.length (ints x.2)))]⟩) (fun x => x.1 ≤ xs.length ∧ x.2 = xs.take x.1 ++ List.replicate (xs.length - x.1) 0) (fun x => xs.length - x.1) (0, List.replicate xs.length 0) (by simp [C.laws_toIntS]) (by simp) ?_
  intro x1 hx1 R1 hR1
  obtain ⟨j, gs⟩ := x1
  obtain ⟨hj, hg⟩ := hx1
  dsimp only at hj hg ⊢
  refine wseq ?_
  refine wseq ?_
  refine wreg fun K hK => ?_
  simp [C.laws_toIntS]
  refine hK _ ?_; clear hK K
  show AWp _ _ _ _ _
  refine wcond _ rfl (fun hc1 => ?_) (fun hc1 => ?_)
  · refine wskip ?_
    show AWp _ _ _ _ _
    refine wseq ?_
    refine wblock ?_
    have h1 : j < xs.length := by simpa using hc1
    have hl : gs.length = xs.length := by rw [hg]; simp; omega
    refine wreg fun K hK => ?_
    simp [C.laws_toIntS, hl, h1, get_ints]
    refine hK _ ?_; clear hK K
    show AWp _ _ _ _ _
    refine wreg fun K hK => ?_
    simp [C.laws_toIntS, wrap_succ (show j < 4611686018427387904 by omega)]
    refine hK _ ?_; clear hK K
    simp [C.laws_toIntS]
    refine hR1 (j + 1, _) ⟨h1, ?_⟩ (by dsimp only; omega)
    dsimp only
    rw [hg, fill_step xs j h1 0]
  · refine wexit ?_
    show AWp _ _ _ _ _
    refine wseq ?_
    refine wreg fun K hK => ?_
    simp [C.laws_toIntS]
    refine hK _ ?_; clear hK K
    show AWp _ _ _ _ _
    refine wret ?_
    have hj2 : j = xs.length := by simp at hc1; omega
    simp [C.laws_toIntS, hg, hj2]

theorem laws_toTerm_calls (t : Trm) (hx : t.e.length ≤ 1048576) : ACalls Try.prog F.laws_toTerm [aT t] [] true (fun outs res => outs = [] ∧ res = [.ag (tO t)]) := by
  refine ACalls.of_body (C := C.laws_toTerm) (n := Try.f214.ntmps) tabT folT Try.func214 rfl (by kernel_rfl) rfl (Nat.le_of_ble_eq_true rfl) (by decide) (by kernel_rfl) (by kernel_rfl) rfl (by simp) (by simp) ?_
  simp only [Try.f214]
  refine wseq ?_
  refine wreg fun K hK => ?_
  simp [C.laws_toTerm]
  refine hK _ ?_; clear hK K
  show AWp _ _ _ _ _
  refine wseq ?_
  refine wreg fun K hK => ?_
  simp [C.laws_toTerm]
  refine hK _ ?_; clear hK K
  show AWp _ _ _ _ _
  refine wseq ?_
  refine wreg fun K hK => ?_
  simp [C.laws_toTerm]
  refine wcall1 (laws_toIntS_calls t.e hx) (by simp) (by simp) ?_
  simp [C.laws_toTerm]
  refine hK _ ?_; clear hK K
  show AWp _ _ _ _ _
  refine wseq ?_
  refine wreg fun K hK => ?_
  simp [C.laws_toTerm]
  refine hK _ ?_; clear hK K
  show AWp _ _ _ _ _
  refine wseq ?_
  refine wreg fun K hK => ?_
  simp [C.laws_toTerm]
  refine hK _ ?_; clear hK K
  show AWp _ _ _ _ _
  refine wret ?_
  simp [C.laws_toTerm, tO]

theorem laws_toTermS_calls (ts : List Trm) (hx : ts.length ≤ 1048576) (hx2 : ∀ t ∈ ts, t.e.length ≤ 1048576) : ACalls Try.prog F.laws_toTermS [.d (.sh 2 ts.length (rows tS ts))] [] true (fun outs res => outs = [] ∧ res = [.one (.ow 2 ts.length (rows tO ts))]) := by
  refine ACalls.of_body (C := C.laws_toTermS) (n := Try.f146.ntmps) tabT folT Try.func146 rfl (by kernel_rfl) rfl (Nat.le_of_ble_eq_true rfl) (by decide) (by kernel_rfl) (by kernel_rfl) rfl (by simp) (by simp) ?_
  simp only [Try.f146]
  refine wseq ?_
  refine wreg fun K hK => ?_
  simp [C.laws_toTermS]
  refine hK _ ?_; clear hK K
  show AWp _ _ _ _ _
  refine wseq ?_
  refine wreg fun K hK => ?_
  simp [C.laws_toTermS, tZ_zero, show (32 : Int) * ts.length ≤ 281474976710656 by omega, show (ts.length : Int) ≤ 281474976710656 by omega]
  refine hK _ ?_; clear hK K
  show AWp _ _ _ _ _
  refine wseq ?_
  refine wseq ?_
  refine wreg fun K hK => ?_
  simp [C.laws_toTermS]
  refine hK _ ?_; clear hK K
  show AWp _ _ _ _ _
  refine wblock ?_
  refine wloop (fun x : Nat × List (Option Trm) => ⟨ofL [(0, .d (.sh 2 ts.length (rows tS ts))), (3, .al (3, 0) [] 0 ts.length), (4, .int x.1)], ofRO [((3, 0), some (.ow 2 ts.length (rows tZ x.2)))]⟩) (fun x => x.1 ≤ ts.length ∧ x.2 = (ts.take x.1).map some ++ List.replicate (ts.length - x.1) none) (fun x => ts.length - x.1) (0, List.replicate ts.length none) (by simp [C.laws_toTermS]) (by simp) ?_
  intro x1 hx1 R1 hR1
  obtain ⟨j, gs⟩ := x1
  obtain ⟨hj, hg⟩ := hx1
  dsimp only at hj hg ⊢
  refine wseq ?_
  refine wseq ?_
  refine wreg fun K hK => ?_
  simp [C.laws_toTermS]
  refine hK _ ?_; clear hK K
  show AWp _ _ _ _ _
  refine wcond _ rfl (fun hc1 => ?_) (fun hc1 => ?_)
  · refine wskip ?_
    show AWp _ _ _ _ _
    refine wseq ?_
    refine wblock ?_
    have h1 : j < ts.length := by simpa using hc1
    have hl : gs.length = ts.length := by rw [hg]; simp; omega
    have hn : gs[j]? = some none := by
      rw [hg, List.getElem?_append_right (by simp; omega)]
      simp [Nat.min_eq_left hj, List.getElem?_replicate]
      omega
    refine wreg fun K hK => ?_
    simp [C.laws_toTermS, hl, h1, tS_0 h1, tS_1 h1, tO, tZ_none0 hn, tZ_none1 hn, tZ_set2 (show j < gs.length by omega)]
    refine wcall1 (laws_toTerm_calls ts[j] (hx2 _ (List.getElem_mem h1))) (by simp) (by simp) ?_
    simp [C.laws_toTermS, hl, h1, tS_0 h1, tS_1 h1, tO, tZ_none0 hn, tZ_none1 hn, tZ_set2 (show j < gs.length by omega)]
    refine hK _ ?_; clear hK K
    show AWp _ _ _ _ _
    refine wreg fun K hK => ?_
    simp [C.laws_toTermS, wrap_succ (show j < 4611686018427387904 by omega)]
    refine hK _ ?_; clear hK K
    simp [C.laws_toTermS]
    refine hR1 (j + 1, _) ⟨h1, ?_⟩ (by dsimp only; omega)
    dsimp only
    have := fill_step (ts.map some) j (by simpa using h1) none
    simp only [List.length_map, List.getElem_map, ← List.map_take] at this
    rw [hg, ← this]
  · refine wexit ?_
    show AWp _ _ _ _ _
    refine wseq ?_
    refine wreg fun K hK => ?_
    simp [C.laws_toTermS]
    refine hK _ ?_; clear hK K
    show AWp _ _ _ _ _
    refine wret ?_
    have hj2 : j = ts.length := by simp at hc1; omega
    have hz : rows tZ gs = rows tO ts := by rw [hg, hj2]; simp [tZ_some]
    simp [C.laws_toTermS, hz, hj2]

theorem laws_toLaurent_calls (f : Lau) (hx : f.ts.length ≤ 1048576) (hx2 : ∀ t ∈ f.ts, t.e.length ≤ 1048576) : ACalls Try.prog F.laws_toLaurent [aF f] [] true (fun outs res => outs = [] ∧ res = [.ag (fO f)]) := by
  refine ACalls.of_body (C := C.laws_toLaurent) (n := Try.f55.ntmps) tabT folT Try.func55 rfl (by kernel_rfl) rfl (Nat.le_of_ble_eq_true rfl) (by decide) (by kernel_rfl) (by kernel_rfl) rfl (by simp) (by simp) ?_
  simp only [Try.f55]
  refine wseq ?_
  refine wreg fun K hK => ?_
  simp [C.laws_toLaurent]
  refine hK _ ?_; clear hK K
  show AWp _ _ _ _ _
  refine wseq ?_
  refine wreg fun K hK => ?_
  simp [C.laws_toLaurent]
  refine hK _ ?_; clear hK K
  show AWp _ _ _ _ _
  refine wseq ?_
  refine wreg fun K hK => ?_
  simp [C.laws_toLaurent]
  refine hK _ ?_; clear hK K
  show AWp _ _ _ _ _
  refine wseq ?_
  refine wreg fun K hK => ?_
  simp [C.laws_toLaurent]
  refine wcall1 (laws_toTermS_calls f.ts hx hx2) (by simp) (by simp) ?_
  simp [C.laws_toLaurent]
  refine hK _ ?_; clear hK K
  show AWp _ _ _ _ _
  refine wseq ?_
  refine wreg fun K hK => ?_
  simp [C.laws_toLaurent]
  refine hK _ ?_; clear hK K
  show AWp _ _ _ _ _
  refine wret ?_
  simp [C.laws_toLaurent, fO]

theorem laws_eqTerm_calls (a b : Trm) (hx : a.e.length < 4611686018427387904) : ACalls Try.prog F.laws_eqTerm [aT a, aT b] [] true (fun outs res => outs = [] ∧ res = [.one (D.bool (decide (a = b)))]) := by
  refine ACalls.of_body (C := C.laws_eqTerm) (n := Try.f215.ntmps) tabT folT Try.func215 rfl (by kernel_rfl) rfl (Nat.le_of_ble_eq_true rfl) (by decide) (by kernel_rfl) (by kernel_rfl) rfl (by simp) (by simp) ?_
  simp only [Try.f215]
  refine wseq ?_
  refine wreg fun K hK => ?_
  simp [C.laws_eqTerm]
  refine hK _ ?_; clear hK K
  show AWp _ _ _ _ _
  refine wseq ?_
  refine wseq ?_
  refine wreg fun K hK => ?_
  simp [C.laws_eqTerm]
  refine wcall1 (laws_eqIntS_calls a.e b.e hx) (by simp) (by simp) ?_
  simp [C.laws_eqTerm]
  refine hK _ ?_; clear hK K
  show AWp _ _ _ _ _
  refine wcond _ rfl (fun hc1 => ?_) (fun hc1 => ?_)
  · refine wseq ?_
    refine wreg fun K hK => ?_
    simp [C.laws_eqTerm]
    refine hK _ ?_; clear hK K
    show AWp _ _ _ _ _
    refine wret ?_
    simp at hc1
    simp [C.laws_eqTerm, trm_eq, hc1]
  · refine wskip ?_
    show AWp _ _ _ _ _
    refine wseq ?_
    refine wseq ?_
    refine wreg fun K hK => ?_
    simp [C.laws_eqTerm]
    refine hK _ ?_; clear hK K
    show AWp _ _ _ _ _
    refine wcond _ rfl (fun hc2 => ?_) (fun hc2 => ?_)
    · refine wseq ?_
      refine wreg fun K hK => ?_
      simp [C.laws_eqTerm]
      refine hK _ ?_; clear hK K
      show AWp _ _ _ _ _
      refine wret ?_
      simp at hc2
      simp [C.laws_eqTerm, trm_eq, hc2]
    · refine wskip ?_
      show AWp _ _ _ _ _
      refine wseq ?_
      refine wreg fun K hK => ?_
      simp [C.laws_eqTerm]
      refine hK _ ?_; clear hK K
      show AWp _ _ _ _ _
      refine wret ?_
      simp at hc1 hc2
      simp [C.laws_eqTerm, trm_eq, hc1, hc2]

theorem laws_eqTermS_calls (xs ys : List Trm) (hx : xs.length < 4611686018427387904) (hx2 : ∀ t ∈ xs, t.e.length < 4611686018427387904) : ACalls Try.prog F.laws_eqTermS [.d (.sh 2 xs.length (rows tS xs)), .d (.sh 2 ys.length (rows tS ys))] [] true (fun outs res => outs = [] ∧ res = [.one (D.bool (decide (xs = ys)))]) := by
  refine ACalls.of_body (C := C.laws_eqTermS) (n := Try.f147.ntmps) tabT folT Try.func147 rfl (by kernel_rfl) rfl (Nat.le_of_ble_eq_true rfl) (by decide) (by kernel_rfl) (by kernel_rfl) rfl (by simp) (by simp) ?_
  simp only [Try.f147]
  refine wseq ?_
  refine wreg fun K hK => ?_
  simp [C.laws_eqTermS]
  refine hK _ ?_; clear hK K
  show AWp _ _ _ _ _
  refine wseq ?_
  refine wseq ?_
  refine wreg fun K hK => ?_
  simp [C.laws_eqTermS]
  refine hK _ ?_; clear hK K
  show AWp _ _ _ _ _
  refine wcond _ rfl (fun hc1 => ?_) (fun hc1 => ?_)
  · refine wseq ?_
    refine wreg fun K hK => ?_
    simp [C.laws_eqTermS]
    refine hK _ ?_; clear hK K
    show AWp _ _ _ _ _
    refine wret ?_
    simp at hc1
    simp [C.laws_eqTermS]
    intro e; simp [e] at hc1
  · refine wskip ?_
    show AWp _ _ _ _ _
    refine wseq ?_
    refine wseq ?_
    refine wreg fun K hK => ?_
    simp [C.laws_eqTermS]
    refine hK _ ?_; clear hK K
    show AWp _ _ _ _ _
    refine wblock ?_
    have e : xs.length = ys.length := by simp at hc1; omega
    refine wloop (fun k : Nat => ⟨ofL [(0, .d (.sh 2 xs.length (rows tS xs))), (1, .d (.sh 2 ys.length (rows tS ys))), (5, FV.int k)], ofRO []⟩) (fun k => k ≤ xs.length ∧ xs.take k = ys.take k) (fun k => xs.length - k) 0 (by simp [C.laws_eqTermS]) (by simp) ?_
    intro x1 hx1 R1 hR1
    obtain ⟨hk, ht⟩ := hx1
    refine wseq ?_
    refine wseq ?_
    refine wreg fun K hK => ?_
    simp [C.laws_eqTermS]
    refine hK _ ?_; clear hK K
    show AWp _ _ _ _ _
    refine wcond _ rfl (fun hc2 => ?_) (fun hc2 => ?_)
    · refine wskip ?_
      show AWp _ _ _ _ _
      refine wseq ?_
      refine wblock ?_
      refine wseq ?_
      have h1 : x1 < xs.length := by simpa using hc2
      have h2 : x1 < ys.length := by omega
      refine wdraw (.take 0 (.take 1 (.take 2 (.take 3 (.take 4 (.take 5 (.take 6 (.take 7 (.all [(8, .take 9 (.done))]))))))))) ⟨by kernel_rfl, by kernel_rfl⟩ fun K hK => ?_
      simp [C.laws_eqTermS, h1, h2, tS_0 h1, tS_1 h1, tS_0 h2, tS_1 h2]
      refine wcall1 (laws_eqTerm_calls xs[x1] ys[x1] (hx2 _ (List.getElem_mem h1))) (by simp) (by simp) ?_
      simp [C.laws_eqTermS, h1, h2, tS_0 h1, tS_1 h1, tS_0 h2, tS_1 h2]
      refine hK _ ?_; clear hK K
      show AWp _ _ _ _ _
      refine wcond _ rfl (fun hc3 => ?_) (fun hc3 => ?_)
      · refine wseq ?_
        refine wreg fun K hK => ?_
        simp [C.laws_eqTermS]
        refine hK _ ?_; clear hK K
        show AWp _ _ _ _ _
        refine wret ?_
        simp at hc3
        simp [C.laws_eqTermS]
        intro e; simp [e] at hc3
      · refine wskip ?_
        show AWp _ _ _ _ _
        refine wreg fun K hK => ?_
        simp [C.laws_eqTermS, wrap_succ (show x1 < 4611686018427387904 by omega)]
        refine hK _ ?_; clear hK K
        simp [C.laws_eqTermS]
        simp at hc3
        refine hR1 (x1 + 1) ⟨h1, ?_⟩ (by omega)
        rw [List.take_succ_eq_append_getElem h1, List.take_succ_eq_append_getElem h2, ht, hc3]
    · refine wexit ?_
      show AWp _ _ _ _ _
      refine wseq ?_
      refine wreg fun K hK => ?_
      simp [C.laws_eqTermS]
      refine hK _ ?_; clear hK K
      show AWp _ _ _ _ _
      refine wret ?_
      have hk2 : x1 = xs.length := by simp at hc2; omega
      simp [C.laws_eqTermS]
      rw [hk2, List.take_length, e, List.take_length] at ht
      exact ht

theorem laws_eqLaurent_calls (a b : Lau) (hx : a.ts.length < 4611686018427387904) (hx2 : ∀ t ∈ a.ts, t.e.length < 4611686018427387904) : ACalls Try.prog F.laws_eqLaurent [aF a, aF b] [] true (fun outs res => outs = [] ∧ res = [.one (D.bool (decide (a = b)))]) := by
  refine ACalls.of_body (C := C.laws_eqLaurent) (n := Try.f56.ntmps) tabT folT Try.func56 rfl (by kernel_rfl) rfl (Nat.le_of_ble_eq_true rfl) (by decide) (by kernel_rfl) (by kernel_rfl) rfl (by simp) (by simp) ?_
  simp only [Try.f56]
  refine wseq ?_
  refine wreg fun K hK => ?_
  simp [C.laws_eqLaurent]
  refine hK _ ?_; clear hK K
  show AWp _ _ _ _ _
  refine wseq ?_
  refine wseq ?_
  refine wreg fun K hK => ?_
  simp [C.laws_eqLaurent]
  refine hK _ ?_; clear hK K
  show AWp _ _ _ _ _
  refine wcond _ rfl (fun hc1 => ?_) (fun hc1 => ?_)
  · refine wseq ?_
    refine wreg fun K hK => ?_
    simp [C.laws_eqLaurent]
    refine hK _ ?_; clear hK K
    show AWp _ _ _ _ _
    refine wret ?_
    simp at hc1
    simp [C.laws_eqLaurent, lau_eq, hc1]
  · refine wskip ?_
    show AWp _ _ _ _ _
    refine wseq ?_
    refine wseq ?_
    refine wreg fun K hK => ?_
    simp [C.laws_eqLaurent]
    refine wcall1 (laws_eqTermS_calls a.ts b.ts hx hx2) (by simp) (by simp) ?_
    simp [C.laws_eqLaurent]
    refine hK _ ?_; clear hK K
    show AWp _ _ _ _ _
    refine wcond _ rfl (fun hc2 => ?_) (fun hc2 => ?_)
    · refine wseq ?_
      refine wreg fun K hK => ?_
      simp [C.laws_eqLaurent]
      refine hK _ ?_; clear hK K
      show AWp _ _ _ _ _
      refine wret ?_
      simp at hc2
      simp [C.laws_eqLaurent, lau_eq, hc2]
    · refine wskip ?_
      show AWp _ _ _ _ _
      refine wseq ?_
      refine wreg fun K hK => ?_
      simp [C.laws_eqLaurent]
      refine hK _ ?_; clear hK K
      show AWp _ _ _ _ _
      refine wret ?_
      simp at hc1 hc2
      simp [C.laws_eqLaurent, lau_eq, hc1, hc2]

theorem laws_markTermS_calls (ts : List Trm) (k : Int) (hk0 : 0 ≤ k) (hk : k + cntL cntT ts < 4611686018427387904) (hx : ts.length < 4611686018427387904) : ACalls Try.prog F.laws_markTermS [.al (0, 0) [] 0 ts.length, .int k] [((0, 0), .ow 2 ts.length (rows tO ts))] true (fun outs res => outs = [.ow 2 ts.length (rows tO (mkL cntT mkT ts k))] ∧ res = [.one (D.int (k + cntL cntT ts))]) := by
  refine ACalls.of_body (C := C.laws_markTermS) (n := Try.f148.ntmps) tabT folT Try.func148 rfl (by kernel_rfl) rfl (Nat.le_of_ble_eq_true rfl) (by decide) (by kernel_rfl) (by kernel_rfl) rfl (by simp) (by simp) ?_
  simp only [Try.f148]
  refine wseq ?_
  refine wreg fun K hK => ?_
  simp [C.laws_markTermS]
  refine hK _ ?_; clear hK K
  show AWp _ _ _ _ _
  refine wseq ?_
  refine wseq ?_
  refine wreg fun K hK => ?_
  simp [C.laws_markTermS]
  refine hK _ ?_; clear hK K
  show AWp _ _ _ _ _
  refine wblock ?_
  refine wloop (fun x : Nat × List Trm × Int => ⟨ofL [(0, .al (0, 0) [] 0 ts.length), (1, .int x.2.2), (5, .int x.1), (1000, .al (0, 0) [] 0 ts.length)], ofRO [((0, 0), some (.ow 2 ts.length (rows tO x.2.1)))]⟩) (fun x => x.1 ≤ ts.length ∧ x.2.1 = mkL cntT mkT (ts.take x.1) k ++ ts.drop x.1 ∧ x.2.2 = k + cntL cntT (ts.take x.1)) (fun x => ts.length - x.1) (0, ts, k) (by simp [C.laws_markTermS]) (by simp [mkL, cntL]) ?_
  intro x1 hx1 R1 hR1
  obtain ⟨j, gs, kk⟩ := x1
  obtain ⟨h0, hg, he⟩ := hx1
  dsimp only at h0 hg he ⊢
  refine wseq ?_
  refine wseq ?_
  refine wreg fun K hK => ?_
  simp [C.laws_markTermS]
  refine hK _ ?_; clear hK K
  show AWp _ _ _ _ _
  refine wcond _ rfl (fun hc1 => ?_) (fun hc1 => ?_)
  · refine wskip ?_
    show AWp _ _ _ _ _
    refine wseq ?_
    refine wblock ?_
    refine wseq ?_
    have h1 : j < ts.length := by simpa using hc1
    have hl : gs.length = ts.length := by rw [hg]; simp; omega
    have h2 : j < gs.length := by omega
    have hge : gs[j] = ts[j] := by
      have := mkL_get2 cntT mkT ts k j h1
      rw [← hg, List.getElem?_eq_getElem h2] at this
      injection this
    have hb := cntL_le1 cntT ts j h1
    have hcj : cntT ts[j] = ts[j].e.length + 1 := rfl
    refine wreg fun K hK => ?_
    simp [C.laws_markTermS, hl, h1, h2, hge, tO_0 h2, tO_1 h2, modify_const, tO_set0 h2]
    refine wcall1 (laws_markIntS_calls ts[j].e kk (by omega) (by omega)) (by simp) (by simp) ?_
    simp [C.laws_markTermS, hl, h1, h2, hge, tO_0 h2, tO_1 h2, modify_const, tO_set0 h2]
    refine hK _ ?_; clear hK K
    show AWp _ _ _ _ _
    refine wseq ?_
    refine wreg fun K hK => ?_
    simp [C.laws_markTermS, h1, h2, tO_1 h2]
    refine hK _ ?_; clear hK K
    show AWp _ _ _ _ _
    refine wreg fun K hK => ?_
    simp [C.laws_markTermS]
    rw [wrapOk (x := kk + ts[j].e.length + 1) (by omega) (by omega)]
    refine hK _ ?_; clear hK K
    show AWp _ _ _ _ _
    refine wreg fun K hK => ?_
    simp [C.laws_markTermS, wrap_succ (show j < 4611686018427387904 by omega)]
    refine hK _ ?_; clear hK K
    simp [C.laws_markTermS]
    rw [tO_set2 h2 _ _ (by simp)]
    refine hR1 (j + 1, _, _) ⟨h1, ?_, ?_⟩ (by dsimp only; omega)
    · dsimp only
      rw [hg, he]
      exact mkL_step cntT mkT ts k j h1
    · dsimp only
      rw [cntL_step _ _ _ h1]
      omega
  · refine wexit ?_
    show AWp _ _ _ _ _
    refine wseq ?_
    refine wreg fun K hK => ?_
    simp [C.laws_markTermS]
    refine hK _ ?_; clear hK K
    show AWp _ _ _ _ _
    refine wret ?_
    have hj2 : j = ts.length := by simp at hc1; omega
    simp [C.laws_markTermS, hj2, hg, he]

theorem laws_markLaurent_calls (f : Lau) (k : Int) (hk0 : 0 ≤ k) (hk : k + cntL cntT f.ts < 4611686018427387904) (hx : f.ts.length < 4611686018427387904) : ACalls Try.prog F.laws_markLaurent [.ag [.int f.v, .al (0, 1) [] 0 f.ts.length], .int k] [((0, 1), .ow 2 f.ts.length (rows tO f.ts))] true (fun outs res => outs = [.ow 2 f.ts.length (rows tO (mkL cntT mkT f.ts k))] ∧ res = [.one (D.int (k + cntL cntT f.ts))]) := by
  refine ACalls.of_body (C := C.laws_markLaurent) (n := Try.f57.ntmps) tabT folT Try.func57 rfl (by kernel_rfl) rfl (Nat.le_of_ble_eq_true rfl) (by decide) (by kernel_rfl) (by kernel_rfl) rfl (by simp) (by simp) ?_
  simp only [Try.f57]
  refine wseq ?_
  refine wreg fun K hK => ?_
  simp [C.laws_markLaurent]
  refine hK _ ?_; clear hK K
  show AWp _ _ _ _ _
  refine wseq ?_
  refine wreg fun K hK => ?_
  simp [C.laws_markLaurent, modify_const]
  refine wcall1 (laws_markTermS_calls f.ts k hk0 hk hx) (by simp) (by simp) ?_
  simp [C.laws_markLaurent, modify_const]
  refine hK _ ?_; clear hK K
  show AWp _ _ _ _ _
  refine wseq ?_
  refine wreg fun K hK => ?_
  simp [C.laws_markLaurent]
  refine hK _ ?_; clear hK K
  show AWp _ _ _ _ _
  refine wret ?_
  simp [C.laws_markLaurent]

theorem laws_heldTermS_calls (ts : List Trm) (k : Int) (hk0 : 0 ≤ k) (hk : k + cntL cntT ts < 4611686018427387904) (hx : ts.length < 4611686018427387904) : ACalls Try.prog F.laws_heldTermS [.d (.sh 2 ts.length (rows tS (mkL cntT mkT ts k))), .int k] [] true (fun outs res => outs = [] ∧ res = [.one (D.int (k + cntL cntT ts))]) := by
  refine ACalls.of_body (C := C.laws_heldTermS) (n := Try.f149.ntmps) tabT folT Try.func149 rfl (by kernel_rfl) rfl (Nat.le_of_ble_eq_true rfl) (by decide) (by kernel_rfl) (by kernel_rfl) rfl (by simp) (by simp) ?_
  simp only [Try.f149]
  refine wseq ?_
  refine wreg fun K hK => ?_
  simp [C.laws_heldTermS]
  refine hK _ ?_; clear hK K
  show AWp _ _ _ _ _
  refine wseq ?_
  refine wseq ?_
  refine wreg fun K hK => ?_
  simp [C.laws_heldTermS]
  refine hK _ ?_; clear hK K
  show AWp _ _ _ _ _
  refine wblock ?_
  refine wloop (fun x : Nat × Int => ⟨ofL [(0, .d (.sh 2 ts.length (rows tS (mkL cntT mkT ts k)))), (1, .int x.2), (5, .int x.1)], ofRO []⟩) (fun x => x.1 ≤ ts.length ∧ x.2 = k + cntL cntT (ts.take x.1)) (fun x => ts.length - x.1) (0, k) (by simp [C.laws_heldTermS]) (by simp [cntL]) ?_
  intro x1 hx1 R1 hR1
  obtain ⟨j, kk⟩ := x1
  obtain ⟨h0, he⟩ := hx1
  dsimp only at h0 he ⊢
  refine wseq ?_
  refine wseq ?_
  refine wreg fun K hK => ?_
  simp [C.laws_heldTermS]
  refine hK _ ?_; clear hK K
  show AWp _ _ _ _ _
  refine wcond _ rfl (fun hc1 => ?_) (fun hc1 => ?_)
  · refine wskip ?_
    show AWp _ _ _ _ _
    refine wseq ?_
    refine wblock ?_
    refine wseq ?_
    have h1 : j < ts.length := by simpa using hc1
    have h2 : j < (mkL cntT mkT ts k).length := by simpa using h1
    have hge : (mkL cntT mkT ts k)[j] = ⟨marks kk ts[j].e.length, kk + ts[j].e.length⟩ := by
      rw [mkL_get1 _ _ _ _ _ h1, he]
      rfl
    have hb := cntL_le1 cntT ts j h1
    have hcj : cntT ts[j] = ts[j].e.length + 1 := rfl
    refine wreg fun K hK => ?_
    simp [C.laws_heldTermS, h1, h2, hge, tS_0 h2, tS_1 h2]
    refine wcall1 (laws_heldIntS_calls ts[j].e.length kk (by omega) (by omega)) (by simp) (by simp) ?_
    simp [C.laws_heldTermS, h1, h2, hge, tS_0 h2, tS_1 h2]
    refine hK _ ?_; clear hK K
    show AWp _ _ _ _ _
    refine wseq ?_
    refine wseq ?_
    refine wreg fun K hK => ?_
    simp [C.laws_heldTermS]
    refine hK _ ?_; clear hK K
    show AWp _ _ _ _ _
    refine wcond _ rfl (fun hc2 => ?_) (fun hc2 => ?_)
    · simp at hc2; omega
    · refine wskip ?_
      show AWp _ _ _ _ _
      refine wseq ?_
      refine wseq ?_
      refine wreg fun K hK => ?_
      simp [C.laws_heldTermS, h1, h2, hge, tS_0 h2, tS_1 h2]
      refine hK _ ?_; clear hK K
      show AWp _ _ _ _ _
      refine wcond _ rfl (fun hc3 => ?_) (fun hc3 => ?_)
      · simp at hc3
      · refine wskip ?_
        show AWp _ _ _ _ _
        refine wreg fun K hK => ?_
        simp [C.laws_heldTermS]
        rw [wrapOk (x := kk + ts[j].e.length + 1) (by omega) (by omega)]
        refine hK _ ?_; clear hK K
        show AWp _ _ _ _ _
        refine wreg fun K hK => ?_
        simp [C.laws_heldTermS, wrap_succ (show j < 4611686018427387904 by omega)]
        refine hK _ ?_; clear hK K
        simp [C.laws_heldTermS]
        refine hR1 (j + 1, _) ⟨h1, ?_⟩ (by dsimp only; omega)
        dsimp only
        rw [cntL_step _ _ _ h1]
        omega
  · refine wexit ?_
    show AWp _ _ _ _ _
    refine wseq ?_
    refine wreg fun K hK => ?_
    simp [C.laws_heldTermS]
    refine hK _ ?_; clear hK K
    show AWp _ _ _ _ _
    refine wret ?_
    have hj2 : j = ts.length := by simp at hc1; omega
    simp [C.laws_heldTermS, hj2, he]

theorem laws_heldLaurent_calls (v : Int) (ts : List Trm) (k : Int) (hk0 : 0 ≤ k) (hk : k + cntL cntT ts < 4611686018427387904) (hx : ts.length < 4611686018427387904) : ACalls Try.prog F.laws_heldLaurent [.ag [.int v, .d (.sh 2 ts.length (rows tS (mkL cntT mkT ts k)))], .int k] [] true (fun outs res => outs = [] ∧ res = [.one (D.int (k + cntL cntT ts))]) := by
  refine ACalls.of_body (C := C.laws_heldLaurent) (n := Try.f58.ntmps) tabT folT Try.func58 rfl (by kernel_rfl) rfl (Nat.le_of_ble_eq_true rfl) (by decide) (by kernel_rfl) (by kernel_rfl) rfl (by simp) (by simp) ?_
  simp only [Try.f58]
  refine wseq ?_
  refine wreg fun K hK => ?_
  simp [C.laws_heldLaurent]
  refine hK _ ?_; clear hK K
  show AWp _ _ _ _ _
  refine wseq ?_
  refine wreg fun K hK => ?_
  simp [C.laws_heldLaurent]
  refine wcall1 (laws_heldTermS_calls ts k hk0 hk hx) (by simp) (by simp) ?_
  simp [C.laws_heldLaurent]
  refine hK _ ?_; clear hK K
  show AWp _ _ _ _ _
  refine wseq ?_
  refine wseq ?_
  refine wreg fun K hK => ?_
  simp [C.laws_heldLaurent]
  refine hK _ ?_; clear hK K
  show AWp _ _ _ _ _
  refine wcond _ rfl (fun hc1 => ?_) (fun hc1 => ?_)
  · simp at hc1; omega
  · refine wskip ?_
    show AWp _ _ _ _ _
    refine wseq ?_
    refine wreg fun K hK => ?_
    simp [C.laws_heldLaurent]
    refine hK _ ?_; clear hK K
    show AWp _ _ _ _ _
    refine wret ?_
    simp [C.laws_heldLaurent]

end Go.Proofs.Ytdgeponcnlkaiaa.Ab
namespace Go.Proofs.Ytdgeponcnlkaiaa.Ab
open Go
set_option linter.unusedSimpArgs false
set_option linter.unusedVariables false
set_option linter.unusedSectionVars false

section
variable {K : Type} [DecidableEq K]

/-- What belongs to a key. -/
def co (k : K) : List (K × Int) → Int
  | [] => 0
  | x :: l => (if x.1 = k then x.2 else 0) + co k l
theorem co_append (k : K) : ∀ (l r : List (K × Int)), co k (l ++ r) = co k l + co k r
  | [], r => by simp [co]
  | x :: l, r => by simp [co, co_append k l r, Int.add_assoc]
theorem co_none (k : K) : ∀ (l : List (K × Int)), (∀ x ∈ l, x.1 ≠ k) → co k l = 0
  | [], _ => rfl
  | x :: l, h => by
    simp only [co]
    rw [if_neg (h x (by simp)), co_none k l fun y hy => h y (by simp [hy])]
    rfl
theorem co_perm (k : K) {l r : List (K × Int)} (h : l.Perm r) : co k l = co k r := by
  induction h with
  | nil => rfl
  | cons x _ ih => simp [co, ih]
  | swap x y l => simp only [co]; omega
  | trans _ _ ih1 ih2 => rw [ih1, ih2]
theorem co_mem {k : K} : ∀ {l : List (K × Int)}, co k l ≠ 0 → ∃ x ∈ l, x.1 = k
  | [], h => absurd rfl h
  | x :: l, h => by
    simp only [co] at h
    by_cases e : x.1 = k
    · exact ⟨x, by simp, e⟩
    · rw [if_neg e] at h
      obtain ⟨y, hy, e2⟩ := co_mem (k := k) (l := l) (by omega)
      exact ⟨y, by simp [hy], e2⟩

/-- A strict order. -/
structure Ord (lt : K → K → Bool) : Prop where
  irr : ∀ a, lt a a = false
  tr : ∀ a b c, lt a b = true → lt b c = true → lt a c = true
  tot : ∀ a b, lt a b = true ∨ a = b ∨ lt b a = true

variable {lt : K → K → Bool}
def Desc (lt : K → K → Bool) (l : List (K × Int)) : Prop := l.Pairwise fun a b => lt b.1 a.1 = true
def Nz (l : List (K × Int)) : Prop := ∀ x ∈ l, x.2 ≠ 0

theorem desc_tail_ne (ho : Ord lt) {x : K × Int} {l : List (K × Int)} (h : Desc lt (x :: l)) : ∀ y ∈ l, y.1 ≠ x.1 := by
  intro y hy e
  have := (List.pairwise_cons.1 h).1 y hy
  rw [e, ho.irr] at this
  simp at this
theorem desc_above (ho : Ord lt) {x : K × Int} {l : List (K × Int)} (h : Desc lt (x :: l)) {k : K} (hk : lt x.1 k = true) : ∀ y ∈ x :: l, y.1 ≠ k := by
  intro y hy e
  rcases List.mem_cons.1 hy with rfl | hy
  · rw [e, ho.irr] at hk
    simp at hk
  · have := ho.tr _ _ _ ((List.pairwise_cons.1 h).1 y hy) hk
    rw [e, ho.irr] at this
    simp at this

/-- **Descending sums are told by what belongs to each key.** -/
theorem desc_unique (ho : Ord lt) : ∀ (l r : List (K × Int)), Desc lt l → Desc lt r → Nz l → Nz r → (∀ k, co k l = co k r) → l = r
  | [], [], _, _, _, _, _ => rfl
  | [], y :: r, _, h2, _, z2, h => by
    have := h y.1
    simp only [co, if_true] at this
    rw [co_none y.1 r (desc_tail_ne ho h2)] at this
    exact absurd (by omega) (z2 y (by simp))
  | x :: l, [], h1, _, z1, _, h => by
    have := h x.1
    simp only [co, if_true] at this
    rw [co_none x.1 l (desc_tail_ne ho h1)] at this
    exact absurd (by omega) (z1 x (by simp))
  | x :: l, y :: r, h1, h2, z1, z2, h => by
    rcases ho.tot x.1 y.1 with e | e | e
    · have := h y.1
      rw [co_none y.1 _ (desc_above ho h1 e)] at this
      simp only [co, if_true] at this
      rw [co_none y.1 r (desc_tail_ne ho h2)] at this
      exact absurd (by omega) (z2 y (by simp))
    · have e2 : x.2 = y.2 := by
        have := h x.1
        simp only [co, if_true] at this
        rw [if_pos e.symm, co_none x.1 l (desc_tail_ne ho h1), e, co_none y.1 r (desc_tail_ne ho h2)] at this
        omega
      have exy : x = y := Prod.ext e e2
      subst exy
      congr 1
      refine desc_unique ho l r (List.pairwise_cons.1 h1).2 (List.pairwise_cons.1 h2).2 (fun z hz => z1 z (by simp [hz])) (fun z hz => z2 z (by simp [hz])) fun k => ?_
      have := h k
      simp only [co] at this
      omega
    · have := h x.1
      rw [co_none x.1 (y :: r) (desc_above ho h2 e)] at this
      simp only [co, if_true] at this
      rw [co_none x.1 l (desc_tail_ne ho h1)] at this
      exact absurd (by omega) (z1 x (by simp))

/-! ### The descending list of a sum -/
def insK (lt : K → K → Bool) (k : K) (c : Int) : List (K × Int) → List (K × Int)
  | [] => if c = 0 then [] else [(k, c)]
  | x :: l => if x.1 = k then (if x.2 + c = 0 then l else (k, x.2 + c) :: l) else if lt x.1 k then (if c = 0 then x :: l else (k, c) :: x :: l) else x :: insK lt k c l
def nf (lt : K → K → Bool) : List (K × Int) → List (K × Int)
  | [] => []
  | x :: l => insK lt x.1 x.2 (nf lt l)

theorem insK_mem {k : K} {c : Int} : ∀ {l : List (K × Int)} {y : K × Int}, y ∈ insK lt k c l → y.1 = k ∨ y ∈ l
  | [], y, h => by
    simp only [insK] at h
    split at h
    · simp at h
    · simp only [List.mem_singleton] at h
      subst h
      exact .inl rfl
  | x :: l, y, h => by
    simp only [insK] at h
    split at h
    · split at h
      · exact .inr (by simp [h])
      · rcases List.mem_cons.1 h with rfl | h
        · exact .inl rfl
        · exact .inr (by simp [h])
    · split at h
      · split at h
        · exact .inr h
        · rcases List.mem_cons.1 h with rfl | h
          · exact .inl rfl
          · exact .inr h
      · rcases List.mem_cons.1 h with rfl | h
        · exact .inr (by simp)
        · rcases insK_mem h with h | h
          · exact .inl h
          · exact .inr (by simp [h])
theorem insK_desc (ho : Ord lt) (k : K) (c : Int) : ∀ (l : List (K × Int)), Desc lt l → Desc lt (insK lt k c l)
  | [], _ => by
    simp only [insK]
    split
    · exact List.Pairwise.nil
    · exact List.pairwise_singleton _ _
  | x :: l, h => by
    have h1 := List.pairwise_cons.1 h
    simp only [insK]
    split
    · rename_i e
      split
      · exact h1.2
      · exact List.pairwise_cons.2 ⟨fun y hy => by rw [← e]; exact h1.1 y hy, h1.2⟩
    · rename_i e
      split
      · rename_i e2
        split
        · exact h
        · refine List.pairwise_cons.2 ⟨fun y hy => ?_, h⟩
          rcases List.mem_cons.1 hy with rfl | hy
          · exact e2
          · exact ho.tr _ _ _ (h1.1 y hy) e2
      · rename_i e2
        refine List.pairwise_cons.2 ⟨fun y hy => ?_, insK_desc ho k c l h1.2⟩
        rcases insK_mem hy with hy | hy
        · rw [hy]
          rcases ho.tot k x.1 with q | q | q
          · exact q
          · exact absurd q.symm e
          · exact absurd q e2
        · exact h1.1 y hy
theorem insK_nz (k : K) (c : Int) : ∀ (l : List (K × Int)), Nz l → Nz (insK lt k c l)
  | [], _ => by
    simp only [insK]
    split
    · intro y hy; simp at hy
    · rename_i hc
      intro y hy
      simp only [List.mem_singleton] at hy
      subst hy
      exact hc
  | x :: l, h => by
    have h1 : Nz l := fun z hz => h z (by simp [hz])
    simp only [insK]
    split
    · split
      · exact h1
      · rename_i hc
        intro y hy
        rcases List.mem_cons.1 hy with rfl | hy
        · exact hc
        · exact h1 y hy
    · split
      · split
        · exact h
        · rename_i hc
          intro y hy
          rcases List.mem_cons.1 hy with rfl | hy
          · exact hc
          · exact h y hy
      · intro y hy
        rcases List.mem_cons.1 hy with rfl | hy
        · exact h y (by simp)
        · exact insK_nz k c l h1 y hy
theorem insK_co (k : K) (c : Int) (q : K) : ∀ (l : List (K × Int)), co q (insK lt k c l) = (if k = q then c else 0) + co q l
  | [] => by
    simp only [insK]
    split
    · rename_i e
      subst e
      simp [co]
    · simp [co]
  | x :: l => by
    simp only [insK]
    split
    · rename_i e
      split
      · rename_i e2
        simp only [co, e]
        split <;> omega
      · simp only [co, e]
        split <;> omega
    · split
      · split
        · rename_i e
          subst e
          simp
        · simp only [co]
      · simp only [co, insK_co k c q l]
        omega
theorem nf_desc (ho : Ord lt) : ∀ (l : List (K × Int)), Desc lt (nf lt l)
  | [] => List.Pairwise.nil
  | x :: l => insK_desc ho _ _ _ (nf_desc ho l)
theorem nf_nz : ∀ (l : List (K × Int)), Nz (nf lt l)
  | [] => by intro y hy; simp [nf] at hy
  | x :: l => insK_nz _ _ _ (nf_nz l)
theorem nf_co (q : K) : ∀ (l : List (K × Int)), co q (nf lt l) = co q l
  | [] => rfl
  | x :: l => by
    simp only [nf, insK_co, nf_co q l, co]
theorem nf_mem : ∀ {l : List (K × Int)} {y : K × Int}, y ∈ nf lt l → ∃ x ∈ l, x.1 = y.1
  | [], y, h => by simp [nf] at h
  | x :: l, y, h => by
    rcases insK_mem h with h | h
    · exact ⟨x, by simp, h.symm⟩
    · obtain ⟨z, hz, e⟩ := nf_mem h
      exact ⟨z, by simp [hz], e⟩
/-- **The descending list with these sums is the normal form.** -/
theorem nf_unique (ho : Ord lt) {t l : List (K × Int)} (h1 : Desc lt t) (h2 : Nz t) (h3 : ∀ k, co k t = co k l) : t = nf lt l :=
  desc_unique ho t (nf lt l) h1 (nf_desc ho l) h2 (nf_nz l) fun k => by rw [h3 k, nf_co]
end

/-! ### Lists of numbers in the order of words -/
def lexlt : List Int → List Int → Bool
  | [], [] => false
  | [], _ :: _ => true
  | _ :: _, [] => false
  | a :: x, b :: y => if a = b then lexlt x y else decide (a < b)
theorem lexlt_irr : ∀ a, lexlt a a = false
  | [] => rfl
  | a :: x => by simp [lexlt, lexlt_irr x]
theorem lexlt_tr : ∀ a b c, lexlt a b = true → lexlt b c = true → lexlt a c = true
  | [], [], _, h, _ => by simp [lexlt] at h
  | [], _ :: _, [], _, h => by simp [lexlt] at h
  | [], _ :: _, _ :: _, _, _ => rfl
  | _ :: _, [], _, h, _ => by simp [lexlt] at h
  | _ :: _, _ :: _, [], _, h => by simp [lexlt] at h
  | a :: x, b :: y, c :: z, h1, h2 => by
    simp only [lexlt] at h1 h2 ⊢
    by_cases e1 : a = b
    · subst e1
      rw [if_pos rfl] at h1
      by_cases e2 : a = c
      · subst e2
        rw [if_pos rfl] at h2 ⊢
        exact lexlt_tr x y z h1 h2
      · rw [if_neg e2] at h2 ⊢
        exact h2
    · rw [if_neg e1] at h1
      by_cases e2 : b = c
      · subst e2
        rw [if_neg e1]
        exact h1
      · rw [if_neg e2] at h2
        simp only [decide_eq_true_eq] at h1 h2
        rw [if_neg (by omega)]
        simp only [decide_eq_true_eq]
        omega
theorem lexlt_tot : ∀ a b, lexlt a b = true ∨ a = b ∨ lexlt b a = true
  | [], [] => .inr (.inl rfl)
  | [], _ :: _ => .inl rfl
  | _ :: _, [] => .inr (.inr rfl)
  | a :: x, b :: y => by
    simp only [lexlt]
    by_cases e : a = b
    · subst e
      simp only [if_true]
      rcases lexlt_tot x y with h | h | h
      · exact .inl h
      · exact .inr (.inl (by rw [h]))
      · exact .inr (.inr h)
    · rw [if_neg e, if_neg (Ne.symm e)]
      simp only [decide_eq_true_eq]
      omega
theorem lexOrd : Ord lexlt := ⟨lexlt_irr, lexlt_tr, lexlt_tot⟩
/-- The order of quantum terms: exponents first, then the power. -/
def qlt (a b : List Int × Int) : Bool := if a.1 = b.1 then decide (a.2 < b.2) else lexlt a.1 b.1
theorem qOrd : Ord qlt := by
  refine ⟨fun a => by simp [qlt], fun a b c h1 h2 => ?_, fun a b => ?_⟩
  · simp only [qlt] at h1 h2 ⊢
    by_cases e1 : a.1 = b.1
    · by_cases e2 : b.1 = c.1
      · rw [if_pos e1] at h1
        rw [if_pos e2] at h2
        rw [if_pos (e1.trans e2)]
        simp only [decide_eq_true_eq] at h1 h2 ⊢
        omega
      · rw [if_neg e2] at h2
        rw [e1, if_neg e2]
        exact h2
    · rw [if_neg e1] at h1
      by_cases e2 : b.1 = c.1
      · rw [← e2, if_neg e1]
        exact h1
      · rw [if_neg e2] at h2
        have := lexlt_tr _ _ _ h1 h2
        rw [if_neg (fun e => by rw [e, lexlt_irr] at this; simp at this)]
        exact this
  · simp only [qlt]
    by_cases e : a.1 = b.1
    · rw [if_pos e, if_pos e.symm]
      simp only [decide_eq_true_eq]
      rcases Int.lt_trichotomy a.2 b.2 with h | h | h
      · exact .inl h
      · exact .inr (.inl (Prod.ext e h))
      · exact .inr (.inr h)
    · rw [if_neg e, if_neg (Ne.symm e)]
      rcases lexlt_tot a.1 b.1 with h | h | h
      · exact .inl h
      · exact absurd h e
      · exact .inr (.inr h)

end Go.Proofs.Ytdgeponcnlkaiaa.Ab
namespace Go.Proofs.Ytdgeponcnlkaiaa.Ab
open Go
set_option linter.unusedSimpArgs false
set_option linter.unusedVariables false
set_option linter.unusedSectionVars false

def keyA (k : Int) : List Int → Int
  | [] => k
  | x :: l => keyA (k * 128 + x + 64) l
def Dig (l : List Int) : Prop := ∀ x ∈ l, -64 ≤ x ∧ x ≤ 63
theorem Dig.tail {x : Int} {l : List Int} (h : Dig (x :: l)) : Dig l := fun y hy => h y (by simp [hy])
theorem Dig.head {x : Int} {l : List Int} (h : Dig (x :: l)) : -64 ≤ x ∧ x ≤ 63 := h x (by simp)
theorem keyA_append : ∀ (a b : List Int) (k : Int), keyA k (a ++ b) = keyA (keyA k a) b
  | [], b, k => rfl
  | x :: a, b, k => by simp [keyA, keyA_append a b]
theorem keyA_lt : ∀ (a b : List Int) (p q : Int), a.length = b.length → Dig a → Dig b → p < q → keyA p a < keyA q b
  | [], [], p, q, _, _, _, h => h
  | x :: a, y :: b, p, q, hl, ha, hb, h => by
    have h1 := ha.head
    have h2 := hb.head
    exact keyA_lt a b _ _ (by simpa using hl) ha.tail hb.tail (by omega)
  | [], _ :: _, _, _, h, _, _, _ => by simp at h
  | _ :: _, [], _, _, h, _, _, _ => by simp at h
theorem keyA_lex : ∀ (a b : List Int) (p : Int), a.length = b.length → Dig a → Dig b → lexlt a b = true → keyA p a < keyA p b
  | [], [], p, _, _, _, h => by simp [lexlt] at h
  | x :: a, y :: b, p, hl, ha, hb, h => by
    simp only [lexlt] at h
    have h1 := ha.head
    have h2 := hb.head
    split at h
    · rename_i e
      subst e
      exact keyA_lex a b _ (by simpa using hl) ha.tail hb.tail h
    · simp only [decide_eq_true_eq] at h
      exact keyA_lt a b _ _ (by simpa using hl) ha.tail hb.tail (by omega)
  | [], _ :: _, _, h, _, _, _ => by simp at h
  | _ :: _, [], _, h, _, _, _ => by simp at h
theorem keyA_inj {a b : List Int} {p : Int} (hl : a.length = b.length) (ha : Dig a) (hb : Dig b) (h : keyA p a = keyA p b) : a = b := by
  rcases lexlt_tot a b with h1 | h1 | h1
  · have := keyA_lex a b p hl ha hb h1
    omega
  · exact h1
  · have := keyA_lex b a p hl.symm hb ha h1
    omega
theorem keyA_lex_iff {a b : List Int} {p : Int} (hl : a.length = b.length) (ha : Dig a) (hb : Dig b) : lexlt a b = decide (keyA p a < keyA p b) := by
  rcases lexlt_tot a b with h1 | h1 | h1
  · have := keyA_lex a b p hl ha hb h1
    simp [h1, this]
  · subst h1
    simp [lexlt_irr]
  · have := keyA_lex b a p hl.symm hb ha h1
    have h2 : lexlt a b = false := by
      cases h3 : lexlt a b with
      | false => rfl
      | true =>
        have := lexlt_tr _ _ _ h1 h3
        rw [lexlt_irr] at this
        simp at this
    rw [h2]
    simp
    omega
theorem keyA_nonneg : ∀ (a : List Int) (p : Int), Dig a → 0 ≤ p → 0 ≤ keyA p a
  | [], p, _, h => h
  | x :: a, p, ha, h => keyA_nonneg a _ ha.tail (by have := ha.head; omega)
theorem keyA_bound : ∀ (a : List Int) (p B : Int), Dig a → 0 ≤ p → p < B → keyA p a < B * 128 ^ a.length
  | [], p, B, _, _, h => by simpa [keyA] using h
  | x :: a, p, B, ha, h0, h => by
    have h1 := ha.head
    have := keyA_bound a (p * 128 + x + 64) (B * 128) ha.tail (by omega) (by omega)
    rw [List.length_cons, Int.pow_succ, Int.mul_comm _ (128 : Int), ← Int.mul_assoc]
    exact this
theorem keyA_key {a : List Int} (ha : Dig a) (hl : a.length ≤ 8) : 0 ≤ keyA 0 a ∧ keyA 0 a < 72057594037927936 := by
  refine ⟨keyA_nonneg a 0 ha (by omega), ?_⟩
  have h := keyA_bound a 0 1 ha (by omega) (by omega)
  have h2 : (128 : Int) ^ a.length ≤ 128 ^ 8 := by
    have : (128 : Nat) ^ a.length ≤ 128 ^ 8 := Nat.pow_le_pow_right (by omega) hl
    exact_mod_cast this
  have h3 : (128 : Int) ^ 8 = 72057594037927936 := by decide
  omega
/-- Sums of exponents, the second ones taken k times. -/
def addE (k : Int) : List Int → List Int → List Int
  | x :: a, y :: b => (x + k * y) :: addE k a b
  | a, [] => a
  | [], _ => []
theorem addE_length (k : Int) : ∀ (a b : List Int), a.length = b.length → (addE k a b).length = a.length
  | [], [], _ => rfl
  | x :: a, y :: b, h => by simp [addE, addE_length k a b (by simpa using h)]
  | [], _ :: _, h => by simp at h
  | _ :: _, [], h => by simp at h
theorem addE_snoc (t x y : Int) : ∀ (a b : List Int), a.length = b.length → addE t (a ++ [x]) (b ++ [y]) = addE t a b ++ [x + t * y]
  | [], [], _ => rfl
  | u :: a, v :: b, h => by simp [addE, addE_snoc t x y a b (by simpa using h)]
  | [], _ :: _, h => by simp at h
  | _ :: _, [], h => by simp at h
theorem addE_get {t : Int} {aas bs : List Int} {i : Nat} (h : i < aas.length) (hl : aas.length = bs.length) : (addE t (aas.take i) (bs.take i) ++ aas.drop i)[i]? = some aas[i] := by
  have h1 : (addE t (aas.take i) (bs.take i)).length = i := by
    rw [addE_length _ _ _ (by simp; omega)]
    simp
    omega
  rw [List.getElem?_append_right (by omega), h1, Nat.sub_self, List.drop_eq_getElem_cons h]
  rfl
theorem addE_step {t : Int} {aas bs : List Int} {i : Nat} (h : i < aas.length) (hl : aas.length = bs.length) : (addE t (aas.take i) (bs.take i) ++ aas.drop i).set i (aas[i] + t * bs[i]) = addE t (aas.take (i + 1)) (bs.take (i + 1)) ++ aas.drop (i + 1) := by
  have h1 : (addE t (aas.take i) (bs.take i)).length = i := by
    rw [addE_length _ _ _ (by simp; omega)]
    simp
    omega
  rw [List.set_append_right _ _ (by omega), h1, Nat.sub_self, List.drop_eq_getElem_cons h, List.set_cons_zero, List.take_succ_eq_append_getElem h, List.take_succ_eq_append_getElem (show i < bs.length by omega), addE_snoc _ _ _ _ _ (by simp; omega), List.append_assoc]
  rfl
theorem keyA_add : ∀ (a b : List Int) (p q s : Int), a.length = b.length → keyA (p + q - s) (addE 1 a b) = keyA p a + keyA q b - keyA s (List.replicate a.length 0)
  | [], [], p, q, s, _ => rfl
  | x :: a, y :: b, p, q, s, h => by
    simp only [addE, keyA, List.length_cons, List.replicate_succ]
    rw [← keyA_add a b _ _ _ (by simpa using h)]
    congr 1
    omega
  | [], _ :: _, _, _, _, h => by simp at h
  | _ :: _, [], _, _, _, h => by simp at h
theorem keyA_dec {a : List Int} {x p : Int} (ha : Dig a) (hx : -64 ≤ x ∧ x ≤ 63) (hp : 0 ≤ p) : (keyA p (a ++ [x])).tmod 128 - 64 = x ∧ (keyA p (a ++ [x])).tdiv 128 = keyA p a := by
  have h := keyA_nonneg a p ha hp
  rw [keyA_append]
  simp only [keyA]
  rw [Int.tmod_eq_emod_of_nonneg (by omega), Int.tdiv_eq_ediv_of_nonneg (by omega)]
  omega

end Go.Proofs.Ytdgeponcnlkaiaa.Ab
namespace Go.Proofs.Ytdgeponcnlkaiaa.Ab
open Go
set_option linter.unusedSimpArgs false
set_option linter.unusedVariables false
set_option linter.unusedSectionVars false

def Good (v : Int) (t : Trm) : Prop := (t.e.length : Int) = v ∧ t.c ≠ 0 ∧ (-1000000 ≤ t.c ∧ t.c ≤ 1000000) ∧ ∀ x ∈ t.e, -20 ≤ x ∧ x ≤ 20
def DescT (ts : List Trm) : Prop := ts.Pairwise fun a b => lexlt b.e a.e = true
def Right (f : Lau) : Prop := (1 ≤ f.v ∧ f.v ≤ 8) ∧ f.ts.length ≤ 600 ∧ (∀ t ∈ f.ts, Good f.v t) ∧ DescT f.ts
noncomputable instance (f : Lau) : Decidable (Right f) := Classical.propDecidable _
def zeroF : Lau := ⟨0, []⟩

theorem descT_snoc {ts : List Trm} {t : Trm} (h : DescT ts) (hl : ∀ x, ts.getLast? = some x → lexlt t.e x.e = true) : DescT (ts ++ [t]) := by
  unfold DescT at *
  rw [List.pairwise_append]
  refine ⟨h, List.pairwise_singleton _ _, fun a ha b hb => ?_⟩
  simp only [List.mem_singleton] at hb
  subst hb
  rcases List.eq_nil_or_concat ts with rfl | ⟨l, x, rfl⟩
  · simp at ha
  · have hx := hl x (by simp)
    simp only [List.concat_eq_append, List.mem_append, List.mem_singleton] at ha
    rcases ha with ha | rfl
    · simp only [List.concat_eq_append] at h
      rw [List.pairwise_append] at h
      exact lexlt_tr _ _ _ hx (h.2.2 a ha x (by simp))
    · exact hx
theorem descT_step {ts : List Trm} {j : Nat} (h1 : j < ts.length) (h : DescT (ts.take j)) (hl : j = 0 ∨ lexlt ts[j].e ts[j - 1].e = true) : DescT (ts.take (j + 1)) := by
  rw [List.take_succ_eq_append_getElem h1]
  refine descT_snoc h fun x hx => ?_
  rcases hl with rfl | hl
  · simp at hx
  · rcases Nat.eq_zero_or_pos j with rfl | hj
    · simp at hx
    · have : (ts.take j).getLast? = some ts[j - 1] := by
        rw [List.getLast?_eq_getElem?, List.length_take, Nat.min_eq_left (Nat.le_of_lt h1), List.getElem?_take_of_lt (by omega), List.getElem?_eq_getElem (by omega)]
      rw [this] at hx
      injection hx with hx
      subst hx
      exact hl
theorem descT_next {ts : List Trm} {j : Nat} (h1 : j < ts.length) (h : DescT ts) : j = 0 ∨ lexlt ts[j].e ts[j - 1].e = true := by
  rcases Nat.eq_zero_or_pos j with rfl | hj
  · exact .inl rfl
  · right
    exact List.pairwise_iff_getElem.1 h (j - 1) j (by omega) h1 (by omega)

/-! ### Coded terms -/
def gM (x : Int × Int) : List D := [D.int x.1, D.int x.2]
theorem gM_two (x : Int × Int) : (gM x).length = 2 := rfl
@[simp] theorem gM_length (l : List (Int × Int)) : (rows gM l).length = 2 * l.length := rows_length gM_two l
theorem gM_leaf : ∀ l : List (Int × Int), leafL (rows gM l)
  | [] => trivial
  | x :: l => ⟨rfl, rfl, gM_leaf l⟩
theorem gM_noSh (l : List (Int × Int)) : noShL (rows gM l) := rows_noSh (fun t => by simp [gM, noShL, noSh]) l
theorem gM_share : ∀ l : List (Int × Int), shareL (rows gM l) = rows gM l
  | [] => rfl
  | x :: l => by simp [rows, gM, shareL, share, gM_share l]
attribute [simp] gM_leaf gM_noSh gM_share
theorem gM_snoc (l : List (Int × Int)) (k c : Int) : rows gM l ++ [D.v (.int .i64 k), D.v (.int .i64 c)] = rows gM (l ++ [(k, c)]) := by
  rw [rows_append]
  rfl
section
variable {l : List (Int × Int)} {i : Nat}
theorem gM_0 (h : i < l.length) : (rows gM l)[2 * i]? = some (D.int l[i].1) ∧ ∀ h', (rows gM l)[2 * i]'h' = D.int l[i].1 := twice (rows_get gM_two l i 0 h (by omega))
theorem gM_1 (h : i < l.length) : (rows gM l)[2 * i + 1]? = some (D.int l[i].2) ∧ ∀ h', (rows gM l)[2 * i + 1]'h' = D.int l[i].2 := twice (rows_get gM_two l i 1 h (by omega))
theorem gM_set1 (h : i < l.length) (x : Int) : (rows gM l).set (2 * i + 1) (.v (.int .i64 x)) = rows gM (l.set i (l[i].1, x)) := rows_set gM_two l i 1 _ _ h (by omega) rfl
end
def ilt (a b : Int) : Bool := decide (a < b)
theorem ilt_ord : Ord ilt := ⟨fun a => by simp [ilt], fun a b c h1 h2 => by simp [ilt] at *; omega, fun a b => by simp only [ilt, decide_eq_true_eq]; omega⟩

/-- Exponents of a length, of few digits. -/
def Exps (n : Nat) (l : List (List Int × Int)) : Prop := ∀ x ∈ l, x.1.length = n ∧ Dig x.1
def kc (x : List Int × Int) : Int × Int := (keyA 0 x.1, x.2)
def tm (x : List Int × Int) : Trm := ⟨x.1, x.2⟩
def pr (t : Trm) : List Int × Int := (t.e, t.c)
theorem insK_key {n : Nat} (k : List Int) (c : Int) (hk : k.length = n ∧ Dig k) : ∀ (l : List (List Int × Int)), Exps n l → insK ilt (keyA 0 k) c (l.map kc) = (insK lexlt k c l).map kc
  | [], _ => by
    simp only [insK, List.map_nil]
    split <;> simp [kc]
  | x :: l, h => by
    have hx := h x (by simp)
    have hl : Exps n l := fun y hy => h y (by simp [hy])
    simp only [insK, List.map_cons]
    have e1 : ((kc x).1 = keyA 0 k) ↔ (x.1 = k) := ⟨fun e => keyA_inj (hx.1.trans hk.1.symm) hx.2 hk.2 e, fun e => by simp [kc, e]⟩
    have e2 : ilt (kc x).1 (keyA 0 k) = lexlt x.1 k := (keyA_lex_iff (hx.1.trans hk.1.symm) hx.2 hk.2).symm
    by_cases q : x.1 = k
    · rw [if_pos (e1.2 q), if_pos q]
      show (if x.2 + c = 0 then _ else _) = _
      split <;> simp [kc]
    · rw [if_neg (fun e => q (e1.1 e)), if_neg q, e2]
      split
      · split <;> simp [kc]
      · rw [insK_key k c hk l hl, List.map_cons]
theorem nf_exps {n : Nat} {l : List (List Int × Int)} (h : Exps n l) : Exps n (nf lexlt l) := fun y hy => by
  obtain ⟨x, hx, e⟩ := nf_mem hy
  rw [← e]
  exact h x hx
theorem nf_key {n : Nat} : ∀ (l : List (List Int × Int)), Exps n l → nf ilt (l.map kc) = (nf lexlt l).map kc
  | [], _ => rfl
  | x :: l, h => by
    have hl : Exps n l := fun y hy => h y (by simp [hy])
    simp only [nf, List.map_cons]
    rw [nf_key l hl]
    exact insK_key x.1 x.2 (h x (by simp)) _ (nf_exps hl)

/-- What gathered terms come to: the sum, if it is right. -/
noncomputable def shutF (v : Int) (l : List (List Int × Int)) : Lau × Bool := if Right ⟨v, (nf lexlt l).map tm⟩ then (⟨v, (nf lexlt l).map tm⟩, true) else (zeroF, false)
def prodL (a b : List (List Int × Int)) : List (List Int × Int) := a.flatMap fun x => b.map fun y => (addE 1 x.1 y.1, x.2 * y.2)
noncomputable def mulF (f g : Lau) : Lau × Bool := if Right f ∧ Right g ∧ f.v = g.v then shutF f.v (prodL (f.ts.map pr) (g.ts.map pr)) else (zeroF, false)
theorem shutF_right (v : Int) (l : List (List Int × Int)) : Right (shutF v l).1 ∨ (shutF v l) = (zeroF, false) := by
  unfold shutF
  split
  · exact .inl (by assumption)
  · exact .inr rfl
theorem mulF_right (f g : Lau) : Right (mulF f g).1 ∨ mulF f g = (zeroF, false) := by
  unfold mulF
  split
  · exact shutF_right _ _
  · exact .inr rfl

end Go.Proofs.Ytdgeponcnlkaiaa.Ab
namespace Go.Proofs.Ytdgeponcnlkaiaa.Ab
open Go
set_option linter.unusedSimpArgs false
set_option linter.unusedVariables false
set_option maxRecDepth 10000
set_option maxHeartbeats 2000000
theorem spec_l1Less_calls (a b : List Int) (ha : a.length < 4611686018427387904) : ACalls Try.prog F.spec_l1Less [.d (shI a), .d (shI b)] [] true (fun outs res => outs = [] ∧ res = [.one (D.bool (lexlt a b))]) := by
  refine ACalls.of_body (C := C.spec_l1Less) (n := Try.f212.ntmps) tabT folT Try.func212 rfl (by kernel_rfl) rfl (Nat.le_of_ble_eq_true rfl) (by decide) (by kernel_rfl) (by kernel_rfl) rfl (by simp) (by simp) ?_
  simp only [Try.f212]
  refine wseq ?_
  refine wreg fun K hK => ?_
  simp [C.spec_l1Less]
  refine hK _ ?_; clear hK K
  show AWp _ _ _ _ _
  refine wseq ?_
  refine wseq ?_
  refine wreg fun K hK => ?_
  simp [C.spec_l1Less]
  refine hK _ ?_; clear hK K
  show AWp _ _ _ _ _
  refine wblock ?_
  refine wloop (fun k : Nat => ⟨ofL [(0, .d (shI a)), (1, .d (shI b)), (5, FV.int k)], ofRO []⟩) (fun k => k ≤ a.length ∧ k ≤ b.length ∧ lexlt a b = lexlt (a.drop k) (b.drop k)) (fun k => a.length - k) 0 (by simp [C.spec_l1Less]) (by simp) ?_
  intro x1 hx1 R1 hR1
  obtain ⟨hk, hk2, ht⟩ := hx1
  refine wseq ?_
  refine wseq ?_
  refine wreg fun K hK => ?_
  have hJ : K ⟨ofL [(0, .d (shI a)), (1, .d (shI b)), (5, FV.int x1), (15, .bool (decide (x1 < a.length ∧ x1 < b.length)))], ofRO []⟩ := by
    refine hK _ ?_; clear hK K
    show AWp _ _ _ _ _
    refine wcond _ rfl (fun hc1 => ?_) (fun hc1 => ?_)
    · have hh : x1 < a.length ∧ x1 < b.length := by simpa using hc1
      obtain ⟨h1, h2⟩ := hh
      refine wskip ?_
      show AWp _ _ _ _ _
      refine wseq ?_
      refine wblock ?_
      refine wseq ?_
      refine wdraw (.take 0 (.take 1 (.take 2 (.take 3 (.take 4 (.take 5 (.take 6 (.take 7 (.take 8 (.done)))))))))) ⟨by kernel_rfl, by kernel_rfl⟩ fun K hK => ?_
      simp [C.spec_l1Less, get_ints, h1, h2]
      refine hK _ ?_; clear hK K
      show AWp _ _ _ _ _
      refine wcond _ rfl (fun hc2 => ?_) (fun hc2 => ?_)
      · refine wseq ?_
        refine wdraw (.take 0 (.take 1 (.take 2 (.take 3 (.take 4 (.take 5 (.take 6 (.take 7 (.take 8 (.take 9 (.done))))))))))) ⟨by kernel_rfl, by kernel_rfl⟩ fun K hK => ?_
        simp [C.spec_l1Less, get_ints, h1, h2]
        refine hK _ ?_; clear hK K
        show AWp _ _ _ _ _
        refine wret ?_
        simp at hc2
        simp [C.spec_l1Less]
        rw [ht, List.drop_eq_getElem_cons h1, List.drop_eq_getElem_cons h2]
        simp [lexlt, hc2]
      · refine wskip ?_
        show AWp _ _ _ _ _
        refine wreg fun K hK => ?_
        simp [C.spec_l1Less, wrap_succ (show x1 < 4611686018427387904 by omega)]
        refine hK _ ?_; clear hK K
        simp [C.spec_l1Less]
        simp at hc2
        refine hR1 (x1 + 1) ⟨h1, h2, ?_⟩ (by omega)
        rw [ht, List.drop_eq_getElem_cons h1, List.drop_eq_getElem_cons h2]
        simp [lexlt, hc2]
    · have hh : ¬ (x1 < a.length ∧ x1 < b.length) := by simpa using hc1
      refine wexit ?_
      show AWp _ _ _ _ _
      refine wseq ?_
      refine wreg fun K hK => ?_
      simp [C.spec_l1Less]
      refine hK _ ?_; clear hK K
      show AWp _ _ _ _ _
      refine wret ?_
      simp [C.spec_l1Less]
      rw [ht]
      by_cases q : x1 < a.length
      · rw [List.drop_eq_nil_of_le (show b.length ≤ x1 by omega), List.drop_eq_getElem_cons q]
        simp [lexlt]
        omega
      · rw [List.drop_eq_nil_of_le (show a.length ≤ x1 by omega)]
        by_cases q2 : x1 < b.length
        · rw [List.drop_eq_getElem_cons q2]
          simp [lexlt]
          omega
        · rw [List.drop_eq_nil_of_le (show b.length ≤ x1 by omega)]
          simp [lexlt]
          omega
  clear hK
  by_cases hg : x1 < a.length
  · simp [C.spec_l1Less, hg]
    refine cast (congrArg K ?_) hJ
    simp [hg]
  · simp [C.spec_l1Less, hg]
    refine cast (congrArg K ?_) hJ
    simp [hg]

theorem spec_l2Right_calls (f : Lau) (hx : f.ts.length < 4611686018427387904) (hxe : ∀ t ∈ f.ts, t.e.length < 4611686018427387904) : ACalls Try.prog F.spec_l2Right [aF f] [] true (fun outs res => outs = [] ∧ res = [.one (D.bool (decide (Right f)))]) := by
  refine ACalls.of_body (C := C.spec_l2Right) (n := Try.f139.ntmps) tabT folT Try.func139 rfl (by kernel_rfl) rfl (Nat.le_of_ble_eq_true rfl) (by decide) (by kernel_rfl) (by kernel_rfl) rfl (by simp) (by simp) ?_
  simp only [Try.f139]
  refine wseq ?_
  refine wreg fun K hK => ?_
  simp [C.spec_l2Right, fS, tS]
  refine hK _ ?_; clear hK K
  show AWp _ _ _ _ _
  refine wseq ?_
  refine wseq ?_
  refine wregI ([0, 1, 2] ++ ([3, 4, 5, 6, 7, 8, 9])) rfl fun K hK => ?_
  have hJ : K ⟨ofL [(1, .pt (1, 0) [] 0), (15, .bool (decide (¬ (1 ≤ f.v ∧ f.v ≤ 8) ∨ 600 < (f.ts.length : Int))))], ofRO [((1, 0), some (.bx (fS f)))]⟩ := by
    refine hK _ ?_; clear hK K
    show AWp _ _ _ _ _
    refine wcond _ rfl (fun hc1 => ?_) (fun hc1 => ?_)
    · have hh := d_t hc1
      refine wseq ?_
      refine wreg fun K hK => ?_
      simp [C.spec_l2Right, fS, tS]
      refine hK _ ?_; clear hK K
      show AWp _ _ _ _ _
      refine wret ?_
      simp [C.spec_l2Right, fS, tS]
      intro hr; have := hr.1; have := hr.2.1; omega
    · have hh0 := d_f hc1
      have hh : (1 ≤ f.v ∧ f.v ≤ 8) ∧ f.ts.length ≤ 600 := by omega
      refine wskip ?_
      show AWp _ _ _ _ _
      refine wseq ?_
      refine wseq ?_
      refine wreg fun K hK => ?_
      simp [C.spec_l2Right, fS, tS]
      refine hK _ ?_; clear hK K
      show AWp _ _ _ _ _
      refine wblock ?_
      refine wloop (fun k : Nat => ⟨ofL [(1, .pt (1, 0) [] 0), (3, .int k)], ofRO [((1, 0), some (.bx (fS f)))]⟩) (fun k => k ≤ f.ts.length ∧ (∀ t ∈ f.ts.take k, Good f.v t) ∧ DescT (f.ts.take k)) (fun k => f.ts.length - k) 0 (by simp [C.spec_l2Right, fS]) (by simp [DescT]) ?_
      intro x1 hx1 R1 hR1
      obtain ⟨hk, hgood, hdesc⟩ := hx1
      refine wseq ?_
      refine wseq ?_
      refine wreg fun K hK => ?_
      simp [C.spec_l2Right, fS, tS]
      refine hK _ ?_; clear hK K
      show AWp _ _ _ _ _
      refine wcond _ rfl (fun hc2 => ?_) (fun hc2 => ?_)
      · have h1 : x1 < f.ts.length := by simpa using hc2
        refine wskip ?_
        show AWp _ _ _ _ _
        refine wseq ?_
        refine wblock ?_
        refine wseq ?_
        refine wreg fun K hK => ?_
        simp [C.spec_l2Right, fS, tS, h1, tS_0 h1, tS_1 h1]
        refine hK _ ?_; clear hK K
        show AWp _ _ _ _ _
        refine wseq ?_
        refine wseq ?_
        have hp : 0 < x1 → x1 - 1 < f.ts.length := by omega
        refine wdrawI [(true, 0), (true, 1), (true, 2), (true, 3), (true, 4), (true, 5), (true, 6), (true, 7), (true, 8), (true, 9), (true, 10), (true, 11), (true, 12), (true, 13), (false, 14), (true, 15), (true, 16), (true, 17), (true, 18), (true, 19), (true, 20), (true, 21), (true, 22), (true, 23), (true, 24), (true, 25), (true, 26), (true, 27), (true, 28), (true, 29), (false, 30), (true, 31), (true, 32), (true, 33)] ⟨by kernel_rfl, by kernel_rfl⟩ ([0, 1, 2, 3, 4, 5, 6, 7, 8, 9, 10, 11, 12, 13, 14] ++ ([15, 16, 17, 18, 19, 20, 21, 22, 23, 24, 25, 26, 27, 28, 29, 30] ++ ([31, 32, 33]))) rfl fun K hK => ?_
        have hJ : K ⟨ofL [(1, .pt (1, 0) [] 0), (3, .int x1), (4, .pt (4, 0) [] 0), (61, .bool (!decide ((f.ts[x1].e.length : Int) = f.v ∧ f.ts[x1].c ≠ 0 ∧ (-1000000 ≤ f.ts[x1].c ∧ f.ts[x1].c ≤ 1000000) ∧ (x1 = 0 ∨ lexlt f.ts[x1].e f.ts[x1 - 1].e = true))))], ofRO [((1, 0), some (.bx (fS f))), ((4, 0), some (.bx (tS f.ts[x1])))]⟩ := by
          refine hK _ ?_; clear hK K
          show AWp _ _ _ _ _
          refine wcond _ rfl (fun hc3 => ?_) (fun hc3 => ?_)
          · have hb := nd_t hc3
            refine wseq ?_
            refine wreg fun K hK => ?_
            simp [C.spec_l2Right, fS, tS]
            refine hK _ ?_; clear hK K
            show AWp _ _ _ _ _
            refine wret ?_
            simp [C.spec_l2Right, fS, tS]
            intro hr
            have hg := hr.2.2.1 _ (List.getElem_mem h1)
            exact hb ⟨hg.1, hg.2.1, hg.2.2.1, descT_next h1 hr.2.2.2⟩
          · have hb := nd_f hc3
            refine wskip ?_
            show AWp _ _ _ _ _
            refine wseq ?_
            refine wreg fun K hK => ?_
            simp [C.spec_l2Right, fS, tS]
            refine hK _ ?_; clear hK K
            show AWp _ _ _ _ _
            refine wblock ?_
            refine wloop (fun i : Nat => ⟨ofL [(1, .pt (1, 0) [] 0), (3, .int x1), (4, .pt (4, 0) [] 0), (5, .int i)], ofRO [((1, 0), some (.bx (fS f))), ((4, 0), some (.bx (tS f.ts[x1])))]⟩) (fun i => i ≤ f.ts[x1].e.length ∧ ∀ x ∈ f.ts[x1].e.take i, -20 ≤ x ∧ x ≤ 20) (fun i => f.ts[x1].e.length - i) 0 (by simp [C.spec_l2Right, fS, tS]) (by simp) ?_
            intro x2 hx2 R2 hR2
            obtain ⟨hi, hin⟩ := hx2
            refine wseq ?_
            refine wseq ?_
            refine wreg fun K hK => ?_
            simp [C.spec_l2Right, fS, tS]
            refine hK _ ?_; clear hK K
            show AWp _ _ _ _ _
            refine wcond _ rfl (fun hc4 => ?_) (fun hc4 => ?_)
            · have h2 : x2 < f.ts[x1].e.length := by have := d_t hc4; omega
              refine wskip ?_
              show AWp _ _ _ _ _
              refine wseq ?_
              refine wblock ?_
              refine wseq ?_
              refine wregI ([0, 1, 2, 3, 4, 5] ++ ([6])) rfl fun K hK => ?_
              refine opsI_seg fun L hL => ?_
              simp [C.spec_l2Right, fS, tS, h1, h2, get_ints]
              refine wcall1 (spec_l1In_calls f.ts[x1].e[x2] (-20) 20) (by simp) (by simp) ?_
              simp [C.spec_l2Right, fS, tS, h1, h2, get_ints]
              refine hL _ ?_; clear hL L
              refine opsI_end fun L hL => ?_
              simp [C.spec_l2Right, fS, tS, h1, h2, get_ints]
              refine hL _ ?_; clear hL L
              simp [C.spec_l2Right, fS, tS, h1, h2, get_ints]
              refine hK _ ?_; clear hK K
              show AWp _ _ _ _ _
              refine wcond _ rfl (fun hc5 => ?_) (fun hc5 => ?_)
              · have hb2 : ¬ (-20 ≤ f.ts[x1].e[x2] ∧ f.ts[x1].e[x2] ≤ 20) := by simp at hc5; omega
                refine wseq ?_
                refine wreg fun K hK => ?_
                simp [C.spec_l2Right, fS, tS]
                refine hK _ ?_; clear hK K
                show AWp _ _ _ _ _
                refine wret ?_
                simp [C.spec_l2Right, fS, tS]
                intro hr
                exact hb2 ((hr.2.2.1 _ (List.getElem_mem h1)).2.2.2 _ (List.getElem_mem h2))
              · have hb2 : -20 ≤ f.ts[x1].e[x2] ∧ f.ts[x1].e[x2] ≤ 20 := by simpa using hc5
                refine wskip ?_
                show AWp _ _ _ _ _
                refine wreg fun K hK => ?_
                simp [C.spec_l2Right, fS, tS, wrap_succ (show x2 < 4611686018427387904 by have := hxe _ (List.getElem_mem h1); omega)]
                refine hK _ ?_; clear hK K
                simp [C.spec_l2Right, fS, tS]
                refine hR2 (x2 + 1) ⟨h2, ?_⟩ (by omega)
                rw [List.take_succ_eq_append_getElem h2]
                intro x hx
                rcases List.mem_append.1 hx with hx | hx
                · exact hin x hx
                · simp only [List.mem_singleton] at hx
                  rw [hx]
                  exact hb2
            · have h2 : x2 = f.ts[x1].e.length := by have := d_f hc4; omega
              refine wexit ?_
              show AWp _ _ _ _ _
              refine wreg fun K hK => ?_
              simp [C.spec_l2Right, fS, tS, wrap_succ (show x1 < 4611686018427387904 by omega)]
              refine hK _ ?_; clear hK K
              simp [C.spec_l2Right, fS, tS]
              refine hR1 (x1 + 1) ⟨h1, ?_, descT_step h1 hdesc hb.2.2.2⟩ (by omega)
              rw [List.take_succ_eq_append_getElem h1]
              intro t ht
              rcases List.mem_append.1 ht with ht | ht
              · exact hgood t ht
              · simp only [List.mem_singleton] at ht
                rw [ht]
                refine ⟨hb.1, hb.2.1, hb.2.2.1, ?_⟩
                rw [h2, List.take_length] at hin
                exact hin
        clear hK
        by_cases ha : (f.ts[x1].e.length : Int) = f.v
        · by_cases hb : f.ts[x1].c = 0
          · refine opsI_seg fun L hL => ?_
            simp [C.spec_l2Right, fS, tS, ha, hb]
            refine hL _ ?_; clear hL L
            refine opsI_seg fun L hL => ?_
            simp [C.spec_l2Right, fS, tS, ha, hb]
            refine hL _ ?_; clear hL L
            refine opsI_end fun L hL => ?_
            simp [C.spec_l2Right, fS, tS, ha, hb]
            refine hL _ ?_; clear hL L
            simp [C.spec_l2Right, fS, tS, ha, hb]
            refine cast (congrArg K ?_) hJ
            simp [fS, tS, ha, hb]
          · by_cases hc : -1000000 ≤ f.ts[x1].c ∧ f.ts[x1].c ≤ 1000000
            · by_cases hd : 0 < x1
              · obtain ⟨m, rfl⟩ : ∃ m, x1 = m + 1 := ⟨x1 - 1, by omega⟩
                have hm : m < f.ts.length := by omega
                refine opsI_seg fun L hL => ?_
                simp [C.spec_l2Right, fS, tS, hm, tS_0 hm, wrap_nat (show m < 4611686018427387904 by omega), ha, hb, hc, hd]
                refine wcall1 (spec_l1In_calls f.ts[m + 1].c (-1000000) 1000000) (by simp) (by simp) ?_
                simp [C.spec_l2Right, fS, tS, hm, tS_0 hm, wrap_nat (show m < 4611686018427387904 by omega), ha, hb, hc, hd]
                refine hL _ ?_; clear hL L
                refine opsI_seg fun L hL => ?_
                simp [C.spec_l2Right, fS, tS, hm, tS_0 hm, wrap_nat (show m < 4611686018427387904 by omega), ha, hb, hc, hd]
                refine wcall1 (spec_l1Less_calls f.ts[m + 1].e f.ts[m].e (hxe _ (List.getElem_mem h1))) (by simp) (by simp) ?_
                simp [C.spec_l2Right, fS, tS, hm, tS_0 hm, wrap_nat (show m < 4611686018427387904 by omega), ha, hb, hc, hd]
                refine hL _ ?_; clear hL L
                refine opsI_end fun L hL => ?_
                simp [C.spec_l2Right, fS, tS, hm, tS_0 hm, wrap_nat (show m < 4611686018427387904 by omega), ha, hb, hc, hd]
                refine hL _ ?_; clear hL L
                simp [C.spec_l2Right, fS, tS, hm, tS_0 hm, wrap_nat (show m < 4611686018427387904 by omega), ha, hb, hc, hd]
                refine cast (congrArg K ?_) hJ
                simp [fS, tS, ha, hb, hc, hd]
              · obtain rfl : x1 = 0 := by omega
                refine opsI_seg fun L hL => ?_
                simp [C.spec_l2Right, fS, tS, ha, hb, hc, hd]
                refine wcall1 (spec_l1In_calls f.ts[0].c (-1000000) 1000000) (by simp) (by simp) ?_
                simp [C.spec_l2Right, fS, tS, ha, hb, hc, hd]
                refine hL _ ?_; clear hL L
                refine opsI_seg fun L hL => ?_
                simp [C.spec_l2Right, fS, tS, ha, hb, hc, hd]
                refine hL _ ?_; clear hL L
                refine opsI_end fun L hL => ?_
                simp [C.spec_l2Right, fS, tS, ha, hb, hc, hd]
                refine hL _ ?_; clear hL L
                simp [C.spec_l2Right, fS, tS, ha, hb, hc, hd]
                refine cast (congrArg K ?_) hJ
                simp [fS, tS, ha, hb, hc, hd]
            · refine opsI_seg fun L hL => ?_
              simp [C.spec_l2Right, fS, tS, ha, hb, hc]
              refine wcall1 (spec_l1In_calls f.ts[x1].c (-1000000) 1000000) (by simp) (by simp) ?_
              simp [C.spec_l2Right, fS, tS, ha, hb, hc]
              refine hL _ ?_; clear hL L
              refine opsI_seg fun L hL => ?_
              simp [C.spec_l2Right, fS, tS, ha, hb, hc]
              refine hL _ ?_; clear hL L
              refine opsI_end fun L hL => ?_
              simp [C.spec_l2Right, fS, tS, ha, hb, hc]
              refine hL _ ?_; clear hL L
              simp [C.spec_l2Right, fS, tS, ha, hb, hc]
              refine cast (congrArg K ?_) hJ
              simp [fS, tS, ha, hb, hc]
        · refine opsI_seg fun L hL => ?_
          simp [C.spec_l2Right, fS, tS, ha]
          refine hL _ ?_; clear hL L
          refine opsI_seg fun L hL => ?_
          simp [C.spec_l2Right, fS, tS, ha]
          refine hL _ ?_; clear hL L
          refine opsI_end fun L hL => ?_
          simp [C.spec_l2Right, fS, tS, ha]
          refine hL _ ?_; clear hL L
          simp [C.spec_l2Right, fS, tS, ha]
          refine cast (congrArg K ?_) hJ
          simp [fS, tS, ha]
      · have h2 : x1 = f.ts.length := by have := d_f hc2; omega
        refine wexit ?_
        show AWp _ _ _ _ _
        refine wseq ?_
        refine wreg fun K hK => ?_
        simp [C.spec_l2Right, fS, tS]
        refine hK _ ?_; clear hK K
        show AWp _ _ _ _ _
        refine wret ?_
        simp [C.spec_l2Right, fS, tS]
        rw [h2, List.take_length] at hgood hdesc
        exact ⟨hh.1, hh.2, hgood, hdesc⟩
  clear hK
  by_cases ha : 1 ≤ f.v ∧ f.v ≤ 8
  · refine opsI_seg fun L hL => ?_
    simp [C.spec_l2Right, fS, tS, ha]
    refine wcall1 (spec_l1In_calls f.v 1 8) (by simp) (by simp) ?_
    simp [C.spec_l2Right, fS, tS, ha]
    refine hL _ ?_; clear hL L
    refine opsI_end fun L hL => ?_
    simp [C.spec_l2Right, fS, tS, ha]
    refine hL _ ?_; clear hL L
    simp [C.spec_l2Right, fS, tS, ha]
    refine cast (congrArg K ?_) hJ
    simp [fS, tS, ha]
  · refine opsI_seg fun L hL => ?_
    simp [C.spec_l2Right, fS, tS, ha]
    refine wcall1 (spec_l1In_calls f.v 1 8) (by simp) (by simp) ?_
    simp [C.spec_l2Right, fS, tS, ha]
    refine hL _ ?_; clear hL L
    refine opsI_end fun L hL => ?_
    simp [C.spec_l2Right, fS, tS, ha]
    refine hL _ ?_; clear hL L
    simp [C.spec_l2Right, fS, tS, ha]
    refine cast (congrArg K ?_) hJ
    simp [fS, tS, ha]

theorem spec_l2Two_calls (f g : Lau) (hx : f.ts.length < 4611686018427387904) (hxe : ∀ t ∈ f.ts, t.e.length < 4611686018427387904) (hy : g.ts.length < 4611686018427387904) (hye : ∀ t ∈ g.ts, t.e.length < 4611686018427387904) : ACalls Try.prog F.spec_l2Two [aF f, aF g] [] true (fun outs res => outs = [] ∧ res = [.one (D.bool (decide (Right f ∧ Right g ∧ f.v = g.v)))]) := by
  refine ACalls.of_body (C := C.spec_l2Two) (n := Try.f117.ntmps) tabT folT Try.func117 rfl (by kernel_rfl) rfl (Nat.le_of_ble_eq_true rfl) (by decide) (by kernel_rfl) (by kernel_rfl) rfl (by simp) (by simp) ?_
  simp only [Try.f117]
  refine wseq ?_
  refine wreg fun K hK => ?_
  simp [C.spec_l2Two, fS]
  refine hK _ ?_; clear hK K
  show AWp _ _ _ _ _
  refine wseq ?_
  refine wregI ([0, 1] ++ ([2, 3, 4] ++ ([5, 6, 7, 8, 9, 10, 11, 12, 13]))) rfl fun K hK => ?_
  have hJ : K ⟨ofL [(4, .bool (decide (Right f ∧ Right g ∧ f.v = g.v)))], ofRO []⟩ := by
    refine hK _ ?_; clear hK K
    show AWp _ _ _ _ _
    refine wret ?_
    simp [C.spec_l2Two, fS]
  clear hK
  by_cases ha : Right f
  · by_cases hb : Right g
    · refine opsI_seg fun L hL => ?_
      simp [C.spec_l2Two, fS, ha, hb]
      refine wcall1 (spec_l2Right_calls f hx hxe) (by simp) (by simp) ?_
      simp [C.spec_l2Two, fS, ha, hb]
      refine hL _ ?_; clear hL L
      refine opsI_seg fun L hL => ?_
      simp [C.spec_l2Two, fS, ha, hb]
      refine wcall1 (spec_l2Right_calls g hy hye) (by simp) (by simp) ?_
      simp [C.spec_l2Two, fS, ha, hb]
      refine hL _ ?_; clear hL L
      refine opsI_end fun L hL => ?_
      simp [C.spec_l2Two, fS, ha, hb]
      refine hL _ ?_; clear hL L
      simp [C.spec_l2Two, fS, ha, hb]
      refine cast (congrArg K ?_) hJ
      simp [ibeq, fS, ha, hb]
    · refine opsI_seg fun L hL => ?_
      simp [C.spec_l2Two, fS, ha, hb]
      refine wcall1 (spec_l2Right_calls f hx hxe) (by simp) (by simp) ?_
      simp [C.spec_l2Two, fS, ha, hb]
      refine hL _ ?_; clear hL L
      refine opsI_seg fun L hL => ?_
      simp [C.spec_l2Two, fS, ha, hb]
      refine wcall1 (spec_l2Right_calls g hy hye) (by simp) (by simp) ?_
      simp [C.spec_l2Two, fS, ha, hb]
      refine hL _ ?_; clear hL L
      refine opsI_end fun L hL => ?_
      simp [C.spec_l2Two, fS, ha, hb]
      refine hL _ ?_; clear hL L
      simp [C.spec_l2Two, fS, ha, hb]
      refine cast (congrArg K ?_) hJ
      simp [ibeq, fS, ha, hb]
  · refine opsI_seg fun L hL => ?_
    simp [C.spec_l2Two, fS, ha]
    refine wcall1 (spec_l2Right_calls f hx hxe) (by simp) (by simp) ?_
    simp [C.spec_l2Two, fS, ha]
    refine hL _ ?_; clear hL L
    refine opsI_seg fun L hL => ?_
    simp [C.spec_l2Two, fS, ha]
    refine hL _ ?_; clear hL L
    refine opsI_end fun L hL => ?_
    simp [C.spec_l2Two, fS, ha]
    refine hL _ ?_; clear hL L
    simp [C.spec_l2Two, fS, ha]
    refine cast (congrArg K ?_) hJ
    simp [ibeq, fS, ha]

theorem spec_l2Key_calls (xs : List Int) (hd : Dig xs) (hl : xs.length ≤ 8) : ACalls Try.prog F.spec_l2Key [.d (shI xs)] [] true (fun outs res => outs = [] ∧ res = [.one (D.int (keyA 0 xs))]) := by
  refine ACalls.of_body (C := C.spec_l2Key) (n := Try.f157.ntmps) tabT folT Try.func157 rfl (by kernel_rfl) rfl (Nat.le_of_ble_eq_true rfl) (by decide) (by kernel_rfl) (by kernel_rfl) rfl (by simp) (by simp) ?_
  simp only [Try.f157]
  refine wseq ?_
  refine wreg fun K hK => ?_
  simp [C.spec_l2Key]
  refine hK _ ?_; clear hK K
  show AWp _ _ _ _ _
  refine wseq ?_
  refine wreg fun K hK => ?_
  simp [C.spec_l2Key]
  refine hK _ ?_; clear hK K
  show AWp _ _ _ _ _
  refine wseq ?_
  refine wseq ?_
  refine wreg fun K hK => ?_
  simp [C.spec_l2Key]
  refine hK _ ?_; clear hK K
  show AWp _ _ _ _ _
  refine wblock ?_
  refine wloop (fun x : Nat × Int => ⟨ofL [(0, .d (shI xs)), (3, .int x.2), (4, .int x.1)], ofRO []⟩) (fun x => x.1 ≤ xs.length ∧ x.2 = keyA 0 (xs.take x.1)) (fun x => xs.length - x.1) (0, 0) (by simp [C.spec_l2Key]) (by simp [keyA]) ?_
  intro x1 hx1 R1 hR1
  obtain ⟨j, k⟩ := x1
  obtain ⟨hj, hk⟩ := hx1
  dsimp only at hj hk ⊢
  refine wseq ?_
  refine wseq ?_
  refine wreg fun K hK => ?_
  simp [C.spec_l2Key]
  refine hK _ ?_; clear hK K
  show AWp _ _ _ _ _
  refine wcond _ rfl (fun hc1 => ?_) (fun hc1 => ?_)
  · have h1 : j < xs.length := d_t hc1 |> fun h => by omega
    have hb := keyA_key (a := xs.take j) (fun x hx => hd x (List.mem_of_mem_take hx)) (by simp; omega)
    rw [← hk] at hb
    have hx := hd _ (List.getElem_mem h1)
    refine wskip ?_
    show AWp _ _ _ _ _
    refine wseq ?_
    refine wblock ?_
    refine wreg fun K hK => ?_
    simp [C.spec_l2Key, get_ints, h1]
    rw [wrapOk (x := k * 128) (by omega) (by omega), wrapOk (x := k * 128 + xs[j]) (by omega) (by omega), wrapOk (x := k * 128 + xs[j] + 64) (by omega) (by omega)]
    refine hK _ ?_; clear hK K
    show AWp _ _ _ _ _
    refine wreg fun K hK => ?_
    simp [C.spec_l2Key, wrap_succ (show j < 4611686018427387904 by omega)]
    refine hK _ ?_; clear hK K
    simp [C.spec_l2Key]
    refine hR1 (j + 1, _) ⟨h1, ?_⟩ (by dsimp only; omega)
    dsimp only
    rw [List.take_succ_eq_append_getElem h1, keyA_append, ← hk]
    rfl
  · have h1 : j = xs.length := by have := d_f hc1; omega
    refine wexit ?_
    show AWp _ _ _ _ _
    refine wseq ?_
    refine wreg fun K hK => ?_
    simp [C.spec_l2Key]
    refine hK _ ?_; clear hK K
    show AWp _ _ _ _ _
    refine wret ?_
    simp [C.spec_l2Key]
    rw [hk, h1, List.take_length]

theorem spec_l2Base_calls (n : Nat) (hn : n ≤ 8) : ACalls Try.prog F.spec_l2Base [.int n] [] true (fun outs res => outs = [] ∧ res = [.one (D.int (keyA 0 (List.replicate n 0)))]) := by
  refine ACalls.of_body (C := C.spec_l2Base) (n := Try.f193.ntmps) tabT folT Try.func193 rfl (by kernel_rfl) rfl (Nat.le_of_ble_eq_true rfl) (by decide) (by kernel_rfl) (by kernel_rfl) rfl (by simp) (by simp) ?_
  simp only [Try.f193]
  refine wseq ?_
  refine wreg fun K hK => ?_
  simp [C.spec_l2Base]
  refine hK _ ?_; clear hK K
  show AWp _ _ _ _ _
  refine wseq ?_
  refine wregI ([0, 1, 2] ++ ([3])) rfl fun K hK => ?_
  refine opsI_seg fun L hL => ?_
  simp [C.spec_l2Base, zeros_ints, show (8 : Int) * n ≤ 281474976710656 by omega, show (n : Int) ≤ 281474976710656 by omega]
  refine wcall1 (spec_l2Key_calls (List.replicate n 0) (fun x hx => by have := List.eq_of_mem_replicate hx; omega) (by simpa using hn)) (by simp) (by simp) ?_
  simp [C.spec_l2Base, zeros_ints, show (8 : Int) * n ≤ 281474976710656 by omega, show (n : Int) ≤ 281474976710656 by omega]
  refine hL _ ?_; clear hL L
  refine opsI_end fun L hL => ?_
  simp [C.spec_l2Base, zeros_ints, show (8 : Int) * n ≤ 281474976710656 by omega, show (n : Int) ≤ 281474976710656 by omega]
  refine hL _ ?_; clear hL L
  simp [C.spec_l2Base, zeros_ints, show (8 : Int) * n ≤ 281474976710656 by omega, show (n : Int) ≤ 281474976710656 by omega]
  refine hK _ ?_; clear hK K
  show AWp _ _ _ _ _
  refine wret ?_
  simp [C.spec_l2Base]

theorem spec_l2Exp_calls (e : List Int) (hd : Dig e) (hl : e.length ≤ 8) : ACalls Try.prog F.spec_l2Exp [.int (keyA 0 e), .int e.length] [] true (fun outs res => outs = [] ∧ res = [.one (owI e)]) := by
  refine ACalls.of_body (C := C.spec_l2Exp) (n := Try.f197.ntmps) tabT folT Try.func197 rfl (by kernel_rfl) rfl (Nat.le_of_ble_eq_true rfl) (by decide) (by kernel_rfl) (by kernel_rfl) rfl (by simp) (by simp) ?_
  simp only [Try.f197]
  refine wseq ?_
  refine wreg fun K hK => ?_
  simp [C.spec_l2Exp]
  refine hK _ ?_; clear hK K
  show AWp _ _ _ _ _
  refine wseq ?_
  refine wreg fun K hK => ?_
  simp [C.spec_l2Exp, zeros_ints, show (8 : Int) * e.length ≤ 281474976710656 by omega, show (e.length : Int) ≤ 281474976710656 by omega]
  refine hK _ ?_; clear hK K
  show AWp _ _ _ _ _
  refine wseq ?_
  refine wseq ?_
  refine wreg fun K hK => ?_
  simp [C.spec_l2Exp]
  rw [wrapOk (x := (e.length : Int) - 1) (by omega) (by omega)]
  refine hK _ ?_; clear hK K
  show AWp _ _ _ _ _
  refine wblock ?_
  refine wloop (fun x : Nat × Int × List Int => ⟨ofL [(0, .int x.2.1), (5, .al (5, 0) [] 0 e.length), (6, .int ((x.1 : Int) - 1))], ofRO [((5, 0), some (.ow 1 e.length (ints x.2.2)))]⟩) (fun x => x.1 ≤ e.length ∧ x.2.1 = keyA 0 (e.take x.1) ∧ x.2.2.length = e.length ∧ x.2.2.drop x.1 = e.drop x.1) (fun x => x.1) (e.length, keyA 0 e, List.replicate e.length 0) (by simp [C.spec_l2Exp]) (by simp) ?_
  intro x1 hx1 R1 hR1
  obtain ⟨j, k, gs⟩ := x1
  obtain ⟨hj, hk, hg, he⟩ := hx1
  dsimp only at hj hk hg he ⊢
  refine wseq ?_
  refine wseq ?_
  refine wreg fun K hK => ?_
  simp [C.spec_l2Exp]
  refine hK _ ?_; clear hK K
  show AWp _ _ _ _ _
  refine wcond _ rfl (fun hc1 => ?_) (fun hc1 => ?_)
  · obtain ⟨m, rfl⟩ : ∃ m, j = m + 1 := ⟨j - 1, by have := d_t hc1; omega⟩
    have h1 : m < e.length := by omega
    have hq : Dig (e.take m) := fun x hx => hd x (List.mem_of_mem_take hx)
    have hdec := keyA_dec (a := e.take m) (x := e[m]) (p := 0) hq (hd _ (List.getElem_mem h1)) (by omega)
    rw [← List.take_succ_eq_append_getElem h1, ← hk] at hdec
    have hkb := keyA_key (a := e.take (m + 1)) (fun x hx => hd x (List.mem_of_mem_take hx)) (by simp; omega)
    rw [← hk] at hkb
    have hkb2 := keyA_key (a := e.take m) hq (by simp; omega)
    have hx := hd _ (List.getElem_mem h1)
    refine wskip ?_
    show AWp _ _ _ _ _
    refine wseq ?_
    refine wblock ?_
    refine wseq ?_
    refine wreg fun K hK => ?_
    simp [C.spec_l2Exp, h1, hg]
    rw [hdec.1, wrapOk (x := e[m]) (by omega) (by omega)]
    refine hK _ ?_; clear hK K
    show AWp _ _ _ _ _
    refine wreg fun K hK => ?_
    simp [C.spec_l2Exp]
    rw [hdec.2, wrapOk (x := keyA 0 (e.take m)) (by omega) (by omega)]
    refine hK _ ?_; clear hK K
    show AWp _ _ _ _ _
    refine wreg fun K hK => ?_
    simp [C.spec_l2Exp]
    rw [wrapOk (x := (m : Int) - 1) (by omega) (by omega)]
    refine hK _ ?_; clear hK K
    simp [C.spec_l2Exp]
    refine hR1 (m, _, _) ⟨by dsimp only; omega, rfl, by simpa using hg, ?_⟩ (by dsimp only; omega)
    dsimp only
    rw [List.drop_eq_getElem_cons h1, List.drop_eq_getElem_cons (by simp; omega), List.drop_set_of_lt (by omega), he]
    simp
  · have hj0 : j = 0 := by have := d_f hc1; omega
    refine wexit ?_
    show AWp _ _ _ _ _
    refine wseq ?_
    refine wreg fun K hK => ?_
    simp [C.spec_l2Exp]
    refine hK _ ?_; clear hK K
    show AWp _ _ _ _ _
    refine wret ?_
    simp [C.spec_l2Exp]
    rw [hj0, List.drop_zero, List.drop_zero] at he
    rw [he]

end Go.Proofs.Ytdgeponcnlkaiaa.Ab
namespace Go.Proofs.Ytdgeponcnlkaiaa.Ab
open Go
set_option linter.unusedSimpArgs false
set_option linter.unusedVariables false
set_option maxRecDepth 10000
set_option maxHeartbeats 2000000
theorem gM_one (k c : Int) : [D.v (.int .i64 k), D.v (.int .i64 c)] = rows gM [(k, c)] := rfl
def kt (t : Trm) : Int × Int := (keyA 0 t.e, t.c)
theorem spec_l2Open_calls (f : Lau) (hl : f.ts.length ≤ 1000000) (he : ∀ t ∈ f.ts, Dig t.e ∧ t.e.length ≤ 8) : ACalls Try.prog F.spec_l2Open [aF f] [] true (fun outs res => outs = [] ∧ res = [.one (.ow 2 f.ts.length (rows gM (f.ts.map kt)))]) := by
  refine ACalls.of_body (C := C.spec_l2Open) (n := Try.f194.ntmps) tabT folT Try.func194 rfl (by kernel_rfl) rfl (Nat.le_of_ble_eq_true rfl) (by decide) (by kernel_rfl) (by kernel_rfl) rfl (by simp) (by simp) ?_
  simp only [Try.f194]
  refine wseq ?_
  refine wreg fun K hK => ?_
  simp [C.spec_l2Open, fS]
  refine hK _ ?_; clear hK K
  show AWp _ _ _ _ _
  refine wseq ?_
  refine wreg fun K hK => ?_
  simp [C.spec_l2Open, fS]
  refine hK _ ?_; clear hK K
  show AWp _ _ _ _ _
  refine wseq ?_
  refine wseq ?_
  refine wreg fun K hK => ?_
  simp [C.spec_l2Open, fS]
  refine hK _ ?_; clear hK K
  show AWp _ _ _ _ _
  refine wblock ?_
  refine wloop (fun x : Nat × List (Int × Int) => ⟨ofL [(1, .pt (1, 0) [] 0), (3, .al (3, 0) [] 0 x.1), (4, .int x.1)], ofRO [((1, 0), some (.bx (fS f))), ((3, 0), some (.ow 2 x.1 (rows gM x.2)))]⟩) (fun x => x.1 ≤ f.ts.length ∧ x.2 = (f.ts.take x.1).map kt) (fun x => f.ts.length - x.1) (0, []) (by simp [C.spec_l2Open, fS, rows]) (by simp) ?_
  intro x1 hx1 R1 hR1
  obtain ⟨j, gs⟩ := x1
  obtain ⟨hj, hg⟩ := hx1
  dsimp only at hj hg ⊢
  refine wseq ?_
  refine wseq ?_
  refine wreg fun K hK => ?_
  simp [C.spec_l2Open, fS]
  refine hK _ ?_; clear hK K
  show AWp _ _ _ _ _
  refine wcond _ rfl (fun hc1 => ?_) (fun hc1 => ?_)
  · have h1 : j < f.ts.length := by have := d_t hc1; omega
    have hgl : gs.length = j := by rw [hg]; simp; omega
    refine wskip ?_
    show AWp _ _ _ _ _
    refine wseq ?_
    refine wblock ?_
    refine wdrawI [(true, 0), (true, 1), (true, 2), (true, 3), (true, 4), (true, 5), (true, 6), (true, 8), (true, 9), (true, 10), (true, 11), (true, 12), (true, 13), (false, 7), (true, 14), (false, 15), (false, 16), (true, 17)] ⟨by kernel_rfl, by kernel_rfl⟩ ([0, 1, 2, 3, 4, 5, 6, 8, 9, 10, 11, 12, 13, 7] ++ ([14, 15, 16, 17])) rfl fun K hK => ?_
    refine opsI_seg fun L hL => ?_
    simp [C.spec_l2Open, fS, h1, tS_0 h1, tS_1 h1, gM_snoc, show (j + 1) * 16 ≤ 140737488355328 by omega]
    refine wcall1 (spec_l2Key_calls f.ts[j].e (he _ (List.getElem_mem h1)).1 (he _ (List.getElem_mem h1)).2) (by simp) (by simp) ?_
    simp [C.spec_l2Open, fS, h1, tS_0 h1, tS_1 h1, gM_snoc, show (j + 1) * 16 ≤ 140737488355328 by omega]
    refine hL _ ?_; clear hL L
    refine opsI_end fun L hL => ?_
    simp [C.spec_l2Open, fS, h1, tS_0 h1, tS_1 h1, gM_snoc, show (j + 1) * 16 ≤ 140737488355328 by omega]
    refine hL _ ?_; clear hL L
    simp [C.spec_l2Open, fS, h1, tS_0 h1, tS_1 h1, gM_snoc, show (j + 1) * 16 ≤ 140737488355328 by omega]
    refine hK _ ?_; clear hK K
    show AWp _ _ _ _ _
    refine wreg fun K hK => ?_
    simp [C.spec_l2Open, fS, wrap_succ (show j < 4611686018427387904 by omega)]
    refine hK _ ?_; clear hK K
    simp [C.spec_l2Open, fS]
    refine hR1 (j + 1, _) ⟨h1, ?_⟩ (by dsimp only; omega)
    dsimp only
    rw [hg, List.take_succ_eq_append_getElem h1, List.map_append]
    rfl
  · have h1 : j = f.ts.length := by have := d_f hc1; omega
    refine wexit ?_
    show AWp _ _ _ _ _
    refine wseq ?_
    refine wreg fun K hK => ?_
    simp [C.spec_l2Open, fS]
    refine hK _ ?_; clear hK K
    show AWp _ _ _ _ _
    refine wret ?_
    simp [C.spec_l2Open, fS, hg, h1]

theorem spec_l2Shut_calls (ts : List Trm) (v : Nat) (hl : ts.length ≤ 1000000) (he : ∀ t ∈ ts, Dig t.e ∧ t.e.length = v) (hv : v ≤ 8) : ACalls Try.prog F.spec_l2Shut [.d (.sh 2 ts.length (rows gM (ts.map kt))), .int v] [] true (fun outs res => outs = [] ∧ WkRs res [.ag (fO (if Right ⟨v, ts⟩ then ⟨v, ts⟩ else zeroF)), .one (D.bool (decide (Right ⟨v, ts⟩)))]) := by
  refine ACalls.of_body (C := C.spec_l2Shut) (n := Try.f158.ntmps) tabT folT Try.func158 rfl (by kernel_rfl) rfl (Nat.le_of_ble_eq_true rfl) (by decide) (by kernel_rfl) (by kernel_rfl) rfl (by simp) (by simp) ?_
  simp only [Try.f158]
  refine wseq ?_
  refine wreg fun K hK => ?_
  simp [C.spec_l2Shut]
  refine hK _ ?_; clear hK K
  show AWp _ _ _ _ _
  refine wseq ?_
  refine wseq ?_
  refine wreg fun K hK => ?_
  simp [C.spec_l2Shut]
  refine hK _ ?_; clear hK K
  show AWp _ _ _ _ _
  refine wcond _ rfl (fun hc1 => ?_) (fun hc1 => ?_)
  · have hc := d_t hc1
    have hr : ¬ Right ⟨v, ts⟩ := fun h => by have := h.2.1; dsimp only at this; omega
    refine wseq ?_
    refine wreg fun K hK => ?_
    simp [C.spec_l2Shut]
    refine hK _ ?_; clear hK K
    show AWp _ _ _ _ _
    refine wret ?_
    simp [C.spec_l2Shut, hr, fO, zeroF, rows]
  · have hc := d_f hc1
    refine wskip ?_
    show AWp _ _ _ _ _
    refine wseq ?_
    refine wreg fun K hK => ?_
    simp [C.spec_l2Shut]
    refine hK _ ?_; clear hK K
    show AWp _ _ _ _ _
    refine wseq ?_
    refine wseq ?_
    refine wreg fun K hK => ?_
    simp [C.spec_l2Shut]
    refine hK _ ?_; clear hK K
    show AWp _ _ _ _ _
    refine wblock ?_
    refine wloop (fun x : Nat × List Trm => ⟨ofL [(0, .d (.sh 2 ts.length (rows gM (ts.map kt)))), (1, .int v), (4, .pt (4, 0) [] 0), (6, .pt (6, 0) [] 0), (7, .int x.1)], ofRO [((4, 0), some (.bx [D.int 0, .v (.slice none 0 0)])), ((6, 0), some (.bx [D.int v, .ow 2 x.1 (rows tO x.2)]))]⟩) (fun x => x.1 ≤ ts.length ∧ x.2 = ts.take x.1) (fun x => ts.length - x.1) (0, []) (by simp [C.spec_l2Shut, rows]) (by simp) ?_
    intro x1 hx1 R1 hR1
    obtain ⟨j, gs⟩ := x1
    obtain ⟨hj, hg⟩ := hx1
    dsimp only at hj hg ⊢
    refine wseq ?_
    refine wseq ?_
    refine wreg fun K hK => ?_
    simp [C.spec_l2Shut]
    refine hK _ ?_; clear hK K
    show AWp _ _ _ _ _
    refine wcond _ rfl (fun hc2 => ?_) (fun hc2 => ?_)
    · have h1 : j < ts.length := by have := d_t hc2; omega
      have hgl : gs.length = j := by rw [hg]; simp; omega
      have h2 : j < (ts.map kt).length := by simpa using h1
      have hkt : (ts.map kt)[j] = (keyA 0 ts[j].e, ts[j].c) := by simp [kt]
      have hel := (he _ (List.getElem_mem h1)).2
      refine wskip ?_
      show AWp _ _ _ _ _
      refine wseq ?_
      refine wblock ?_
      refine wdrawI [(true, 0), (true, 1), (true, 2), (true, 3), (true, 4), (true, 5), (true, 6), (true, 7), (true, 9), (true, 10), (true, 11), (true, 12), (true, 13), (false, 8), (true, 14), (false, 15), (false, 16), (true, 17), (false, 18)] ⟨by kernel_rfl, by kernel_rfl⟩ ([0, 1, 2, 3, 4, 5, 6, 7, 9, 10, 11, 12, 13, 8] ++ ([14, 15, 16, 17, 18])) rfl fun K hK => ?_
      refine opsI_seg fun L hL => ?_
      simp [C.spec_l2Shut, h1, h2, hkt, gM_0 h2, gM_1 h2, show (j + 1) * 32 ≤ 140737488355328 by omega]
      refine wcall1 (spec_l2Exp_calls ts[j].e (he _ (List.getElem_mem h1)).1 (by omega)) (by simp; omega) (by simp) ?_
      simp [C.spec_l2Shut, h1, h2, hkt, gM_0 h2, gM_1 h2, show (j + 1) * 32 ≤ 140737488355328 by omega]
      refine hL _ ?_; clear hL L
      refine opsI_end fun L hL => ?_
      simp [C.spec_l2Shut, h1, h2, hkt, gM_0 h2, gM_1 h2, show (j + 1) * 32 ≤ 140737488355328 by omega]
      refine hL _ ?_; clear hL L
      simp [C.spec_l2Shut, h1, h2, hkt, gM_0 h2, gM_1 h2, show (j + 1) * 32 ≤ 140737488355328 by omega]
      refine hK _ ?_; clear hK K
      show AWp _ _ _ _ _
      refine wreg fun K hK => ?_
      simp [C.spec_l2Shut, wrap_succ (show j < 4611686018427387904 by omega)]
      refine hK _ ?_; clear hK K
      simp [C.spec_l2Shut]
      rw [tO_snoc]
      refine hR1 (j + 1, _) ⟨h1, ?_⟩ (by dsimp only; omega)
      dsimp only
      rw [hg, List.take_succ_eq_append_getElem h1]
    · have h1 : j = ts.length := by have := d_f hc2; omega
      obtain rfl : gs = ts := by rw [hg, h1, List.take_length]
      subst h1
      refine wexit ?_
      show AWp _ _ _ _ _
      refine wseq ?_
      refine wseq ?_
      refine wregI ([0, 1] ++ ([2])) rfl fun K hK => ?_
      refine opsI_seg fun L hL => ?_
      simp [C.spec_l2Shut]
      refine wcall1 (spec_l2Right_calls ⟨v, gs⟩ (by dsimp only; omega) (fun t ht => by have := (he t ht).2; omega)) (by simp) (by simp) ?_
      simp [C.spec_l2Shut]
      refine hL _ ?_; clear hL L
      refine opsI_end fun L hL => ?_
      simp [C.spec_l2Shut]
      refine hL _ ?_; clear hL L
      simp [C.spec_l2Shut]
      refine hK _ ?_; clear hK K
      show AWp _ _ _ _ _
      refine wcond _ rfl (fun hc3 => ?_) (fun hc3 => ?_)
      · have hr := nd_t hc3
        refine wseq ?_
        refine wreg fun K hK => ?_
        simp [C.spec_l2Shut]
        refine hK _ ?_; clear hK K
        show AWp _ _ _ _ _
        refine wret ?_
        simp [C.spec_l2Shut, hr, fO, zeroF, rows]
      · have hr := nd_f hc3
        refine wskip ?_
        show AWp _ _ _ _ _
        refine wseq ?_
        refine wreg fun K hK => ?_
        simp [C.spec_l2Shut]
        refine hK _ ?_; clear hK K
        show AWp _ _ _ _ _
        refine wret ?_
        simp [C.spec_l2Shut, hr, fO]
theorem l2Shut_calls (ts : List Trm) (v : Nat) (hl : ts.length ≤ 1000000) (he : ∀ t ∈ ts, Dig t.e ∧ t.e.length = v) (hv : v ≤ 8) : ACalls Try.prog F.spec_l2Shut [.d (.sh 2 ts.length (rows gM (ts.map kt))), .int v] [] true (fun outs res => outs = [] ∧ res = [.ag (fO (if Right ⟨v, ts⟩ then ⟨v, ts⟩ else zeroF)), .one (D.bool (decide (Right ⟨v, ts⟩)))]) := (spec_l2Shut_calls ts v hl he hv).weak1

end Go.Proofs.Ytdgeponcnlkaiaa.Ab
namespace Go.Proofs.Ytdgeponcnlkaiaa.Ab
open Go
set_option linter.unusedSimpArgs false
set_option linter.unusedVariables false
set_option linter.unusedSectionVars false

section
variable {α : Type} {le : α → α → Bool}
def Runs (le : α → α → Bool) (n : Nat) (l : List α) : Prop := ∀ k, ((l.drop (n * k)).take n).Pairwise fun a b => le a b = true
theorem runs_one (l : List α) : Runs le 1 l := fun k => by
  rcases (l.drop (1 * k)) with _ | ⟨x, r⟩
  · simp
  · simp
theorem runs_all {n : Nat} {l : List α} (h : Runs le n l) (hl : l.length ≤ n) : l.Pairwise fun a b => le a b = true := by
  have := h 0
  rw [Nat.mul_zero, List.drop_zero, List.take_of_length_le hl] at this
  exact this
theorem runs_snoc {b k : Nat} {n0 s : List α} (h : Runs le b n0) (hl : n0.length = b * k) (hs : s.Pairwise fun a b => le a b = true) (hsl : s.length ≤ b) : Runs le b (n0 ++ s) := fun j => by
  rcases Nat.lt_trichotomy j k with hj | hj | hj
  · have h1 : b * j + b ≤ n0.length := by
      rw [hl, ← Nat.mul_succ]
      exact Nat.mul_le_mul_left b hj
    rw [List.drop_append_of_le_length (by omega), List.take_append_of_le_length (by rw [List.length_drop]; omega)]
    exact h j
  · subst hj
    rw [← hl, List.drop_left, List.take_of_length_le hsl]
    exact hs
  · have h1 : n0.length + s.length ≤ b * j := by
      have : b * (k + 1) ≤ b * j := Nat.mul_le_mul_left b hj
      rw [Nat.mul_succ] at this
      omega
    rw [List.drop_of_length_le (by simp; omega)]
    simp
end

def kle (x y : Int × Int) : Bool := decide (y.1 ≤ x.1)
theorem kle_trans (a b c : Int × Int) (h1 : kle a b = true) (h2 : kle b c = true) : kle a c = true := by
  simp only [kle, decide_eq_true_eq] at *
  omega
theorem kle_total (a b : Int × Int) : (kle a b || kle b a) = true := by
  simp only [kle, Bool.or_eq_true, decide_eq_true_eq]
  omega
theorem mrg_nil_left {α : Type} (le : α → α → Bool) (ys : List α) : List.merge [] ys le = ys := by simp
theorem mrg_nil_right {α : Type} (le : α → α → Bool) (xs : List α) : List.merge xs [] le = xs := by simp
theorem mrg_cons {α : Type} (le : α → α → Bool) (x y : α) (xs ys : List α) : List.merge (x :: xs) (y :: ys) le = if le x y then x :: List.merge xs (y :: ys) le else y :: List.merge (x :: xs) ys le := by
  rw [List.merge]
theorem mrg_sorted {xs ys : List (Int × Int)} (h1 : xs.Pairwise fun a b => kle a b = true) (h2 : ys.Pairwise fun a b => kle a b = true) : (List.merge xs ys kle).Pairwise fun a b => kle a b = true :=
  List.pairwise_merge kle_trans kle_total xs ys h1 h2
theorem mrg_perm (xs ys : List (Int × Int)) : (List.merge xs ys kle).Perm (xs ++ ys) := List.merge_perm_append kle

/-! ### Terms of one key -/
def addLast (left : List (Int × Int)) (x : Int × Int) : List (Int × Int) :=
  match left.getLast? with
  | some z => if z.1 = x.1 then left.dropLast ++ [(z.1, z.2 + x.2)] else left ++ [x]
  | none => [x]
def cutLast (l : List (Int × Int)) : List (Int × Int) :=
  match l.getLast? with
  | some z => if z.2 = 0 then l.dropLast else l
  | none => l
def combR (left : List (Int × Int)) : List (Int × Int) → List (Int × Int)
  | [] => left
  | x :: r => combR (if r.head?.map (·.1) = some x.1 then addLast left x else cutLast (addLast left x)) r
theorem co_pair (q : Int) (x : Int × Int) : co q [x] = if x.1 = q then x.2 else 0 := by simp [co]
theorem addLast_co (q : Int) (left : List (Int × Int)) (x : Int × Int) : co q (addLast left x) = co q left + co q [x] := by
  rcases List.eq_nil_or_concat left with rfl | ⟨l, z, rfl⟩
  · simp [addLast, co]
  · simp only [addLast, List.concat_eq_append, List.getLast?_append, List.getLast?_singleton, Option.some_or, List.dropLast_concat]
    split
    · rename_i e
      rw [co_append, co_append, co_pair, co_pair, co_pair]
      simp only
      rw [e]
      split <;> omega
    · rw [co_append (l := l ++ [z])]
theorem cutLast_co (q : Int) (l : List (Int × Int)) : co q (cutLast l) = co q l := by
  rcases List.eq_nil_or_concat l with rfl | ⟨l, z, rfl⟩
  · simp [cutLast]
  · simp only [cutLast, List.concat_eq_append, List.getLast?_append, List.getLast?_singleton, Option.some_or, List.dropLast_concat]
    split
    · rename_i e
      rw [co_append, co_pair, e]
      simp
    · rfl
theorem combR_co (q : Int) : ∀ (r left : List (Int × Int)), co q (combR left r) = co q left + co q r
  | [], left => by simp [combR, co]
  | x :: r, left => by
    simp only [combR]
    rw [combR_co q r]
    have hx : co q (x :: r) = co q [x] + co q r := by simp [co]
    split
    · rw [addLast_co, hx, Int.add_assoc]
    · rw [cutLast_co, addLast_co, hx, Int.add_assoc]
theorem desc_snoc {l : List (Int × Int)} {x : Int × Int} (h : Desc ilt l) (hx : ∀ y ∈ l, x.1 < y.1) : Desc ilt (l ++ [x]) := by
  unfold Desc at *
  rw [List.pairwise_append]
  refine ⟨h, List.pairwise_singleton _ _, fun a ha b hb => ?_⟩
  simp only [List.mem_singleton] at hb
  subst hb
  simpa [ilt] using hx a ha
/-- closed: no zero, all that comes is less. open: the last one has the key that comes. -/
def CombP (left r : List (Int × Int)) : Prop :=
  Desc ilt left ∧ ((Nz left ∧ ∀ x ∈ left, ∀ y ∈ r, y.1 < x.1) ∨
    ∃ l z x r', left = l ++ [z] ∧ r = x :: r' ∧ z.1 = x.1 ∧ Nz l ∧ ∀ a ∈ l, ∀ y ∈ r, y.1 < a.1)
theorem combR_spec : ∀ (r left : List (Int × Int)), (r.Pairwise fun a b => kle a b = true) → CombP left r → Desc ilt (combR left r) ∧ Nz (combR left r)
  | [], left, _, h => by
    refine ⟨h.1, ?_⟩
    rcases h.2 with h2 | ⟨l, z, x, r', _, e, _⟩
    · exact h2.1
    · simp at e
  | x :: r, left, hs, h => by
    have hs1 := List.pairwise_cons.1 hs
    have hle : ∀ y ∈ r, y.1 ≤ x.1 := fun y hy => by simpa [kle] using hs1.1 y hy
    -- the list behind addLast ends in the key of x
    have key : ∃ l z, addLast left x = l ++ [z] ∧ z.1 = x.1 ∧ Nz l ∧ Desc ilt (l ++ [z]) ∧ ∀ a ∈ l, x.1 < a.1 := by
      rcases h.2 with ⟨h1, h2⟩ | ⟨l, z, x', r', e1, e2, e3, h1, h2⟩
      · refine ⟨left, x, ?_, rfl, h1, desc_snoc h.1 fun y hy => h2 y hy x (by simp), fun a ha => h2 a ha x (by simp)⟩
        unfold addLast
        split
        · rename_i z hz
          have hm := List.mem_of_getLast? hz
          have := h2 z hm x (by simp)
          rw [if_neg (by omega)]
        · rename_i hz
          have : left = [] := by simpa using hz
          simp [this]
      · injection e2 with e2 e4
        subst e2; subst e1
        refine ⟨l, (z.1, z.2 + x.2), ?_, e3, h1, ?_, fun a ha => h2 a ha x (by simp)⟩
        · simp [addLast, e3]
        · refine desc_snoc ?_ fun y hy => ?_
          · have := h.1
            unfold Desc at this ⊢
            rw [List.pairwise_append] at this
            exact this.1
          · have := h2 y hy x (by simp)
            simp only
            omega
    obtain ⟨l, z, e, ez, hn, hd, hlt⟩ := key
    simp only [combR]
    split
    · rename_i hh
      rw [e]
      refine combR_spec r _ hs1.2 ⟨hd, .inr ?_⟩
      cases r with
      | nil => simp at hh
      | cons y r =>
        simp only [List.head?_cons, Option.map_some, Option.some.injEq] at hh
        exact ⟨l, z, y, r, rfl, rfl, by rw [ez, hh], hn, fun a ha w hw => by have := hlt a ha; have := hle w hw; omega⟩
    · rename_i hh
      have hr : ∀ y ∈ r, y.1 < x.1 := by
        cases r with
        | nil => intro y hy; simp at hy
        | cons y r =>
          simp only [List.head?_cons, Option.map_some, Option.some.injEq] at hh
          have h3 := (List.pairwise_cons.1 hs1.2).1
          have h4 := hle y (by simp)
          intro w hw
          rcases List.mem_cons.1 hw with rfl | hw
          · omega
          · have : w.1 ≤ y.1 := by simpa [kle] using h3 w hw
            omega
      rw [e]
      have hc : cutLast (l ++ [z]) = if z.2 = 0 then l else l ++ [z] := by simp [cutLast]
      rw [hc]
      split
      · refine combR_spec r _ hs1.2 ⟨?_, .inl ⟨hn, fun a ha y hy => by have := hlt a ha; have := hr y hy; omega⟩⟩
        unfold Desc at hd ⊢
        rw [List.pairwise_append] at hd
        exact hd.1
      · rename_i hz
        refine combR_spec r _ hs1.2 ⟨hd, .inl ⟨fun a ha => ?_, fun a ha y hy => ?_⟩⟩
        · rcases List.mem_append.1 ha with ha | ha
          · exact hn a ha
          · simp only [List.mem_singleton] at ha
            rw [ha]; exact hz
        · rcases List.mem_append.1 ha with ha | ha
          · have := hlt a ha; have := hr y hy; omega
          · simp only [List.mem_singleton] at ha
            rw [ha, ez]
            exact hr y hy
/-- **Sorted terms, put together, are the sum's descending list.** -/
theorem combR_nf {out l : List (Int × Int)} (hp : out.Perm l) (hs : out.Pairwise fun a b => kle a b = true) : combR [] out = nf ilt l := by
  obtain ⟨h1, h2⟩ := combR_spec out [] hs ⟨List.Pairwise.nil, .inl ⟨by intro x hx; simp at hx, by simp⟩⟩
  refine nf_unique ilt_ord h1 h2 fun k => ?_
  rw [combR_co, co_perm k hp]
  simp [co]

/-! ### How great the numbers are -/
def absL (l : List (Int × Int)) : Nat := (l.map fun x => x.2.natAbs).sum
theorem absL_append (l r : List (Int × Int)) : absL (l ++ r) = absL l + absL r := by simp [absL]
theorem absL_perm {l r : List (Int × Int)} (h : l.Perm r) : absL l = absL r := (h.map _).sum_nat
theorem absL_mem {l : List (Int × Int)} {x : Int × Int} (h : x ∈ l) : x.2.natAbs ≤ absL l := by
  induction l with
  | nil => simp at h
  | cons y l ih =>
    simp only [absL, List.map_cons, List.sum_cons]
    rcases List.mem_cons.1 h with rfl | h
    · omega
    · have := ih h
      unfold absL at this
      omega
theorem absL_addLast (left : List (Int × Int)) (x : Int × Int) : absL (addLast left x) ≤ absL left + x.2.natAbs := by
  rcases List.eq_nil_or_concat left with rfl | ⟨l, z, rfl⟩
  · simp [addLast, absL]
  · simp only [addLast, List.concat_eq_append, List.getLast?_append, List.getLast?_singleton, Option.some_or, List.dropLast_concat]
    split
    · rw [absL_append, absL_append]
      simp only [absL, List.map_cons, List.map_nil, List.sum_cons, List.sum_nil]
      omega
    · rw [absL_append]
      simp [absL]
theorem absL_cutLast (l : List (Int × Int)) : absL (cutLast l) ≤ absL l := by
  rcases List.eq_nil_or_concat l with rfl | ⟨l, z, rfl⟩
  · simp [cutLast]
  · simp only [cutLast, List.concat_eq_append, List.getLast?_append, List.getLast?_singleton, Option.some_or, List.dropLast_concat]
    split
    · rw [absL_append]; omega
    · exact Nat.le_refl _

end Go.Proofs.Ytdgeponcnlkaiaa.Ab
namespace Go.Proofs.Ytdgeponcnlkaiaa.Ab
open Go
set_option linter.unusedSimpArgs false
set_option linter.unusedVariables false
set_option maxRecDepth 10000
set_option maxHeartbeats 2000000
def sgm (out : List (Int × Int)) (a b : Nat) : List (Int × Int) := (out.drop a).take (b - a)
theorem sgm_cons {out : List (Int × Int)} {a b : Nat} (h : a < b) (h2 : a < out.length) : sgm out a b = out[a] :: sgm out (a + 1) b := by
  unfold sgm
  rw [List.drop_eq_getElem_cons h2, show b - a = (b - (a + 1)) + 1 by omega, List.take_succ_cons]
theorem sgm_nil {out : List (Int × Int)} {a b : Nat} (h : b ≤ a) : sgm out a b = [] := by
  unfold sgm
  rw [show b - a = 0 by omega, List.take_zero]
theorem sgm_len {out : List (Int × Int)} {a b : Nat} : (sgm out a b).length ≤ b - a := by
  unfold sgm
  simp
  omega
theorem sgm_runs {out : List (Int × Int)} {size at_ k b : Nat} (hr : Runs kle size out) (ha : at_ = size * k) (hb : b = min (at_ + size) out.length) : (sgm out at_ b).Pairwise fun a b => kle a b = true := by
  have := hr k
  rw [← ha] at this
  have e : sgm out at_ b = (out.drop at_).take size := by
    unfold sgm
    rw [hb]
    rcases Nat.le_total (at_ + size) out.length with h | h
    · rw [Nat.min_eq_left h, show at_ + size - at_ = size by omega]
    · rw [Nat.min_eq_right h, List.take_of_length_le (by simp), List.take_of_length_le (by simp; omega)]
  rw [e]
  exact this
theorem sgm_take {out : List (Int × Int)} {a b c : Nat} (h1 : a ≤ b) (h2 : b ≤ c) : out.take a ++ (sgm out a b ++ sgm out b c) = out.take c := by
  unfold sgm
  have e1 : out.take b = out.take a ++ (out.drop a).take (b - a) := by
    conv => lhs; rw [show b = a + (b - a) by omega, List.take_add]
  have e2 : out.take c = out.take b ++ (out.drop b).take (c - b) := by
    conv => lhs; rw [show c = b + (c - b) by omega, List.take_add]
  rw [e2, e1, List.append_assoc]
theorem getD_at {out : List (Int × Int)} {i : Nat} (h : i < out.length) : out.getD i (0, 0) = out[i] := by
  simp [List.getD_eq_getElem?_getD, h]
theorem tkM {G : List (Int × Int)} {m N : Nat} (hN : G.length = N) (hm : m ≤ N) : takeCells 2 m N (rows gM G) = rows gM (G.take m) := by
  unfold takeCells
  split
  · rename_i e
    rw [e, ← hN, List.take_length]
  · exact rows_take gM_two G m
theorem head_next {out : List (Int × Int)} {k : Nat} (hk : k < out.length) : ((out.drop (k + 1)).head?.map (·.1) = some out[k].1) ↔ ¬ (k + 1 = out.length ∨ (out.getD (k + 1) (0, 0)).1 ≠ (out.getD k (0, 0)).1) := by
  rw [List.head?_drop, getD_at hk]
  rcases Nat.lt_or_ge (k + 1) out.length with h | h
  · rw [getD_at h, List.getElem?_eq_getElem h]
    simp
    omega
  · rw [List.getElem?_eq_none h]
    simp
    omega
theorem addLast_same {l : List (Int × Int)} {q : Nat} {x : Int × Int} (hq : q < l.length) (e : l[q].1 = x.1) : addLast (l.take (q + 1)) x = (l.set q (l[q].1, l[q].2 + x.2)).take (q + 1) := by
  have h1 : (l.set q (l[q].1, l[q].2 + x.2)).take (q + 1) = l.take q ++ [(l[q].1, l[q].2 + x.2)] := by
    rw [List.take_succ_eq_append_getElem (by simpa using hq), List.getElem_set_self, List.take_set_of_le (Nat.le_refl q)]
  rw [h1, List.take_succ_eq_append_getElem hq]
  unfold addLast
  rw [show (l.take q ++ [l[q]]).getLast? = some l[q] by simp only [List.getLast?_append, List.getLast?_singleton, Option.some_or]]
  simp only [if_pos e, List.dropLast_concat]
theorem addLast_new {l : List (Int × Int)} {m : Nat} {x : Int × Int} (hm : m ≤ l.length) (e : ¬ (0 < m ∧ (l.getD (m - 1) (0, 0)).1 = x.1)) : addLast (l.take m) x = l.take m ++ [x] := by
  rcases Nat.eq_zero_or_pos m with rfl | h
  · simp [addLast]
  · obtain ⟨q, rfl⟩ : ∃ q, m = q + 1 := ⟨m - 1, by omega⟩
    have hq : q < l.length := by omega
    rw [show q + 1 - 1 = q by omega, getD_at hq] at e
    rw [List.take_succ_eq_append_getElem hq]
    unfold addLast
    simp only [List.getLast?_append, List.getLast?_singleton, Option.some_or]
    rw [if_neg (fun h => e ⟨by omega, h⟩)]
theorem cutLast_at {l : List (Int × Int)} {q : Nat} (hq : q < l.length) : cutLast (l.take (q + 1)) = if l[q].2 = 0 then l.take q else l.take (q + 1) := by
  have h1 := List.take_succ_eq_append_getElem hq
  unfold cutLast
  rw [h1, show (l.take q ++ [l[q]]).getLast? = some l[q] by simp only [List.getLast?_append, List.getLast?_singleton, Option.some_or]]
  simp only [List.dropLast_concat]
theorem ofL_pad3 (a b c : Nat × FV) : ofL [a, b, c] = ofL [a, b, c, (0, .dead)] := by
  funext t
  simp only [ofL]
  split
  · rfl
  · split
    · rfl
    · split
      · rfl
      · split <;> rfl
theorem pair_eta (x : Int × Int) : (x.1, x.2) = x := rfl
theorem spec_l2Gather_calls (l : List (Int × Int)) (hl : l.length ≤ 1000000) (hc : absL l < 4611686018427387904) : ACalls Try.prog F.spec_l2Gather [.d (.sh 2 l.length (rows gM l))] [] true (fun outs res => outs = [] ∧ res = [.one (.ow 2 (nf ilt l).length (rows gM (nf ilt l)))]) := by
  refine ACalls.of_body (C := C.spec_l2Gather) (n := Try.f159.ntmps) tabT folT Try.func159 rfl (by kernel_rfl) rfl (Nat.le_of_ble_eq_true rfl) (by decide) (by kernel_rfl) (by kernel_rfl) rfl (by simp) (by simp) ?_
  simp only [Try.f159]
  refine wseq ?_
  refine wreg fun K hK => ?_
  simp [C.spec_l2Gather]
  refine hK _ ?_; clear hK K
  show AWp _ _ _ _ _
  refine wseq ?_
  refine wreg fun K hK => ?_
  simp [C.spec_l2Gather, show l.length * 16 ≤ 140737488355328 by omega]
  refine hK _ ?_; clear hK K
  show AWp _ _ _ _ _
  refine wseq ?_
  refine wseq ?_
  refine wreg fun K hK => ?_
  simp [C.spec_l2Gather]
  refine hK _ ?_; clear hK K
  show AWp _ _ _ _ _
  refine wblock ?_
  refine wloop (fun x : Nat × List (Int × Int) => ⟨ofL [(3, .al (3, 0) [] 0 l.length), (4, .int x.1)], ofRO [((3, 0), some (.ow 2 l.length (rows gM x.2)))]⟩) (fun x => x.2.Perm l ∧ Runs kle x.1 x.2 ∧ 1 ≤ x.1 ∧ x.1 ≤ 2 * l.length + 1) (fun x => 2 * l.length + 1 - x.1) (1, l) (by simp [C.spec_l2Gather]) ⟨List.Perm.refl _, runs_one _, by simp, by dsimp only; omega⟩ ?_
  intro x1 hx1 R1 hR1
  obtain ⟨size, out⟩ := x1
  obtain ⟨hperm, hruns, hs1, hs2⟩ := hx1
  dsimp only at hperm hruns hs1 hs2 ⊢
  have hol : out.length = l.length := hperm.length_eq
  refine wseq ?_
  refine wseq ?_
  refine wreg fun K hK => ?_
  simp [C.spec_l2Gather]
  refine hK _ ?_; clear hK K
  show AWp _ _ _ _ _
  refine wcond _ rfl (fun hc1 => ?_) (fun hc1 => ?_)
  · have hlt : size < l.length := by have := d_t hc1; omega
    refine wskip ?_
    show AWp _ _ _ _ _
    refine wseq ?_
    refine wblock ?_
    refine wseq ?_
    refine wreg fun K hK => ?_
    simp [C.spec_l2Gather, show (16 : Int) * l.length ≤ 281474976710656 by omega, show (l.length : Int) ≤ 281474976710656 by omega]
    refine hK _ ?_; clear hK K
    show AWp _ _ _ _ _
    refine wseq ?_
    refine wseq ?_
    refine wreg fun K hK => ?_
    simp [C.spec_l2Gather]
    refine hK _ ?_; clear hK K
    show AWp _ _ _ _ _
    refine wblock ?_
    refine wloop (fun x : Nat × List (Int × Int) × Nat => ⟨ofL [(3, .al (3, 0) [] 0 l.length), (4, .int size), (5, .al (5, 0) [] 0 x.2.2), (6, .int x.1)], ofRO [((3, 0), some (.ow 2 l.length (rows gM out))), ((5, 0), some (.ow 2 x.2.2 (rows gM x.2.1)))]⟩) (fun x => (∃ k, x.1 = 2 * size * k) ∧ x.2.2 = x.2.1.length ∧ x.2.1.length = min x.1 l.length ∧ x.2.1.Perm (out.take x.1) ∧ Runs kle (2 * size) x.2.1 ∧ x.1 ≤ l.length + 2 * size) (fun x => l.length + 2 * size - x.1) (0, [], 0) (by simp [C.spec_l2Gather, rows]) ⟨⟨0, rfl⟩, rfl, by simp, by simp, fun k => by simp, by dsimp only; omega⟩ ?_
    intro x2 hx2 R2 hR2
    obtain ⟨at_, next, m⟩ := x2
    obtain ⟨⟨k, hk⟩, hm, hnl, hnp, hnr, hab⟩ := hx2
    dsimp only at hk hm hnl hnp hnr hab ⊢
    refine wseq ?_
    refine wseq ?_
    refine wreg fun K hK => ?_
    simp [C.spec_l2Gather]
    refine hK _ ?_; clear hK K
    show AWp _ _ _ _ _
    refine wcond _ rfl (fun hc2 => ?_) (fun hc2 => ?_)
    · have hat : at_ < l.length := by have := d_t hc2; omega
      have hnl2 : next.length = at_ := by omega
      obtain ⟨mid, hmid⟩ : ∃ mid, mid = min (at_ + size) l.length := ⟨_, rfl⟩
      obtain ⟨en, hen⟩ : ∃ en, en = min (at_ + 2 * size) l.length := ⟨_, rfl⟩
      have hmid2 : min ((at_ : Int) + size) l.length = (mid : Int) := by omega
      have hen2 : min ((at_ : Int) + 2 * size) l.length = (en : Int) := by omega
      refine wskip ?_
      show AWp _ _ _ _ _
      refine wseq ?_
      refine wblock ?_
      refine wseq ?_
      refine wreg fun K hK => ?_
      simp [C.spec_l2Gather]
      refine hK _ ?_; clear hK K
      show AWp _ _ _ _ _
      refine wseq ?_
      refine wreg fun K hK => ?_
      simp [C.spec_l2Gather]
      rw [wrapOk (x := (at_ : Int) + size) (by omega) (by omega), hmid2]
      refine hK _ ?_; clear hK K
      show AWp _ _ _ _ _
      refine wseq ?_
      refine wreg fun K hK => ?_
      simp [C.spec_l2Gather]
      refine hK _ ?_; clear hK K
      show AWp _ _ _ _ _
      refine wseq ?_
      refine wreg fun K hK => ?_
      simp [C.spec_l2Gather]
      rw [wrapOk (x := 2 * (size : Int)) (by omega) (by omega), wrapOk (x := (at_ : Int) + 2 * size) (by omega) (by omega), hen2]
      refine hK _ ?_; clear hK K
      show AWp _ _ _ _ _
      refine wblock ?_
      refine wloop (fun x : Nat × Nat × List (Int × Int) × Nat => ⟨ofL [(3, .al (3, 0) [] 0 l.length), (4, .int size), (5, .al (5, 0) [] 0 x.2.2.2), (6, .int at_), (7, .int x.1), (8, .int mid), (9, .int x.2.1), (10, .int en)], ofRO [((3, 0), some (.ow 2 l.length (rows gM out))), ((5, 0), some (.ow 2 x.2.2.2 (rows gM x.2.2.1)))]⟩) (fun x => x.1 ≤ mid ∧ x.2.1 ≤ en ∧ mid ≤ x.2.1 ∧ x.2.2.2 = x.2.2.1.length ∧ x.2.2.2 ≤ 3000000 - ((mid - x.1) + (en - x.2.1)) ∧ ∃ M, x.2.2.1 = next ++ M ∧ M ++ List.merge (sgm out x.1 mid) (sgm out x.2.1 en) kle = List.merge (sgm out at_ mid) (sgm out mid en) kle) (fun x => (mid - x.1) + (en - x.2.1)) (at_, mid, next, m) (by simp [C.spec_l2Gather]) ⟨by dsimp only; omega, by dsimp only; omega, by dsimp only; omega, hm, by dsimp only; omega, [], by simp, by simp⟩ ?_
      intro x3 hx3 R3 hR3
      obtain ⟨i, j, nx, mm⟩ := x3
      obtain ⟨h1, h2, h3, h4, h5, M, h6, h7⟩ := hx3
      dsimp only at h1 h2 h3 h4 h5 h6 h7 ⊢
      refine wseq ?_
      refine wseq ?_
      refine wreg fun K hK => ?_
      have hJ : K ⟨ofL [(3, .al (3, 0) [] 0 l.length), (4, .int size), (5, .al (5, 0) [] 0 mm), (6, .int at_), (7, .int i), (8, .int mid), (9, .int j), (10, .int en), (55, .bool (decide (i < mid ∨ j < en)))], ofRO [((3, 0), some (.ow 2 l.length (rows gM out))), ((5, 0), some (.ow 2 mm (rows gM nx)))]⟩ := by
        refine hK _ ?_; clear hK K
        show AWp _ _ _ _ _
        refine wcond _ rfl (fun hc3 => ?_) (fun hc3 => ?_)
        · have hij := d_t hc3
          refine wskip ?_
          show AWp _ _ _ _ _
          refine wblock ?_
          refine wseq ?_
          refine wdrawI [(true, 0), (true, 1), (true, 2), (true, 3), (true, 4), (true, 5), (true, 6), (true, 7), (true, 8), (true, 9), (true, 10), (true, 11), (true, 12), (true, 13), (true, 14), (true, 15), (true, 16), (true, 17), (true, 18), (true, 19), (true, 20)] ⟨by kernel_rfl, by kernel_rfl⟩ ([0, 1, 2, 3, 4, 5, 6, 7, 8, 9, 10, 11, 12, 13, 14, 15, 16, 17, 18, 19, 20]) rfl fun K hK => ?_
          have hJ : K ⟨ofL [(3, .al (3, 0) [] 0 l.length), (4, .int size), (5, .al (5, 0) [] 0 mm), (6, .int at_), (7, .int i), (8, .int mid), (9, .int j), (10, .int en), (76, .bool (decide (en ≤ j ∨ (i < mid ∧ (out.getD j (0, 0)).1 ≤ (out.getD i (0, 0)).1))))], ofRO [((3, 0), some (.ow 2 l.length (rows gM out))), ((5, 0), some (.ow 2 mm (rows gM nx)))]⟩ := by
            refine hK _ ?_; clear hK K
            show AWp _ _ _ _ _
            refine wcond _ rfl (fun hc4 => ?_) (fun hc4 => ?_)
            · have hcc := d_t hc4
              have him : i < mid := by omega
              have hi : i < out.length := by omega
              have hi' : i < l.length := by omega
              refine wseq ?_
              refine wreg fun K hK => ?_
              simp [C.spec_l2Gather, hi', gM_0 hi, gM_1 hi, gM_snoc, pair_eta, show (mm + 1) * 16 ≤ 140737488355328 by omega]
              refine hK _ ?_; clear hK K
              show AWp _ _ _ _ _
              refine wreg fun K hK => ?_
              simp [C.spec_l2Gather, wrap_succ (show i < 4611686018427387904 by omega)]
              refine hK _ ?_; clear hK K
              simp [C.spec_l2Gather]
              refine hR3 (i + 1, j, _, mm + 1) ⟨him, h2, h3, by dsimp only; rw [h4]; simp, by dsimp only; omega, M ++ [out[i]], by dsimp only; rw [h6, List.append_assoc], ?_⟩ (by dsimp only; omega)
              dsimp only
              rw [← h7, List.append_assoc, sgm_cons him hi]
              rcases Nat.lt_or_ge j en with hje | hje
              · have hj : j < out.length := by omega
                rw [sgm_cons hje hj, mrg_cons]
                have hk' : kle out[i] out[j] = true := by
                  rcases hcc with hcc | ⟨_, hcc⟩
                  · omega
                  · rw [getD_at hi, getD_at hj] at hcc
                    simpa [kle] using hcc
                rw [if_pos hk']
                rfl
              · rw [sgm_nil hje, mrg_nil_right, mrg_nil_right]
                rfl
            · have hcc := d_f hc4
              have hje : j < en := by omega
              have hj : j < out.length := by omega
              have hj' : j < l.length := by omega
              refine wseq ?_
              refine wreg fun K hK => ?_
              simp [C.spec_l2Gather, hj', gM_0 hj, gM_1 hj, gM_snoc, pair_eta, show (mm + 1) * 16 ≤ 140737488355328 by omega]
              refine hK _ ?_; clear hK K
              show AWp _ _ _ _ _
              refine wreg fun K hK => ?_
              simp [C.spec_l2Gather, wrap_succ (show j < 4611686018427387904 by omega)]
              refine hK _ ?_; clear hK K
              simp [C.spec_l2Gather]
              refine hR3 (i, j + 1, _, mm + 1) ⟨h1, hje, by dsimp only; omega, by dsimp only; rw [h4]; simp, by dsimp only; omega, M ++ [out[j]], by dsimp only; rw [h6, List.append_assoc], ?_⟩ (by dsimp only; omega)
              dsimp only
              rw [← h7, List.append_assoc, sgm_cons hje hj]
              rcases Nat.lt_or_ge i mid with him | him
              · have hi : i < out.length := by omega
                rw [sgm_cons him hi, mrg_cons]
                have hk' : ¬ kle out[i] out[j] = true := by
                  intro hk'
                  refine hcc (.inr ⟨him, ?_⟩)
                  rw [getD_at hi, getD_at hj]
                  simpa [kle] using hk'
                rw [if_neg hk']
                rfl
              · rw [sgm_nil him, mrg_nil_left, mrg_nil_left]
                rfl
          clear hK
          by_cases ha : en ≤ j
          · refine opsI_end fun L hL => ?_
            simp [C.spec_l2Gather, ha]
            refine hL _ ?_; clear hL L
            simp [C.spec_l2Gather, ha]
            refine cast (congrArg K ?_) hJ
            simp [ha]
          · by_cases hb : i < mid
            · have hi : i < out.length := by omega
              have hj : j < out.length := by omega
              have hi' : i < l.length := by omega
              have hj' : j < l.length := by omega
              refine opsI_end fun L hL => ?_
              simp [C.spec_l2Gather, hi', hj', gM_0 hi, gM_0 hj, ha, hb]
              refine hL _ ?_; clear hL L
              simp [C.spec_l2Gather, hi', hj', gM_0 hi, gM_0 hj, ha, hb]
              refine cast (congrArg K ?_) hJ
              simp [List.getD_eq_getElem?_getD, hi, hj, ha, hb]
            · refine opsI_end fun L hL => ?_
              simp [C.spec_l2Gather, ha, hb]
              refine hL _ ?_; clear hL L
              simp [C.spec_l2Gather, ha, hb]
              refine cast (congrArg K ?_) hJ
              simp [ha, hb]
        · have hij := d_f hc3
          have ei : mid ≤ i := by omega
          have ej : en ≤ j := by omega
          rw [sgm_nil ei, sgm_nil ej, mrg_nil_left, List.append_nil] at h7
          refine wexit ?_
          show AWp _ _ _ _ _
          refine wreg fun K hK => ?_
          simp [C.spec_l2Gather]
          rw [wrapOk (x := 2 * (size : Int)) (by omega) (by omega), wrapOk (x := (at_ : Int) + 2 * size) (by omega) (by omega)]
          refine hK _ ?_; clear hK K
          have hA : (sgm out at_ mid).Pairwise fun a b => kle a b = true := sgm_runs (k := 2 * k) hruns (by rw [hk]; rw [Nat.mul_comm 2 size, Nat.mul_assoc]) (by rw [hmid, hol])
          have hB : (sgm out mid en).Pairwise fun a b => kle a b = true := by
            rcases Nat.le_total (at_ + size) l.length with hq | hq
            · have e1 : mid = at_ + size := by omega
              exact sgm_runs (k := 2 * k + 1) hruns (by rw [e1, hk, Nat.mul_succ, Nat.mul_comm 2 size, Nat.mul_assoc]) (by rw [hol, hen, e1]; congr 1; omega)
            · rw [sgm_nil (by omega)]
              exact List.Pairwise.nil
          have hM := mrg_sorted hA hB
          have hMp := mrg_perm (sgm out at_ mid) (sgm out mid en)
          rw [← h7] at hM hMp
          have hMl : M.length = en - at_ := by
            have := hMp.length_eq
            have e2 := congrArg List.length (sgm_take (out := out) (a := at_) (b := mid) (c := en) (by omega) (by omega))
            simp only [List.length_append, List.length_take] at this e2
            omega
          simp [C.spec_l2Gather]
          rw [show (at_ : Int) + 2 * size = ((at_ + 2 * size : Nat) : Int) by omega]
          refine hR2 (at_ + 2 * size, nx, mm) ⟨⟨k + 1, by dsimp only; rw [hk, Nat.mul_succ]⟩, h4, ?_, ?_, ?_, by dsimp only; omega⟩ (by dsimp only; omega)
          · dsimp only
            rw [h6, List.length_append, hMl]
            omega
          · dsimp only
            rw [h6]
            have e3 : out.take (at_ + 2 * size) = out.take en := by
              rw [hen]
              rcases Nat.le_total (at_ + 2 * size) l.length with hq | hq
              · rw [Nat.min_eq_left hq]
              · rw [Nat.min_eq_right hq, List.take_of_length_le (by omega), List.take_of_length_le (by omega)]
            rw [e3, ← sgm_take (out := out) (a := at_) (b := mid) (c := en) (by omega) (by omega)]
            exact hnp.append hMp
          · dsimp only
            rw [h6]
            exact runs_snoc hnr (by rw [hnl2, hk]) hM (by omega)
      clear hK
      by_cases ha : i < mid
      · simp [C.spec_l2Gather, ha]
        refine cast (congrArg K ?_) hJ
        simp [ha]
      · simp [C.spec_l2Gather, ha]
        refine cast (congrArg K ?_) hJ
        simp [ha]
    · have hat : l.length ≤ at_ := by have := d_f hc2; omega
      have hml : m = l.length := by omega
      refine wexit ?_
      show AWp _ _ _ _ _
      refine wreg fun K hK => ?_
      simp [C.spec_l2Gather]
      refine hK _ ?_; clear hK K
      show AWp _ _ _ _ _
      refine wreg fun K hK => ?_
      simp [C.spec_l2Gather]
      rw [wrapOk (x := (size : Int) * 2) (by omega) (by omega)]
      refine hK _ ?_; clear hK K
      simp [C.spec_l2Gather]
      rw [show (size : Int) * 2 = ((2 * size : Nat) : Int) by omega, hml]
      refine hR1 (2 * size, next) ⟨?_, hnr, by dsimp only; omega, by dsimp only; omega⟩ (by dsimp only; omega)
      dsimp only
      rw [List.take_of_length_le (by omega)] at hnp
      exact hnp.trans hperm
  · have hlt : l.length ≤ size := by have := d_f hc1; omega
    have hsort := runs_all hruns (by omega)
    have hnf := combR_nf hperm hsort
    have habs := absL_perm hperm
    refine wexit ?_
    show AWp _ _ _ _ _
    refine wseq ?_
    refine wreg fun K hK => ?_
    simp [C.spec_l2Gather]
    refine hK _ ?_; clear hK K
    show AWp _ _ _ _ _
    refine wseq ?_
    refine wseq ?_
    refine wreg fun K hK => ?_
    simp [C.spec_l2Gather]
    refine hK _ ?_; clear hK K
    show AWp _ _ _ _ _
    refine wblock ?_
    refine wloop (fun x : Nat × List (Int × Int) × Nat × Nat => ⟨ofL [(3, .al (3, 0) [] 0 l.length), (11, .al (11, 0) [] 0 x.2.2.1), (12, .int x.1)], ofRO [((3, 0), some (.ow 2 l.length (rows gM out))), ((11, 0), some (.ow 2 x.2.2.2 (rows gM x.2.1)))]⟩) (fun x => x.1 ≤ l.length ∧ x.2.1.length = x.2.2.2 ∧ x.2.2.1 ≤ x.2.2.2 ∧ x.2.2.1 ≤ x.1 ∧ combR (x.2.1.take x.2.2.1) (out.drop x.1) = nf ilt l ∧ absL (x.2.1.take x.2.2.1) ≤ absL (out.take x.1)) (fun x => l.length - x.1) (0, [], 0, 0) (by simp [C.spec_l2Gather, rows]) ⟨by simp, by simp, by simp, by simp, by simpa using hnf, by simp⟩ ?_
    intro x4 hx4 R4 hR4
    obtain ⟨k, G, m, N⟩ := x4
    obtain ⟨g1, g2, g3, g4, g5, g6⟩ := hx4
    dsimp only at g1 g2 g3 g4 g5 g6 ⊢
    refine wseq ?_
    refine wseq ?_
    refine wreg fun K hK => ?_
    simp [C.spec_l2Gather]
    refine hK _ ?_; clear hK K
    show AWp _ _ _ _ _
    refine wcond _ rfl (fun hc5 => ?_) (fun hc5 => ?_)
    · have hk : k < l.length := by have := d_t hc5; omega
      have hko : k < out.length := by omega
      have hokb : (out.take k) ++ [out[k]] = out.take (k + 1) := (List.take_succ_eq_append_getElem hko).symm
      have hab1 : absL (out.take (k + 1)) = absL (out.take k) + out[k].2.natAbs := by rw [← hokb, absL_append]; simp [absL]
      have hab2 : absL (out.take (k + 1)) ≤ absL l := by
        rw [← habs]
        conv => rhs; rw [← List.take_append_drop (k + 1) out, absL_append]
        omega
      refine wskip ?_
      show AWp _ _ _ _ _
      refine wseq ?_
      refine wblock ?_
      refine wseq ?_
      refine wseq ?_
      refine wdrawI [(true, 0), (true, 1), (true, 2), (true, 3), (true, 4), (true, 5), (true, 6), (true, 7), (true, 8), (true, 9), (true, 10), (true, 11), (true, 12), (true, 13), (true, 14), (true, 15), (true, 16), (true, 17)] ⟨by kernel_rfl, by kernel_rfl⟩ ([0, 1, 2, 3, 4, 5, 6, 7, 8, 9, 10, 11, 12, 13, 14, 15, 16, 17]) rfl fun K hK => ?_
      have hJ : K ⟨ofL [(3, .al (3, 0) [] 0 l.length), (11, .al (11, 0) [] 0 m), (12, .int k), (120, .bool (decide (0 < m ∧ (G.getD (m - 1) (0, 0)).1 = (out.getD k (0, 0)).1)))], ofRO [((3, 0), some (.ow 2 l.length (rows gM out))), ((11, 0), some (.ow 2 N (rows gM G)))]⟩ := by
        refine hK _ ?_; clear hK K
        show AWp _ _ _ _ _
        refine wcondJ (fun σ' => ∃ G' m' N', (G'.length = N' ∧ m' ≤ N' ∧ 0 < m' ∧ m' ≤ k + 1 ∧ G'.take m' = addLast (G.take m) out[k]) ∧ σ' = ⟨ofL [(3, .al (3, 0) [] 0 l.length), (11, .al (11, 0) [] 0 m'), (12, .int k)], ofRO [((3, 0), some (.ow 2 l.length (rows gM out))), ((11, 0), some (.ow 2 N' (rows gM G')))]⟩) _ rfl ?_ (fun hc6 Qc6 hQc6 => ?_) (fun hc6 Qc6 hQc6 => ?_)
        · rintro σc6 ⟨G', m', N', ⟨f1, f2, f3, f4, f5⟩, rfl⟩
          have habG : absL (G'.take m') ≤ absL (out.take (k + 1)) := by
            have := absL_addLast (G.take m) out[k]
            rw [f5, hab1]
            omega
          obtain ⟨q, rfl⟩ : ∃ q, m' = q + 1 := ⟨m' - 1, by omega⟩
          have hq : q < G'.length := by omega
          have hqN : q < N' := by omega
          show AWp _ _ _ _ _
          refine wseq ?_
          refine wdrawI [(true, 0), (true, 1), (true, 2), (true, 3), (true, 4), (true, 5), (true, 6), (true, 7), (true, 8), (true, 9), (true, 10), (true, 11), (true, 12), (true, 13), (true, 14), (true, 15), (true, 16), (true, 17), (true, 18)] ⟨by kernel_rfl, by kernel_rfl⟩ ([0, 1, 2, 3, 4, 5, 6, 7, 8, 9, 10, 11, 12, 13, 14, 15, 16, 17, 18]) rfl fun K hK => ?_
          have hJ : K ⟨ofL [(3, .al (3, 0) [] 0 l.length), (11, .al (11, 0) [] 0 (q + 1)), (12, .int k), (165, .bool (decide (k + 1 = l.length ∨ (out.getD (k + 1) (0, 0)).1 ≠ (out.getD k (0, 0)).1)))], ofRO [((3, 0), some (.ow 2 l.length (rows gM out))), ((11, 0), some (.ow 2 N' (rows gM G')))]⟩ := by
            refine hK _ ?_; clear hK K
            show AWp _ _ _ _ _
            refine wcondJ (fun σ' => ∃ m' t f, (m' ≤ q + 1 ∧ G'.take m' = if (out.drop (k + 1)).head?.map (·.1) = some out[k].1 then G'.take (q + 1) else cutLast (G'.take (q + 1))) ∧ σ' = ⟨ofL [(3, .al (3, 0) [] 0 l.length), (11, .al (11, 0) [] 0 m'), (12, .int k), (t, f)], ofRO [((3, 0), some (.ow 2 l.length (rows gM out))), ((11, 0), some (.ow 2 N' (rows gM G')))]⟩) _ rfl ?_ (fun hc7 Qc7 hQc7 => ?_) (fun hc7 Qc7 hQc7 => ?_)
            · rintro σc7 ⟨m', tt, ff, ⟨e1, e2⟩, rfl⟩
              show AWp _ _ _ _ _
              refine wreg fun K hK => ?_
              simp [C.spec_l2Gather, wrap_succ (show k < 4611686018427387904 by omega)]
              refine hK _ ?_; clear hK K
              simp [C.spec_l2Gather]
              refine hR4 (k + 1, G', m', N') ⟨hk, f1, by dsimp only; omega, by dsimp only; omega, ?_, ?_⟩ (by dsimp only; omega)
              · dsimp only
                rw [e2, f5, ← g5, List.drop_eq_getElem_cons hko]
                rfl
              · dsimp only
                rw [e2]
                split
                · exact habG
                · exact Nat.le_trans (absL_cutLast _) habG
            · have hcc := d_t hc7
              have hnx : ¬ ((out.drop (k + 1)).head?.map (·.1) = some out[k].1) := by rw [head_next hko]; rw [hol]; exact fun h => h hcc
              refine wseq ?_
              refine wreg fun K hK => ?_
              simp [C.spec_l2Gather, show ((q : Int) < q + 1) by omega, hqN, f1, gM_1 hq, wrap_nat (show q < 4611686018427387904 by omega)]
              refine hK _ ?_; clear hK K
              show AWp _ _ _ _ _
              refine wcond _ rfl (fun hc8 => ?_) (fun hc8 => ?_)
              · have hz : G'[q].2 = 0 := by simpa using hc8
                refine wreg fun K hK => ?_
                simp [C.spec_l2Gather, show ((q : Int) ≤ q + 1) by omega, hqN, wrap_nat (show q < 4611686018427387904 by omega)]
                refine hK _ ?_; clear hK K
                first
                  | (rw [ofL_pad3]; exact hQc7 _ ⟨q, 0, .dead, ⟨by omega, by rw [if_neg hnx, cutLast_at hq, if_pos hz]⟩, rfl⟩)
                  | exact hQc7 _ ⟨q + 1, _, _, ⟨by omega, by rw [if_neg hnx, cutLast_at hq, if_neg hz]⟩, rfl⟩
              · have hz : ¬ G'[q].2 = 0 := by simpa using hc8
                refine wskip ?_
                first
                  | (rw [ofL_pad3]; exact hQc7 _ ⟨q, 0, .dead, ⟨by omega, by rw [if_neg hnx, cutLast_at hq, if_pos hz]⟩, rfl⟩)
                  | exact hQc7 _ ⟨q + 1, _, _, ⟨by omega, by rw [if_neg hnx, cutLast_at hq, if_neg hz]⟩, rfl⟩
            · have hcc := d_f hc7
              have hnx : (out.drop (k + 1)).head?.map (·.1) = some out[k].1 := by rw [head_next hko]; rw [hol]; exact hcc
              refine wskip ?_
              exact hQc7 _ ⟨q + 1, _, _, ⟨Nat.le_refl _, by rw [if_pos hnx]⟩, rfl⟩
          clear hK
          by_cases ha : k + 1 = l.length
          · refine opsI_end fun L hL => ?_
            simp [C.spec_l2Gather, wrap_succ (show k < 4611686018427387904 by omega), wrap_nat (show l.length < 4611686018427387904 by omega), show ((k : Int) + 1 = l.length) by omega, ha]
            refine hL _ ?_; clear hL L
            simp [C.spec_l2Gather, wrap_succ (show k < 4611686018427387904 by omega), wrap_nat (show l.length < 4611686018427387904 by omega), show ((k : Int) + 1 = l.length) by omega, ha]
            refine cast (congrArg K ?_) hJ
            simp [ha, ha]
          · have hk1 : k + 1 < l.length := by omega
            have hko1 : k + 1 < out.length := by omega
            refine opsI_end fun L hL => ?_
            simp [C.spec_l2Gather, wrap_succ (show k < 4611686018427387904 by omega), wrap_nat (show l.length < 4611686018427387904 by omega), show ¬ ((k : Int) + 1 = l.length) by omega, show (0 ≤ (k : Int) + 1) by omega, show ((k : Int) + 1 < l.length) by omega, show ((k : Int) + 1).toNat = k + 1 by omega, hk1, hk, gM_0 hko1, gM_0 hko, ha]
            refine hL _ ?_; clear hL L
            simp [C.spec_l2Gather, wrap_succ (show k < 4611686018427387904 by omega), wrap_nat (show l.length < 4611686018427387904 by omega), show ¬ ((k : Int) + 1 = l.length) by omega, show (0 ≤ (k : Int) + 1) by omega, show ((k : Int) + 1 < l.length) by omega, show ((k : Int) + 1).toNat = k + 1 by omega, hk1, hk, gM_0 hko1, gM_0 hko, ha]
            refine cast (congrArg K ?_) hJ
            simp [List.getD_eq_getElem?_getD, hko1, hko, ibne, show ¬ (k + 1 = l.length) by omega, ha]
        · have hcc := d_t hc6
          obtain ⟨q, rfl⟩ : ∃ q, m = q + 1 := ⟨m - 1, by omega⟩
          have hq : q < G.length := by omega
          have hqN : q < N := by omega
          have hek : G[q].1 = out[k].1 := by
            have := hcc.2
            rw [show q + 1 - 1 = q by omega, getD_at hq, getD_at hko] at this
            exact this
          have hGq := absL_mem (l := G.take (q + 1)) (x := G[q]) (by rw [List.take_succ_eq_append_getElem hq]; exact List.mem_append_right _ (List.mem_singleton.2 rfl))
          refine wdrawI [(true, 0), (true, 1), (true, 2), (true, 3), (true, 4), (true, 5), (true, 6), (true, 7), (true, 8), (true, 9), (true, 10), (true, 11), (true, 12), (true, 13), (true, 14), (true, 15), (true, 16), (true, 17), (true, 18), (false, 19)] ⟨by kernel_rfl, by kernel_rfl⟩ ([0, 1, 2, 3, 4, 5, 6, 7, 8, 9, 10, 11, 12, 13, 14, 15, 16, 17, 18, 19]) rfl fun K hK => ?_
          refine opsI_end fun L hL => ?_
          simp [C.spec_l2Gather, show ((q : Int) < q + 1) by omega, hqN, g2, hk, gM_1 hq, gM_1 hko, gM_set1 hq, wrap_nat (show q < 4611686018427387904 by omega), wrapOk (x := G[q].2 + out[k].2) (by omega) (by omega)]
          refine hL _ ?_; clear hL L
          simp [C.spec_l2Gather, show ((q : Int) < q + 1) by omega, hqN, g2, hk, gM_1 hq, gM_1 hko, gM_set1 hq, wrap_nat (show q < 4611686018427387904 by omega), wrapOk (x := G[q].2 + out[k].2) (by omega) (by omega)]
          refine hK _ ?_; clear hK K
          refine hQc6 _ ⟨_, q + 1, N, ⟨?_, g3, by omega, by omega, ?_⟩, rfl⟩
          · simpa using g2
          · exact (addLast_same hq hek).symm
        · have hcc := d_f hc6
          have hnew := addLast_new (l := G) (m := m) (x := out[k]) (by omega) (by rw [getD_at hko] at hcc; exact hcc)
          refine wreg fun K hK => ?_
          simp [C.spec_l2Gather, hk, gM_0 hko, gM_1 hko, tkM g2 g3, gM_snoc, pair_eta, show (m + 1) * 16 ≤ 140737488355328 by omega]
          refine hK _ ?_; clear hK K
          refine hQc6 _ ⟨_, m + 1, m + 1, ⟨?_, Nat.le_refl _, by omega, by omega, ?_⟩, rfl⟩
          · simp
            omega
          · rw [hnew, List.take_of_length_le (by simp; omega)]
      clear hK
      by_cases ha : 0 < m
      · obtain ⟨q, rfl⟩ : ∃ q, m = q + 1 := ⟨m - 1, by omega⟩
        have hq : q < G.length := by omega
        have hqN : q < N := by omega
        refine opsI_end fun L hL => ?_
        simp [C.spec_l2Gather, show ((q : Int) < q + 1) by omega, hk, hqN, g2, gM_0 hq, gM_0 hko, wrap_nat (show q < 4611686018427387904 by omega), ha]
        refine hL _ ?_; clear hL L
        simp [C.spec_l2Gather, show ((q : Int) < q + 1) by omega, hk, hqN, g2, gM_0 hq, gM_0 hko, wrap_nat (show q < 4611686018427387904 by omega), ha]
        refine cast (congrArg K ?_) hJ
        simp [List.getD_eq_getElem?_getD, hq, hko, ibeq, ha]
      · refine opsI_end fun L hL => ?_
        simp [C.spec_l2Gather, ha]
        refine hL _ ?_; clear hL L
        simp [C.spec_l2Gather, ha]
        refine cast (congrArg K ?_) hJ
        simp [ha]
    · have hk : k = l.length := by have := d_f hc5; omega
      have hfin : G.take m = nf ilt l := by
        rw [← g5, hk, ← hol, List.drop_length]
        rfl
      have hml : m = (nf ilt l).length := by rw [← hfin, List.length_take]; omega
      refine wexit ?_
      show AWp _ _ _ _ _
      refine wseq ?_
      refine wreg fun K hK => ?_
      simp [C.spec_l2Gather]
      refine hK _ ?_; clear hK K
      show AWp _ _ _ _ _
      refine wret ?_
      simp [C.spec_l2Gather, tkM g2 g3, hfin]
      exact hml

end Go.Proofs.Ytdgeponcnlkaiaa.Ab
namespace Go.Proofs.Ytdgeponcnlkaiaa.Ab
open Go
set_option linter.unusedSimpArgs false
set_option linter.unusedVariables false
set_option maxRecDepth 10000
set_option maxHeartbeats 2000000
def pM (base : Int) (x y : Int × Int) : Int × Int := (x.1 + y.1 - base, x.2 * y.2)
def prodM (base : Int) (a b : List (Int × Int)) : List (Int × Int) := a.flatMap fun x => b.map (pM base x)
theorem prodM_step {base : Int} {a b : List (Int × Int)} {i : Nat} (h : i < a.length) : prodM base (a.take (i + 1)) b = prodM base (a.take i) b ++ b.map (pM base a[i]) := by
  unfold prodM
  rw [List.take_succ_eq_append_getElem h, List.flatMap_append]
  simp
def MonOk (l : List (Int × Int)) : Prop := ∀ x ∈ l, (0 ≤ x.1 ∧ x.1 < 72057594037927936) ∧ (-1000000 ≤ x.2 ∧ x.2 ≤ 1000000)
theorem mul_bd {x y : Int} (hx : -1000000 ≤ x ∧ x ≤ 1000000) (hy : -1000000 ≤ y ∧ y ≤ 1000000) : -1000000000000 ≤ x * y ∧ x * y ≤ 1000000000000 := by
  have h1 : (x * y).natAbs ≤ 1000000 * 1000000 := by
    rw [Int.natAbs_mul]
    exact Nat.mul_le_mul (by omega) (by omega)
  omega
theorem absL_le {l : List (Int × Int)} {B : Nat} (h : ∀ x ∈ l, x.2.natAbs ≤ B) : absL l ≤ l.length * B := by
  induction l with
  | nil => simp [absL]
  | cons x l ih =>
    have h1 := h x (by simp)
    have h2 := ih fun y hy => h y (by simp [hy])
    simp only [absL, List.map_cons, List.sum_cons, List.length_cons, Nat.add_mul, Nat.one_mul] at h2 ⊢
    omega
theorem prodM_len (base : Int) (a b : List (Int × Int)) : (prodM base a b).length = a.length * b.length := by
  unfold prodM
  induction a with
  | nil => simp
  | cons x a ih => simp [List.flatMap_cons, ih, Nat.add_mul]; omega
theorem prodM_abs {base : Int} {a b : List (Int × Int)} (ha : MonOk a) (hb : MonOk b) (hla : a.length ≤ 600) (hlb : b.length ≤ 600) : absL (prodM base a b) < 4611686018427387904 := by
  have h1 : absL (prodM base a b) ≤ (prodM base a b).length * 1000000000000 := absL_le fun x hx => by
    unfold prodM at hx
    obtain ⟨u, hu, hx⟩ := List.mem_flatMap.1 hx
    obtain ⟨v, hv, rfl⟩ := List.mem_map.1 hx
    have := mul_bd (ha u hu).2 (hb v hv).2
    simp only [pM]
    omega
  rw [prodM_len] at h1
  have h2 : a.length * b.length ≤ 600 * 600 := Nat.mul_le_mul hla hlb
  omega
theorem spec_l2Times_calls (a b : List (Int × Int)) (base : Int) (hbase : 0 ≤ base ∧ base < 72057594037927936) (ha : MonOk a) (hb : MonOk b) (hla : a.length ≤ 600) (hlb : b.length ≤ 600) : ACalls Try.prog F.spec_l2Times [.d (.sh 2 a.length (rows gM a)), .d (.sh 2 b.length (rows gM b)), .int base] [] true (fun outs res => outs = [] ∧ res = [.one (.ow 2 (nf ilt (prodM base a b)).length (rows gM (nf ilt (prodM base a b))))]) := by
  have hab : a.length * b.length ≤ 600 * 600 := Nat.mul_le_mul hla hlb
  have habz : IntKind.i64.wrap ((a.length : Int) * b.length) = ((a.length * b.length : Nat) : Int) := by
    rw [show (a.length : Int) * b.length = ((a.length * b.length : Nat) : Int) by simp, wrapOk (by omega) (by omega)]
  generalize hq : a.length * b.length = q at hab habz
  refine ACalls.of_body (C := C.spec_l2Times) (n := Try.f199.ntmps) tabT folT Try.func199 rfl (by kernel_rfl) rfl (Nat.le_of_ble_eq_true rfl) (by decide) (by kernel_rfl) (by kernel_rfl) rfl (by simp) (by simp) ?_
  simp only [Try.f199]
  refine wseq ?_
  refine wreg fun K hK => ?_
  simp [C.spec_l2Times]
  refine hK _ ?_; clear hK K
  show AWp _ _ _ _ _
  refine wseq ?_
  refine wreg fun K hK => ?_
  simp [C.spec_l2Times, habz, show (16 : Int) * q ≤ 281474976710656 by omega, show (q : Int) ≤ 281474976710656 by omega]
  refine hK _ ?_; clear hK K
  show AWp _ _ _ _ _
  refine wseq ?_
  refine wseq ?_
  refine wreg fun K hK => ?_
  simp [C.spec_l2Times]
  refine hK _ ?_; clear hK K
  show AWp _ _ _ _ _
  refine wblock ?_
  refine wloop (fun x : Nat × List (Int × Int) × Nat => ⟨ofL [(0, .d (.sh 2 a.length (rows gM a))), (1, .d (.sh 2 b.length (rows gM b))), (2, .int base), (7, .al (7, 0) [] 0 x.2.2), (8, .int x.1)], ofRO [((7, 0), some (.ow 2 x.2.2 (rows gM x.2.1)))]⟩) (fun x => x.1 ≤ a.length ∧ x.2.1 = prodM base (a.take x.1) b ∧ x.2.2 = x.2.1.length ∧ x.2.2 ≤ x.1 * 600) (fun x => a.length - x.1) (0, [], 0) (by simp [C.spec_l2Times, rows]) (by simp [prodM]) ?_
  intro x1 hx1 R1 hR1
  obtain ⟨i, out, m⟩ := x1
  obtain ⟨hi, hout, hm, hmb⟩ := hx1
  dsimp only at hi hout hm hmb ⊢
  refine wseq ?_
  refine wseq ?_
  refine wreg fun K hK => ?_
  simp [C.spec_l2Times]
  refine hK _ ?_; clear hK K
  show AWp _ _ _ _ _
  refine wcond _ rfl (fun hc1 => ?_) (fun hc1 => ?_)
  · have hia : i < a.length := by have := d_t hc1; omega
    refine wskip ?_
    show AWp _ _ _ _ _
    refine wseq ?_
    refine wblock ?_
    refine wseq ?_
    refine wreg fun K hK => ?_
    simp [C.spec_l2Times]
    refine hK _ ?_; clear hK K
    show AWp _ _ _ _ _
    refine wblock ?_
    refine wloop (fun x : Nat × List (Int × Int) × Nat => ⟨ofL [(0, .d (.sh 2 a.length (rows gM a))), (1, .d (.sh 2 b.length (rows gM b))), (2, .int base), (7, .al (7, 0) [] 0 x.2.2), (8, .int i), (9, .int x.1)], ofRO [((7, 0), some (.ow 2 x.2.2 (rows gM x.2.1)))]⟩) (fun x => x.1 ≤ b.length ∧ x.2.1 = out ++ (b.take x.1).map (pM base a[i]) ∧ x.2.2 = x.2.1.length ∧ x.2.2 ≤ i * 600 + x.1) (fun x => b.length - x.1) (0, out, m) (by simp [C.spec_l2Times]) ⟨by simp, by simp, hm, by dsimp only; omega⟩ ?_
    intro x2 hx2 R2 hR2
    obtain ⟨j, o2, m2⟩ := x2
    obtain ⟨hj, ho2, hm2, hm2b⟩ := hx2
    dsimp only at hj ho2 hm2 hm2b ⊢
    refine wseq ?_
    refine wseq ?_
    refine wreg fun K hK => ?_
    simp [C.spec_l2Times]
    refine hK _ ?_; clear hK K
    show AWp _ _ _ _ _
    refine wcond _ rfl (fun hc2 => ?_) (fun hc2 => ?_)
    · have hjb : j < b.length := by have := d_t hc2; omega
      have hA := ha _ (List.getElem_mem hia)
      have hB := hb _ (List.getElem_mem hjb)
      have hAB := mul_bd hA.2 hB.2
      refine wskip ?_
      show AWp _ _ _ _ _
      refine wseq ?_
      refine wblock ?_
      refine wdrawI [(true, 0), (true, 1), (true, 2), (true, 3), (true, 4), (true, 5), (true, 6), (true, 7), (true, 8), (true, 9), (true, 10), (true, 11), (true, 12), (true, 13), (true, 14), (true, 15), (true, 16), (true, 17), (true, 18), (true, 19), (true, 20), (true, 21), (true, 22), (true, 23), (true, 24), (true, 25), (false, 26), (false, 27), (true, 28)] ⟨by kernel_rfl, by kernel_rfl⟩ ([0, 1, 2, 3, 4, 5, 6, 7, 8, 9, 10, 11, 12, 13, 14, 15, 16, 17, 18, 19, 20, 21, 22, 23, 24, 25, 26, 27, 28]) rfl fun K hK => ?_
      refine opsI_end fun L hL => ?_
      simp [C.spec_l2Times, hia, hjb, gM_0 hia, gM_1 hia, gM_0 hjb, gM_1 hjb, gM_snoc, wrapOk (x := a[i].1 + b[j].1) (by omega) (by omega), wrapOk (x := a[i].1 + b[j].1 - base) (by omega) (by omega), wrapOk (x := a[i].2 * b[j].2) (by omega) (by omega), show (m2 + 1) * 16 ≤ 140737488355328 by omega]
      refine hL _ ?_; clear hL L
      simp [C.spec_l2Times, hia, hjb, gM_0 hia, gM_1 hia, gM_0 hjb, gM_1 hjb, gM_snoc, wrapOk (x := a[i].1 + b[j].1) (by omega) (by omega), wrapOk (x := a[i].1 + b[j].1 - base) (by omega) (by omega), wrapOk (x := a[i].2 * b[j].2) (by omega) (by omega), show (m2 + 1) * 16 ≤ 140737488355328 by omega]
      refine hK _ ?_; clear hK K
      show AWp _ _ _ _ _
      refine wreg fun K hK => ?_
      simp [C.spec_l2Times, wrap_succ (show j < 4611686018427387904 by omega)]
      refine hK _ ?_; clear hK K
      simp [C.spec_l2Times]
      refine hR2 (j + 1, _, m2 + 1) ⟨hjb, ?_, by dsimp only; rw [hm2]; simp, by dsimp only; omega⟩ (by dsimp only; omega)
      dsimp only
      rw [ho2, List.take_succ_eq_append_getElem hjb, List.map_append, List.append_assoc]
      rfl
    · have hjb : j = b.length := by have := d_f hc2; omega
      refine wexit ?_
      show AWp _ _ _ _ _
      refine wreg fun K hK => ?_
      simp [C.spec_l2Times, wrap_succ (show i < 4611686018427387904 by omega)]
      refine hK _ ?_; clear hK K
      simp [C.spec_l2Times]
      refine hR1 (i + 1, o2, m2) ⟨hia, ?_, hm2, by dsimp only; omega⟩ (by dsimp only; omega)
      dsimp only
      rw [prodM_step hia, ← hout, ho2, hjb, List.take_length]
  · have hia : i = a.length := by have := d_f hc1; omega
    have hfull : out = prodM base a b := by rw [hout, hia, List.take_length]
    subst hfull
    subst hm
    refine wexit ?_
    show AWp _ _ _ _ _
    refine wseq ?_
    refine wregI ([0, 1] ++ ([2])) rfl fun K hK => ?_
    refine opsI_seg fun L hL => ?_
    simp [C.spec_l2Times]
    refine wcall1 (spec_l2Gather_calls (prodM base a b) (by omega) (prodM_abs ha hb hla hlb)) (by simp) (by simp) ?_
    simp [C.spec_l2Times]
    refine hL _ ?_; clear hL L
    refine opsI_end fun L hL => ?_
    simp [C.spec_l2Times]
    refine hL _ ?_; clear hL L
    simp [C.spec_l2Times]
    refine hK _ ?_; clear hK K
    show AWp _ _ _ _ _
    refine wret ?_
    simp [C.spec_l2Times]

end Go.Proofs.Ytdgeponcnlkaiaa.Ab
namespace Go.Proofs.Ytdgeponcnlkaiaa.Ab
open Go
set_option linter.unusedSimpArgs false
set_option linter.unusedVariables false
set_option maxRecDepth 10000
set_option maxHeartbeats 2000000
theorem insK_len {K : Type} [DecidableEq K] {lt : K → K → Bool} (k : K) (c : Int) : ∀ l : List (K × Int), (insK lt k c l).length ≤ l.length + 1
  | [] => by simp only [insK]; split <;> simp
  | x :: l => by
    simp only [insK]
    split
    · split <;> simp
      omega
    · split
      · split <;> simp
      · simp only [List.length_cons]
        have := insK_len (lt := lt) k c l
        omega
theorem nf_len {K : Type} [DecidableEq K] {lt : K → K → Bool} : ∀ l : List (K × Int), (nf lt l).length ≤ l.length
  | [] => by simp [nf]
  | x :: l => by
    simp only [nf, List.length_cons]
    have := insK_len (lt := lt) x.1 x.2 (nf lt l)
    have := nf_len (lt := lt) l
    omega
theorem right_dig {f : Lau} (h : Right f) {n : Nat} (hn : f.v = n) : ∀ t ∈ f.ts, t.e.length = n ∧ Dig t.e ∧ (∀ x ∈ t.e, -20 ≤ x ∧ x ≤ 20) ∧ (-1000000 ≤ t.c ∧ t.c ≤ 1000000) := fun t ht => by
  obtain ⟨h1, _, h2, h3⟩ := h.2.2.1 t ht
  exact ⟨by omega, fun x hx => by have := h3 x hx; omega, h3, h2⟩
theorem right_mon {f : Lau} (h : Right f) {n : Nat} (hn : f.v = n) : MonOk (f.ts.map kt) := fun x hx => by
  obtain ⟨t, ht, rfl⟩ := List.mem_map.1 hx
  obtain ⟨h1, h2, _, h3⟩ := right_dig h hn t ht
  have := h.1
  exact ⟨keyA_key h2 (by omega), h3⟩
theorem addE_mem {a b : List Int} (hl : a.length = b.length) {p q : Int} (ha : ∀ x ∈ a, -p ≤ x ∧ x ≤ p) (hb : ∀ x ∈ b, -q ≤ x ∧ x ≤ q) : ∀ x ∈ addE 1 a b, -(p + q) ≤ x ∧ x ≤ p + q := by
  induction a generalizing b with
  | nil => cases b with
    | nil => intro x hx; simp [addE] at hx
    | cons y b => simp at hl
  | cons u a ih => cases b with
    | nil => simp at hl
    | cons v b =>
      intro x hx
      simp only [addE, List.mem_cons] at hx
      rcases hx with rfl | hx
      · have := ha u (by simp)
        have := hb v (by simp)
        omega
      · exact ih (by simpa using hl) (fun x hx => ha x (by simp [hx])) (fun x hx => hb x (by simp [hx])) x hx
theorem prodL_mem {a b : List (List Int × Int)} {z : List Int × Int} (h : z ∈ prodL a b) : ∃ x ∈ a, ∃ y ∈ b, z = (addE 1 x.1 y.1, x.2 * y.2) := by
  unfold prodL at h
  obtain ⟨x, hx, h⟩ := List.mem_flatMap.1 h
  obtain ⟨y, hy, rfl⟩ := List.mem_map.1 h
  exact ⟨x, hx, y, hy, rfl⟩
theorem prodL_exps {f g : Lau} (hf : Right f) (hg : Right g) {n : Nat} (h1 : f.v = n) (h2 : g.v = n) : Exps n (prodL (f.ts.map pr) (g.ts.map pr)) := fun z hz => by
  obtain ⟨x, hx, y, hy, rfl⟩ := prodL_mem hz
  obtain ⟨t, ht, rfl⟩ := List.mem_map.1 hx
  obtain ⟨u, hu, rfl⟩ := List.mem_map.1 hy
  obtain ⟨a1, _, a2, _⟩ := right_dig hf h1 t ht
  obtain ⟨b1, _, b2, _⟩ := right_dig hg h2 u hu
  refine ⟨by simp only [pr]; rw [addE_length _ _ _ (by omega)]; exact a1, fun x hx => ?_⟩
  have := addE_mem (a := t.e) (b := u.e) (by omega) (p := 20) (q := 20) a2 b2 x hx
  omega
theorem flatMap_same {α β : Type} {f g : α → List β} : ∀ (l : List α), (∀ x ∈ l, f x = g x) → l.flatMap f = l.flatMap g
  | [], _ => rfl
  | x :: l, h => by
    simp only [List.flatMap_cons]
    rw [h x (by simp), flatMap_same l fun y hy => h y (by simp [hy])]
theorem prodL_coded {f g : Lau} (hf : Right f) (hg : Right g) {n : Nat} (h1 : f.v = n) (h2 : g.v = n) : prodM (keyA 0 (List.replicate n 0)) (f.ts.map kt) (g.ts.map kt) = (prodL (f.ts.map pr) (g.ts.map pr)).map kc := by
  unfold prodM prodL
  rw [List.map_flatMap, List.flatMap_map, List.flatMap_map]
  refine flatMap_same _ fun t ht => ?_
  rw [List.map_map, List.map_map, List.map_map]
  refine List.map_congr_left fun u hu => ?_
  obtain ⟨a1, _⟩ := right_dig hf h1 t ht
  obtain ⟨b1, _⟩ := right_dig hg h2 u hu
  have := keyA_add t.e u.e 0 0 0 (by omega)
  rw [a1] at this
  simp only [Function.comp, pM, kt, kc, pr]
  rw [← this]
  rfl
theorem kt_tm : kt ∘ tm = kc := rfl
theorem prod_nf {f g : Lau} (hf : Right f) (hg : Right g) {n : Nat} (h1 : f.v = n) (h2 : g.v = n) : nf ilt (prodM (keyA 0 (List.replicate n 0)) (f.ts.map kt) (g.ts.map kt)) = ((nf lexlt (prodL (f.ts.map pr) (g.ts.map pr))).map tm).map kt := by
  rw [prodL_coded hf hg h1 h2, nf_key _ (prodL_exps hf hg h1 h2), List.map_map, kt_tm]
theorem prodL_len (a b : List (List Int × Int)) : (prodL a b).length = a.length * b.length := by
  unfold prodL
  induction a with
  | nil => simp
  | cons x a ih => simp [List.flatMap_cons, ih, Nat.add_mul]; omega
theorem spec_MulLaurents_calls (f g : Lau) (hx : f.ts.length < 4611686018427387904) (hxe : ∀ t ∈ f.ts, t.e.length < 4611686018427387904) (hy : g.ts.length < 4611686018427387904) (hye : ∀ t ∈ g.ts, t.e.length < 4611686018427387904) : ACalls Try.prog F.spec_MulLaurents [aF f, aF g] [] true (fun outs res => outs = [] ∧ WkRs res [.ag (fO (mulF f g).1), .one (D.bool (mulF f g).2)]) := by
  refine ACalls.of_body (C := C.spec_MulLaurents) (n := Try.f145.ntmps) tabT folT Try.func145 rfl (by kernel_rfl) rfl (Nat.le_of_ble_eq_true rfl) (by decide) (by kernel_rfl) (by kernel_rfl) rfl (by simp) (by simp) ?_
  simp only [Try.f145]
  refine wseq ?_
  refine wreg fun K hK => ?_
  simp [C.spec_MulLaurents]
  refine hK _ ?_; clear hK K
  show AWp _ _ _ _ _
  refine wseq ?_
  refine wseq ?_
  refine wregI ([0, 1, 2] ++ ([3])) rfl fun K hK => ?_
  refine opsI_seg fun L hL => ?_
  simp [C.spec_MulLaurents]
  refine wcall1 (spec_l2Two_calls f g hx hxe hy hye) (by simp) (by simp) ?_
  simp [C.spec_MulLaurents]
  refine hL _ ?_; clear hL L
  refine opsI_end fun L hL => ?_
  simp [C.spec_MulLaurents]
  refine hL _ ?_; clear hL L
  simp [C.spec_MulLaurents]
  refine hK _ ?_; clear hK K
  show AWp _ _ _ _ _
  refine wcond _ rfl (fun hc1 => ?_) (fun hc1 => ?_)
  · have hr : ¬ (Right f ∧ Right g ∧ f.v = g.v) := by
      intro ⟨q1, q2, q3⟩
      simp [q1, q2, q3] at hc1
    have hm : mulF f g = (zeroF, false) := if_neg hr
    refine wseq ?_
    refine wreg fun K hK => ?_
    simp [C.spec_MulLaurents]
    refine hK _ ?_; clear hK K
    show AWp _ _ _ _ _
    refine wret ?_
    simp [C.spec_MulLaurents, hm, fO, zeroF, rows]
  · have hr : Right f ∧ Right g ∧ f.v = g.v := by simpa using hc1
    obtain ⟨hf, hg, hfg⟩ := hr
    have hv := hf.1
    obtain ⟨n, hn⟩ : ∃ n : Nat, f.v = n := ⟨f.v.toNat, by omega⟩
    have hn2 : g.v = n := by omega
    have hn8 : n ≤ 8 := by omega
    have hfl := hf.2.1
    have hgl := hg.2.1
    have hnf := prod_nf hf hg hn hn2
    obtain ⟨T, hT⟩ : ∃ T, T = (nf lexlt (prodL (f.ts.map pr) (g.ts.map pr))).map tm := ⟨_, rfl⟩
    rw [← hT] at hnf
    have hTl : T.length ≤ 1000000 := by
      rw [hT, List.length_map]
      have h1 := nf_len (lt := lexlt) (prodL (f.ts.map pr) (g.ts.map pr))
      rw [prodL_len, List.length_map, List.length_map] at h1
      have h2 : f.ts.length * g.ts.length ≤ 600 * 600 := Nat.mul_le_mul hfl hgl
      omega
    have hTe : ∀ t ∈ T, Dig t.e ∧ t.e.length = n := fun t ht => by
      rw [hT] at ht
      obtain ⟨z, hz, rfl⟩ := List.mem_map.1 ht
      have := nf_exps (prodL_exps hf hg hn hn2) z hz
      exact ⟨this.2, this.1⟩
    have hm : mulF f g = if Right ⟨f.v, T⟩ then (⟨f.v, T⟩, true) else (zeroF, false) := by
      unfold mulF
      rw [if_pos ⟨hf, hg, hfg⟩]
      unfold shutF
      rw [← hT]
    have hdf : ∀ t ∈ f.ts, Dig t.e ∧ t.e.length ≤ 8 := fun t ht => by have := right_dig hf hn t ht; exact ⟨this.2.1, by omega⟩
    have hdg : ∀ t ∈ g.ts, Dig t.e ∧ t.e.length ≤ 8 := fun t ht => by have := right_dig hg hn2 t ht; exact ⟨this.2.1, by omega⟩
    have hz8 := keyA_key (a := List.replicate n 0) (fun x hx => by have := List.eq_of_mem_replicate hx; omega) (by simpa using hn8)
    have hTimes := spec_l2Times_calls (f.ts.map kt) (g.ts.map kt) (keyA 0 (List.replicate n 0)) hz8 (right_mon hf hn) (right_mon hg hn2) (by simpa using hfl) (by simpa using hgl)
    rw [hnf] at hTimes
    simp only [List.length_map] at hTimes
    refine wskip ?_
    show AWp _ _ _ _ _
    refine wseq ?_
    refine wdrawI [(true, 0), (true, 2), (true, 4), (true, 5), (true, 8), (true, 9), (false, 1), (false, 3), (false, 6), (false, 7), (false, 10), (true, 11), (true, 12), (false, 13), (true, 14)] ⟨by kernel_rfl, by kernel_rfl⟩ ([0, 2, 4, 5, 8, 9, 1] ++ ([3] ++ ([6] ++ ([7] ++ ([10] ++ ([11, 12, 13, 14])))))) rfl fun K hK => ?_
    refine opsI_seg fun L hL => ?_
    simp [C.spec_MulLaurents]
    refine wcall1 (spec_l2Open_calls f (by omega) hdf) (by simp) (by simp) ?_
    simp [C.spec_MulLaurents]
    refine hL _ ?_; clear hL L
    refine opsI_seg fun L hL => ?_
    simp [C.spec_MulLaurents]
    refine wcall1 (spec_l2Open_calls g (by omega) hdg) (by simp) (by simp) ?_
    simp [C.spec_MulLaurents]
    refine hL _ ?_; clear hL L
    refine opsI_seg fun L hL => ?_
    simp [C.spec_MulLaurents]
    refine wcall1 (spec_l2Base_calls n hn8) (by simp; omega) (by simp) ?_
    simp [C.spec_MulLaurents]
    refine hL _ ?_; clear hL L
    refine opsI_seg fun L hL => ?_
    simp [C.spec_MulLaurents]
    refine wcall1 (hTimes) (by simp) (by simp) ?_
    simp [C.spec_MulLaurents]
    refine hL _ ?_; clear hL L
    refine opsI_seg fun L hL => ?_
    simp [C.spec_MulLaurents]
    refine wcall1 (l2Shut_calls T n hTl hTe hn8) (by simp; omega) (by simp) ?_
    simp [C.spec_MulLaurents]
    refine hL _ ?_; clear hL L
    refine opsI_end fun L hL => ?_
    simp [C.spec_MulLaurents]
    refine hL _ ?_; clear hL L
    simp [C.spec_MulLaurents]
    refine hK _ ?_; clear hK K
    show AWp _ _ _ _ _
    refine wret ?_
    simp [C.spec_MulLaurents]
    rw [hm, hn]
    by_cases hR : Right ⟨(n : Int), T⟩
    · simp [hR, fO]
    · simp [hR, fO]
theorem sMul_calls (f g : Lau) (hx : f.ts.length < 4611686018427387904) (hxe : ∀ t ∈ f.ts, t.e.length < 4611686018427387904) (hy : g.ts.length < 4611686018427387904) (hye : ∀ t ∈ g.ts, t.e.length < 4611686018427387904) : ACalls Try.prog F.spec_MulLaurents [aF f, aF g] [] true (fun outs res => outs = [] ∧ res = [.ag (fO (mulF f g).1), .one (D.bool (mulF f g).2)]) := (spec_MulLaurents_calls f g hx hxe hy hye).weak1
def oneF (n : Nat) : Lau := ⟨n, [⟨List.replicate n 0, 1⟩]⟩
theorem oneF_right {n : Nat} (h : 1 ≤ n ∧ n ≤ 8) : Right (oneF n) := by
  refine ⟨by simp only [oneF]; omega, by simp [oneF], fun t ht => ?_, List.pairwise_singleton _ _⟩
  simp only [oneF, List.mem_singleton] at ht
  subst ht
  exact ⟨by simp [oneF], by simp, by simp, fun x hx => by have := List.eq_of_mem_replicate hx; omega⟩
noncomputable def powL (f : Lau) : Nat → Option Lau
  | 0 => some (oneF f.v.toNat)
  | n + 1 => match powL f n with
    | some g => if (mulF g f).2 = true then some (mulF g f).1 else none
    | none => none
noncomputable def powF (f : Lau) (n : Int) : Lau × Bool := if Right f ∧ 0 ≤ n ∧ n ≤ 8 then (match powL f n.toNat with | some g => (g, true) | none => (zeroF, false)) else (zeroF, false)
theorem powL_right {f : Lau} (hf : Right f) : ∀ (n : Nat) (g : Lau), powL f n = some g → Right g
  | 0, g, h => by
    simp only [powL, Option.some.injEq] at h
    subst h
    exact oneF_right (by have := hf.1; omega)
  | n + 1, g, h => by
    simp only [powL] at h
    split at h
    · split at h
      · rename_i g' hg' hb
        injection h with h
        subst h
        rcases mulF_right g' f with q | q
        · exact q
        · rw [q] at hb; simp at hb
      · simp at h
    · simp at h
theorem powL_none {f : Lau} {n m : Nat} (h : powL f n = none) (hm : n ≤ m) : powL f m = none := by
  induction m with
  | zero =>
    have : n = 0 := by omega
    subst this
    exact h
  | succ m ih =>
    rcases Nat.lt_or_ge m n with q | q
    · have : n = m + 1 := by omega
      subst this
      exact h
    · simp only [powL, ih q]

theorem spec_ConstantLaurent_calls (n : Nat) (hn : 1 ≤ n ∧ n ≤ 8) : ACalls Try.prog F.spec_ConstantLaurent [.int n, .int 1] [] true (fun outs res => outs = [] ∧ res = [.ag (fO (oneF n))]) := by
  refine ACalls.of_body (C := C.spec_ConstantLaurent) (n := Try.f144.ntmps) tabT folT Try.func144 rfl (by kernel_rfl) rfl (Nat.le_of_ble_eq_true rfl) (by decide) (by kernel_rfl) (by kernel_rfl) rfl (by simp) (by simp) ?_
  simp only [Try.f144]
  refine wseq ?_
  refine wreg fun K hK => ?_
  simp [C.spec_ConstantLaurent]
  refine hK _ ?_; clear hK K
  show AWp _ _ _ _ _
  refine wseq ?_
  refine wseq ?_
  refine wregI ([0, 1] ++ ([2, 3, 4, 5] ++ ([6, 7]))) rfl fun K hK => ?_
  refine opsI_seg fun L hL => ?_
  simp [C.spec_ConstantLaurent, show (1 ≤ (n : Int)) by omega, show ((n : Int) ≤ 8) by omega]
  refine wcall1 (spec_l1In_calls n 1 8) (by simp) (by simp) ?_
  simp [C.spec_ConstantLaurent, show (1 ≤ (n : Int)) by omega, show ((n : Int) ≤ 8) by omega]
  refine hL _ ?_; clear hL L
  refine opsI_seg fun L hL => ?_
  simp [C.spec_ConstantLaurent, show (1 ≤ (n : Int)) by omega, show ((n : Int) ≤ 8) by omega]
  refine wcall1 (spec_l1In_calls 1 (-1000000) 1000000) (by simp) (by simp) ?_
  simp [C.spec_ConstantLaurent, show (1 ≤ (n : Int)) by omega, show ((n : Int) ≤ 8) by omega]
  refine hL _ ?_; clear hL L
  refine opsI_end fun L hL => ?_
  simp [C.spec_ConstantLaurent, show (1 ≤ (n : Int)) by omega, show ((n : Int) ≤ 8) by omega]
  refine hL _ ?_; clear hL L
  simp [C.spec_ConstantLaurent, show (1 ≤ (n : Int)) by omega, show ((n : Int) ≤ 8) by omega]
  refine hK _ ?_; clear hK K
  show AWp _ _ _ _ _
  refine wcond _ rfl (fun hc1 => ?_) (fun hc1 => ?_)
  · simp at hc1
  · refine wskip ?_
    show AWp _ _ _ _ _
    refine wseq ?_
    refine wseq ?_
    refine wreg fun K hK => ?_
    simp [C.spec_ConstantLaurent]
    refine hK _ ?_; clear hK K
    show AWp _ _ _ _ _
    refine wcond _ rfl (fun hc2 => ?_) (fun hc2 => ?_)
    · simp at hc2
    · refine wskip ?_
      show AWp _ _ _ _ _
      refine wseq ?_
      refine wreg fun K hK => ?_
      simp [C.spec_ConstantLaurent, zeros_ints, show (8 : Int) * n ≤ 281474976710656 by omega, show (n : Int) ≤ 281474976710656 by omega]
      refine hK _ ?_; clear hK K
      show AWp _ _ _ _ _
      refine wret ?_
      simp [C.spec_ConstantLaurent, fO, oneF, rows, tO]

end Go.Proofs.Ytdgeponcnlkaiaa.Ab
namespace Go.Proofs.Ytdgeponcnlkaiaa.Ab
open Go
set_option linter.unusedSimpArgs false
set_option linter.unusedVariables false
set_option maxRecDepth 10000
set_option maxHeartbeats 2000000
theorem right_small {f : Lau} (h : Right f) : f.ts.length < 4611686018427387904 ∧ ∀ t ∈ f.ts, t.e.length < 4611686018427387904 :=
  ⟨by have := h.2.1; omega, fun t ht => by have := (h.2.2.1 t ht).1; have := h.1; omega⟩
theorem spec_PowerLaurent_calls (f : Lau) (n : Int) (hx : f.ts.length < 4611686018427387904) (hxe : ∀ t ∈ f.ts, t.e.length < 4611686018427387904) : ACalls Try.prog F.spec_PowerLaurent [aF f, .int n] [] true (fun outs res => outs = [] ∧ WkRs res [.ag (fO (powF f n).1), .one (D.bool (powF f n).2)]) := by
  refine ACalls.of_body (C := C.spec_PowerLaurent) (n := Try.f54.ntmps) tabT folT Try.func54 rfl (by kernel_rfl) rfl (Nat.le_of_ble_eq_true rfl) (by decide) (by kernel_rfl) (by kernel_rfl) rfl (by simp) (by simp) ?_
  simp only [Try.f54]
  refine wseq ?_
  refine wreg fun K hK => ?_
  simp [C.spec_PowerLaurent, fS, fO]
  refine hK _ ?_; clear hK K
  show AWp _ _ _ _ _
  refine wseq ?_
  refine wseq ?_
  refine wregI ([0, 1] ++ ([2, 3, 4, 5] ++ ([6, 7]))) rfl fun K hK => ?_
  have hJ : K ⟨ofL [(1, .int n), (2, .pt (2, 0) [] 0), (4, .pt (4, 0) [] 0), (17, .bool (!decide (Right f ∧ 0 ≤ n ∧ n ≤ 8)))], ofRO [((2, 0), some (.bx (fS f))), ((4, 0), some (.bx [D.int 0, .v (.slice none 0 0)]))]⟩ := by
    refine hK _ ?_; clear hK K
    show AWp _ _ _ _ _
    refine wcond _ rfl (fun hc1 => ?_) (fun hc1 => ?_)
    · have hr := nd_t hc1
      have hm : powF f n = (zeroF, false) := if_neg hr
      refine wseq ?_
      refine wreg fun K hK => ?_
      simp [C.spec_PowerLaurent, fS, fO]
      refine hK _ ?_; clear hK K
      show AWp _ _ _ _ _
      refine wret ?_
      simp [C.spec_PowerLaurent, fS, fO, hm, zeroF, rows]
    · have hr := nd_f hc1
      obtain ⟨hf, hn⟩ := hr
      obtain ⟨k, rfl⟩ : ∃ k : Nat, n = k := ⟨n.toNat, by omega⟩
      have hm : powF f k = (match powL f k with | some g => (g, true) | none => (zeroF, false)) := by
        unfold powF
        rw [if_pos ⟨hf, hn⟩]
        simp <;> rfl
      have hv := hf.1
      obtain ⟨q, hq⟩ : ∃ q : Nat, f.v = q := ⟨f.v.toNat, by omega⟩
      have hp0 : powL f 0 = some (oneF q) := by simp [powL, hq]
      refine wskip ?_
      show AWp _ _ _ _ _
      refine wseq ?_
      refine wregI ([0, 1, 2] ++ ([3, 4])) rfl fun K hK => ?_
      refine opsI_seg fun L hL => ?_
      simp [C.spec_PowerLaurent, fS, fO]
      refine wcall1 (spec_ConstantLaurent_calls q (by omega)) (by simp; omega) (by simp) ?_
      simp [C.spec_PowerLaurent, fS, fO]
      refine hL _ ?_; clear hL L
      refine opsI_end fun L hL => ?_
      simp [C.spec_PowerLaurent, fS, fO]
      refine hL _ ?_; clear hL L
      simp [C.spec_PowerLaurent, fS, fO]
      refine hK _ ?_; clear hK K
      show AWp _ _ _ _ _
      refine wseq ?_
      refine wseq ?_
      refine wreg fun K hK => ?_
      simp [C.spec_PowerLaurent, fS, fO]
      refine hK _ ?_; clear hK K
      show AWp _ _ _ _ _
      refine wblock ?_
      refine wloop (fun x : Nat × Lau => ⟨ofL [(1, .int k), (2, .pt (2, 0) [] 0), (4, .pt (4, 0) [] 0), (6, .pt (6, 0) [] 0), (7, .int x.1)], ofRO [((2, 0), some (.bx (fS f))), ((4, 0), some (.bx [D.int 0, .v (.slice none 0 0)])), ((6, 0), some (.bx (fO x.2)))]⟩) (fun x => x.1 ≤ k ∧ powL f x.1 = some x.2) (fun x => k - x.1) (0, oneF q) (by simp [C.spec_PowerLaurent, fS, fO]) ⟨by simp, hp0⟩ ?_
      intro x1 hx1 R1 hR1
      obtain ⟨i, g⟩ := x1
      obtain ⟨hi, hg⟩ := hx1
      dsimp only at hi hg ⊢
      refine wseq ?_
      refine wseq ?_
      refine wreg fun K hK => ?_
      simp [C.spec_PowerLaurent, fS, fO]
      refine hK _ ?_; clear hK K
      show AWp _ _ _ _ _
      refine wcond _ rfl (fun hc2 => ?_) (fun hc2 => ?_)
      · have hik : i < k := by have := d_t hc2; omega
        have hgr := powL_right hf i g hg
        refine wskip ?_
        show AWp _ _ _ _ _
        refine wseq ?_
        refine wblock ?_
        refine wseq ?_
        refine wregI ([0, 1, 2] ++ ([3, 4, 5, 6, 7, 8])) rfl fun K hK => ?_
        refine opsI_seg fun L hL => ?_
        simp [C.spec_PowerLaurent, fS, fO]
        refine wcall1 (sMul_calls g f (right_small hgr).1 (right_small hgr).2 hx hxe) (by simp) (by simp) ?_
        simp [C.spec_PowerLaurent, fS, fO]
        refine hL _ ?_; clear hL L
        refine opsI_end fun L hL => ?_
        simp [C.spec_PowerLaurent, fS, fO]
        refine hL _ ?_; clear hL L
        simp [C.spec_PowerLaurent, fS, fO]
        refine hK _ ?_; clear hK K
        show AWp _ _ _ _ _
        refine wseq ?_
        refine wseq ?_
        refine wreg fun K hK => ?_
        simp [C.spec_PowerLaurent, fS, fO]
        refine hK _ ?_; clear hK K
        show AWp _ _ _ _ _
        refine wcond _ rfl (fun hc3 => ?_) (fun hc3 => ?_)
        · have hb : (mulF g f).2 = false := by simpa using hc3
          have hnone : powL f (i + 1) = none := by simp [powL, hg, hb]
          have hk := powL_none hnone (show i + 1 ≤ k by omega)
          refine wseq ?_
          refine wreg fun K hK => ?_
          simp [C.spec_PowerLaurent, fS, fO]
          refine hK _ ?_; clear hK K
          show AWp _ _ _ _ _
          refine wret ?_
          simp [C.spec_PowerLaurent, fS, fO, hm, hk, zeroF, rows]
        · have hb : (mulF g f).2 = true := by simpa using hc3
          refine wskip ?_
          show AWp _ _ _ _ _
          refine wreg fun K hK => ?_
          simp [C.spec_PowerLaurent, fS, fO]
          refine hK _ ?_; clear hK K
          show AWp _ _ _ _ _
          refine wreg fun K hK => ?_
          simp [C.spec_PowerLaurent, fS, fO, wrap_succ (show i < 4611686018427387904 by omega)]
          refine hK _ ?_; clear hK K
          simp [C.spec_PowerLaurent, fS, fO]
          exact hR1 (i + 1, (mulF g f).1) ⟨hik, by simp [powL, hg, hb]⟩ (by dsimp only; omega)
      · have hik : i = k := by have := d_f hc2; omega
        subst hik
        refine wexit ?_
        show AWp _ _ _ _ _
        refine wseq ?_
        refine wreg fun K hK => ?_
        simp [C.spec_PowerLaurent, fS, fO]
        refine hK _ ?_; clear hK K
        show AWp _ _ _ _ _
        refine wret ?_
        simp [C.spec_PowerLaurent, fS, fO, hm, hg]
  clear hK
  by_cases ha : Right f
  · by_cases hb : 0 ≤ n ∧ n ≤ 8
    · refine opsI_seg fun L hL => ?_
      simp [C.spec_PowerLaurent, fS, fO, ha, hb]
      refine wcall1 (spec_l2Right_calls f hx hxe) (by simp) (by simp) ?_
      simp [C.spec_PowerLaurent, fS, fO, ha, hb]
      refine hL _ ?_; clear hL L
      refine opsI_seg fun L hL => ?_
      simp [C.spec_PowerLaurent, fS, fO, ha, hb]
      refine wcall1 (spec_l1In_calls n 0 8) (by simp) (by simp) ?_
      simp [C.spec_PowerLaurent, fS, fO, ha, hb]
      refine hL _ ?_; clear hL L
      refine opsI_end fun L hL => ?_
      simp [C.spec_PowerLaurent, fS, fO, ha, hb]
      refine hL _ ?_; clear hL L
      simp [C.spec_PowerLaurent, fS, fO, ha, hb]
      refine cast (congrArg K ?_) hJ
      simp [fS, fO, ha, hb]
    · refine opsI_seg fun L hL => ?_
      simp [C.spec_PowerLaurent, fS, fO, ha, hb]
      refine wcall1 (spec_l2Right_calls f hx hxe) (by simp) (by simp) ?_
      simp [C.spec_PowerLaurent, fS, fO, ha, hb]
      refine hL _ ?_; clear hL L
      refine opsI_seg fun L hL => ?_
      simp [C.spec_PowerLaurent, fS, fO, ha, hb]
      refine wcall1 (spec_l1In_calls n 0 8) (by simp) (by simp) ?_
      simp [C.spec_PowerLaurent, fS, fO, ha, hb]
      refine hL _ ?_; clear hL L
      refine opsI_end fun L hL => ?_
      simp [C.spec_PowerLaurent, fS, fO, ha, hb]
      refine hL _ ?_; clear hL L
      simp [C.spec_PowerLaurent, fS, fO, ha, hb]
      refine cast (congrArg K ?_) hJ
      simp [fS, fO, ha, hb]
  · refine opsI_seg fun L hL => ?_
    simp [C.spec_PowerLaurent, fS, fO, ha]
    refine wcall1 (spec_l2Right_calls f hx hxe) (by simp) (by simp) ?_
    simp [C.spec_PowerLaurent, fS, fO, ha]
    refine hL _ ?_; clear hL L
    refine opsI_seg fun L hL => ?_
    simp [C.spec_PowerLaurent, fS, fO, ha]
    refine hL _ ?_; clear hL L
    refine opsI_end fun L hL => ?_
    simp [C.spec_PowerLaurent, fS, fO, ha]
    refine hL _ ?_; clear hL L
    simp [C.spec_PowerLaurent, fS, fO, ha]
    refine cast (congrArg K ?_) hJ
    simp [fS, fO, ha]
theorem sPow_calls (f : Lau) (n : Int) (hx : f.ts.length < 4611686018427387904) (hxe : ∀ t ∈ f.ts, t.e.length < 4611686018427387904) : ACalls Try.prog F.spec_PowerLaurent [aF f, .int n] [] true (fun outs res => outs = [] ∧ res = [.ag (fO (powF f n).1), .one (D.bool (powF f n).2)]) := (spec_PowerLaurent_calls f n hx hxe).weak1

end Go.Proofs.Ytdgeponcnlkaiaa.Ab
namespace Go.Proofs.Ytdgeponcnlkaiaa.Ab
open Go
set_option linter.unusedSimpArgs false
set_option linter.unusedVariables false
set_option maxRecDepth 10000
set_option maxHeartbeats 2000000
def cmpI (a b : Int) : Int := if a < b then -1 else if b < a then 1 else 0
def cmpL : List Int → List Int → Int
  | [], [] => 0
  | [], _ :: _ => -1
  | _ :: _, [] => 1
  | a :: x, b :: y => if a = b then cmpL x y else if a < b then -1 else 1
theorem cmpL_neg : ∀ (a b : List Int), decide (cmpL a b < 0) = lexlt a b
  | [], [] => rfl
  | [], _ :: _ => rfl
  | _ :: _, [] => rfl
  | a :: x, b :: y => by
    have ih := cmpL_neg x y
    by_cases h : a = b
    · have e : cmpL (a :: x) (b :: y) = cmpL x y := by simp [cmpL, h]
      rw [e, ih]
      simp [lexlt, h]
    · by_cases h2 : a < b
      · have e : cmpL (a :: x) (b :: y) = -1 := by simp [cmpL, h, h2]
        rw [e]
        simp [lexlt, h, h2]
      · have e : cmpL (a :: x) (b :: y) = 1 := by simp [cmpL, h, h2]
        rw [e]
        simp [lexlt, h, h2]
theorem cmpL_pos : ∀ (a b : List Int), decide (cmpL a b ≤ 0) = !lexlt b a
  | [], [] => rfl
  | [], _ :: _ => rfl
  | _ :: _, [] => rfl
  | a :: x, b :: y => by
    have ih := cmpL_pos x y
    by_cases h : a = b
    · have e : cmpL (a :: x) (b :: y) = cmpL x y := by simp [cmpL, h]
      rw [e, ih]
      simp [lexlt, h]
    · by_cases h2 : a < b
      · have e : cmpL (a :: x) (b :: y) = -1 := by simp [cmpL, h, h2]
        rw [e]
        simp [lexlt, Ne.symm h]
        omega
      · have e : cmpL (a :: x) (b :: y) = 1 := by simp [cmpL, h, h2]
        rw [e]
        simp [lexlt, Ne.symm h]
        omega

def okE (e : List Int) (v : Int) : Bool := decide ((e.length : Int) = v) && !e.any (fun x => !decide (-20 ≤ x ∧ x ≤ 20))
theorem okE_iff {e : List Int} {v : Int} : okE e v = true ↔ (e.length : Int) = v ∧ ∀ x ∈ e, -20 ≤ x ∧ x ≤ 20 := by
  unfold okE
  simp only [Bool.and_eq_true, decide_eq_true_eq, Bool.not_eq_true', List.any_eq_false, Bool.not_eq_true']
  refine ⟨fun ⟨h1, h2⟩ => ⟨h1, fun x hx => ?_⟩, fun ⟨h1, h2⟩ => ⟨h1, fun x hx => ?_⟩⟩
  · have := h2 x hx
    simpa using this
  · have := h2 x hx
    simpa using this
theorem cmp_isNaN_int_calls (a : Int) : ACalls Try.prog F.cmp_isNaN_int [.int a] [] true (fun outs res => outs = [] ∧ res = [.one (D.bool false)]) := by
  refine ACalls.of_body (C := C.cmp_isNaN_int) (n := Try.f227.ntmps) tabT folT Try.func227 rfl (by kernel_rfl) rfl (Nat.le_of_ble_eq_true rfl) (by decide) (by kernel_rfl) (by kernel_rfl) rfl (by simp) (by simp) ?_
  simp only [Try.f227]
  refine wseq ?_
  refine wreg fun K hK => ?_
  simp [C.cmp_isNaN_int]
  refine hK _ ?_; clear hK K
  show AWp _ _ _ _ _
  refine wseq ?_
  refine wreg fun K hK => ?_
  simp [C.cmp_isNaN_int]
  refine hK _ ?_; clear hK K
  show AWp _ _ _ _ _
  refine wret ?_
  simp [C.cmp_isNaN_int]

theorem cmp_Compare_int_calls (a b : Int) : ACalls Try.prog F.cmp_Compare_int [.int a, .int b] [] true (fun outs res => outs = [] ∧ res = [.one (D.int (cmpI a b))]) := by
  refine ACalls.of_body (C := C.cmp_Compare_int) (n := Try.f191.ntmps) tabT folT Try.func191 rfl (by kernel_rfl) rfl (Nat.le_of_ble_eq_true rfl) (by decide) (by kernel_rfl) (by kernel_rfl) rfl (by simp) (by simp) ?_
  simp only [Try.f191]
  refine wseq ?_
  refine wreg fun K hK => ?_
  simp [C.cmp_Compare_int]
  refine hK _ ?_; clear hK K
  show AWp _ _ _ _ _
  refine wseq ?_
  refine wregI ([0, 1] ++ ([2])) rfl fun K hK => ?_
  refine opsI_seg fun L hL => ?_
  simp [C.cmp_Compare_int]
  refine wcall1 (cmp_isNaN_int_calls a) (by simp) (by simp) ?_
  simp [C.cmp_Compare_int]
  refine hL _ ?_; clear hL L
  refine opsI_end fun L hL => ?_
  simp [C.cmp_Compare_int]
  refine hL _ ?_; clear hL L
  simp [C.cmp_Compare_int]
  refine hK _ ?_; clear hK K
  show AWp _ _ _ _ _
  refine wseq ?_
  refine wregI ([0, 1] ++ ([2])) rfl fun K hK => ?_
  refine opsI_seg fun L hL => ?_
  simp [C.cmp_Compare_int]
  refine wcall1 (cmp_isNaN_int_calls b) (by simp) (by simp) ?_
  simp [C.cmp_Compare_int]
  refine hL _ ?_; clear hL L
  refine opsI_end fun L hL => ?_
  simp [C.cmp_Compare_int]
  refine hL _ ?_; clear hL L
  simp [C.cmp_Compare_int]
  refine hK _ ?_; clear hK K
  show AWp _ _ _ _ _
  refine wseq ?_
  refine wseq ?_
  refine wreg fun K hK => ?_
  simp [C.cmp_Compare_int]
  refine hK _ ?_; clear hK K
  show AWp _ _ _ _ _
  refine wcond _ rfl (fun hc1 => ?_) (fun hc1 => ?_)
  · simp at hc1
  · refine wskip ?_
    show AWp _ _ _ _ _
    refine wseq ?_
    refine wseq ?_
    refine wreg fun K hK => ?_
    simp [C.cmp_Compare_int]
    refine hK _ ?_; clear hK K
    show AWp _ _ _ _ _
    refine wcond _ rfl (fun hc3 => ?_) (fun hc3 => ?_)
    · simp at hc3
    · refine wskip ?_
      show AWp _ _ _ _ _
      refine wseq ?_
      refine wseq ?_
      refine wreg fun K hK => ?_
      simp [C.cmp_Compare_int]
      refine hK _ ?_; clear hK K
      show AWp _ _ _ _ _
      refine wcond _ rfl (fun hc4 => ?_) (fun hc4 => ?_)
      · have h4 := d_t hc4
        refine wseq ?_
        refine wreg fun K hK => ?_
        simp [C.cmp_Compare_int]
        refine hK _ ?_; clear hK K
        show AWp _ _ _ _ _
        refine wret ?_
        simp [C.cmp_Compare_int, cmpI, h4]
      · have h4 := d_f hc4
        refine wskip ?_
        show AWp _ _ _ _ _
        refine wseq ?_
        refine wseq ?_
        refine wreg fun K hK => ?_
        simp [C.cmp_Compare_int]
        refine hK _ ?_; clear hK K
        show AWp _ _ _ _ _
        refine wcond _ rfl (fun hc5 => ?_) (fun hc5 => ?_)
        · have h5 : b < a := by simpa using hc5
          refine wseq ?_
          refine wreg fun K hK => ?_
          simp [C.cmp_Compare_int]
          refine hK _ ?_; clear hK K
          show AWp _ _ _ _ _
          refine wret ?_
          simp [C.cmp_Compare_int, cmpI, h4, h5]
        · have h5 : ¬ b < a := by simpa using hc5
          refine wskip ?_
          show AWp _ _ _ _ _
          refine wseq ?_
          refine wreg fun K hK => ?_
          simp [C.cmp_Compare_int]
          refine hK _ ?_; clear hK K
          show AWp _ _ _ _ _
          refine wret ?_
          simp [C.cmp_Compare_int, cmpI, h4, h5]

theorem slices_Compare_int_int_calls (a b : List Int) (ha : a.length < 4611686018427387904) : ACalls Try.prog F.slices_Compare_int_int [.d (shI a), .d (shI b)] [] true (fun outs res => outs = [] ∧ res = [.one (D.int (cmpL a b))]) := by
  refine ACalls.of_body (C := C.slices_Compare_int_int) (n := Try.f114.ntmps) tabT folT Try.func114 rfl (by kernel_rfl) rfl (Nat.le_of_ble_eq_true rfl) (by decide) (by kernel_rfl) (by kernel_rfl) rfl (by simp) (by simp) ?_
  simp only [Try.f114]
  refine wseq ?_
  refine wreg fun K hK => ?_
  simp [C.slices_Compare_int_int]
  refine hK _ ?_; clear hK K
  show AWp _ _ _ _ _
  refine wseq ?_
  refine wseq ?_
  refine wreg fun K hK => ?_
  simp [C.slices_Compare_int_int]
  refine hK _ ?_; clear hK K
  show AWp _ _ _ _ _
  refine wblock ?_
  refine wloop (fun k : Nat => ⟨ofL [(0, .d (shI a)), (1, .d (shI b)), (9, .d (shI a)), (10, .int a.length), (11, FV.int k)], ofRO []⟩) (fun k => k ≤ a.length ∧ k ≤ b.length ∧ cmpL a b = cmpL (a.drop k) (b.drop k)) (fun k => a.length - k) 0 (by simp [C.slices_Compare_int_int]) (by simp) ?_
  intro x1 hx1 R1 hR1
  obtain ⟨hk, hk2, ht⟩ := hx1
  refine wseq ?_
  refine wreg fun K hK => ?_
  simp [C.slices_Compare_int_int]
  refine hK _ ?_; clear hK K
  show AWp _ _ _ _ _
  refine wseq ?_
  refine wcond _ rfl (fun hc1 => ?_) (fun hc1 => ?_)
  · have h1 : x1 < a.length := by have := d_t hc1; omega
    refine wskip ?_
    show AWp _ _ _ _ _
    refine wseq ?_
    refine wblock ?_
    refine wseq ?_
    refine wreg fun K hK => ?_
    simp [C.slices_Compare_int_int, get_ints, h1]
    refine hK _ ?_; clear hK K
    show AWp _ _ _ _ _
    refine wseq ?_
    refine wseq ?_
    refine wreg fun K hK => ?_
    simp [C.slices_Compare_int_int]
    refine hK _ ?_; clear hK K
    show AWp _ _ _ _ _
    refine wcond _ rfl (fun hc2 => ?_) (fun hc2 => ?_)
    · have h2 : b.length ≤ x1 := by have := d_t hc2; omega
      refine wseq ?_
      refine wreg fun K hK => ?_
      simp [C.slices_Compare_int_int]
      refine hK _ ?_; clear hK K
      show AWp _ _ _ _ _
      refine wret ?_
      simp [C.slices_Compare_int_int]
      rw [ht, List.drop_eq_nil_of_le h2, List.drop_eq_getElem_cons h1]
      rfl
    · have h2 : x1 < b.length := by have := d_f hc2; omega
      refine wskip ?_
      show AWp _ _ _ _ _
      refine wseq ?_
      refine wreg fun K hK => ?_
      simp [C.slices_Compare_int_int, get_ints, h2]
      refine hK _ ?_; clear hK K
      show AWp _ _ _ _ _
      refine wseq ?_
      refine wregI ([0, 1, 2] ++ ([3])) rfl fun K hK => ?_
      refine opsI_seg fun L hL => ?_
      simp [C.slices_Compare_int_int]
      refine wcall1 (cmp_Compare_int_calls a[x1] b[x1]) (by simp) (by simp) ?_
      simp [C.slices_Compare_int_int]
      refine hL _ ?_; clear hL L
      refine opsI_end fun L hL => ?_
      simp [C.slices_Compare_int_int]
      refine hL _ ?_; clear hL L
      simp [C.slices_Compare_int_int]
      refine hK _ ?_; clear hK K
      show AWp _ _ _ _ _
      refine wseq ?_
      refine wreg fun K hK => ?_
      simp [C.slices_Compare_int_int]
      refine hK _ ?_; clear hK K
      show AWp _ _ _ _ _
      refine wcond _ rfl (fun hc3 => ?_) (fun hc3 => ?_)
      · have hne : ¬ cmpI a[x1] b[x1] = 0 := by simpa using hc3
        refine wseq ?_
        refine wreg fun K hK => ?_
        simp [C.slices_Compare_int_int]
        refine hK _ ?_; clear hK K
        show AWp _ _ _ _ _
        refine wret ?_
        simp [C.slices_Compare_int_int]
        rw [ht, List.drop_eq_getElem_cons h1, List.drop_eq_getElem_cons h2]
        rcases Int.lt_trichotomy a[x1] b[x1] with q | q | q
        · simp [cmpL, cmpI, q, Int.ne_of_lt q]
        · simp [cmpI, q] at hne
        · simp [cmpL, cmpI, q, Int.ne_of_gt q, Int.not_lt.2 (Int.le_of_lt q)]
      · have heq : cmpI a[x1] b[x1] = 0 := by simpa using hc3
        have hab : a[x1] = b[x1] := by
          unfold cmpI at heq
          split at heq
          · simp at heq
          · split at heq
            · simp at heq
            · omega
        refine wskip ?_
        show AWp _ _ _ _ _
        refine wreg fun K hK => ?_
        simp [C.slices_Compare_int_int, wrap_succ (show x1 < 4611686018427387904 by omega)]
        refine hK _ ?_; clear hK K
        simp [C.slices_Compare_int_int]
        refine hR1 (x1 + 1) ⟨h1, h2, ?_⟩ (by omega)
        rw [ht, List.drop_eq_getElem_cons h1, List.drop_eq_getElem_cons h2]
        simp [cmpL, hab]
  · have h1 : x1 = a.length := by have := d_f hc1; omega
    have hn : a.drop x1 = [] := List.drop_eq_nil_of_le (by omega)
    refine wexit ?_
    show AWp _ _ _ _ _
    refine wseq ?_
    refine wseq ?_
    refine wreg fun K hK => ?_
    simp [C.slices_Compare_int_int]
    refine hK _ ?_; clear hK K
    show AWp _ _ _ _ _
    refine wcond _ rfl (fun hc4 => ?_) (fun hc4 => ?_)
    · have h2 : a.length < b.length := by have := d_t hc4; omega
      refine wseq ?_
      refine wreg fun K hK => ?_
      simp [C.slices_Compare_int_int]
      refine hK _ ?_; clear hK K
      show AWp _ _ _ _ _
      refine wret ?_
      simp [C.slices_Compare_int_int]
      rw [ht, hn, List.drop_eq_getElem_cons (show x1 < b.length by omega)]
      rfl
    · have h2 : ¬ a.length < b.length := by have := d_f hc4; omega
      refine wskip ?_
      show AWp _ _ _ _ _
      refine wseq ?_
      refine wreg fun K hK => ?_
      simp [C.slices_Compare_int_int]
      refine hK _ ?_; clear hK K
      show AWp _ _ _ _ _
      refine wret ?_
      simp [C.slices_Compare_int_int]
      rw [ht, hn, List.drop_eq_nil_of_le (show b.length ≤ x1 by omega)]
      rfl

theorem slices_IndexFunc_int_int_calls (xs : List Int) (g : Nat) (p : Int → Bool) (hx : xs.length < 4611686018427387904) (hM : aget [] MM g = []) (hp : ∀ x ∈ xs, ACalls Try.prog g [.int x] [] true (fun outs res => outs = [] ∧ res = [.one (D.bool (p x))])) : ACalls Try.prog F.slices_IndexFunc_int_int [.d (shI xs), .d (.fn g [])] [] true (fun outs res => outs = [] ∧ ∃ r : Int, res = [.one (D.int r)] ∧ decide (0 ≤ r) = xs.any p) := by
  refine ACalls.of_body (C := C.slices_IndexFunc_int_int) (n := Try.f211.ntmps) tabT folT Try.func211 rfl (by kernel_rfl) rfl (Nat.le_of_ble_eq_true rfl) (by decide) (by kernel_rfl) (by kernel_rfl) rfl (by simp) (by simp) ?_
  simp only [Try.f211]
  refine wseq ?_
  refine wreg fun K hK => ?_
  simp [C.slices_IndexFunc_int_int]
  refine hK _ ?_; clear hK K
  show AWp _ _ _ _ _
  refine wseq ?_
  refine wseq ?_
  refine wreg fun K hK => ?_
  simp [C.slices_IndexFunc_int_int]
  refine hK _ ?_; clear hK K
  show AWp _ _ _ _ _
  refine wblock ?_
  refine wloop (fun k : Nat => ⟨ofL [(0, .d (shI xs)), (1, .d (.fn g [])), (7, .int xs.length), (8, FV.int k)], ofRO []⟩) (fun k => k ≤ xs.length ∧ (xs.take k).any p = false) (fun k => xs.length - k) 0 (by simp [C.slices_IndexFunc_int_int]) (by simp) ?_
  intro x1 hx1 R1 hR1
  obtain ⟨hk, ht⟩ := hx1
  refine wseq ?_
  refine wreg fun K hK => ?_
  simp [C.slices_IndexFunc_int_int]
  refine hK _ ?_; clear hK K
  show AWp _ _ _ _ _
  refine wseq ?_
  refine wcond _ rfl (fun hc1 => ?_) (fun hc1 => ?_)
  · have h1 : x1 < xs.length := by have := d_t hc1; omega
    refine wskip ?_
    show AWp _ _ _ _ _
    refine wseq ?_
    refine wblock ?_
    refine wseq ?_
    refine wreg fun K hK => ?_
    simp [C.slices_IndexFunc_int_int]
    refine hK _ ?_; clear hK K
    show AWp _ _ _ _ _
    refine wseq ?_
    refine wregI ([0, 1, 2, 3, 4, 5] ++ ([])) rfl fun K hK => ?_
    refine opsI_seg fun L hL => ?_
    simp [C.slices_IndexFunc_int_int, get_ints, h1, hM]
    refine wcall1 (hp xs[x1] (List.getElem_mem h1)) (by simp) (by simp) ?_
    simp [C.slices_IndexFunc_int_int, get_ints, h1, hM]
    refine hL _ ?_; clear hL L
    refine opsI_end fun L hL => ?_
    simp only [AOpsI]
    refine hL _ ?_; clear hL L
    simp [C.slices_IndexFunc_int_int, get_ints, h1, hM]
    refine hK _ ?_; clear hK K
    show AWp _ _ _ _ _
    refine wcond _ rfl (fun hc2 => ?_) (fun hc2 => ?_)
    · have hpx : p xs[x1] = true := by simpa using hc2
      refine wseq ?_
      refine wreg fun K hK => ?_
      simp [C.slices_IndexFunc_int_int]
      refine hK _ ?_; clear hK K
      show AWp _ _ _ _ _
      refine wret ?_
      simp [C.slices_IndexFunc_int_int]
      exact ⟨xs[x1], List.getElem_mem h1, hpx⟩
    · have hpx : p xs[x1] = false := by simpa using hc2
      refine wskip ?_
      show AWp _ _ _ _ _
      refine wreg fun K hK => ?_
      simp [C.slices_IndexFunc_int_int, wrap_succ (show x1 < 4611686018427387904 by omega)]
      refine hK _ ?_; clear hK K
      simp [C.slices_IndexFunc_int_int]
      refine hR1 (x1 + 1) ⟨h1, ?_⟩ (by omega)
      rw [List.take_succ_eq_append_getElem h1, List.any_append, ht]
      simp [hpx]
  · have h1 : x1 = xs.length := by have := d_f hc1; omega
    have ht2 : xs.any p = false := by rw [h1, List.take_length] at ht; exact ht
    refine wexit ?_
    show AWp _ _ _ _ _
    refine wseq ?_
    refine wreg fun K hK => ?_
    simp [C.slices_IndexFunc_int_int]
    refine hK _ ?_; clear hK K
    show AWp _ _ _ _ _
    refine wret ?_
    simp [C.slices_IndexFunc_int_int]
    intro x hx
    have := List.any_eq_false.1 ht2 x hx
    simpa using this

theorem slices_ContainsFunc_int_int_calls (xs : List Int) (g : Nat) (p : Int → Bool) (hx : xs.length < 4611686018427387904) (hM : aget [] MM g = []) (hp : ∀ x ∈ xs, ACalls Try.prog g [.int x] [] true (fun outs res => outs = [] ∧ res = [.one (D.bool (p x))])) : ACalls Try.prog F.slices_ContainsFunc_int_int [.d (shI xs), .d (.fn g [])] [] true (fun outs res => outs = [] ∧ res = [.one (D.bool (xs.any p))]) := by
  refine ACalls.of_body (C := C.slices_ContainsFunc_int_int) (n := Try.f134.ntmps) tabT folT Try.func134 rfl (by kernel_rfl) rfl (Nat.le_of_ble_eq_true rfl) (by decide) (by kernel_rfl) (by kernel_rfl) rfl (by simp) (by simp) ?_
  simp only [Try.f134]
  refine wseq ?_
  refine wreg fun K hK => ?_
  simp [C.slices_ContainsFunc_int_int]
  refine hK _ ?_; clear hK K
  show AWp _ _ _ _ _
  refine wseq ?_
  refine wregI ([0, 1, 2] ++ ([3, 4])) rfl fun K hK => ?_
  refine opsI_seg fun L hL => ?_
  simp [C.slices_ContainsFunc_int_int]
  refine wcall (slices_IndexFunc_int_int_calls xs g p hx hM hp) (by simp) (by simp) (by simp) ?_
  rintro outs res ⟨rfl, r, rfl, hr⟩
  simp [C.slices_ContainsFunc_int_int]
  refine hL _ ?_; clear hL L
  refine opsI_end fun L hL => ?_
  simp [C.slices_ContainsFunc_int_int]
  refine hL _ ?_; clear hL L
  simp [C.slices_ContainsFunc_int_int]
  refine hK _ ?_; clear hK K
  show AWp _ _ _ _ _
  refine wret ?_
  simp [C.slices_ContainsFunc_int_int]
  exact hr

theorem impl_expOk_1_calls (x : Int) : ACalls Try.prog F.impl_expOk_1 [.int x] [] true (fun outs res => outs = [] ∧ res = [.one (D.bool (!decide (-20 ≤ x ∧ x ≤ 20)))]) := by
  refine ACalls.of_body (C := C.impl_expOk_1) (n := Try.f192.ntmps) tabT folT Try.func192 rfl (by kernel_rfl) rfl (Nat.le_of_ble_eq_true rfl) (by decide) (by kernel_rfl) (by kernel_rfl) rfl (by simp) (by simp) ?_
  simp only [Try.f192]
  refine wseq ?_
  refine wreg fun K hK => ?_
  simp [C.impl_expOk_1]
  refine hK _ ?_; clear hK K
  show AWp _ _ _ _ _
  refine wseq ?_
  refine wregI ([0, 1] ++ ([2, 3])) rfl fun K hK => ?_
  refine opsI_seg fun L hL => ?_
  simp [C.impl_expOk_1]
  refine wcall1 (impl_within_calls x (-20) 20) (by simp) (by simp) ?_
  simp [C.impl_expOk_1]
  refine hL _ ?_; clear hL L
  refine opsI_end fun L hL => ?_
  simp [C.impl_expOk_1]
  refine hL _ ?_; clear hL L
  simp [C.impl_expOk_1]
  refine hK _ ?_; clear hK K
  show AWp _ _ _ _ _
  refine wret ?_
  simp [C.impl_expOk_1]

theorem impl_expOk_calls (e : List Int) (v : Int) (hx : e.length < 4611686018427387904) : ACalls Try.prog F.impl_expOk [.d (shI e), .int v] [] true (fun outs res => outs = [] ∧ res = [.one (D.bool (okE e v))]) := by
  refine ACalls.of_body (C := C.impl_expOk) (n := Try.f115.ntmps) tabT folT Try.func115 rfl (by kernel_rfl) rfl (Nat.le_of_ble_eq_true rfl) (by decide) (by kernel_rfl) (by kernel_rfl) rfl (by simp) (by simp) ?_
  simp only [Try.f115]
  refine wseq ?_
  refine wreg fun K hK => ?_
  simp [C.impl_expOk]
  refine hK _ ?_; clear hK K
  show AWp _ _ _ _ _
  refine wseq ?_
  refine wregI ([0, 1, 2, 3, 4, 5, 6] ++ ([7, 8, 9])) rfl fun K hK => ?_
  have hJ : K ⟨ofL [(4, .bool (okE e v))], ofRO []⟩ := by
    refine hK _ ?_; clear hK K
    show AWp _ _ _ _ _
    refine wret ?_
    simp [C.impl_expOk]
  clear hK
  by_cases ha : (e.length : Int) = v
  · refine opsI_seg fun L hL => ?_
    simp [C.impl_expOk, ha]
    refine wcall1 (slices_ContainsFunc_int_int_calls e _ (fun x => !decide (-20 ≤ x ∧ x ≤ 20)) hx rfl (fun x _ => impl_expOk_1_calls x)) (by simp) (by simp) ?_
    simp [C.impl_expOk, ha]
    refine hL _ ?_; clear hL L
    refine opsI_end fun L hL => ?_
    simp [C.impl_expOk, ha]
    refine hL _ ?_; clear hL L
    simp [C.impl_expOk, ha]
    refine cast (congrArg K ?_) hJ
    simp [okE, ha]
  · refine opsI_seg fun L hL => ?_
    simp [C.impl_expOk, ha]
    refine hL _ ?_; clear hL L
    refine opsI_end fun L hL => ?_
    simp [C.impl_expOk, ha]
    refine hL _ ?_; clear hL L
    simp [C.impl_expOk, ha]
    refine cast (congrArg K ?_) hJ
    simp [okE, ha]

theorem impl_coefOk_calls (c : Int) : ACalls Try.prog F.impl_coefOk [.int c] [] true (fun outs res => outs = [] ∧ res = [.one (D.bool (decide (c ≠ 0 ∧ -1000000 ≤ c ∧ c ≤ 1000000)))]) := by
  refine ACalls.of_body (C := C.impl_coefOk) (n := Try.f116.ntmps) tabT folT Try.func116 rfl (by kernel_rfl) rfl (Nat.le_of_ble_eq_true rfl) (by decide) (by kernel_rfl) (by kernel_rfl) rfl (by simp) (by simp) ?_
  simp only [Try.f116]
  refine wseq ?_
  refine wreg fun K hK => ?_
  simp [C.impl_coefOk]
  refine hK _ ?_; clear hK K
  show AWp _ _ _ _ _
  refine wseq ?_
  refine wregI ([0, 1, 2, 3, 4] ++ ([5, 6])) rfl fun K hK => ?_
  have hJ : K ⟨ofL [(2, .bool (decide (c ≠ 0 ∧ -1000000 ≤ c ∧ c ≤ 1000000)))], ofRO []⟩ := by
    refine hK _ ?_; clear hK K
    show AWp _ _ _ _ _
    refine wret ?_
    simp [C.impl_coefOk]
  clear hK
  by_cases ha : c = 0
  · refine opsI_seg fun L hL => ?_
    simp [C.impl_coefOk, ha]
    refine hL _ ?_; clear hL L
    refine opsI_end fun L hL => ?_
    simp [C.impl_coefOk, ha]
    refine hL _ ?_; clear hL L
    simp [C.impl_coefOk, ha]
    refine cast (congrArg K ?_) hJ
    simp [ha]
  · refine opsI_seg fun L hL => ?_
    simp [C.impl_coefOk, ha]
    refine wcall1 (impl_within_calls c (-1000000) 1000000) (by simp) (by simp) ?_
    simp [C.impl_coefOk, ha]
    refine hL _ ?_; clear hL L
    refine opsI_end fun L hL => ?_
    simp [C.impl_coefOk, ha]
    refine hL _ ?_; clear hL L
    simp [C.impl_coefOk, ha]
    refine cast (congrArg K ?_) hJ
    simp [ha]

theorem impl_LaurentOk_calls (f : Lau) (hx : f.ts.length < 4611686018427387904) (hxe : ∀ t ∈ f.ts, t.e.length < 4611686018427387904) : ACalls Try.prog F.impl_LaurentOk [aF f] [] true (fun outs res => outs = [] ∧ res = [.one (D.bool (decide (Right f)))]) := by
  refine ACalls.of_body (C := C.impl_LaurentOk) (n := Try.f133.ntmps) tabT folT Try.func133 rfl (by kernel_rfl) rfl (Nat.le_of_ble_eq_true rfl) (by decide) (by kernel_rfl) (by kernel_rfl) rfl (by simp) (by simp) ?_
  simp only [Try.f133]
  refine wseq ?_
  refine wreg fun K hK => ?_
  simp [C.impl_LaurentOk, fS, tS]
  refine hK _ ?_; clear hK K
  show AWp _ _ _ _ _
  refine wseq ?_
  refine wseq ?_
  refine wregI ([0, 1, 2] ++ ([3, 4, 5, 6, 7, 8, 9])) rfl fun K hK => ?_
  have hJ : K ⟨ofL [(1, .pt (1, 0) [] 0), (14, .bool (decide (¬ (1 ≤ f.v ∧ f.v ≤ 8) ∨ 600 < (f.ts.length : Int))))], ofRO [((1, 0), some (.bx (fS f)))]⟩ := by
    refine hK _ ?_; clear hK K
    show AWp _ _ _ _ _
    refine wcond _ rfl (fun hc1 => ?_) (fun hc1 => ?_)
    · have hh := d_t hc1
      refine wseq ?_
      refine wreg fun K hK => ?_
      simp [C.impl_LaurentOk, fS, tS]
      refine hK _ ?_; clear hK K
      show AWp _ _ _ _ _
      refine wret ?_
      simp [C.impl_LaurentOk, fS, tS]
      intro hr; have := hr.1; have := hr.2.1; omega
    · have hh0 := d_f hc1
      have hh : (1 ≤ f.v ∧ f.v ≤ 8) ∧ f.ts.length ≤ 600 := by omega
      refine wskip ?_
      show AWp _ _ _ _ _
      refine wseq ?_
      refine wseq ?_
      refine wreg fun K hK => ?_
      simp [C.impl_LaurentOk, fS, tS]
      refine hK _ ?_; clear hK K
      show AWp _ _ _ _ _
      refine wblock ?_
      refine wloop (fun k : Nat => ⟨ofL [(1, .pt (1, 0) [] 0), (16, .d (.sh 2 f.ts.length (rows tS f.ts))), (17, .int f.ts.length), (18, .int k)], ofRO [((1, 0), some (.bx (fS f)))]⟩) (fun k => k ≤ f.ts.length ∧ (∀ t ∈ f.ts.take k, Good f.v t) ∧ DescT (f.ts.take k)) (fun k => f.ts.length - k) 0 (by simp [C.impl_LaurentOk, fS]) (by simp [DescT]) ?_
      intro x1 hx1 R1 hR1
      obtain ⟨hk, hgood, hdesc⟩ := hx1
      refine wseq ?_
      refine wreg fun K hK => ?_
      simp [C.impl_LaurentOk, fS, tS]
      refine hK _ ?_; clear hK K
      show AWp _ _ _ _ _
      refine wseq ?_
      refine wcond _ rfl (fun hc2 => ?_) (fun hc2 => ?_)
      · have h1 : x1 < f.ts.length := by have := d_t hc2; omega
        refine wskip ?_
        show AWp _ _ _ _ _
        refine wseq ?_
        refine wblock ?_
        refine wseq ?_
        refine wreg fun K hK => ?_
        simp [C.impl_LaurentOk, fS, tS, h1, tS_0 h1, tS_1 h1]
        refine hK _ ?_; clear hK K
        show AWp _ _ _ _ _
        refine wseq ?_
        refine wdrawI [(true, 0), (true, 1), (true, 2), (true, 3), (false, 4), (true, 5), (true, 6), (true, 7), (true, 8), (false, 9), (true, 10), (true, 11), (true, 12), (true, 13), (true, 14), (true, 15), (true, 16), (true, 17), (true, 18), (true, 19), (true, 20), (true, 21), (true, 22), (true, 23), (true, 24), (false, 25), (true, 26), (true, 27), (true, 28)] ⟨by kernel_rfl, by kernel_rfl⟩ ([0, 1, 2, 3, 4] ++ ([5, 6, 7, 8, 9] ++ ([10, 11, 12, 13, 14, 15, 16, 17, 18, 19, 20, 21, 22, 23, 24, 25] ++ ([26, 27, 28])))) rfl fun K hK => ?_
        have hJ : K ⟨ofL [(1, .pt (1, 0) [] 0), (16, .d (.sh 2 f.ts.length (rows tS f.ts))), (17, .int f.ts.length), (18, .int x1), (51, .bool (!decide (okE f.ts[x1].e f.v = true ∧ (f.ts[x1].c ≠ 0 ∧ -1000000 ≤ f.ts[x1].c ∧ f.ts[x1].c ≤ 1000000) ∧ (x1 = 0 ∨ lexlt f.ts[x1].e f.ts[x1 - 1].e = true))))], ofRO [((1, 0), some (.bx (fS f)))]⟩ := by
          refine hK _ ?_; clear hK K
          show AWp _ _ _ _ _
          refine wcond _ rfl (fun hc3 => ?_) (fun hc3 => ?_)
          · have hb := nd_t hc3
            refine wseq ?_
            refine wreg fun K hK => ?_
            simp [C.impl_LaurentOk, fS, tS]
            refine hK _ ?_; clear hK K
            show AWp _ _ _ _ _
            refine wret ?_
            simp [C.impl_LaurentOk, fS, tS]
            intro hr
            have hg := hr.2.2.1 _ (List.getElem_mem h1)
            exact hb ⟨okE_iff.2 ⟨hg.1, hg.2.2.2⟩, ⟨hg.2.1, hg.2.2.1⟩, descT_next h1 hr.2.2.2⟩
          · have hb := nd_f hc3
            refine wskip ?_
            show AWp _ _ _ _ _
            refine wreg fun K hK => ?_
            simp [C.impl_LaurentOk, fS, tS, wrap_succ (show x1 < 4611686018427387904 by omega)]
            refine hK _ ?_; clear hK K
            simp [C.impl_LaurentOk, fS, tS]
            refine hR1 (x1 + 1) ⟨h1, ?_, descT_step h1 hdesc hb.2.2⟩ (by omega)
            rw [List.take_succ_eq_append_getElem h1]
            intro t ht
            rcases List.mem_append.1 ht with ht | ht
            · exact hgood t ht
            · simp only [List.mem_singleton] at ht
              rw [ht]
              have ho := okE_iff.1 hb.1
              exact ⟨ho.1, hb.2.1.1, hb.2.1.2, ho.2⟩
        clear hK
        by_cases ha : okE f.ts[x1].e f.v = true
        · by_cases hb : f.ts[x1].c ≠ 0 ∧ -1000000 ≤ f.ts[x1].c ∧ f.ts[x1].c ≤ 1000000
          · by_cases hd : 0 < x1
            · obtain ⟨m, rfl⟩ : ∃ m, x1 = m + 1 := ⟨x1 - 1, by omega⟩
              have hm : m < f.ts.length := by omega
              refine opsI_seg fun L hL => ?_
              simp [C.impl_LaurentOk, fS, tS, hm, tS_0 hm, wrap_nat (show m < 4611686018427387904 by omega), ha, hb, hd]
              refine wcall1 (impl_expOk_calls f.ts[m + 1].e f.v (hxe _ (List.getElem_mem h1))) (by simp) (by simp) ?_
              simp [C.impl_LaurentOk, fS, tS, hm, tS_0 hm, wrap_nat (show m < 4611686018427387904 by omega), ha, hb, hd]
              refine hL _ ?_; clear hL L
              refine opsI_seg fun L hL => ?_
              simp [C.impl_LaurentOk, fS, tS, hm, tS_0 hm, wrap_nat (show m < 4611686018427387904 by omega), ha, hb, hd]
              refine wcall1 (impl_coefOk_calls f.ts[m + 1].c) (by simp) (by simp) ?_
              simp [C.impl_LaurentOk, fS, tS, hm, tS_0 hm, wrap_nat (show m < 4611686018427387904 by omega), ha, hb, hd]
              refine hL _ ?_; clear hL L
              refine opsI_seg fun L hL => ?_
              simp [C.impl_LaurentOk, fS, tS, hm, tS_0 hm, wrap_nat (show m < 4611686018427387904 by omega), ha, hb, hd]
              refine wcall1 (slices_Compare_int_int_calls f.ts[m].e f.ts[m + 1].e (hxe _ (List.getElem_mem hm))) (by simp) (by simp) ?_
              simp [C.impl_LaurentOk, fS, tS, hm, tS_0 hm, wrap_nat (show m < 4611686018427387904 by omega), ha, hb, hd]
              refine hL _ ?_; clear hL L
              refine opsI_end fun L hL => ?_
              simp [C.impl_LaurentOk, fS, tS, hm, tS_0 hm, wrap_nat (show m < 4611686018427387904 by omega), ha, hb, hd]
              refine hL _ ?_; clear hL L
              simp [C.impl_LaurentOk, fS, tS, hm, tS_0 hm, wrap_nat (show m < 4611686018427387904 by omega), ha, hb, hd]
              refine cast (congrArg K ?_) hJ
              simp [cmpL_pos, fS, tS, ha, hb, hd]
            · obtain rfl : x1 = 0 := by omega
              refine opsI_seg fun L hL => ?_
              simp [C.impl_LaurentOk, fS, tS, ha, hb, hd]
              refine wcall1 (impl_expOk_calls f.ts[0].e f.v (hxe _ (List.getElem_mem h1))) (by simp) (by simp) ?_
              simp [C.impl_LaurentOk, fS, tS, ha, hb, hd]
              refine hL _ ?_; clear hL L
              refine opsI_seg fun L hL => ?_
              simp [C.impl_LaurentOk, fS, tS, ha, hb, hd]
              refine wcall1 (impl_coefOk_calls f.ts[0].c) (by simp) (by simp) ?_
              simp [C.impl_LaurentOk, fS, tS, ha, hb, hd]
              refine hL _ ?_; clear hL L
              refine opsI_seg fun L hL => ?_
              simp [C.impl_LaurentOk, fS, tS, ha, hb, hd]
              refine hL _ ?_; clear hL L
              refine opsI_end fun L hL => ?_
              simp [C.impl_LaurentOk, fS, tS, ha, hb, hd]
              refine hL _ ?_; clear hL L
              simp [C.impl_LaurentOk, fS, tS, ha, hb, hd]
              refine cast (congrArg K ?_) hJ
              simp [fS, tS, ha, hb, hd]
          · refine opsI_seg fun L hL => ?_
            simp [C.impl_LaurentOk, fS, tS, ha, hb]
            refine wcall1 (impl_expOk_calls f.ts[x1].e f.v (hxe _ (List.getElem_mem h1))) (by simp) (by simp) ?_
            simp [C.impl_LaurentOk, fS, tS, ha, hb]
            refine hL _ ?_; clear hL L
            refine opsI_seg fun L hL => ?_
            simp [C.impl_LaurentOk, fS, tS, ha, hb]
            refine wcall1 (impl_coefOk_calls f.ts[x1].c) (by simp) (by simp) ?_
            simp [C.impl_LaurentOk, fS, tS, ha, hb]
            refine hL _ ?_; clear hL L
            refine opsI_seg fun L hL => ?_
            simp [C.impl_LaurentOk, fS, tS, ha, hb]
            refine hL _ ?_; clear hL L
            refine opsI_end fun L hL => ?_
            simp [C.impl_LaurentOk, fS, tS, ha, hb]
            refine hL _ ?_; clear hL L
            simp [C.impl_LaurentOk, fS, tS, ha, hb]
            refine cast (congrArg K ?_) hJ
            simp [fS, tS, ha, hb]
        · refine opsI_seg fun L hL => ?_
          simp [C.impl_LaurentOk, fS, tS, ha]
          refine wcall1 (impl_expOk_calls f.ts[x1].e f.v (hxe _ (List.getElem_mem h1))) (by simp) (by simp) ?_
          simp [C.impl_LaurentOk, fS, tS, ha]
          refine hL _ ?_; clear hL L
          refine opsI_seg fun L hL => ?_
          simp [C.impl_LaurentOk, fS, tS, ha]
          refine hL _ ?_; clear hL L
          refine opsI_seg fun L hL => ?_
          simp [C.impl_LaurentOk, fS, tS, ha]
          refine hL _ ?_; clear hL L
          refine opsI_end fun L hL => ?_
          simp [C.impl_LaurentOk, fS, tS, ha]
          refine hL _ ?_; clear hL L
          simp [C.impl_LaurentOk, fS, tS, ha]
          refine cast (congrArg K ?_) hJ
          simp [fS, tS, ha]
      · have h2 : x1 = f.ts.length := by have := d_f hc2; omega
        refine wexit ?_
        show AWp _ _ _ _ _
        refine wseq ?_
        refine wreg fun K hK => ?_
        simp [C.impl_LaurentOk, fS, tS]
        refine hK _ ?_; clear hK K
        show AWp _ _ _ _ _
        refine wret ?_
        simp [C.impl_LaurentOk, fS, tS]
        rw [h2, List.take_length] at hgood hdesc
        exact ⟨hh.1, hh.2, hgood, hdesc⟩
  clear hK
  by_cases ha : 1 ≤ f.v ∧ f.v ≤ 8
  · refine opsI_seg fun L hL => ?_
    simp [C.impl_LaurentOk, fS, tS, ha]
    refine wcall1 (impl_within_calls f.v 1 8) (by simp) (by simp) ?_
    simp [C.impl_LaurentOk, fS, tS, ha]
    refine hL _ ?_; clear hL L
    refine opsI_end fun L hL => ?_
    simp [C.impl_LaurentOk, fS, tS, ha]
    refine hL _ ?_; clear hL L
    simp [C.impl_LaurentOk, fS, tS, ha]
    refine cast (congrArg K ?_) hJ
    simp [fS, tS, ha]
  · refine opsI_seg fun L hL => ?_
    simp [C.impl_LaurentOk, fS, tS, ha]
    refine wcall1 (impl_within_calls f.v 1 8) (by simp) (by simp) ?_
    simp [C.impl_LaurentOk, fS, tS, ha]
    refine hL _ ?_; clear hL L
    refine opsI_end fun L hL => ?_
    simp [C.impl_LaurentOk, fS, tS, ha]
    refine hL _ ?_; clear hL L
    simp [C.impl_LaurentOk, fS, tS, ha]
    refine cast (congrArg K ?_) hJ
    simp [fS, tS, ha]

theorem impl_bothOk_calls (f g : Lau) (hx : f.ts.length < 4611686018427387904) (hxe : ∀ t ∈ f.ts, t.e.length < 4611686018427387904) (hy : g.ts.length < 4611686018427387904) (hye : ∀ t ∈ g.ts, t.e.length < 4611686018427387904) : ACalls Try.prog F.impl_bothOk [aF f, aF g] [] true (fun outs res => outs = [] ∧ res = [.one (D.bool (decide (Right f ∧ Right g ∧ f.v = g.v)))]) := by
  refine ACalls.of_body (C := C.impl_bothOk) (n := Try.f108.ntmps) tabT folT Try.func108 rfl (by kernel_rfl) rfl (Nat.le_of_ble_eq_true rfl) (by decide) (by kernel_rfl) (by kernel_rfl) rfl (by simp) (by simp) ?_
  simp only [Try.f108]
  refine wseq ?_
  refine wreg fun K hK => ?_
  simp [C.impl_bothOk, fS]
  refine hK _ ?_; clear hK K
  show AWp _ _ _ _ _
  refine wseq ?_
  refine wregI ([0, 1] ++ ([2, 3, 4] ++ ([5, 6, 7, 8, 9, 10, 11, 12, 13]))) rfl fun K hK => ?_
  have hJ : K ⟨ofL [(4, .bool (decide (Right f ∧ Right g ∧ f.v = g.v)))], ofRO []⟩ := by
    refine hK _ ?_; clear hK K
    show AWp _ _ _ _ _
    refine wret ?_
    simp [C.impl_bothOk, fS]
  clear hK
  by_cases ha : Right f
  · by_cases hb : Right g
    · refine opsI_seg fun L hL => ?_
      simp [C.impl_bothOk, fS, ha, hb]
      refine wcall1 (impl_LaurentOk_calls f hx hxe) (by simp) (by simp) ?_
      simp [C.impl_bothOk, fS, ha, hb]
      refine hL _ ?_; clear hL L
      refine opsI_seg fun L hL => ?_
      simp [C.impl_bothOk, fS, ha, hb]
      refine wcall1 (impl_LaurentOk_calls g hy hye) (by simp) (by simp) ?_
      simp [C.impl_bothOk, fS, ha, hb]
      refine hL _ ?_; clear hL L
      refine opsI_end fun L hL => ?_
      simp [C.impl_bothOk, fS, ha, hb]
      refine hL _ ?_; clear hL L
      simp [C.impl_bothOk, fS, ha, hb]
      refine cast (congrArg K ?_) hJ
      simp [ibeq, fS, ha, hb]
    · refine opsI_seg fun L hL => ?_
      simp [C.impl_bothOk, fS, ha, hb]
      refine wcall1 (impl_LaurentOk_calls f hx hxe) (by simp) (by simp) ?_
      simp [C.impl_bothOk, fS, ha, hb]
      refine hL _ ?_; clear hL L
      refine opsI_seg fun L hL => ?_
      simp [C.impl_bothOk, fS, ha, hb]
      refine wcall1 (impl_LaurentOk_calls g hy hye) (by simp) (by simp) ?_
      simp [C.impl_bothOk, fS, ha, hb]
      refine hL _ ?_; clear hL L
      refine opsI_end fun L hL => ?_
      simp [C.impl_bothOk, fS, ha, hb]
      refine hL _ ?_; clear hL L
      simp [C.impl_bothOk, fS, ha, hb]
      refine cast (congrArg K ?_) hJ
      simp [ibeq, fS, ha, hb]
  · refine opsI_seg fun L hL => ?_
    simp [C.impl_bothOk, fS, ha]
    refine wcall1 (impl_LaurentOk_calls f hx hxe) (by simp) (by simp) ?_
    simp [C.impl_bothOk, fS, ha]
    refine hL _ ?_; clear hL L
    refine opsI_seg fun L hL => ?_
    simp [C.impl_bothOk, fS, ha]
    refine hL _ ?_; clear hL L
    refine opsI_end fun L hL => ?_
    simp [C.impl_bothOk, fS, ha]
    refine hL _ ?_; clear hL L
    simp [C.impl_bothOk, fS, ha]
    refine cast (congrArg K ?_) hJ
    simp [ibeq, fS, ha]

end Go.Proofs.Ytdgeponcnlkaiaa.Ab
namespace Go.Proofs.Ytdgeponcnlkaiaa.Ab
open Go
set_option linter.unusedSimpArgs false
set_option linter.unusedVariables false
set_option maxRecDepth 10000
set_option maxHeartbeats 2000000
attribute [local simp] mapKV flatInt tileB
def pad (e : List Int) : List Int := e ++ List.replicate (8 - e.length) 0
theorem pad_length {e : List Int} (h : e.length ≤ 8) : (pad e).length = 8 := by
  unfold pad
  simp
  omega
theorem eight {l : List Int} (h : l.length = 8) : ∃ a b c d e f g k, l = [a, b, c, d, e, f, g, k] := by
  match l, h with
  | [a, b, c, d, e, f, g, k], _ => exact ⟨a, b, c, d, e, f, g, k, rfl⟩
def madd (es : List (List Int × Int)) (k : List Int) (c : Int) : List (List Int × Int) :=
  if c + (mget k es).getD 0 = 0 then mdel k es else mset k (c + (mget k es).getD 0) es
theorem impl_keyOf_calls (e : List Int) (he : e.length ≤ 8) (k0 k1 k2 k3 k4 k5 k6 k7 : Int) (hk : pad e = [k0, k1, k2, k3, k4, k5, k6, k7]) : ACalls Try.prog F.impl_keyOf [.d (shI e)] [] true (fun outs res => outs = [] ∧ res = [.ag [D.int k0, D.int k1, D.int k2, D.int k3, D.int k4, D.int k5, D.int k6, D.int k7]]) := by
  refine ACalls.of_body (C := C.impl_keyOf) (n := Try.f112.ntmps) tabT folT Try.func112 rfl (by kernel_rfl) rfl (Nat.le_of_ble_eq_true rfl) (by decide) (by kernel_rfl) (by kernel_rfl) rfl (by simp) (by simp) ?_
  simp only [Try.f112]
  refine wseq ?_
  refine wreg fun K hK => ?_
  simp [C.impl_keyOf]
  refine hK _ ?_; clear hK K
  show AWp _ _ _ _ _
  refine wseq ?_
  refine wreg fun K hK => ?_
  simp [C.impl_keyOf]
  refine hK _ ?_; clear hK K
  show AWp _ _ _ _ _
  refine wseq ?_
  have hcp : ints (e.take (min e.length 8)) ++ List.drop (min e.length 8) [D.int 0, D.int 0, D.int 0, D.int 0, D.int 0, D.int 0, D.int 0, D.int 0] = [D.int k0, D.int k1, D.int k2, D.int k3, D.int k4, D.int k5, D.int k6, D.int k7] := by
    have hz : ([D.int 0, D.int 0, D.int 0, D.int 0, D.int 0, D.int 0, D.int 0, D.int 0] : List D) = ints (List.replicate 8 0) := rfl
    rw [hz, Nat.min_eq_left he, List.take_length, ints_drop, ints_append, List.drop_replicate]
    show ints (pad e) = _
    rw [hk]
    rfl
  refine wreg fun K hK => ?_
  simp [C.impl_keyOf]
  rw [hcp]
  refine hK _ ?_; clear hK K
  show AWp _ _ _ _ _
  refine wseq ?_
  refine wreg fun K hK => ?_
  simp [C.impl_keyOf]
  refine hK _ ?_; clear hK K
  show AWp _ _ _ _ _
  refine wret ?_
  simp [C.impl_keyOf]

theorem impl_newBuilding_calls (v : Int) : ACalls Try.prog F.impl_newBuilding [.int v] [] true (fun outs res => outs = [] ∧ res = [.one (.bx [D.int v, .mp []])]) := by
  refine ACalls.of_body (C := C.impl_newBuilding) (n := Try.f109.ntmps) tabT folT Try.func109 rfl (by kernel_rfl) rfl (Nat.le_of_ble_eq_true rfl) (by decide) (by kernel_rfl) (by kernel_rfl) rfl (by simp) (by simp) ?_
  simp only [Try.f109]
  refine wseq ?_
  refine wreg fun K hK => ?_
  simp [C.impl_newBuilding]
  refine hK _ ?_; clear hK K
  show AWp _ _ _ _ _
  refine wseq ?_
  refine wreg fun K hK => ?_
  simp [C.impl_newBuilding]
  refine hK _ ?_; clear hK K
  show AWp _ _ _ _ _
  refine wret ?_
  simp [C.impl_newBuilding]

theorem impl_building_add_calls (v c : Int) (es : List (List Int × Int)) (k0 k1 k2 k3 k4 k5 k6 k7 : Int) (hes : mapLen 8 es) (hw : -9223372036854775808 ≤ c + (mget [k0, k1, k2, k3, k4, k5, k6, k7] es).getD 0 ∧ c + (mget [k0, k1, k2, k3, k4, k5, k6, k7] es).getD 0 < 9223372036854775808) : ACalls Try.prog F.impl_building_add [.pt (0, 0) [] 0, .ag [.int k0, .int k1, .int k2, .int k3, .int k4, .int k5, .int k6, .int k7], .int c] [((0, 0), .bx [D.int v, .mp es])] true (fun outs res => outs = [.bx [D.int v, .mp (madd es [k0, k1, k2, k3, k4, k5, k6, k7] c)]] ∧ res = []) := by
  refine ACalls.of_body (C := C.impl_building_add) (n := Try.f110.ntmps) tabT folT Try.func110 rfl (by kernel_rfl) rfl (Nat.le_of_ble_eq_true rfl) (by decide) (by kernel_rfl) (by kernel_rfl) rfl (by simp) (by simp) ?_
  simp only [Try.f110]
  refine wseq ?_
  refine wreg fun K hK => ?_
  simp [C.impl_building_add]
  refine hK _ ?_; clear hK K
  show AWp _ _ _ _ _
  refine wseq ?_
  refine wdraw (.take 0 (.take 1 (.take 2 (.take 3 (.take 4 (.take 5 (.take 6 (.take 7 (.take 8 (.done)))))))))) ⟨by kernel_rfl, by kernel_rfl⟩ fun K hK => ?_
  simp [C.impl_building_add, hes]
  rw [wrapOk (x := c + (mget [k0, k1, k2, k3, k4, k5, k6, k7] es).getD 0) hw.1 hw.2]
  refine hK _ ?_; clear hK K
  show AWp _ _ _ _ _
  refine wseq ?_
  refine wreg fun K hK => ?_
  simp [C.impl_building_add]
  refine hK _ ?_; clear hK K
  show AWp _ _ _ _ _
  refine wcond _ rfl (fun hc1 => ?_) (fun hc1 => ?_)
  · have hz : c + (mget [k0, k1, k2, k3, k4, k5, k6, k7] es).getD 0 = 0 := by simpa using hc1
    refine wdraw (.take 0 (.take 1 (.take 2 (.take 3 (.take 4 (.all [(5, .done)])))))) ⟨by kernel_rfl, by kernel_rfl⟩ fun K hK => ?_
    simp [C.impl_building_add, hes]
    refine hK _ ?_; clear hK K
    simp [C.impl_building_add, madd, hz]
  · have hz : ¬ c + (mget [k0, k1, k2, k3, k4, k5, k6, k7] es).getD 0 = 0 := by simpa using hc1
    refine wdraw (.take 0 (.take 1 (.take 2 (.take 3 (.take 4 (.take 5 (.all [(6, .done)]))))))) ⟨by kernel_rfl, by kernel_rfl⟩ fun K hK => ?_
    simp [C.impl_building_add, hes]
    refine hK _ ?_; clear hK K
    simp [C.impl_building_add, madd, hz]

theorem impl_plusExp_calls (t : Int) (a0 a1 a2 a3 a4 a5 a6 a7 b0 b1 b2 b3 b4 b5 b6 b7 : Int) (ht : -1 ≤ t ∧ t ≤ 1) (ha : ∀ x ∈ [a0, a1, a2, a3, a4, a5, a6, a7], -1000000 ≤ x ∧ x ≤ 1000000) (hb : ∀ x ∈ [b0, b1, b2, b3, b4, b5, b6, b7], -1000000 ≤ x ∧ x ≤ 1000000) : ACalls Try.prog F.impl_plusExp [.ag [.int a0, .int a1, .int a2, .int a3, .int a4, .int a5, .int a6, .int a7], .int t, .ag [.int b0, .int b1, .int b2, .int b3, .int b4, .int b5, .int b6, .int b7]] [] true (fun outs res => outs = [] ∧ res = [.ag [D.int (a0 + t * b0), D.int (a1 + t * b1), D.int (a2 + t * b2), D.int (a3 + t * b3), D.int (a4 + t * b4), D.int (a5 + t * b5), D.int (a6 + t * b6), D.int (a7 + t * b7)]]) := by
  refine ACalls.of_body (C := C.impl_plusExp) (n := Try.f111.ntmps) tabT folT Try.func111 rfl (by kernel_rfl) rfl (Nat.le_of_ble_eq_true rfl) (by decide) (by kernel_rfl) (by kernel_rfl) rfl (by simp) (by simp) ?_
  simp only [Try.f111]
  refine wseq ?_
  refine wreg fun K hK => ?_
  simp [C.impl_plusExp]
  refine hK _ ?_; clear hK K
  show AWp _ _ _ _ _
  refine wseq ?_
  refine wseq ?_
  refine wreg fun K hK => ?_
  simp [C.impl_plusExp]
  refine hK _ ?_; clear hK K
  show AWp _ _ _ _ _
  refine wblock ?_
  refine wloop (fun x : Nat × List Int => ⟨ofL [(1, .int t), (3, .pt (3, 0) [] 0), (5, .pt (5, 0) [] 0), (6, .pt (6, 0) [] 0), (8, .int x.1)], ofRO [((3, 0), some (.bx (ints x.2))), ((5, 0), some (.bx (ints [b0, b1, b2, b3, b4, b5, b6, b7]))), ((6, 0), some (.bx (ints [0, 0, 0, 0, 0, 0, 0, 0])))]⟩) (fun x => x.1 ≤ 8 ∧ x.2 = addE t ([a0, a1, a2, a3, a4, a5, a6, a7].take x.1) ([b0, b1, b2, b3, b4, b5, b6, b7].take x.1) ++ [a0, a1, a2, a3, a4, a5, a6, a7].drop x.1) (fun x => 8 - x.1) (0, [a0, a1, a2, a3, a4, a5, a6, a7]) (by simp [C.impl_plusExp, ints]) (by simp [addE]) ?_
  intro x1 hx1 R1 hR1
  obtain ⟨i, gs⟩ := x1
  obtain ⟨hi, hg⟩ := hx1
  dsimp only at hi hg ⊢
  refine wseq ?_
  refine wreg fun K hK => ?_
  simp [C.impl_plusExp]
  refine hK _ ?_; clear hK K
  show AWp _ _ _ _ _
  refine wseq ?_
  refine wcond _ rfl (fun hc1 => ?_) (fun hc1 => ?_)
  · have h1 : i < 8 := by have := d_t hc1; omega
    have hgl : gs.length = 8 := by
      rw [hg]
      simp [addE_length]
      omega
    have h2 : i < gs.length := by omega
    have h3 : i < [b0, b1, b2, b3, b4, b5, b6, b7].length := by simpa using h1
    have h4 : i < [a0, a1, a2, a3, a4, a5, a6, a7].length := by simpa using h1
    have hge : gs[i] = [a0, a1, a2, a3, a4, a5, a6, a7][i] := by
      have := addE_get (t := t) h4 (show [a0, a1, a2, a3, a4, a5, a6, a7].length = [b0, b1, b2, b3, b4, b5, b6, b7].length from rfl)
      rw [← hg, List.getElem?_eq_getElem h2] at this
      injection this
    have hA := ha _ (List.getElem_mem h4)
    have hB := hb _ (List.getElem_mem h3)
    generalize hbi : [b0, b1, b2, b3, b4, b5, b6, b7][i] = B at hB
    generalize hai : [a0, a1, a2, a3, a4, a5, a6, a7][i] = A at hA hge
    have htb : -1000000 ≤ t * B ∧ t * B ≤ 1000000 := by
      rcases (show t = -1 ∨ t = 0 ∨ t = 1 by omega) with rfl | rfl | rfl <;> omega
    refine wskip ?_
    show AWp _ _ _ _ _
    refine wseq ?_
    refine wblock ?_
    refine wseq ?_
    refine wreg fun K hK => ?_
    simp [C.impl_plusExp]
    refine hK _ ?_; clear hK K
    show AWp _ _ _ _ _
    refine wdraw (.take 0 (.take 1 (.take 2 (.take 3 (.take 4 (.take 5 (.take 6 (.take 7 (.take 8 (.take 9 (.all [(10, .done)]))))))))))) ⟨by kernel_rfl, by kernel_rfl⟩ fun K hK => ?_
    simp [C.impl_plusExp, show ((i : Int) < 8) by omega, h1, hgl, get_ints]
    rw [hbi, hge, wrapOk (x := t * B) (by omega) (by omega), wrapOk (x := A + t * B) (by omega) (by omega)]
    refine hK _ ?_; clear hK K
    show AWp _ _ _ _ _
    refine wreg fun K hK => ?_
    simp [C.impl_plusExp, wrap_succ (show i < 4611686018427387904 by omega)]
    refine hK _ ?_; clear hK K
    simp [C.impl_plusExp]
    refine hR1 (i + 1, _) ⟨h1, ?_⟩ (by dsimp only; omega)
    dsimp only
    rw [hg, ← hai, ← hbi]
    exact addE_step (bs := [b0, b1, b2, b3, b4, b5, b6, b7]) h4 rfl
  · have h1 : i = 8 := by have := d_f hc1; omega
    subst h1
    have hg2 : gs = [a0 + t * b0, a1 + t * b1, a2 + t * b2, a3 + t * b3, a4 + t * b4, a5 + t * b5, a6 + t * b6, a7 + t * b7] := by rw [hg]; rfl
    subst hg2
    refine wexit ?_
    show AWp _ _ _ _ _
    refine wseq ?_
    refine wreg fun K hK => ?_
    simp [C.impl_plusExp, ints]
    refine hK _ ?_; clear hK K
    show AWp _ _ _ _ _
    refine wret ?_
    simp [C.impl_plusExp]

end Go.Proofs.Ytdgeponcnlkaiaa.Ab
namespace Go.Proofs.Ytdgeponcnlkaiaa.Ab
open Go
set_option linter.unusedSimpArgs false
set_option linter.unusedVariables false
set_option maxRecDepth 10000
set_option maxHeartbeats 2000000
def MulOk : Prop := ∀ f g : Lau, f.ts.length < 4611686018427387904 → (∀ t ∈ f.ts, t.e.length < 4611686018427387904) → g.ts.length < 4611686018427387904 → (∀ t ∈ g.ts, t.e.length < 4611686018427387904) →
  ACalls Try.prog F.impl_MulLaurents [aF f, aF g] [] true (fun outs res => outs = [] ∧ res = [.ag (fO (mulF f g).1), .one (D.bool (mulF f g).2)])
theorem impl_ConstantLaurent_calls (n : Nat) (hn : 1 ≤ n ∧ n ≤ 8) : ACalls Try.prog F.impl_ConstantLaurent [.int n, .int 1] [] true (fun outs res => outs = [] ∧ res = [.ag (fO (oneF n))]) := by
  refine ACalls.of_body (C := C.impl_ConstantLaurent) (n := Try.f142.ntmps) tabT folT Try.func142 rfl (by kernel_rfl) rfl (Nat.le_of_ble_eq_true rfl) (by decide) (by kernel_rfl) (by kernel_rfl) rfl (by simp) (by simp) ?_
  simp only [Try.f142]
  refine wseq ?_
  refine wreg fun K hK => ?_
  simp [C.impl_ConstantLaurent]
  refine hK _ ?_; clear hK K
  show AWp _ _ _ _ _
  refine wseq ?_
  refine wseq ?_
  refine wregI ([0, 1] ++ ([2, 3, 4, 5] ++ ([6, 7]))) rfl fun K hK => ?_
  refine opsI_seg fun L hL => ?_
  simp [C.impl_ConstantLaurent, show (1 ≤ (n : Int)) by omega, show ((n : Int) ≤ 8) by omega]
  refine wcall1 (impl_within_calls n 1 8) (by simp) (by simp) ?_
  simp [C.impl_ConstantLaurent, show (1 ≤ (n : Int)) by omega, show ((n : Int) ≤ 8) by omega]
  refine hL _ ?_; clear hL L
  refine opsI_seg fun L hL => ?_
  simp [C.impl_ConstantLaurent, show (1 ≤ (n : Int)) by omega, show ((n : Int) ≤ 8) by omega]
  refine wcall1 (impl_within_calls 1 (-1000000) 1000000) (by simp) (by simp) ?_
  simp [C.impl_ConstantLaurent, show (1 ≤ (n : Int)) by omega, show ((n : Int) ≤ 8) by omega]
  refine hL _ ?_; clear hL L
  refine opsI_end fun L hL => ?_
  simp [C.impl_ConstantLaurent, show (1 ≤ (n : Int)) by omega, show ((n : Int) ≤ 8) by omega]
  refine hL _ ?_; clear hL L
  simp [C.impl_ConstantLaurent, show (1 ≤ (n : Int)) by omega, show ((n : Int) ≤ 8) by omega]
  refine hK _ ?_; clear hK K
  show AWp _ _ _ _ _
  refine wcond _ rfl (fun hc1 => ?_) (fun hc1 => ?_)
  · simp at hc1
  · refine wskip ?_
    show AWp _ _ _ _ _
    refine wseq ?_
    refine wseq ?_
    refine wreg fun K hK => ?_
    simp [C.impl_ConstantLaurent]
    refine hK _ ?_; clear hK K
    show AWp _ _ _ _ _
    refine wcond _ rfl (fun hc2 => ?_) (fun hc2 => ?_)
    · simp at hc2
    · refine wskip ?_
      show AWp _ _ _ _ _
      refine wseq ?_
      refine wreg fun K hK => ?_
      simp [C.impl_ConstantLaurent, zeros_ints, show (8 : Int) * n ≤ 281474976710656 by omega, show (n : Int) ≤ 281474976710656 by omega]
      refine hK _ ?_; clear hK K
      show AWp _ _ _ _ _
      refine wret ?_
      simp [C.impl_ConstantLaurent, fO, oneF, rows, tO]

theorem impl_PowerLaurent_calls (hMul : MulOk) (f : Lau) (n : Int) (hx : f.ts.length < 4611686018427387904) (hxe : ∀ t ∈ f.ts, t.e.length < 4611686018427387904) : ACalls Try.prog F.impl_PowerLaurent [aF f, .int n] [] true (fun outs res => outs = [] ∧ WkRs res [.ag (fO (powF f n).1), .one (D.bool (powF f n).2)]) := by
  refine ACalls.of_body (C := C.impl_PowerLaurent) (n := Try.f52.ntmps) tabT folT Try.func52 rfl (by kernel_rfl) rfl (Nat.le_of_ble_eq_true rfl) (by decide) (by kernel_rfl) (by kernel_rfl) rfl (by simp) (by simp) ?_
  simp only [Try.f52]
  refine wseq ?_
  refine wreg fun K hK => ?_
  simp [C.impl_PowerLaurent, fS, fO]
  refine hK _ ?_; clear hK K
  show AWp _ _ _ _ _
  refine wseq ?_
  refine wseq ?_
  refine wregI ([0, 1] ++ ([2, 3, 4, 5] ++ ([6, 7]))) rfl fun K hK => ?_
  have hJ : K ⟨ofL [(1, .int n), (2, .pt (2, 0) [] 0), (4, .pt (4, 0) [] 0), (15, .bool (!decide (Right f ∧ 0 ≤ n ∧ n ≤ 8)))], ofRO [((2, 0), some (.bx (fS f))), ((4, 0), some (.bx [D.int 0, .v (.slice none 0 0)]))]⟩ := by
    refine hK _ ?_; clear hK K
    show AWp _ _ _ _ _
    refine wcond _ rfl (fun hc1 => ?_) (fun hc1 => ?_)
    · have hr := nd_t hc1
      have hm : powF f n = (zeroF, false) := if_neg hr
      refine wseq ?_
      refine wreg fun K hK => ?_
      simp [C.impl_PowerLaurent, fS, fO]
      refine hK _ ?_; clear hK K
      show AWp _ _ _ _ _
      refine wret ?_
      simp [C.impl_PowerLaurent, fS, fO, hm, zeroF, rows]
    · have hr := nd_f hc1
      obtain ⟨hf, hn⟩ := hr
      obtain ⟨k, rfl⟩ : ∃ k : Nat, n = k := ⟨n.toNat, by omega⟩
      have hm : powF f k = (match powL f k with | some g => (g, true) | none => (zeroF, false)) := by
        unfold powF
        rw [if_pos ⟨hf, hn⟩]
        simp <;> rfl
      have hv := hf.1
      obtain ⟨q, hq⟩ : ∃ q : Nat, f.v = q := ⟨f.v.toNat, by omega⟩
      have hp0 : powL f 0 = some (oneF q) := by simp [powL, hq]
      refine wskip ?_
      show AWp _ _ _ _ _
      refine wseq ?_
      refine wregI ([0, 1, 2] ++ ([3, 4])) rfl fun K hK => ?_
      refine opsI_seg fun L hL => ?_
      simp [C.impl_PowerLaurent, fS, fO]
      refine wcall1 (impl_ConstantLaurent_calls q (by omega)) (by simp; omega) (by simp) ?_
      simp [C.impl_PowerLaurent, fS, fO]
      refine hL _ ?_; clear hL L
      refine opsI_end fun L hL => ?_
      simp [C.impl_PowerLaurent, fS, fO]
      refine hL _ ?_; clear hL L
      simp [C.impl_PowerLaurent, fS, fO]
      refine hK _ ?_; clear hK K
      show AWp _ _ _ _ _
      refine wseq ?_
      refine wreg fun K hK => ?_
      simp [C.impl_PowerLaurent, fS, fO]
      refine hK _ ?_; clear hK K
      show AWp _ _ _ _ _
      refine wseq ?_
      refine wblock ?_
      refine wloop (fun x : Nat × Lau => ⟨ofL [(1, .int x.1), (2, .pt (2, 0) [] 0), (4, .pt (4, 0) [] 0), (6, .pt (6, 0) [] 0)], ofRO [((2, 0), some (.bx (fS f))), ((4, 0), some (.bx [D.int 0, .v (.slice none 0 0)])), ((6, 0), some (.bx (fO x.2)))]⟩) (fun x => x.1 ≤ k ∧ powL f (k - x.1) = some x.2) (fun x => x.1) (k, oneF q) (by simp [C.impl_PowerLaurent, fS, fO]) ⟨by simp, by simpa using hp0⟩ ?_
      intro x1 hx1 R1 hR1
      obtain ⟨i, g⟩ := x1
      obtain ⟨hi, hg⟩ := hx1
      dsimp only at hi hg ⊢
      refine wseq ?_
      refine wseq ?_
      refine wreg fun K hK => ?_
      simp [C.impl_PowerLaurent, fS, fO]
      refine hK _ ?_; clear hK K
      show AWp _ _ _ _ _
      refine wcond _ rfl (fun hc2 => ?_) (fun hc2 => ?_)
      · obtain ⟨m, rfl⟩ : ∃ m, i = m + 1 := ⟨i - 1, by have := d_t hc2; omega⟩
        have hgr := powL_right hf _ g hg
        have hs1 : k - m = (k - (m + 1)) + 1 := by omega
        refine wskip ?_
        show AWp _ _ _ _ _
        refine wseq ?_
        refine wblock ?_
        refine wseq ?_
        refine wregI ([0, 1, 2] ++ ([3, 4, 5, 6, 7])) rfl fun K hK => ?_
        refine opsI_seg fun L hL => ?_
        simp [C.impl_PowerLaurent, fS, fO]
        refine wcall1 (hMul g f (right_small hgr).1 (right_small hgr).2 hx hxe) (by simp) (by simp) ?_
        simp [C.impl_PowerLaurent, fS, fO]
        refine hL _ ?_; clear hL L
        refine opsI_end fun L hL => ?_
        simp [C.impl_PowerLaurent, fS, fO]
        refine hL _ ?_; clear hL L
        simp [C.impl_PowerLaurent, fS, fO]
        refine hK _ ?_; clear hK K
        show AWp _ _ _ _ _
        refine wseq ?_
        refine wreg fun K hK => ?_
        simp [C.impl_PowerLaurent, fS, fO]
        refine hK _ ?_; clear hK K
        show AWp _ _ _ _ _
        refine wcond _ rfl (fun hc3 => ?_) (fun hc3 => ?_)
        · have hb : (mulF g f).2 = false := by simpa using hc3
          have hnone : powL f (k - m) = none := by rw [hs1]; simp [powL, hg, hb]
          have hk := powL_none hnone (show k - m ≤ k by omega)
          refine wseq ?_
          refine wreg fun K hK => ?_
          simp [C.impl_PowerLaurent, fS, fO]
          refine hK _ ?_; clear hK K
          show AWp _ _ _ _ _
          refine wret ?_
          simp [C.impl_PowerLaurent, fS, fO, hm, hk, zeroF, rows]
        · have hb : (mulF g f).2 = true := by simpa using hc3
          refine wskip ?_
          show AWp _ _ _ _ _
          refine wreg fun K hK => ?_
          simp [C.impl_PowerLaurent, fS, fO, wrap_nat (show m < 4611686018427387904 by omega)]
          refine hK _ ?_; clear hK K
          simp [C.impl_PowerLaurent, fS, fO]
          exact hR1 (m, (mulF g f).1) ⟨by dsimp only; omega, by dsimp only; rw [hs1]; simp [powL, hg, hb]⟩ (by dsimp only; omega)
      · have hik : i = 0 := by have := d_f hc2; omega
        subst hik
        have hg2 : powL f k = some g := hg
        refine wexit ?_
        show AWp _ _ _ _ _
        refine wseq ?_
        refine wreg fun K hK => ?_
        simp [C.impl_PowerLaurent, fS, fO]
        refine hK _ ?_; clear hK K
        show AWp _ _ _ _ _
        refine wret ?_
        simp [C.impl_PowerLaurent, fS, fO, hm, hg2]
  clear hK
  by_cases ha : Right f
  · by_cases hb : 0 ≤ n ∧ n ≤ 8
    · refine opsI_seg fun L hL => ?_
      simp [C.impl_PowerLaurent, fS, fO, ha, hb]
      refine wcall1 (impl_LaurentOk_calls f hx hxe) (by simp) (by simp) ?_
      simp [C.impl_PowerLaurent, fS, fO, ha, hb]
      refine hL _ ?_; clear hL L
      refine opsI_seg fun L hL => ?_
      simp [C.impl_PowerLaurent, fS, fO, ha, hb]
      refine wcall1 (impl_within_calls n 0 8) (by simp) (by simp) ?_
      simp [C.impl_PowerLaurent, fS, fO, ha, hb]
      refine hL _ ?_; clear hL L
      refine opsI_end fun L hL => ?_
      simp [C.impl_PowerLaurent, fS, fO, ha, hb]
      refine hL _ ?_; clear hL L
      simp [C.impl_PowerLaurent, fS, fO, ha, hb]
      refine cast (congrArg K ?_) hJ
      simp [fS, fO, ha, hb]
    · refine opsI_seg fun L hL => ?_
      simp [C.impl_PowerLaurent, fS, fO, ha, hb]
      refine wcall1 (impl_LaurentOk_calls f hx hxe) (by simp) (by simp) ?_
      simp [C.impl_PowerLaurent, fS, fO, ha, hb]
      refine hL _ ?_; clear hL L
      refine opsI_seg fun L hL => ?_
      simp [C.impl_PowerLaurent, fS, fO, ha, hb]
      refine wcall1 (impl_within_calls n 0 8) (by simp) (by simp) ?_
      simp [C.impl_PowerLaurent, fS, fO, ha, hb]
      refine hL _ ?_; clear hL L
      refine opsI_end fun L hL => ?_
      simp [C.impl_PowerLaurent, fS, fO, ha, hb]
      refine hL _ ?_; clear hL L
      simp [C.impl_PowerLaurent, fS, fO, ha, hb]
      refine cast (congrArg K ?_) hJ
      simp [fS, fO, ha, hb]
  · refine opsI_seg fun L hL => ?_
    simp [C.impl_PowerLaurent, fS, fO, ha]
    refine wcall1 (impl_LaurentOk_calls f hx hxe) (by simp) (by simp) ?_
    simp [C.impl_PowerLaurent, fS, fO, ha]
    refine hL _ ?_; clear hL L
    refine opsI_seg fun L hL => ?_
    simp [C.impl_PowerLaurent, fS, fO, ha]
    refine hL _ ?_; clear hL L
    refine opsI_end fun L hL => ?_
    simp [C.impl_PowerLaurent, fS, fO, ha]
    refine hL _ ?_; clear hL L
    simp [C.impl_PowerLaurent, fS, fO, ha]
    refine cast (congrArg K ?_) hJ
    simp [fS, fO, ha]
theorem iPow_calls (hMul : MulOk) (f : Lau) (n : Int) (hx : f.ts.length < 4611686018427387904) (hxe : ∀ t ∈ f.ts, t.e.length < 4611686018427387904) : ACalls Try.prog F.impl_PowerLaurent [aF f, .int n] [] true (fun outs res => outs = [] ∧ res = [.ag (fO (powF f n).1), .one (D.bool (powF f n).2)]) := (impl_PowerLaurent_calls hMul f n hx hxe).weak1

end Go.Proofs.Ytdgeponcnlkaiaa.Ab
namespace Go.Proofs.Ytdgeponcnlkaiaa.Ab
open Go
set_option linter.unusedSimpArgs false
set_option linter.unusedVariables false
set_option linter.unusedSectionVars false

theorem pad_inj {a b : List Int} (h : a.length = b.length) (e : pad a = pad b) : a = b := by
  unfold pad at e
  rw [h] at e
  exact List.append_cancel_right e
theorem pad_take {e : List Int} : (pad e).take e.length = e := by
  unfold pad
  exact List.take_left
theorem mget_none {k : List Int} : ∀ {es : List (List Int × Int)}, (∀ x ∈ es, x.1 ≠ k) → mget k es = none
  | [], _ => rfl
  | x :: es, h => by
    simp only [mget]
    rw [if_neg (h x (by simp))]
    exact mget_none fun y hy => h y (by simp [hy])
theorem mget_mset {k q : List Int} {v : Int} : ∀ (es : List (List Int × Int)), mget q (mset k v es) = if k = q then some v else mget q es
  | [] => by simp [mset, mget]
  | x :: es => by
    simp only [mset]
    split
    · rename_i e
      subst e
      simp only [mget]
      split <;> rfl
    · rename_i e
      simp only [mget, mget_mset es]
      by_cases h1 : x.1 = q
      · rw [if_pos h1, if_neg (fun h2 => e (h1.trans h2.symm)), if_pos h1]
      · rw [if_neg h1, if_neg h1]
theorem mget_mdel {k q : List Int} : ∀ (es : List (List Int × Int)), (es.map (·.1)).Nodup → mget q (mdel k es) = if k = q then none else mget q es
  | [], _ => by simp [mdel, mget]
  | x :: es, h => by
    simp only [List.map_cons, List.nodup_cons] at h
    simp only [mdel]
    split
    · rename_i e
      subst e
      by_cases h1 : x.1 = q
      · rw [if_pos h1]
        exact mget_none fun y hy e2 => h.1 (by rw [h1, ← e2]; exact List.mem_map.2 ⟨y, hy, rfl⟩)
      · rw [if_neg h1]
        simp only [mget]
        rw [if_neg h1]
    · rename_i e
      simp only [mget, mget_mdel es h.2]
      by_cases h1 : x.1 = q
      · rw [if_pos h1, if_neg (fun h2 => e (h1.trans h2.symm)), if_pos h1]
      · rw [if_neg h1, if_neg h1]
theorem mset_mem {k : List Int} {v : Int} : ∀ {es : List (List Int × Int)} {x : List Int × Int}, x ∈ mset k v es → x = (k, v) ∨ x ∈ es
  | [], x, h => by
    simp only [mset, List.mem_singleton] at h
    exact .inl h
  | y :: es, x, h => by
    simp only [mset] at h
    split at h
    · rcases List.mem_cons.1 h with h | h
      · exact .inl h
      · exact .inr (by simp [h])
    · rcases List.mem_cons.1 h with h | h
      · exact .inr (by simp [h])
      · rcases mset_mem h with h | h
        · exact .inl h
        · exact .inr (by simp [h])
theorem mdel_mem {k : List Int} : ∀ {es : List (List Int × Int)} {x : List Int × Int}, x ∈ mdel k es → x ∈ es
  | [], x, h => by simp [mdel] at h
  | y :: es, x, h => by
    simp only [mdel] at h
    split at h
    · simp [h]
    · rcases List.mem_cons.1 h with h | h
      · simp [h]
      · simp [mdel_mem h]
theorem mset_nodup {k : List Int} {v : Int} : ∀ {es : List (List Int × Int)}, (es.map (·.1)).Nodup → ((mset k v es).map (·.1)).Nodup
  | [], _ => by simp [mset]
  | y :: es, h => by
    simp only [List.map_cons, List.nodup_cons] at h
    simp only [mset]
    split
    · rename_i e
      simp only [List.map_cons, List.nodup_cons]
      rw [← e]
      exact h
    · rename_i e
      simp only [List.map_cons, List.nodup_cons]
      refine ⟨fun hm => ?_, mset_nodup h.2⟩
      obtain ⟨z, hz, e2⟩ := List.mem_map.1 hm
      rcases mset_mem hz with rfl | hz
      · exact e e2.symm
      · exact h.1 (List.mem_map.2 ⟨z, hz, e2⟩)
theorem mdel_nodup {k : List Int} : ∀ {es : List (List Int × Int)}, (es.map (·.1)).Nodup → ((mdel k es).map (·.1)).Nodup
  | [], _ => by simp [mdel]
  | y :: es, h => by
    simp only [List.map_cons, List.nodup_cons] at h
    simp only [mdel]
    split
    · exact h.2
    · simp only [List.map_cons, List.nodup_cons]
      refine ⟨fun hm => ?_, mdel_nodup h.2⟩
      obtain ⟨z, hz, e2⟩ := List.mem_map.1 hm
      exact h.1 (List.mem_map.2 ⟨z, mdel_mem hz, e2⟩)

/-- The map holds what belongs to each key of the sum. -/
structure MapR (n : Nat) (es l : List (List Int × Int)) : Prop where
  nod : (es.map (·.1)).Nodup
  nz : ∀ x ∈ es, x.2 ≠ 0 ∧ ∃ e, e.length = n ∧ x.1 = pad e
  val : ∀ e, e.length = n → (mget (pad e) es).getD 0 = co e l
theorem MapR.nil (n : Nat) : MapR n [] [] := ⟨by simp, by simp, fun e _ => rfl⟩
theorem MapR.add {n : Nat} {es l : List (List Int × Int)} (h : MapR n es l) {e : List Int} (he : e.length = n) (c : Int) : MapR n (madd es (pad e) c) ((e, c) :: l) := by
  have hv := h.val e he
  unfold madd
  split
  · rename_i hz
    refine ⟨mdel_nodup h.nod, fun x hx => h.nz x (mdel_mem hx), fun q hq => ?_⟩
    rw [mget_mdel _ h.nod]
    by_cases e1 : e = q
    · subst e1
      rw [if_pos rfl]
      simp only [co, if_true, Option.getD_none]
      omega
    · rw [if_neg (fun e2 => e1 (pad_inj (he.trans hq.symm) e2)), h.val q hq]
      simp [co, e1]
  · rename_i hz
    refine ⟨mset_nodup h.nod, fun x hx => ?_, fun q hq => ?_⟩
    · rcases mset_mem hx with rfl | hx
      · exact ⟨hz, e, he, rfl⟩
      · exact h.nz x hx
    · rw [mget_mset]
      by_cases e1 : e = q
      · subst e1
        rw [if_pos rfl]
        simp only [co, if_true, Option.getD_some]
        omega
      · rw [if_neg (fun e2 => e1 (pad_inj (he.trans hq.symm) e2)), h.val q hq]
        simp [co, e1]
theorem MapR.len8 {n : Nat} {es l : List (List Int × Int)} (h : MapR n es l) (hn : n ≤ 8) : mapLen 8 es := fun x hx => by
  obtain ⟨_, e, he, e2⟩ := h.nz x hx
  rw [e2]
  exact pad_length (by omega)
/-- What a term of the map comes to. -/
def unpadT (n : Nat) (x : List Int × Int) : List Int × Int := (x.1.take n, x.2)
theorem unpad_co {n : Nat} {es l : List (List Int × Int)} (h : MapR n es l) (hl : ∀ x ∈ l, x.1.length = n) : ∀ q, co q (es.map (unpadT n)) = co q l := by
  intro q
  by_cases hq : q.length = n
  · rw [← h.val q hq]
    have : ∀ (es : List (List Int × Int)), (es.map (·.1)).Nodup → (∀ x ∈ es, ∃ e, e.length = n ∧ x.1 = pad e) → co q (es.map (unpadT n)) = (mget (pad q) es).getD 0 := by
      intro es
      induction es with
      | nil => intro _ _; rfl
      | cons x es ih =>
        intro hn hp
        simp only [List.map_cons, List.nodup_cons] at hn
        obtain ⟨e, he, e2⟩ := hp x (by simp)
        have ht : (unpadT n x).1 = e := by
          simp only [unpadT]
          rw [e2, ← he]
          exact pad_take
        simp only [List.map_cons, co, mget]
        rw [ih hn.2 fun y hy => hp y (by simp [hy]), ht]
        by_cases e3 : e = q
        · subst e3
          rw [if_pos rfl, if_pos e2, mget_none fun y hy e4 => hn.1 (by rw [e2, ← e4]; exact List.mem_map.2 ⟨y, hy, rfl⟩)]
          simp [unpadT]
        · rw [if_neg e3, if_neg (fun e4 => e3 (pad_inj (he.trans hq.symm) (e2.symm.trans e4)))]
          simp
    exact this es h.nod fun x hx => (h.nz x hx).2
  · rw [co_none q l fun x hx e => hq (e ▸ hl x hx), co_none q _ fun x hx e => hq ?_]
    obtain ⟨y, hy, rfl⟩ := List.mem_map.1 hx
    obtain ⟨_, e', he', e2⟩ := h.nz y hy
    rw [← e]
    simp only [unpadT]
    rw [e2, ← he', pad_take]
/-- **Terms of the map in descending order are the sum's normal form.** -/
theorem unpad_nf {n : Nat} {es l t : List (List Int × Int)} (h : MapR n es l) (hl : ∀ x ∈ l, x.1.length = n) (hp : t.Perm (es.map (unpadT n))) (hd : Desc lexlt t) : t = nf lexlt l := by
  refine nf_unique lexOrd hd (fun x hx => ?_) fun k => by rw [co_perm k hp, unpad_co h hl]
  obtain ⟨y, hy, rfl⟩ := List.mem_map.1 (hp.mem_iff.1 hx)
  exact (h.nz y hy).1

end Go.Proofs.Ytdgeponcnlkaiaa.Ab
