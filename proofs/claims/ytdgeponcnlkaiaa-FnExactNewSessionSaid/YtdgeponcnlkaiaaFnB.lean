/- Small functions on numbers and lists of numbers: what they answer. No condition. -/
import Derived.Test.YtdgeponcnlkaiaaTab
import Derived.Test.YtdgeponcnlkaiaaFnA
namespace Go.Proofs.Ytdgeponcnlkaiaa.Ab
open Go
set_option linter.unusedSimpArgs false
set_option linter.unusedVariables false
set_option maxRecDepth 10000
theorem tabT : tabB Try.prog TTab = true := by kernel_rfl
theorem folT : Try.prog.follows .mixedOrders = true := by kernel_rfl
theorem wrap_succ {j : Nat} (h : j < 4611686018427387904) : IntKind.i64.wrap ((j : Int) + 1) = ((j + 1 : Nat) : Int) := by
  rw [wrapOk (by omega) (by omega)]
  omega
theorem impl_within_calls (n low high : Int) : ACalls Try.prog F.impl_within [.int n, .int low, .int high] [] true (fun outs res => outs = [] ∧ res = [.one (D.bool (decide (low ≤ n ∧ n ≤ high)))]) := by
  refine ACalls.of_body (C := C.impl_within) (n := Try.f94.ntmps) tabT folT Try.func94 rfl (by kernel_rfl) rfl (Nat.le_of_ble_eq_true rfl) (by decide) (by kernel_rfl) (by kernel_rfl) rfl (by simp) (by simp) ?_
  simp only [Try.f94]
  refine wseq ?_
  refine wreg fun K hK => ?_
  simp [C.impl_within]
  refine hK _ ?_; clear hK K
  show AWp _ _ _ _ _
  refine wseq ?_
  refine wreg fun K hK => ?_
  have hJ : K ⟨ofL [(6, .bool (decide (low ≤ n ∧ n ≤ high)))], ofRO []⟩ := by
    refine hK _ ?_; clear hK K
    show AWp _ _ _ _ _
    refine wret ?_
    simp [C.impl_within]
  by_cases h : low ≤ n
  · simp [C.impl_within, h]
    simpa [h] using hJ
  · simp [C.impl_within, h]
    simpa [h] using hJ

theorem spec_l1In_calls (n low high : Int) : ACalls Try.prog F.spec_l1In [.int n, .int low, .int high] [] true (fun outs res => outs = [] ∧ res = [.one (D.bool (decide (low ≤ n ∧ n ≤ high)))]) := by
  refine ACalls.of_body (C := C.spec_l1In) (n := Try.f103.ntmps) tabT folT Try.func103 rfl (by kernel_rfl) rfl (Nat.le_of_ble_eq_true rfl) (by decide) (by kernel_rfl) (by kernel_rfl) rfl (by simp) (by simp) ?_
  simp only [Try.f103]
  refine wseq ?_
  refine wreg fun K hK => ?_
  simp [C.spec_l1In]
  refine hK _ ?_; clear hK K
  show AWp _ _ _ _ _
  refine wseq ?_
  refine wreg fun K hK => ?_
  have hJ : K ⟨ofL [(6, .bool (decide (low ≤ n ∧ n ≤ high)))], ofRO []⟩ := by
    refine hK _ ?_; clear hK K
    show AWp _ _ _ _ _
    refine wret ?_
    simp [C.spec_l1In]
  by_cases h : low ≤ n
  · simp [C.spec_l1In, h]
    simpa [h] using hJ
  · simp [C.spec_l1In, h]
    simpa [h] using hJ

theorem spec_l1Ints_calls (xs : List Int) (hx : xs.length < 17592186044416) : ACalls Try.prog F.spec_l1Ints [.d (shI xs)] [] true (fun outs res => outs = [] ∧ res = [.one (owI xs)]) := by
  refine ACalls.of_body (C := C.spec_l1Ints) (n := Try.f203.ntmps) tabT folT Try.func203 rfl (by kernel_rfl) rfl (Nat.le_of_ble_eq_true rfl) (by decide) (by kernel_rfl) (by kernel_rfl) rfl (by simp) (by simp) ?_
  simp only [Try.f203]
  refine wseq ?_
  refine wreg fun K hK => ?_
  simp [C.spec_l1Ints]
  refine hK _ ?_; clear hK K
  show AWp _ _ _ _ _
  refine wseq ?_
  refine wreg fun K hK => ?_
  simp [C.spec_l1Ints, show xs.length * 8 ≤ 140737488355328 by omega]
  refine hK _ ?_; clear hK K
  show AWp _ _ _ _ _
  refine wret ?_
  simp [C.spec_l1Ints]

theorem slices_Clone_int_int_calls (xs : List Int) (hx : xs.length < 17592186044416) : ACalls Try.prog F.slices_Clone_int_int [.d (shI xs)] [] true (fun outs res => outs = [] ∧ WkRs res [.one (owI xs)]) := by
  refine ACalls.of_body (C := C.slices_Clone_int_int) (n := Try.f91.ntmps) tabT folT Try.func91 rfl (by kernel_rfl) rfl (Nat.le_of_ble_eq_true rfl) (by decide) (by kernel_rfl) (by kernel_rfl) rfl (by simp) (by simp) ?_
  simp only [Try.f91]
  refine wseq ?_
  refine wreg fun K hK => ?_
  simp [C.slices_Clone_int_int]
  refine hK _ ?_; clear hK K
  show AWp _ _ _ _ _
  refine wseq ?_
  refine wseq ?_
  refine wreg fun K hK => ?_
  simp [C.slices_Clone_int_int]
  refine ⟨?_, fun h => ?_⟩
  · refine hK _ ?_; clear hK K
    show AWp _ _ _ _ _
    refine wcond _ rfl (fun hc1 => ?_) (fun hc1 => ?_)
    · simp at hc1
    · refine wskip ?_
      show AWp _ _ _ _ _
      refine wseq ?_
      refine wreg fun K hK => ?_
      simp [C.slices_Clone_int_int, show xs.length * 8 ≤ 140737488355328 by omega]
      refine hK _ ?_; clear hK K
      show AWp _ _ _ _ _
      refine wret ?_
      simp [C.slices_Clone_int_int]
  · refine hK _ ?_; clear hK K
    show AWp _ _ _ _ _
    refine wcond _ rfl (fun hc2 => ?_) (fun hc2 => ?_)
    · refine wseq ?_
      refine wreg fun K hK => ?_
      simp [C.slices_Clone_int_int]
      refine hK _ ?_; clear hK K
      show AWp _ _ _ _ _
      refine wret ?_
      simp [C.slices_Clone_int_int, h, ints]
    · simp at hc2
theorem clone_calls (xs : List Int) (hx : xs.length < 17592186044416) : ACalls Try.prog F.slices_Clone_int_int [.d (shI xs)] [] true (fun outs res => outs = [] ∧ res = [.one (owI xs)]) := (slices_Clone_int_int_calls xs hx).weak1

theorem laws_eqIntS_calls (xs ys : List Int) (hx : xs.length < 4611686018427387904) : ACalls Try.prog F.laws_eqIntS [.d (shI xs), .d (shI ys)] [] true (fun outs res => outs = [] ∧ res = [.one (D.bool (decide (xs = ys)))]) := by
  refine ACalls.of_body (C := C.laws_eqIntS) (n := Try.f79.ntmps) tabT folT Try.func79 rfl (by kernel_rfl) rfl (Nat.le_of_ble_eq_true rfl) (by decide) (by kernel_rfl) (by kernel_rfl) rfl (by simp) (by simp) ?_
  simp only [Try.f79]
  refine wseq ?_
  refine wreg fun K hK => ?_
  simp [C.laws_eqIntS]
  refine hK _ ?_; clear hK K
  show AWp _ _ _ _ _
  refine wseq ?_
  refine wseq ?_
  refine wreg fun K hK => ?_
  simp [C.laws_eqIntS]
  refine hK _ ?_; clear hK K
  show AWp _ _ _ _ _
  refine wcond _ rfl (fun hc1 => ?_) (fun hc1 => ?_)
  · refine wseq ?_
    refine wreg fun K hK => ?_
    simp [C.laws_eqIntS]
    refine hK _ ?_; clear hK K
    show AWp _ _ _ _ _
    refine wret ?_
    simp at hc1
    simp [C.laws_eqIntS]
    intro e; simp [e] at hc1
  · refine wskip ?_
    show AWp _ _ _ _ _
    refine wseq ?_
    refine wseq ?_
    refine wreg fun K hK => ?_
    simp [C.laws_eqIntS]
    refine hK _ ?_; clear hK K
    show AWp _ _ _ _ _
    refine wblock ?_
    have e : xs.length = ys.length := by simp at hc1; omega
    refine wloop (fun k : Nat => ⟨ofL [(0, .d (shI xs)), (1, .d (shI ys)), (5, FV.int k)], ofRO []⟩) (fun k => k ≤ xs.length ∧ xs.take k = ys.take k) (fun k => xs.length - k) 0 (by simp [C.laws_eqIntS]) (by simp) ?_
    intro x1 hx1 R1 hR1
    obtain ⟨hk, ht⟩ := hx1
    refine wseq ?_
    refine wseq ?_
    refine wreg fun K hK => ?_
    simp [C.laws_eqIntS]
    refine hK _ ?_; clear hK K
    show AWp _ _ _ _ _
    refine wcond _ rfl (fun hc2 => ?_) (fun hc2 => ?_)
    · refine wskip ?_
      show AWp _ _ _ _ _
      refine wseq ?_
      refine wblock ?_
      refine wseq ?_
      have h1 : x1 < xs.length := by simpa using hc2
      have h2 : x1 < ys.length := by omega
      refine wdraw (.take 0 (.take 1 (.take 2 (.take 3 (.take 4 (.take 5 (.take 6 (.take 7 (.take 8 (.done)))))))))) ⟨by kernel_rfl, by kernel_rfl⟩ fun K hK => ?_
      simp [C.laws_eqIntS, get_ints, h1, h2]
      refine hK _ ?_; clear hK K
      show AWp _ _ _ _ _
      refine wcond _ rfl (fun hc3 => ?_) (fun hc3 => ?_)
      · refine wseq ?_
        refine wreg fun K hK => ?_
        simp [C.laws_eqIntS]
        refine hK _ ?_; clear hK K
        show AWp _ _ _ _ _
        refine wret ?_
        simp at hc3
        simp [C.laws_eqIntS]
        intro e; simp [e] at hc3
      · refine wskip ?_
        show AWp _ _ _ _ _
        refine wreg fun K hK => ?_
        simp [C.laws_eqIntS, wrap_succ (show x1 < 4611686018427387904 by omega)]
        refine hK _ ?_; clear hK K
        simp [C.laws_eqIntS]
        simp at hc3
        refine hR1 (x1 + 1) ⟨h1, ?_⟩ (by omega)
        rw [List.take_succ_eq_append_getElem h1, List.take_succ_eq_append_getElem h2, ht, hc3]
    · refine wexit ?_
      show AWp _ _ _ _ _
      refine wseq ?_
      refine wreg fun K hK => ?_
      simp [C.laws_eqIntS]
      refine hK _ ?_; clear hK K
      show AWp _ _ _ _ _
      refine wret ?_
      have hk2 : x1 = xs.length := by simp at hc2; omega
      simp [C.laws_eqIntS]
      rw [hk2, List.take_length, e, List.take_length] at ht
      exact ht

theorem spec_l1Same_calls (xs ys : List Int) (hx : xs.length < 4611686018427387904) : ACalls Try.prog F.spec_l1Same [.d (shI xs), .d (shI ys)] [] true (fun outs res => outs = [] ∧ res = [.one (D.bool (decide (xs = ys)))]) := by
  refine ACalls.of_body (C := C.spec_l1Same) (n := Try.f202.ntmps) tabT folT Try.func202 rfl (by kernel_rfl) rfl (Nat.le_of_ble_eq_true rfl) (by decide) (by kernel_rfl) (by kernel_rfl) rfl (by simp) (by simp) ?_
  simp only [Try.f202]
  refine wseq ?_
  refine wreg fun K hK => ?_
  simp [C.spec_l1Same]
  refine hK _ ?_; clear hK K
  show AWp _ _ _ _ _
  refine wseq ?_
  refine wseq ?_
  refine wreg fun K hK => ?_
  simp [C.spec_l1Same]
  refine hK _ ?_; clear hK K
  show AWp _ _ _ _ _
  refine wcond _ rfl (fun hc1 => ?_) (fun hc1 => ?_)
  · refine wseq ?_
    refine wreg fun K hK => ?_
    simp [C.spec_l1Same]
    refine hK _ ?_; clear hK K
    show AWp _ _ _ _ _
    refine wret ?_
    simp at hc1
    simp [C.spec_l1Same]
    intro e; simp [e] at hc1
  · refine wskip ?_
    show AWp _ _ _ _ _
    refine wseq ?_
    refine wseq ?_
    refine wreg fun K hK => ?_
    simp [C.spec_l1Same]
    refine hK _ ?_; clear hK K
    show AWp _ _ _ _ _
    refine wblock ?_
    have e : xs.length = ys.length := by simp at hc1; omega
    refine wloop (fun k : Nat => ⟨ofL [(0, .d (shI xs)), (1, .d (shI ys)), (5, FV.int k)], ofRO []⟩) (fun k => k ≤ xs.length ∧ xs.take k = ys.take k) (fun k => xs.length - k) 0 (by simp [C.spec_l1Same]) (by simp) ?_
    intro x1 hx1 R1 hR1
    obtain ⟨hk, ht⟩ := hx1
    refine wseq ?_
    refine wseq ?_
    refine wreg fun K hK => ?_
    simp [C.spec_l1Same]
    refine hK _ ?_; clear hK K
    show AWp _ _ _ _ _
    refine wcond _ rfl (fun hc2 => ?_) (fun hc2 => ?_)
    · refine wskip ?_
      show AWp _ _ _ _ _
      refine wseq ?_
      refine wblock ?_
      refine wseq ?_
      have h1 : x1 < xs.length := by simpa using hc2
      have h2 : x1 < ys.length := by omega
      refine wdraw (.take 0 (.take 1 (.take 2 (.take 3 (.take 4 (.take 5 (.take 6 (.take 7 (.take 8 (.done)))))))))) ⟨by kernel_rfl, by kernel_rfl⟩ fun K hK => ?_
      simp [C.spec_l1Same, get_ints, h1, h2]
      refine hK _ ?_; clear hK K
      show AWp _ _ _ _ _
      refine wcond _ rfl (fun hc3 => ?_) (fun hc3 => ?_)
      · refine wseq ?_
        refine wreg fun K hK => ?_
        simp [C.spec_l1Same]
        refine hK _ ?_; clear hK K
        show AWp _ _ _ _ _
        refine wret ?_
        simp at hc3
        simp [C.spec_l1Same]
        intro e; simp [e] at hc3
      · refine wskip ?_
        show AWp _ _ _ _ _
        refine wreg fun K hK => ?_
        simp [C.spec_l1Same, wrap_succ (show x1 < 4611686018427387904 by omega)]
        refine hK _ ?_; clear hK K
        simp [C.spec_l1Same]
        simp at hc3
        refine hR1 (x1 + 1) ⟨h1, ?_⟩ (by omega)
        rw [List.take_succ_eq_append_getElem h1, List.take_succ_eq_append_getElem h2, ht, hc3]
    · refine wexit ?_
      show AWp _ _ _ _ _
      refine wseq ?_
      refine wreg fun K hK => ?_
      simp [C.spec_l1Same]
      refine hK _ ?_; clear hK K
      show AWp _ _ _ _ _
      refine wret ?_
      have hk2 : x1 = xs.length := by simp at hc2; omega
      simp [C.spec_l1Same]
      rw [hk2, List.take_length, e, List.take_length] at ht
      exact ht

theorem laws_markIntS_calls (xs : List Int) (k : Int) (hk0 : 0 ≤ k) (hk : k + xs.length < 4611686018427387904) : ACalls Try.prog F.laws_markIntS [.al (0, 0) [] 0 xs.length, .int k] [((0, 0), owI xs)] true (fun outs res => outs = [.ow 1 xs.length (ints (marks k xs.length))] ∧ res = [.one (D.int (k + xs.length))]) := by
  refine ACalls.of_body (C := C.laws_markIntS) (n := Try.f82.ntmps) tabT folT Try.func82 rfl (by kernel_rfl) rfl (Nat.le_of_ble_eq_true rfl) (by decide) (by kernel_rfl) (by kernel_rfl) rfl (by simp) (by simp) ?_
  simp only [Try.f82]
  refine wseq ?_
  refine wreg fun K hK => ?_
  simp [C.laws_markIntS]
  refine hK _ ?_; clear hK K
  show AWp _ _ _ _ _
  refine wseq ?_
  refine wseq ?_
  refine wreg fun K hK => ?_
  simp [C.laws_markIntS]
  refine hK _ ?_; clear hK K
  show AWp _ _ _ _ _
  refine wblock ?_
  refine wloop (fun x : Nat × List Int × Int => ⟨ofL [(0, .al (0, 0) [] 0 xs.length), (1, .int x.2.2), (5, .int x.1), (1000, .al (0, 0) [] 0 xs.length)], ofRO [((0, 0), some (.ow 1 xs.length (ints x.2.1)))]⟩) (fun x => x.1 ≤ xs.length ∧ x.2.1 = marks k x.1 ++ xs.drop x.1 ∧ x.2.2 = k + x.1) (fun x => xs.length - x.1) (0, xs, k) (by simp [C.laws_markIntS]) (by simp [marks]) ?_
  intro x1 hx1 R1 hR1
  obtain ⟨j, gs, kk⟩ := x1
  obtain ⟨h0, hg, he⟩ := hx1
  dsimp only at h0 hg he ⊢
  refine wseq ?_
  refine wseq ?_
  refine wreg fun K hK => ?_
  simp [C.laws_markIntS]
  refine hK _ ?_; clear hK K
  show AWp _ _ _ _ _
  refine wcond _ rfl (fun hc1 => ?_) (fun hc1 => ?_)
  · refine wskip ?_
    show AWp _ _ _ _ _
    refine wseq ?_
    refine wblock ?_
    refine wseq ?_
    have h1 : j < xs.length := by simpa using hc1
    have hl : gs.length = xs.length := by rw [hg]; simp; omega
    refine wreg fun K hK => ?_
    simp [C.laws_markIntS, hl, h1]
    refine hK _ ?_; clear hK K
    show AWp _ _ _ _ _
    refine wreg fun K hK => ?_
    simp [C.laws_markIntS]
    rw [wrapOk (x := kk + 1) (by omega) (by omega)]
    refine hK _ ?_; clear hK K
    show AWp _ _ _ _ _
    refine wreg fun K hK => ?_
    simp [C.laws_markIntS, wrap_succ (show j < 4611686018427387904 by omega)]
    refine hK _ ?_; clear hK K
    simp [C.laws_markIntS]
    refine hR1 (j + 1, _, kk + 1) ⟨h1, ?_, by dsimp only; omega⟩ (by dsimp only; omega)
    dsimp only
    rw [hg, List.set_append_right _ _ (by simp), he]
    simp [marks_succ]
    rw [List.drop_eq_getElem_cons h1]
    rfl
  · refine wexit ?_
    show AWp _ _ _ _ _
    refine wseq ?_
    refine wreg fun K hK => ?_
    simp [C.laws_markIntS]
    refine hK _ ?_; clear hK K
    show AWp _ _ _ _ _
    refine wret ?_
    have hj2 : j = xs.length := by simp at hc1; omega
    simp [C.laws_markIntS, hj2, hg, he]

theorem laws_heldIntS_calls (n : Nat) (k : Int) (hk0 : 0 ≤ k) (hk : k + n < 4611686018427387904) : ACalls Try.prog F.laws_heldIntS [.d (.sh 1 n (ints (marks k n))), .int k] [] true (fun outs res => outs = [] ∧ res = [.one (D.int (k + n))]) := by
  refine ACalls.of_body (C := C.laws_heldIntS) (n := Try.f85.ntmps) tabT folT Try.func85 rfl (by kernel_rfl) rfl (Nat.le_of_ble_eq_true rfl) (by decide) (by kernel_rfl) (by kernel_rfl) rfl (by simp) (by simp) ?_
  simp only [Try.f85]
  refine wseq ?_
  refine wreg fun K hK => ?_
  simp [C.laws_heldIntS]
  refine hK _ ?_; clear hK K
  show AWp _ _ _ _ _
  refine wseq ?_
  refine wseq ?_
  refine wreg fun K hK => ?_
  simp [C.laws_heldIntS]
  refine hK _ ?_; clear hK K
  show AWp _ _ _ _ _
  refine wblock ?_
  refine wloop (fun x : Nat => ⟨ofL [(0, .d (.sh 1 n (ints (marks k n)))), (1, .int (k + x)), (5, .int x)], ofRO []⟩) (fun x => x ≤ n) (fun x => n - x) 0 (by simp [C.laws_heldIntS]) (by simp) ?_
  intro x1 hx1 R1 hR1
  refine wseq ?_
  refine wseq ?_
  refine wreg fun K hK => ?_
  simp [C.laws_heldIntS]
  refine hK _ ?_; clear hK K
  show AWp _ _ _ _ _
  refine wcond _ rfl (fun hc1 => ?_) (fun hc1 => ?_)
  · refine wskip ?_
    show AWp _ _ _ _ _
    refine wseq ?_
    refine wblock ?_
    refine wseq ?_
    refine wseq ?_
    have h1 : x1 < n := by simpa using hc1
    refine wreg fun K hK => ?_
    simp [C.laws_heldIntS, get_ints, marks_get, h1]
    refine hK _ ?_; clear hK K
    show AWp _ _ _ _ _
    refine wcond _ rfl (fun hc2 => ?_) (fun hc2 => ?_)
    · simp at hc2
    · refine wskip ?_
      show AWp _ _ _ _ _
      refine wreg fun K hK => ?_
      simp [C.laws_heldIntS]
      rw [wrapOk (x := k + x1 + 1) (by omega) (by omega)]
      refine hK _ ?_; clear hK K
      show AWp _ _ _ _ _
      refine wreg fun K hK => ?_
      simp [C.laws_heldIntS, wrap_succ (show x1 < 4611686018427387904 by omega)]
      refine hK _ ?_; clear hK K
      simp [C.laws_heldIntS]
      rw [show k + (x1 : Int) + 1 = k + ((x1 + 1 : Nat) : Int) by omega]
      exact hR1 (x1 + 1) h1 (by omega)
  · refine wexit ?_
    show AWp _ _ _ _ _
    refine wseq ?_
    refine wreg fun K hK => ?_
    simp [C.laws_heldIntS]
    refine hK _ ?_; clear hK K
    show AWp _ _ _ _ _
    refine wret ?_
    have hj2 : x1 = n := by simp at hc1; omega
    simp [C.laws_heldIntS, hj2]

theorem impl_gcd_calls (a b : Int) (ha : -4611686018427387904 < a ∧ a < 4611686018427387904) (hb : -4611686018427387904 < b ∧ b < 4611686018427387904) : ACalls Try.prog F.impl_gcd [.int a, .int b] [] true (fun outs res => outs = [] ∧ res = [.one (D.int (Int.gcd a b : Int))]) := by
  refine ACalls.of_body (C := C.impl_gcd) (n := Try.f178.ntmps) tabT folT Try.func178 rfl (by kernel_rfl) rfl (Nat.le_of_ble_eq_true rfl) (by decide) (by kernel_rfl) (by kernel_rfl) rfl (by simp) (by simp) ?_
  simp only [Try.f178]
  refine wseq ?_
  refine wreg fun K hK => ?_
  simp [C.impl_gcd]
  refine hK _ ?_; clear hK K
  show AWp _ _ _ _ _
  refine wseq ?_
  refine wblock ?_
  refine wloop (fun x : Int × Int => ⟨ofL [(0, .int x.1), (1, .int x.2)], ofRO []⟩) (fun x => Int.gcd x.1 x.2 = Int.gcd a b ∧ (-4611686018427387904 < x.1 ∧ x.1 < 4611686018427387904) ∧ (-4611686018427387904 < x.2 ∧ x.2 < 4611686018427387904)) (fun x => x.2.natAbs) (a, b) (by simp [C.impl_gcd]) ⟨rfl, ha, hb⟩ ?_
  intro x1 hx1 R1 hR1
  obtain ⟨p, q⟩ := x1
  obtain ⟨hg, hp, hq⟩ := hx1
  dsimp only at hg hp hq ⊢
  refine wseq ?_
  refine wseq ?_
  refine wreg fun K hK => ?_
  simp [C.impl_gcd]
  refine hK _ ?_; clear hK K
  show AWp _ _ _ _ _
  refine wcond _ rfl (fun hc1 => ?_) (fun hc1 => ?_)
  · refine wskip ?_
    show AWp _ _ _ _ _
    refine wblock ?_
    have hq0 : q ≠ 0 := by simpa using hc1
    refine wdraw (.take 0 (.take 1 (.take 2 (.take 3 (.take 4 (.take 5 (.done))))))) ⟨by kernel_rfl, by kernel_rfl⟩ fun K hK => ?_
    simp [C.impl_gcd, hq0]
    refine hK _ ?_; clear hK K
    simp [C.impl_gcd]
    have hn : (p.tmod q).natAbs < q.natAbs := by rw [Int.natAbs_tmod]; exact Nat.mod_lt _ (by omega)
    refine hR1 (q, p.tmod q) ⟨?_, hq, by dsimp only; omega⟩ hn
    rw [← hg]
    unfold Int.gcd
    rw [Int.natAbs_tmod, Nat.gcd_comm p.natAbs, Nat.gcd_rec q.natAbs p.natAbs, Nat.gcd_comm]
  · refine wexit ?_
    show AWp _ _ _ _ _
    refine wseq ?_
    have hq0 : q = 0 := by simpa using hc1
    subst hq0
    refine wreg fun K hK => ?_
    simp [C.impl_gcd]
    rw [wrapOk (x := -p) (by omega) (by omega)]
    refine hK _ ?_; clear hK K
    show AWp _ _ _ _ _
    refine wret ?_
    have hpg : max p (-p) = (Int.gcd a b : Int) := by rw [← hg]; simp [Int.gcd]; omega
    simp [C.impl_gcd, hpg]

end Go.Proofs.Ytdgeponcnlkaiaa.Ab
