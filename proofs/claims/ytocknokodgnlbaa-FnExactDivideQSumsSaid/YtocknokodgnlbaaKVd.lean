/- The program's sums: what is right, keys, comparisons. Keys of the program's sums, and their building. The program's powers of sums, over its products. A map of padded exponents as a sum. The program's products of sums, over the end of a building. Powers of sums: the program's are the reference's, fresh at each call. Seeds and sessions: what is equal, marks. The first seed and the first session, on both sides. Least exponents, denominators, numerators. Division of sums in variables: two ways to test whether to go on lead to the same. What a division keeps from step to step. The end of a building, over a sort. Division by maps: the greatest key, and what a step does. Lists of lists of numbers as trees. Lists of lists of numbers: their size, copies, what is equal, marks. Quantum sums as trees. Quantum sums: their size, copies, what is equal, marks. Quantum sums: the order of terms, which sums are right. Quantum sums: which are right, for the reference and for the program. Skew forms: which are right; what a form makes of two lists of exponents. What a form makes of two lists of exponents; what fits a form. Quantum terms in order: segments, merging, those of one key added, the empty ones left out. The reference's gathering of quantum terms: in order, those of one key added, the empty ones left out. The reference's sums of quantum sums. Greatest exponents, sums of coded terms, division: the reference's side. Products of quantum sums: the reference's. No condition. -/
import Derived.Test.YtocknokodgnlbaaKVc
set_option linter.unusedVariables false
set_option linter.unusedSimpArgs false
namespace Go.Proofs.Ytocknokodgnlbaa.Ab
open Go
set_option linter.unusedSimpArgs false
set_option linter.unusedVariables false
set_option maxRecDepth 10000
set_option maxHeartbeats 2000000
def cmpI (a b : Int) : Int := if a < b then -1 else if b < a then 1 else 0
def cmpL : List Int → List Int → Int
  | [], [] => 0
  | [], _ :: _ => -1
  | _ :: _, [] => 1
  | a :: x, b :: y => if a = b then cmpL x y else if a < b then -1 else 1
theorem cmpL_neg : ∀ (a b : List Int), decide (cmpL a b < 0) = lexlt a b
  | [], [] => rfl
  | [], _ :: _ => rfl
  | _ :: _, [] => rfl
  | a :: x, b :: y => by
    have ih := cmpL_neg x y
    by_cases h : a = b
    · have e : cmpL (a :: x) (b :: y) = cmpL x y := by simp [cmpL, h]
      rw [e, ih]
      simp [lexlt, h]
    · by_cases h2 : a < b
      · have e : cmpL (a :: x) (b :: y) = -1 := by simp [cmpL, h, h2]
        rw [e]
        simp [lexlt, h, h2]
      · have e : cmpL (a :: x) (b :: y) = 1 := by simp [cmpL, h, h2]
        rw [e]
        simp [lexlt, h, h2]
def okE (e : List Int) (v : Int) : Bool := decide ((e.length : Int) = v) && !e.any (fun x => !decide (-20 ≤ x ∧ x ≤ 20))
theorem okE_iff {e : List Int} {v : Int} : okE e v = true ↔ (e.length : Int) = v ∧ ∀ x ∈ e, -20 ≤ x ∧ x ≤ 20 := by
  unfold okE
  simp only [Bool.and_eq_true, decide_eq_true_eq, Bool.not_eq_true', List.any_eq_false, Bool.not_eq_true']
  refine ⟨fun ⟨h1, h2⟩ => ⟨h1, fun x hx => ?_⟩, fun ⟨h1, h2⟩ => ⟨h1, fun x hx => ?_⟩⟩
  · have := h2 x hx
    simpa using this
  · have := h2 x hx
    simpa using this
theorem cmp_isNaN_int_calls (a : Int) : ACalls Try.prog F.cmp_isNaN_int [.int a] [] true (fun outs res => outs = [] ∧ res = [.one (D.bool false)]) := by
  refine ACalls.of_body (C := C.cmp_isNaN_int) (n := Try.f152.ntmps) tabT folT Try.func152 rfl (by kernel_rfl) rfl (Nat.le_of_ble_eq_true rfl) (by decide) (by kernel_rfl) (by kernel_rfl) rfl (by simp) (by simp) ?_
  simp only [Try.f152]
  refine wseq ?_
  refine wreg fun K hK => ?_
  simp [C.cmp_isNaN_int]
  refine hK _ ?_; clear hK K
  show AWp _ _ _ _ _
  refine wseq ?_
  refine wreg fun K hK => ?_
  simp [C.cmp_isNaN_int]
  refine hK _ ?_; clear hK K
  show AWp _ _ _ _ _
  refine wret ?_
  simp [C.cmp_isNaN_int]

theorem cmp_Compare_int_calls (a b : Int) : ACalls Try.prog F.cmp_Compare_int [.int a, .int b] [] true (fun outs res => outs = [] ∧ res = [.one (D.int (cmpI a b))]) := by
  refine ACalls.of_body (C := C.cmp_Compare_int) (n := Try.f119.ntmps) tabT folT Try.func119 rfl (by kernel_rfl) rfl (Nat.le_of_ble_eq_true rfl) (by decide) (by kernel_rfl) (by kernel_rfl) rfl (by simp) (by simp) ?_
  simp only [Try.f119]
  refine wseq ?_
  refine wreg fun K hK => ?_
  simp [C.cmp_Compare_int]
  refine hK _ ?_; clear hK K
  show AWp _ _ _ _ _
  refine wseq ?_
  refine wregI ([0, 1] ++ ([2])) rfl fun K hK => ?_
  refine opsI_seg fun L hL => ?_
  simp [C.cmp_Compare_int]
  refine wcall1 (cmp_isNaN_int_calls a) (by simp) (by simp) ?_
  simp [C.cmp_Compare_int]
  refine hL _ ?_; clear hL L
  refine opsI_end fun L hL => ?_
  simp [C.cmp_Compare_int]
  refine hL _ ?_; clear hL L
  simp [C.cmp_Compare_int]
  refine hK _ ?_; clear hK K
  show AWp _ _ _ _ _
  refine wseq ?_
  refine wregI ([0, 1] ++ ([2])) rfl fun K hK => ?_
  refine opsI_seg fun L hL => ?_
  simp [C.cmp_Compare_int]
  refine wcall1 (cmp_isNaN_int_calls b) (by simp) (by simp) ?_
  simp [C.cmp_Compare_int]
  refine hL _ ?_; clear hL L
  refine opsI_end fun L hL => ?_
  simp [C.cmp_Compare_int]
  refine hL _ ?_; clear hL L
  simp [C.cmp_Compare_int]
  refine hK _ ?_; clear hK K
  show AWp _ _ _ _ _
  refine wseq ?_
  refine wseq ?_
  refine wreg fun K hK => ?_
  simp [C.cmp_Compare_int]
  refine hK _ ?_; clear hK K
  show AWp _ _ _ _ _
  refine wcond _ rfl (fun hc1 => ?_) (fun hc1 => ?_)
  · simp at hc1
  · refine wskip ?_
    show AWp _ _ _ _ _
    refine wseq ?_
    refine wseq ?_
    refine wreg fun K hK => ?_
    simp [C.cmp_Compare_int]
    refine hK _ ?_; clear hK K
    show AWp _ _ _ _ _
    refine wcond _ rfl (fun hc3 => ?_) (fun hc3 => ?_)
    · simp at hc3
    · refine wskip ?_
      show AWp _ _ _ _ _
      refine wseq ?_
      refine wseq ?_
      refine wreg fun K hK => ?_
      simp [C.cmp_Compare_int]
      refine hK _ ?_; clear hK K
      show AWp _ _ _ _ _
      refine wcond _ rfl (fun hc4 => ?_) (fun hc4 => ?_)
      · have h4 := d_t hc4
        refine wseq ?_
        refine wreg fun K hK => ?_
        simp [C.cmp_Compare_int]
        refine hK _ ?_; clear hK K
        show AWp _ _ _ _ _
        refine wret ?_
        simp [C.cmp_Compare_int, cmpI, h4]
      · have h4 := d_f hc4
        refine wskip ?_
        show AWp _ _ _ _ _
        refine wseq ?_
        refine wseq ?_
        refine wreg fun K hK => ?_
        simp [C.cmp_Compare_int]
        refine hK _ ?_; clear hK K
        show AWp _ _ _ _ _
        refine wcond _ rfl (fun hc5 => ?_) (fun hc5 => ?_)
        · have h5 : b < a := by simpa using hc5
          refine wseq ?_
          refine wreg fun K hK => ?_
          simp [C.cmp_Compare_int]
          refine hK _ ?_; clear hK K
          show AWp _ _ _ _ _
          refine wret ?_
          simp [C.cmp_Compare_int, cmpI, h4, h5]
        · have h5 : ¬ b < a := by simpa using hc5
          refine wskip ?_
          show AWp _ _ _ _ _
          refine wseq ?_
          refine wreg fun K hK => ?_
          simp [C.cmp_Compare_int]
          refine hK _ ?_; clear hK K
          show AWp _ _ _ _ _
          refine wret ?_
          simp [C.cmp_Compare_int, cmpI, h4, h5]

theorem slices_Compare_int_int_calls (a b : List Int) (ha : a.length < 4611686018427387904) : ACalls Try.prog F.slices_Compare_int_int [.d (shI a), .d (shI b)] [] true (fun outs res => outs = [] ∧ res = [.one (D.int (cmpL a b))]) := by
  refine ACalls.of_body (C := C.slices_Compare_int_int) (n := Try.f58.ntmps) tabT folT Try.func58 rfl (by kernel_rfl) rfl (Nat.le_of_ble_eq_true rfl) (by decide) (by kernel_rfl) (by kernel_rfl) rfl (by simp) (by simp) ?_
  simp only [Try.f58]
  refine wseq ?_
  refine wreg fun K hK => ?_
  simp [C.slices_Compare_int_int]
  refine hK _ ?_; clear hK K
  show AWp _ _ _ _ _
  refine wseq ?_
  refine wseq ?_
  refine wreg fun K hK => ?_
  simp [C.slices_Compare_int_int]
  refine hK _ ?_; clear hK K
  show AWp _ _ _ _ _
  refine wblock ?_
  refine wloop (fun k : Nat => ⟨ofL [(0, .d (shI a)), (1, .d (shI b)), (9, .d (shI a)), (10, .int a.length), (11, FV.int k)], ofRO []⟩) (fun k => k ≤ a.length ∧ k ≤ b.length ∧ cmpL a b = cmpL (a.drop k) (b.drop k)) (fun k => a.length - k) 0 (by simp [C.slices_Compare_int_int]) (by simp) ?_
  intro x1 hx1 R1 hR1
  obtain ⟨hk, hk2, ht⟩ := hx1
  refine wseq ?_
  refine wreg fun K hK => ?_
  simp [C.slices_Compare_int_int]
  refine hK _ ?_; clear hK K
  show AWp _ _ _ _ _
  refine wseq ?_
  refine wcond _ rfl (fun hc1 => ?_) (fun hc1 => ?_)
  · have h1 : x1 < a.length := by have := d_t hc1; omega
    refine wskip ?_
    show AWp _ _ _ _ _
    refine wseq ?_
    refine wblock ?_
    refine wseq ?_
    refine wreg fun K hK => ?_
    simp [C.slices_Compare_int_int, get_ints, h1]
    refine hK _ ?_; clear hK K
    show AWp _ _ _ _ _
    refine wseq ?_
    refine wseq ?_
    refine wreg fun K hK => ?_
    simp [C.slices_Compare_int_int]
    refine hK _ ?_; clear hK K
    show AWp _ _ _ _ _
    refine wcond _ rfl (fun hc2 => ?_) (fun hc2 => ?_)
    · have h2 : b.length ≤ x1 := by have := d_t hc2; omega
      refine wseq ?_
      refine wreg fun K hK => ?_
      simp [C.slices_Compare_int_int]
      refine hK _ ?_; clear hK K
      show AWp _ _ _ _ _
      refine wret ?_
      simp [C.slices_Compare_int_int]
      rw [ht, List.drop_eq_nil_of_le h2, List.drop_eq_getElem_cons h1]
      rfl
    · have h2 : x1 < b.length := by have := d_f hc2; omega
      refine wskip ?_
      show AWp _ _ _ _ _
      refine wseq ?_
      refine wreg fun K hK => ?_
      simp [C.slices_Compare_int_int, get_ints, h2]
      refine hK _ ?_; clear hK K
      show AWp _ _ _ _ _
      refine wseq ?_
      refine wregI ([0, 1, 2] ++ ([3])) rfl fun K hK => ?_
      refine opsI_seg fun L hL => ?_
      simp [C.slices_Compare_int_int]
      refine wcall1 (cmp_Compare_int_calls a[x1] b[x1]) (by simp) (by simp) ?_
      simp [C.slices_Compare_int_int]
      refine hL _ ?_; clear hL L
      refine opsI_end fun L hL => ?_
      simp [C.slices_Compare_int_int]
      refine hL _ ?_; clear hL L
      simp [C.slices_Compare_int_int]
      refine hK _ ?_; clear hK K
      show AWp _ _ _ _ _
      refine wseq ?_
      refine wreg fun K hK => ?_
      simp [C.slices_Compare_int_int]
      refine hK _ ?_; clear hK K
      show AWp _ _ _ _ _
      refine wcond _ rfl (fun hc3 => ?_) (fun hc3 => ?_)
      · have hne : ¬ cmpI a[x1] b[x1] = 0 := by simpa using hc3
        refine wseq ?_
        refine wreg fun K hK => ?_
        simp [C.slices_Compare_int_int]
        refine hK _ ?_; clear hK K
        show AWp _ _ _ _ _
        refine wret ?_
        simp [C.slices_Compare_int_int]
        rw [ht, List.drop_eq_getElem_cons h1, List.drop_eq_getElem_cons h2]
        rcases Int.lt_trichotomy a[x1] b[x1] with q | q | q
        · simp [cmpL, cmpI, q, Int.ne_of_lt q]
        · simp [cmpI, q] at hne
        · simp [cmpL, cmpI, q, Int.ne_of_gt q, Int.not_lt.2 (Int.le_of_lt q)]
      · have heq : cmpI a[x1] b[x1] = 0 := by simpa using hc3
        have hab : a[x1] = b[x1] := by
          unfold cmpI at heq
          split at heq
          · simp at heq
          · split at heq
            · simp at heq
            · omega
        refine wskip ?_
        show AWp _ _ _ _ _
        refine wreg fun K hK => ?_
        simp [C.slices_Compare_int_int, wrap_succ (show x1 < 4611686018427387904 by omega)]
        refine hK _ ?_; clear hK K
        simp [C.slices_Compare_int_int]
        refine hR1 (x1 + 1) ⟨h1, h2, ?_⟩ (by omega)
        rw [ht, List.drop_eq_getElem_cons h1, List.drop_eq_getElem_cons h2]
        simp [cmpL, hab]
  · have h1 : x1 = a.length := by have := d_f hc1; omega
    have hn : a.drop x1 = [] := List.drop_eq_nil_of_le (by omega)
    refine wexit ?_
    show AWp _ _ _ _ _
    refine wseq ?_
    refine wseq ?_
    refine wreg fun K hK => ?_
    simp [C.slices_Compare_int_int]
    refine hK _ ?_; clear hK K
    show AWp _ _ _ _ _
    refine wcond _ rfl (fun hc4 => ?_) (fun hc4 => ?_)
    · have h2 : a.length < b.length := by have := d_t hc4; omega
      refine wseq ?_
      refine wreg fun K hK => ?_
      simp [C.slices_Compare_int_int]
      refine hK _ ?_; clear hK K
      show AWp _ _ _ _ _
      refine wret ?_
      simp [C.slices_Compare_int_int]
      rw [ht, hn, List.drop_eq_getElem_cons (show x1 < b.length by omega)]
      rfl
    · have h2 : ¬ a.length < b.length := by have := d_f hc4; omega
      refine wskip ?_
      show AWp _ _ _ _ _
      refine wseq ?_
      refine wreg fun K hK => ?_
      simp [C.slices_Compare_int_int]
      refine hK _ ?_; clear hK K
      show AWp _ _ _ _ _
      refine wret ?_
      simp [C.slices_Compare_int_int]
      rw [ht, hn, List.drop_eq_nil_of_le (show b.length ≤ x1 by omega)]
      rfl

theorem slices_IndexFunc_int_int_calls (xs : List Int) (g : Nat) (p : Int → Bool) (hx : xs.length < 4611686018427387904) (hM : aget [] MM g = []) (hp : ∀ x ∈ xs, ACalls Try.prog g [.int x] [] true (fun outs res => outs = [] ∧ res = [.one (D.bool (p x))])) : ACalls Try.prog F.slices_IndexFunc_int_int [.d (shI xs), .d (.fn g [])] [] true (fun outs res => outs = [] ∧ ∃ r : Int, res = [.one (D.int r)] ∧ decide (0 ≤ r) = xs.any p) := by
  refine ACalls.of_body (C := C.slices_IndexFunc_int_int) (n := Try.f130.ntmps) tabT folT Try.func130 rfl (by kernel_rfl) rfl (Nat.le_of_ble_eq_true rfl) (by decide) (by kernel_rfl) (by kernel_rfl) rfl (by simp) (by simp) ?_
  simp only [Try.f130]
  refine wseq ?_
  refine wreg fun K hK => ?_
  simp [C.slices_IndexFunc_int_int]
  refine hK _ ?_; clear hK K
  show AWp _ _ _ _ _
  refine wseq ?_
  refine wseq ?_
  refine wreg fun K hK => ?_
  simp [C.slices_IndexFunc_int_int]
  refine hK _ ?_; clear hK K
  show AWp _ _ _ _ _
  refine wblock ?_
  refine wloop (fun k : Nat => ⟨ofL [(0, .d (shI xs)), (1, .d (.fn g [])), (7, .int xs.length), (8, FV.int k)], ofRO []⟩) (fun k => k ≤ xs.length ∧ (xs.take k).any p = false) (fun k => xs.length - k) 0 (by simp [C.slices_IndexFunc_int_int]) (by simp) ?_
  intro x1 hx1 R1 hR1
  obtain ⟨hk, ht⟩ := hx1
  refine wseq ?_
  refine wreg fun K hK => ?_
  simp [C.slices_IndexFunc_int_int]
  refine hK _ ?_; clear hK K
  show AWp _ _ _ _ _
  refine wseq ?_
  refine wcond _ rfl (fun hc1 => ?_) (fun hc1 => ?_)
  · have h1 : x1 < xs.length := by have := d_t hc1; omega
    refine wskip ?_
    show AWp _ _ _ _ _
    refine wseq ?_
    refine wblock ?_
    refine wseq ?_
    refine wreg fun K hK => ?_
    simp [C.slices_IndexFunc_int_int]
    refine hK _ ?_; clear hK K
    show AWp _ _ _ _ _
    refine wseq ?_
    refine wregI ([0, 1, 2, 3, 4, 5] ++ ([])) rfl fun K hK => ?_
    refine opsI_seg fun L hL => ?_
    simp [C.slices_IndexFunc_int_int, get_ints, h1, hM]
    refine wcall1 (hp xs[x1] (List.getElem_mem h1)) (by simp) (by simp) ?_
    simp [C.slices_IndexFunc_int_int, get_ints, h1, hM]
    refine hL _ ?_; clear hL L
    refine opsI_end fun L hL => ?_
    simp only [AOpsI]
    refine hL _ ?_; clear hL L
    simp [C.slices_IndexFunc_int_int, get_ints, h1, hM]
    refine hK _ ?_; clear hK K
    show AWp _ _ _ _ _
    refine wcond _ rfl (fun hc2 => ?_) (fun hc2 => ?_)
    · have hpx : p xs[x1] = true := by simpa using hc2
      refine wseq ?_
      refine wreg fun K hK => ?_
      simp [C.slices_IndexFunc_int_int]
      refine hK _ ?_; clear hK K
      show AWp _ _ _ _ _
      refine wret ?_
      simp [C.slices_IndexFunc_int_int]
      exact ⟨xs[x1], List.getElem_mem h1, hpx⟩
    · have hpx : p xs[x1] = false := by simpa using hc2
      refine wskip ?_
      show AWp _ _ _ _ _
      refine wreg fun K hK => ?_
      simp [C.slices_IndexFunc_int_int, wrap_succ (show x1 < 4611686018427387904 by omega)]
      refine hK _ ?_; clear hK K
      simp [C.slices_IndexFunc_int_int]
      refine hR1 (x1 + 1) ⟨h1, ?_⟩ (by omega)
      rw [List.take_succ_eq_append_getElem h1, List.any_append, ht]
      simp [hpx]
  · have h1 : x1 = xs.length := by have := d_f hc1; omega
    have ht2 : xs.any p = false := by rw [h1, List.take_length] at ht; exact ht
    refine wexit ?_
    show AWp _ _ _ _ _
    refine wseq ?_
    refine wreg fun K hK => ?_
    simp [C.slices_IndexFunc_int_int]
    refine hK _ ?_; clear hK K
    show AWp _ _ _ _ _
    refine wret ?_
    simp [C.slices_IndexFunc_int_int]
    intro x hx
    have := List.any_eq_false.1 ht2 x hx
    simpa using this

theorem slices_ContainsFunc_int_int_calls (xs : List Int) (g : Nat) (p : Int → Bool) (hx : xs.length < 4611686018427387904) (hM : aget [] MM g = []) (hp : ∀ x ∈ xs, ACalls Try.prog g [.int x] [] true (fun outs res => outs = [] ∧ res = [.one (D.bool (p x))])) : ACalls Try.prog F.slices_ContainsFunc_int_int [.d (shI xs), .d (.fn g [])] [] true (fun outs res => outs = [] ∧ res = [.one (D.bool (xs.any p))]) := by
  refine ACalls.of_body (C := C.slices_ContainsFunc_int_int) (n := Try.f67.ntmps) tabT folT Try.func67 rfl (by kernel_rfl) rfl (Nat.le_of_ble_eq_true rfl) (by decide) (by kernel_rfl) (by kernel_rfl) rfl (by simp) (by simp) ?_
  simp only [Try.f67]
  refine wseq ?_
  refine wreg fun K hK => ?_
  simp [C.slices_ContainsFunc_int_int]
  refine hK _ ?_; clear hK K
  show AWp _ _ _ _ _
  refine wseq ?_
  refine wregI ([0, 1, 2] ++ ([3, 4])) rfl fun K hK => ?_
  refine opsI_seg fun L hL => ?_
  simp [C.slices_ContainsFunc_int_int]
  refine wcall (slices_IndexFunc_int_int_calls xs g p hx hM hp) (by simp) (by simp) (by simp) ?_
  rintro outs res ⟨rfl, r, rfl, hr⟩
  simp [C.slices_ContainsFunc_int_int]
  refine hL _ ?_; clear hL L
  refine opsI_end fun L hL => ?_
  simp [C.slices_ContainsFunc_int_int]
  refine hL _ ?_; clear hL L
  simp [C.slices_ContainsFunc_int_int]
  refine hK _ ?_; clear hK K
  show AWp _ _ _ _ _
  refine wret ?_
  simp [C.slices_ContainsFunc_int_int]
  exact hr

theorem impl_expOk_1_calls (x : Int) : ACalls Try.prog F.impl_expOk_1 [.int x] [] true (fun outs res => outs = [] ∧ res = [.one (D.bool (!decide (-20 ≤ x ∧ x ≤ 20)))]) := by
  refine ACalls.of_body (C := C.impl_expOk_1) (n := Try.f120.ntmps) tabT folT Try.func120 rfl (by kernel_rfl) rfl (Nat.le_of_ble_eq_true rfl) (by decide) (by kernel_rfl) (by kernel_rfl) rfl (by simp) (by simp) ?_
  simp only [Try.f120]
  refine wseq ?_
  refine wreg fun K hK => ?_
  simp [C.impl_expOk_1]
  refine hK _ ?_; clear hK K
  show AWp _ _ _ _ _
  refine wseq ?_
  refine wregI ([0, 1] ++ ([2, 3])) rfl fun K hK => ?_
  refine opsI_seg fun L hL => ?_
  simp [C.impl_expOk_1]
  refine wcall1 (impl_within_calls x (-20) 20) (by simp) (by simp) ?_
  simp [C.impl_expOk_1]
  refine hL _ ?_; clear hL L
  refine opsI_end fun L hL => ?_
  simp [C.impl_expOk_1]
  refine hL _ ?_; clear hL L
  simp [C.impl_expOk_1]
  refine hK _ ?_; clear hK K
  show AWp _ _ _ _ _
  refine wret ?_
  simp [C.impl_expOk_1]

theorem impl_expOk_calls (e : List Int) (v : Int) (hx : e.length < 4611686018427387904) : ACalls Try.prog F.impl_expOk [.d (shI e), .int v] [] true (fun outs res => outs = [] ∧ res = [.one (D.bool (okE e v))]) := by
  refine ACalls.of_body (C := C.impl_expOk) (n := Try.f59.ntmps) tabT folT Try.func59 rfl (by kernel_rfl) rfl (Nat.le_of_ble_eq_true rfl) (by decide) (by kernel_rfl) (by kernel_rfl) rfl (by simp) (by simp) ?_
  simp only [Try.f59]
  refine wseq ?_
  refine wreg fun K hK => ?_
  simp [C.impl_expOk]
  refine hK _ ?_; clear hK K
  show AWp _ _ _ _ _
  refine wseq ?_
  refine wregI ([0, 1, 2, 3, 4, 5, 6] ++ ([7, 8, 9])) rfl fun K hK => ?_
  have hJ : K ⟨ofL [(4, .bool (okE e v))], ofRO []⟩ := by
    refine hK _ ?_; clear hK K
    show AWp _ _ _ _ _
    refine wret ?_
    simp [C.impl_expOk]
  clear hK
  by_cases ha : (e.length : Int) = v
  · refine opsI_seg fun L hL => ?_
    simp [C.impl_expOk, ha]
    refine wcall1 (slices_ContainsFunc_int_int_calls e _ (fun x => !decide (-20 ≤ x ∧ x ≤ 20)) hx rfl (fun x _ => impl_expOk_1_calls x)) (by simp) (by simp) ?_
    simp [C.impl_expOk, ha]
    refine hL _ ?_; clear hL L
    refine opsI_end fun L hL => ?_
    simp [C.impl_expOk, ha]
    refine hL _ ?_; clear hL L
    simp [C.impl_expOk, ha]
    refine cast (congrArg K ?_) hJ
    simp [okE, ha]
  · refine opsI_seg fun L hL => ?_
    simp [C.impl_expOk, ha]
    refine hL _ ?_; clear hL L
    refine opsI_end fun L hL => ?_
    simp [C.impl_expOk, ha]
    refine hL _ ?_; clear hL L
    simp [C.impl_expOk, ha]
    refine cast (congrArg K ?_) hJ
    simp [okE, ha]

theorem impl_coefOk_calls (c : Int) : ACalls Try.prog F.impl_coefOk [.int c] [] true (fun outs res => outs = [] ∧ res = [.one (D.bool (decide (c ≠ 0 ∧ -1000000 ≤ c ∧ c ≤ 1000000)))]) := by
  refine ACalls.of_body (C := C.impl_coefOk) (n := Try.f60.ntmps) tabT folT Try.func60 rfl (by kernel_rfl) rfl (Nat.le_of_ble_eq_true rfl) (by decide) (by kernel_rfl) (by kernel_rfl) rfl (by simp) (by simp) ?_
  simp only [Try.f60]
  refine wseq ?_
  refine wreg fun K hK => ?_
  simp [C.impl_coefOk]
  refine hK _ ?_; clear hK K
  show AWp _ _ _ _ _
  refine wseq ?_
  refine wregI ([0, 1, 2, 3, 4] ++ ([5, 6])) rfl fun K hK => ?_
  have hJ : K ⟨ofL [(2, .bool (decide (c ≠ 0 ∧ -1000000 ≤ c ∧ c ≤ 1000000)))], ofRO []⟩ := by
    refine hK _ ?_; clear hK K
    show AWp _ _ _ _ _
    refine wret ?_
    simp [C.impl_coefOk]
  clear hK
  by_cases ha : c = 0
  · refine opsI_seg fun L hL => ?_
    simp [C.impl_coefOk, ha]
    refine hL _ ?_; clear hL L
    refine opsI_end fun L hL => ?_
    simp [C.impl_coefOk, ha]
    refine hL _ ?_; clear hL L
    simp [C.impl_coefOk, ha]
    refine cast (congrArg K ?_) hJ
    simp [ha]
  · refine opsI_seg fun L hL => ?_
    simp [C.impl_coefOk, ha]
    refine wcall1 (impl_within_calls c (-1000000) 1000000) (by simp) (by simp) ?_
    simp [C.impl_coefOk, ha]
    refine hL _ ?_; clear hL L
    refine opsI_end fun L hL => ?_
    simp [C.impl_coefOk, ha]
    refine hL _ ?_; clear hL L
    simp [C.impl_coefOk, ha]
    refine cast (congrArg K ?_) hJ
    simp [ha]

end Go.Proofs.Ytocknokodgnlbaa.Ab
namespace Go.Proofs.Ytocknokodgnlbaa.Ab
open Go
set_option linter.unusedSimpArgs false
set_option linter.unusedVariables false
set_option maxRecDepth 10000
set_option maxHeartbeats 2000000
attribute [local simp] mapKV flatInt tileB
def pad (e : List Int) : List Int := e ++ List.replicate (8 - e.length) 0
theorem pad_length {e : List Int} (h : e.length ≤ 8) : (pad e).length = 8 := by
  unfold pad
  simp
  omega
theorem eight {l : List Int} (h : l.length = 8) : ∃ a b c d e f g k, l = [a, b, c, d, e, f, g, k] := by
  match l, h with
  | [a, b, c, d, e, f, g, k], _ => exact ⟨a, b, c, d, e, f, g, k, rfl⟩
def madd (es : List (List Int × Int)) (k : List Int) (c : Int) : List (List Int × Int) :=
  if c + (mget k es).getD 0 = 0 then mdel k es else mset k (c + (mget k es).getD 0) es
theorem impl_keyOf_calls (e : List Int) (he : e.length ≤ 8) (k0 k1 k2 k3 k4 k5 k6 k7 : Int) (hk : pad e = [k0, k1, k2, k3, k4, k5, k6, k7]) : ACalls Try.prog F.impl_keyOf [.d (shI e)] [] true (fun outs res => outs = [] ∧ res = [.ag [D.int k0, D.int k1, D.int k2, D.int k3, D.int k4, D.int k5, D.int k6, D.int k7]]) := by
  refine ACalls.of_body (C := C.impl_keyOf) (n := Try.f56.ntmps) tabT folT Try.func56 rfl (by kernel_rfl) rfl (Nat.le_of_ble_eq_true rfl) (by decide) (by kernel_rfl) (by kernel_rfl) rfl (by simp) (by simp) ?_
  simp only [Try.f56]
  refine wseq ?_
  refine wreg fun K hK => ?_
  simp [C.impl_keyOf]
  refine hK _ ?_; clear hK K
  show AWp _ _ _ _ _
  refine wseq ?_
  refine wreg fun K hK => ?_
  simp [C.impl_keyOf]
  refine hK _ ?_; clear hK K
  show AWp _ _ _ _ _
  refine wseq ?_
  have hcp : ints (e.take (min e.length 8)) ++ List.drop (min e.length 8) [D.int 0, D.int 0, D.int 0, D.int 0, D.int 0, D.int 0, D.int 0, D.int 0] = [D.int k0, D.int k1, D.int k2, D.int k3, D.int k4, D.int k5, D.int k6, D.int k7] := by
    have hz : ([D.int 0, D.int 0, D.int 0, D.int 0, D.int 0, D.int 0, D.int 0, D.int 0] : List D) = ints (List.replicate 8 0) := rfl
    rw [hz, Nat.min_eq_left he, List.take_length, ints_drop, ints_append, List.drop_replicate]
    show ints (pad e) = _
    rw [hk]
    rfl
  refine wreg fun K hK => ?_
  simp [C.impl_keyOf]
  rw [hcp]
  refine hK _ ?_; clear hK K
  show AWp _ _ _ _ _
  refine wseq ?_
  refine wreg fun K hK => ?_
  simp [C.impl_keyOf]
  refine hK _ ?_; clear hK K
  show AWp _ _ _ _ _
  refine wret ?_
  simp [C.impl_keyOf]

theorem impl_plusExp_calls (t : Int) (a0 a1 a2 a3 a4 a5 a6 a7 b0 b1 b2 b3 b4 b5 b6 b7 : Int) (ht : -1 ≤ t ∧ t ≤ 1) (ha : ∀ x ∈ [a0, a1, a2, a3, a4, a5, a6, a7], -1000000 ≤ x ∧ x ≤ 1000000) (hb : ∀ x ∈ [b0, b1, b2, b3, b4, b5, b6, b7], -1000000 ≤ x ∧ x ≤ 1000000) : ACalls Try.prog F.impl_plusExp [.ag [.int a0, .int a1, .int a2, .int a3, .int a4, .int a5, .int a6, .int a7], .int t, .ag [.int b0, .int b1, .int b2, .int b3, .int b4, .int b5, .int b6, .int b7]] [] true (fun outs res => outs = [] ∧ res = [.ag [D.int (a0 + t * b0), D.int (a1 + t * b1), D.int (a2 + t * b2), D.int (a3 + t * b3), D.int (a4 + t * b4), D.int (a5 + t * b5), D.int (a6 + t * b6), D.int (a7 + t * b7)]]) := by
  refine ACalls.of_body (C := C.impl_plusExp) (n := Try.f55.ntmps) tabT folT Try.func55 rfl (by kernel_rfl) rfl (Nat.le_of_ble_eq_true rfl) (by decide) (by kernel_rfl) (by kernel_rfl) rfl (by simp) (by simp) ?_
  simp only [Try.f55]
  refine wseq ?_
  refine wreg fun K hK => ?_
  simp [C.impl_plusExp]
  refine hK _ ?_; clear hK K
  show AWp _ _ _ _ _
  refine wseq ?_
  refine wseq ?_
  refine wreg fun K hK => ?_
  simp [C.impl_plusExp]
  refine hK _ ?_; clear hK K
  show AWp _ _ _ _ _
  refine wblock ?_
  refine wloop (fun x : Nat × List Int => ⟨ofL [(1, .int t), (3, .pt (3, 0) [] 0), (5, .pt (5, 0) [] 0), (6, .pt (6, 0) [] 0), (8, .int x.1)], ofRO [((3, 0), some (.bx (ints x.2))), ((5, 0), some (.bx (ints [b0, b1, b2, b3, b4, b5, b6, b7]))), ((6, 0), some (.bx (ints [0, 0, 0, 0, 0, 0, 0, 0])))]⟩) (fun x => x.1 ≤ 8 ∧ x.2 = addE t ([a0, a1, a2, a3, a4, a5, a6, a7].take x.1) ([b0, b1, b2, b3, b4, b5, b6, b7].take x.1) ++ [a0, a1, a2, a3, a4, a5, a6, a7].drop x.1) (fun x => 8 - x.1) (0, [a0, a1, a2, a3, a4, a5, a6, a7]) (by simp [C.impl_plusExp, ints]) (by simp [addE]) ?_
  intro x1 hx1 R1 hR1
  obtain ⟨i, gs⟩ := x1
  obtain ⟨hi, hg⟩ := hx1
  dsimp only at hi hg ⊢
  refine wseq ?_
  refine wreg fun K hK => ?_
  simp [C.impl_plusExp]
  refine hK _ ?_; clear hK K
  show AWp _ _ _ _ _
  refine wseq ?_
  refine wcond _ rfl (fun hc1 => ?_) (fun hc1 => ?_)
  · have h1 : i < 8 := by have := d_t hc1; omega
    have hgl : gs.length = 8 := by
      rw [hg]
      simp [addE_length]
      omega
    have h2 : i < gs.length := by omega
    have h3 : i < [b0, b1, b2, b3, b4, b5, b6, b7].length := by simpa using h1
    have h4 : i < [a0, a1, a2, a3, a4, a5, a6, a7].length := by simpa using h1
    have hge : gs[i] = [a0, a1, a2, a3, a4, a5, a6, a7][i] := by
      have := addE_get (t := t) h4 (show [a0, a1, a2, a3, a4, a5, a6, a7].length = [b0, b1, b2, b3, b4, b5, b6, b7].length from rfl)
      rw [← hg, List.getElem?_eq_getElem h2] at this
      injection this
    have hA := ha _ (List.getElem_mem h4)
    have hB := hb _ (List.getElem_mem h3)
    generalize hbi : [b0, b1, b2, b3, b4, b5, b6, b7][i] = B at hB
    generalize hai : [a0, a1, a2, a3, a4, a5, a6, a7][i] = A at hA hge
    have htb : -1000000 ≤ t * B ∧ t * B ≤ 1000000 := by
      rcases (show t = -1 ∨ t = 0 ∨ t = 1 by omega) with rfl | rfl | rfl <;> omega
    refine wskip ?_
    show AWp _ _ _ _ _
    refine wseq ?_
    refine wblock ?_
    refine wseq ?_
    refine wreg fun K hK => ?_
    simp [C.impl_plusExp]
    refine hK _ ?_; clear hK K
    show AWp _ _ _ _ _
    refine wdraw (.take 0 (.take 1 (.take 2 (.take 3 (.take 4 (.take 5 (.take 6 (.take 7 (.take 8 (.take 9 (.all [(10, .done)]))))))))))) ⟨by kernel_rfl, by kernel_rfl⟩ fun K hK => ?_
    simp [C.impl_plusExp, show ((i : Int) < 8) by omega, h1, hgl, get_ints]
    rw [hbi, hge, wrapOk (x := t * B) (by omega) (by omega), wrapOk (x := A + t * B) (by omega) (by omega)]
    refine hK _ ?_; clear hK K
    show AWp _ _ _ _ _
    refine wreg fun K hK => ?_
    simp [C.impl_plusExp, wrap_succ (show i < 4611686018427387904 by omega)]
    refine hK _ ?_; clear hK K
    simp [C.impl_plusExp]
    refine hR1 (i + 1, _) ⟨h1, ?_⟩ (by dsimp only; omega)
    dsimp only
    rw [hg, ← hai, ← hbi]
    exact addE_step (bs := [b0, b1, b2, b3, b4, b5, b6, b7]) h4 rfl
  · have h1 : i = 8 := by have := d_f hc1; omega
    subst h1
    have hg2 : gs = [a0 + t * b0, a1 + t * b1, a2 + t * b2, a3 + t * b3, a4 + t * b4, a5 + t * b5, a6 + t * b6, a7 + t * b7] := by rw [hg]; rfl
    subst hg2
    refine wexit ?_
    show AWp _ _ _ _ _
    refine wseq ?_
    refine wreg fun K hK => ?_
    simp [C.impl_plusExp, ints]
    refine hK _ ?_; clear hK K
    show AWp _ _ _ _ _
    refine wret ?_
    simp [C.impl_plusExp]

end Go.Proofs.Ytocknokodgnlbaa.Ab
namespace Go.Proofs.Ytocknokodgnlbaa.Ab
open Go
set_option linter.unusedSimpArgs false
set_option linter.unusedVariables false
set_option maxRecDepth 10000
set_option maxHeartbeats 2000000
end Go.Proofs.Ytocknokodgnlbaa.Ab
namespace Go.Proofs.Ytocknokodgnlbaa.Ab
open Go
set_option linter.unusedSimpArgs false
set_option linter.unusedVariables false
set_option linter.unusedSectionVars false

theorem pad_inj {a b : List Int} (h : a.length = b.length) (e : pad a = pad b) : a = b := by
  unfold pad at e
  rw [h] at e
  exact List.append_cancel_right e
theorem pad_take {e : List Int} : (pad e).take e.length = e := by
  unfold pad
  exact List.take_left
theorem mget_none {k : List Int} : ∀ {es : List (List Int × Int)}, (∀ x ∈ es, x.1 ≠ k) → mget k es = none
  | [], _ => rfl
  | x :: es, h => by
    simp only [mget]
    rw [if_neg (h x (by simp))]
    exact mget_none fun y hy => h y (by simp [hy])
theorem mget_mset {k q : List Int} {v : Int} : ∀ (es : List (List Int × Int)), mget q (mset k v es) = if k = q then some v else mget q es
  | [] => by simp [mset, mget]
  | x :: es => by
    simp only [mset]
    split
    · rename_i e
      subst e
      simp only [mget]
      split <;> rfl
    · rename_i e
      simp only [mget, mget_mset es]
      by_cases h1 : x.1 = q
      · rw [if_pos h1, if_neg (fun h2 => e (h1.trans h2.symm)), if_pos h1]
      · rw [if_neg h1, if_neg h1]
theorem mget_mdel {k q : List Int} : ∀ (es : List (List Int × Int)), (es.map (·.1)).Nodup → mget q (mdel k es) = if k = q then none else mget q es
  | [], _ => by simp [mdel, mget]
  | x :: es, h => by
    simp only [List.map_cons, List.nodup_cons] at h
    simp only [mdel]
    split
    · rename_i e
      subst e
      by_cases h1 : x.1 = q
      · rw [if_pos h1]
        exact mget_none fun y hy e2 => h.1 (by rw [h1, ← e2]; exact List.mem_map.2 ⟨y, hy, rfl⟩)
      · rw [if_neg h1]
        simp only [mget]
        rw [if_neg h1]
    · rename_i e
      simp only [mget, mget_mdel es h.2]
      by_cases h1 : x.1 = q
      · rw [if_pos h1, if_neg (fun h2 => e (h1.trans h2.symm)), if_pos h1]
      · rw [if_neg h1, if_neg h1]
theorem mset_mem {k : List Int} {v : Int} : ∀ {es : List (List Int × Int)} {x : List Int × Int}, x ∈ mset k v es → x = (k, v) ∨ x ∈ es
  | [], x, h => by
    simp only [mset, List.mem_singleton] at h
    exact .inl h
  | y :: es, x, h => by
    simp only [mset] at h
    split at h
    · rcases List.mem_cons.1 h with h | h
      · exact .inl h
      · exact .inr (by simp [h])
    · rcases List.mem_cons.1 h with h | h
      · exact .inr (by simp [h])
      · rcases mset_mem h with h | h
        · exact .inl h
        · exact .inr (by simp [h])
theorem mdel_mem {k : List Int} : ∀ {es : List (List Int × Int)} {x : List Int × Int}, x ∈ mdel k es → x ∈ es
  | [], x, h => by simp [mdel] at h
  | y :: es, x, h => by
    simp only [mdel] at h
    split at h
    · simp [h]
    · rcases List.mem_cons.1 h with h | h
      · simp [h]
      · simp [mdel_mem h]
theorem mset_nodup {k : List Int} {v : Int} : ∀ {es : List (List Int × Int)}, (es.map (·.1)).Nodup → ((mset k v es).map (·.1)).Nodup
  | [], _ => by simp [mset]
  | y :: es, h => by
    simp only [List.map_cons, List.nodup_cons] at h
    simp only [mset]
    split
    · rename_i e
      simp only [List.map_cons, List.nodup_cons]
      rw [← e]
      exact h
    · rename_i e
      simp only [List.map_cons, List.nodup_cons]
      refine ⟨fun hm => ?_, mset_nodup h.2⟩
      obtain ⟨z, hz, e2⟩ := List.mem_map.1 hm
      rcases mset_mem hz with rfl | hz
      · exact e e2.symm
      · exact h.1 (List.mem_map.2 ⟨z, hz, e2⟩)
theorem mdel_nodup {k : List Int} : ∀ {es : List (List Int × Int)}, (es.map (·.1)).Nodup → ((mdel k es).map (·.1)).Nodup
  | [], _ => by simp [mdel]
  | y :: es, h => by
    simp only [List.map_cons, List.nodup_cons] at h
    simp only [mdel]
    split
    · exact h.2
    · simp only [List.map_cons, List.nodup_cons]
      refine ⟨fun hm => ?_, mdel_nodup h.2⟩
      obtain ⟨z, hz, e2⟩ := List.mem_map.1 hm
      exact h.1 (List.mem_map.2 ⟨z, mdel_mem hz, e2⟩)

end Go.Proofs.Ytocknokodgnlbaa.Ab
namespace Go.Proofs.Ytocknokodgnlbaa.Ab
open Go
set_option linter.unusedSimpArgs false
set_option linter.unusedVariables false
set_option maxRecDepth 10000
set_option maxHeartbeats 2000000
theorem pad_add {a b : List Int} (h : a.length = b.length) (k : Int) : addE k (pad a) (pad b) = pad (addE k a b) := by
  unfold pad
  rw [addE_length _ _ _ h, ← h]
  generalize 8 - a.length = m
  induction a generalizing b with
  | nil => cases b with
    | nil =>
      simp only [addE, List.nil_append]
      induction m with
      | zero => rfl
      | succ m ih => simp [List.replicate_succ, addE, ih]
    | cons y b => simp at h
  | cons x a ih => cases b with
    | nil => simp at h
    | cons y b => simp [addE, ih (by simpa using h)]
theorem pad_bd {e : List Int} (h : ∀ x ∈ e, -20 ≤ x ∧ x ≤ 20) : ∀ x ∈ pad e, -1000000 ≤ x ∧ x ≤ 1000000 := fun x hx => by
  unfold pad at hx
  rcases List.mem_append.1 hx with hx | hx
  · have := h x hx; omega
  · have := List.eq_of_mem_replicate hx; omega
end Go.Proofs.Ytocknokodgnlbaa.Ab
namespace Go.Proofs.Ytocknokodgnlbaa.Ab
open Go
set_option linter.unusedSimpArgs false
set_option linter.unusedVariables false
set_option maxRecDepth 10000
set_option maxHeartbeats 2000000
end Go.Proofs.Ytocknokodgnlbaa.Ab
namespace Go.Proofs.Ytocknokodgnlbaa.Ab
open Go
set_option linter.unusedSimpArgs false
set_option linter.unusedVariables false
set_option maxRecDepth 10000
set_option maxHeartbeats 1000000
end Go.Proofs.Ytocknokodgnlbaa.Ab
namespace Go.Proofs.Ytocknokodgnlbaa.Ab
open Go
set_option linter.unusedSimpArgs false
set_option linter.unusedVariables false
set_option maxRecDepth 10000
set_option maxHeartbeats 2000000
def unitL (n i : Nat) : List Int := (List.replicate n 0).set i 1
noncomputable def monoF (e : List Int) : Lau := if Right ⟨e.length, [⟨e, 1⟩]⟩ then ⟨e.length, [⟨e, 1⟩]⟩ else zeroF
noncomputable def varsL (r : Nat) : List Lau := (List.range r).map fun i => monoF (unitL r i)
abbrev m0 : Mat := ⟨2, 2, [0, 1, -1, 0]⟩
noncomputable abbrev z0 : Ses := ⟨m0, [], ⟨m0, varsL 2⟩⟩
end Go.Proofs.Ytocknokodgnlbaa.Ab
namespace Go.Proofs.Ytocknokodgnlbaa.Ab
open Go
set_option linter.unusedSimpArgs false
set_option linter.unusedVariables false
set_option maxRecDepth 10000
set_option maxHeartbeats 2000000
def minF (x : Int) (ts : List Trm) (i : Nat) : Int := ts.foldl (fun m t => min m (t.e.getD i 0)) x
theorem minF_snoc (x : Int) (ts : List Trm) (t : Trm) (i : Nat) : minF x (ts ++ [t]) i = min (minF x ts i) (t.e.getD i 0) := by simp [minF, List.foldl_append]
theorem minF_le (x : Int) (i : Nat) : ∀ ts : List Trm, minF x ts i ≤ x ∧ (∀ t ∈ ts, minF x ts i ≤ t.e.getD i 0) ∧ (minF x ts i = x ∨ ∃ t ∈ ts, minF x ts i = t.e.getD i 0) := by
  intro ts
  induction ts generalizing x with
  | nil => simp [minF]
  | cons t ts ih =>
    obtain ⟨h1, h2, h3⟩ := ih (min x (t.e.getD i 0))
    have e : minF x (t :: ts) i = minF (min x (t.e.getD i 0)) ts i := rfl
    rw [e]
    refine ⟨by omega, fun u hu => ?_, ?_⟩
    · rcases List.mem_cons.1 hu with rfl | hu
      · omega
      · exact h2 u hu
    · rcases h3 with h3 | ⟨u, hu, h3⟩
      · by_cases hle : x ≤ t.e.getD i 0
        · exact .inl (by rw [h3]; omega)
        · exact .inr ⟨t, by simp, by rw [h3]; omega⟩
      · exact .inr ⟨u, by simp [hu], h3⟩
def lowA (x : Nat → Int) (ts : List Trm) (n : Nat) : List Int := (List.range n).map fun i => minF (x i) ts i
@[simp] theorem lowA_length (x : Nat → Int) (ts : List Trm) (n : Nat) : (lowA x ts n).length = n := by simp [lowA]
theorem lowA_get (x : Nat → Int) (ts : List Trm) (n i : Nat) (h : i < n) : (lowA x ts n)[i]'(by simpa using h) = minF (x i) ts i := by simp [lowA]
theorem getD_eq {l : List Int} {i : Nat} (h : i < l.length) : l.getD i 0 = l[i] := by simp [List.getD, h]
theorem mix_set {α : Type} (xs ys : List α) (i : Nat) (h : i < xs.length) (hl : xs.length = ys.length) : (xs.take i ++ ys.drop i).set i xs[i] = xs.take (i + 1) ++ ys.drop (i + 1) := by
  rw [List.set_append_right _ _ (by simp; omega), List.take_succ_eq_append_getElem h]
  simp only [List.length_take, Nat.min_eq_left (Nat.le_of_lt h), Nat.sub_self]
  rw [List.drop_eq_getElem_cons (by omega), List.set_cons_zero, List.append_assoc]
  rfl
theorem mix_get {α : Type} (xs ys : List α) (i : Nat) (h : i < ys.length) (hl : xs.length = ys.length) : (xs.take i ++ ys.drop i)[i]? = some ys[i] := by
  rw [List.getElem?_append_right (by simp; omega)]
  simp [Nat.min_eq_left (show i ≤ xs.length by omega), h]
def headE (ts : List Trm) (i : Nat) : Int := match ts with | [] => 0 | t :: _ => t.e.getD i 0
theorem lowA_start (ts : List Trm) (n : Nat) (h : 0 < ts.length) (he : ∀ t ∈ ts, t.e.length = n) : lowA (headE ts) [] n = (ts[0]'h).e := by
  match ts, h with
  | t :: ts, _ =>
    have h1 := he t (by simp)
    apply List.ext_getElem
    · simp [h1]
    · intro i h2 h3
      rw [lowA_get _ _ _ _ (by simpa using h2)]
      simp only [minF, List.foldl_nil, headE, List.getElem_cons_zero]
      exact getD_eq h3
def lowL (ts : List Trm) (n : Nat) : List Int := lowA (headE ts) ts n
def denL (f : Lau) : List Int := (lowL f.ts f.v.toNat).map fun x => -x
@[simp] theorem denL_length (f : Lau) : (denL f).length = f.v.toNat := by simp [denL, lowL]
theorem ieq0 (n : Nat) : ((n : Int) == 0) = decide (n = 0) := by
  rw [Bool.eq_iff_iff]; simp







end Go.Proofs.Ytocknokodgnlbaa.Ab
namespace Go.Proofs.Ytocknokodgnlbaa.Ab
open Go
set_option linter.unusedSimpArgs false
set_option linter.unusedVariables false
theorem addE_dv : ∀ (a b : List Int), a.length = b.length → addE 1 (addE (-1) a b) b = a
  | [], [], _ => rfl
  | x :: a, y :: b, h => by
    simp only [addE, addE_dv a b (by simpa using h)]
    congr 1
    omega
  | [], _ :: _, h => by simp at h
  | _ :: _, [], h => by simp at h
theorem lexlt_addE (k : Int) : ∀ (x y b : List Int), x.length = b.length → y.length = b.length → lexlt (addE k x b) (addE k y b) = lexlt x y
  | [], [], [], _, _ => rfl
  | u :: x, v :: y, w :: b, h1, h2 => by
    simp only [addE, lexlt, lexlt_addE k x y b (by simpa using h1) (by simpa using h2)]
    by_cases e : u = v
    · rw [if_pos e, if_pos (by omega)]
    · rw [if_neg e, if_neg (by omega)]
      congr 1
      simp only [eq_iff_iff]
      omega
  | [], _ :: _, _, h1, h2 => by simp at h1 h2; omega
  | _ :: _, [], _, h1, h2 => by simp at h1 h2; omega
  | _ :: _, _ :: _, [], h1, _ => by simp at h1
  | [], [], _ :: _, h1, _ => by simp at h1
theorem lexlt_addE2 : ∀ (e x y : List Int), e.length = x.length → e.length = y.length → lexlt (addE 1 e x) (addE 1 e y) = lexlt x y
  | [], [], [], _, _ => rfl
  | w :: e, u :: x, v :: y, h1, h2 => by
    simp only [addE, lexlt, lexlt_addE2 e x y (by simpa using h1) (by simpa using h2)]
    by_cases e : u = v
    · rw [if_pos e, if_pos (by omega)]
    · rw [if_neg e, if_neg (by omega)]
      congr 1
      simp only [eq_iff_iff]
      omega
  | [], _ :: _, _, h1, _ => by simp at h1
  | _ :: _, [], _, h1, _ => by simp at h1
  | [], [], _ :: _, _, h2 => by simp at h2
  | _ :: _, _ :: _, [], _, h2 => by simp at h2
/-! ### Greatest and least exponents -/
theorem least_of {α : Type} (f : α → Int) : ∀ l : List α, l ≠ [] → ∃ x ∈ l, ∀ y ∈ l, f x ≤ f y
  | [], h => absurd rfl h
  | [x], _ => ⟨x, by simp, by simp⟩
  | x :: y :: l, _ => by
    obtain ⟨z, hz, hm⟩ := least_of f (y :: l) (by simp)
    by_cases h : f x ≤ f z
    · refine ⟨x, by simp, fun u hu => ?_⟩
      rcases List.mem_cons.1 hu with rfl | hu
      · omega
      · have := hm u hu; omega
    · refine ⟨z, by simp [hz], fun u hu => ?_⟩
      rcases List.mem_cons.1 hu with rfl | hu
      · omega
      · exact hm u hu
theorem getD_addE (k : Int) (i : Nat) : ∀ (a b : List Int), a.length = b.length → (addE k a b).getD i 0 = a.getD i 0 + k * b.getD i 0 := by
  induction i with
  | zero =>
    intro a b h
    match a, b, h with
    | [], [], _ => simp [addE]
    | x :: a, y :: b, _ => simp [addE]
  | succ i ih =>
    intro a b h
    match a, b, h with
    | [], [], _ => simp [addE]
    | x :: a, y :: b, h =>
      have := ih a b (by simpa using h)
      simpa [addE, List.getD_cons_succ] using this
/-- A number that tells exponents apart, goes with sums, and goes by the i-th exponent first. -/
def wei (s : Int) (i : Nat) (e : List Int) : Int := s * (e.getD i 0 * 144115188075855872 + keyA 0 e)
theorem wei_add (s : Int) (i : Nat) (a b : List Int) (h : a.length = b.length) : wei s i (addE 1 a b) = wei s i a + wei s i b - s * keyA 0 (List.replicate a.length 0) := by
  unfold wei
  have := keyA_add a b 0 0 0 h
  simp only [Int.add_zero, Int.sub_zero] at this
  rw [this, getD_addE 1 i a b h, ← Int.mul_add, ← Int.mul_sub]
  congr 1
  omega
theorem wei_bd {e : List Int} (hd : Dig e) (h8 : e.length ≤ 8) : 0 ≤ keyA 0 e ∧ keyA 0 e < 144115188075855872 := by
  have := keyA_key hd h8
  omega
theorem wei_inj {s : Int} (hs : s = 1 ∨ s = -1) {i : Nat} {a b : List Int} (hl : a.length = b.length) (ha : Dig a) (hb : Dig b) (h8 : a.length ≤ 8) (h : wei s i a = wei s i b) : a = b := by
  have h1 := wei_bd ha h8
  have h2 := wei_bd hb (by omega)
  refine keyA_inj hl ha hb (p := 0) ?_
  unfold wei at h
  rcases hs with rfl | rfl <;> omega
theorem wei_le {s : Int} (hs : s = 1 ∨ s = -1) {i : Nat} {a b : List Int} (ha : Dig a) (hb : Dig b) (h8 : a.length ≤ 8) (h8b : b.length ≤ 8) (h : wei s i a ≤ wei s i b) : s * a.getD i 0 ≤ s * b.getD i 0 := by
  have h1 := wei_bd ha h8
  have h2 := wei_bd hb h8b
  unfold wei at h
  rcases hs with rfl | rfl <;> omega
/-! ### Greatest exponents of terms -/
def maxF (x : Int) (ts : List Trm) (i : Nat) : Int := ts.foldl (fun m t => max m (t.e.getD i 0)) x
theorem maxF_snoc (x : Int) (ts : List Trm) (t : Trm) (i : Nat) : maxF x (ts ++ [t]) i = max (maxF x ts i) (t.e.getD i 0) := by simp [maxF, List.foldl_append]
theorem maxF_ge (x : Int) (i : Nat) : ∀ ts : List Trm, x ≤ maxF x ts i ∧ (∀ t ∈ ts, t.e.getD i 0 ≤ maxF x ts i) ∧ (maxF x ts i = x ∨ ∃ t ∈ ts, maxF x ts i = t.e.getD i 0) := by
  intro ts
  induction ts generalizing x with
  | nil => simp [maxF]
  | cons t ts ih =>
    obtain ⟨h1, h2, h3⟩ := ih (max x (t.e.getD i 0))
    have e : maxF x (t :: ts) i = maxF (max x (t.e.getD i 0)) ts i := rfl
    rw [e]
    refine ⟨by omega, fun u hu => ?_, ?_⟩
    · rcases List.mem_cons.1 hu with rfl | hu
      · omega
      · exact h2 u hu
    · rcases h3 with h3 | ⟨u, hu, h3⟩
      · by_cases hle : t.e.getD i 0 ≤ x
        · exact .inl (by rw [h3]; omega)
        · exact .inr ⟨t, by simp, by rw [h3]; omega⟩
      · exact .inr ⟨u, by simp [hu], h3⟩
def highA (x : Nat → Int) (ts : List Trm) (n : Nat) : List Int := (List.range n).map fun i => maxF (x i) ts i
@[simp] theorem highA_length (x : Nat → Int) (ts : List Trm) (n : Nat) : (highA x ts n).length = n := by simp [highA]
theorem highA_get (x : Nat → Int) (ts : List Trm) (n i : Nat) (h : i < n) : (highA x ts n)[i]'(by simpa using h) = maxF (x i) ts i := by simp [highA]
theorem highA_start (ts : List Trm) (n : Nat) (h : 0 < ts.length) (he : ∀ t ∈ ts, t.e.length = n) : highA (headE ts) [] n = (ts[0]'h).e := by
  have := lowA_start ts n h he
  rw [← this]
  unfold highA lowA minF maxF
  rfl
def highL (ts : List Trm) (n : Nat) : List Int := highA (headE ts) ts n
theorem headE_mem {ts : List Trm} (h : ts ≠ []) (i : Nat) : ∃ t ∈ ts, headE ts i = t.e.getD i 0 := by
  match ts, h with
  | t :: ts, _ => exact ⟨t, by simp, rfl⟩
theorem lowL_at {ts : List Trm} (h : ts ≠ []) {n i : Nat} (hi : i < n) : (∀ t ∈ ts, (lowL ts n).getD i 0 ≤ t.e.getD i 0) ∧ ∃ t ∈ ts, (lowL ts n).getD i 0 = t.e.getD i 0 := by
  have e : (lowL ts n).getD i 0 = minF (headE ts i) ts i := by
    rw [getD_eq (by simpa [lowL] using hi)]
    exact lowA_get _ _ _ _ hi
  rw [e]
  obtain ⟨_, h2, h3⟩ := minF_le (headE ts i) i ts
  refine ⟨h2, ?_⟩
  rcases h3 with h3 | h3
  · rw [h3]; exact headE_mem h i
  · exact h3
theorem highL_at {ts : List Trm} (h : ts ≠ []) {n i : Nat} (hi : i < n) : (∀ t ∈ ts, t.e.getD i 0 ≤ (highL ts n).getD i 0) ∧ ∃ t ∈ ts, (highL ts n).getD i 0 = t.e.getD i 0 := by
  have e : (highL ts n).getD i 0 = maxF (headE ts i) ts i := by
    rw [getD_eq (by simpa [highL] using hi)]
    exact highA_get _ _ _ _ hi
  rw [e]
  obtain ⟨_, h2, h3⟩ := maxF_ge (headE ts i) i ts
  refine ⟨h2, ?_⟩
  rcases h3 with h3 | h3
  · rw [h3]; exact headE_mem h i
  · exact h3

/-! ### The two divisions -/
def inBox (f g : Lau) (n : Nat) (e : List Int) : Prop := ∀ i, i < n → (lowL f.ts n).getD i 0 - (lowL g.ts n).getD i 0 ≤ e.getD i 0 ∧ e.getD i 0 ≤ (highL f.ts n).getD i 0 - (highL g.ts n).getD i 0
instance (f g : Lau) (n : Nat) (e : List Int) : Decidable (inBox f g n e) := Nat.decidableBallLT n _
end Go.Proofs.Ytocknokodgnlbaa.Ab
namespace Go.Proofs.Ytocknokodgnlbaa.Ab
open Go
set_option linter.unusedSimpArgs false
set_option linter.unusedVariables false
theorem addE_bd {B C : Int} : ∀ {a b : List Int} {k : Int}, (k = 1 ∨ k = -1) → a.length = b.length → (∀ z ∈ a, -B ≤ z ∧ z ≤ B) → (∀ z ∈ b, -C ≤ z ∧ z ≤ C) → ∀ z ∈ addE k a b, -(B + C) ≤ z ∧ z ≤ B + C
  | [], [], k, _, _, _, _ => by simp [addE]
  | x :: a, y :: b, k, hk, h, ha, hb => by
    intro z hz
    have h1 := ha x (by simp)
    have h2 := hb y (by simp)
    simp only [addE, List.mem_cons] at hz
    rcases hz with rfl | hz
    · rcases hk with rfl | rfl <;> omega
    · exact addE_bd hk (by simpa using h) (fun z hz => ha z (by simp [hz])) (fun z hz => hb z (by simp [hz])) z hz
  | [], _ :: _, _, _, h, _, _ => by simp at h
  | _ :: _, [], _, _, h, _, _ => by simp at h
end Go.Proofs.Ytocknokodgnlbaa.Ab
namespace Go.Proofs.Ytocknokodgnlbaa.Ab
open Go
set_option linter.unusedSimpArgs false
set_option linter.unusedVariables false
set_option maxRecDepth 10000
set_option maxHeartbeats 2000000
attribute [local simp] mapKV flatInt tileB
theorem insK_len_eq {K : Type} [DecidableEq K] {lt : K → K → Bool} {k : K} {c : Int} (hc : c ≠ 0) : ∀ l : List (K × Int), (∀ x ∈ l, x.1 ≠ k) → (insK lt k c l).length = l.length + 1
  | [], _ => by simp [insK, hc]
  | x :: l, h => by
    simp only [insK]
    rw [if_neg (h x (by simp))]
    split
    · first | rfl | (rw [if_neg hc]; rfl)
    · simp [insK_len_eq hc l fun y hy => h y (by simp [hy])]
theorem nf_len_eq {K : Type} [DecidableEq K] {lt : K → K → Bool} : ∀ l : List (K × Int), (l.map (·.1)).Nodup → (∀ x ∈ l, x.2 ≠ 0) → (nf lt l).length = l.length
  | [], _, _ => rfl
  | x :: l, h, hz => by
    simp only [List.map_cons, List.nodup_cons] at h
    simp only [nf]
    rw [insK_len_eq (hz x (by simp)), nf_len_eq l h.2 fun y hy => hz y (by simp [hy])]
    · rfl
    · intro y hy e
      obtain ⟨z, hz, e2⟩ := nf_mem hy
      exact h.1 (List.mem_map.2 ⟨z, hz, by rw [e2, e]⟩)
theorem erase_perm {α : Type} : ∀ (l : List α) (i : Nat) (h : i < l.length), (l[i] :: l.eraseIdx i).Perm l
  | [], i, h => by simp at h
  | x :: l, 0, h => by simp
  | x :: l, i + 1, h => by
    simp only [List.getElem_cons_succ, List.eraseIdx_cons_succ]
    exact (List.Perm.swap ..).trans (List.Perm.cons x (erase_perm l i (by simpa using h)))
theorem sh8 (n : Nat) (k0 k1 k2 k3 k4 k5 k6 k7 : Int) : shareL (List.take n [D.v (.int .i64 k0), D.v (.int .i64 k1), D.v (.int .i64 k2), D.v (.int .i64 k3), D.v (.int .i64 k4), D.v (.int .i64 k5), D.v (.int .i64 k6), D.v (.int .i64 k7)]) = ints (List.take n [k0, k1, k2, k3, k4, k5, k6, k7]) := by
  rw [show ([D.v (.int .i64 k0), D.v (.int .i64 k1), D.v (.int .i64 k2), D.v (.int .i64 k3), D.v (.int .i64 k4), D.v (.int .i64 k5), D.v (.int .i64 k6), D.v (.int .i64 k7)] : List D) = ints [k0, k1, k2, k3, k4, k5, k6, k7] from rfl, ints_take, shareL_ints]
end Go.Proofs.Ytocknokodgnlbaa.Ab
namespace Go.Proofs.Ytocknokodgnlbaa.Ab
open Go
set_option linter.unusedSimpArgs false
set_option linter.unusedVariables false
theorem lexlt_app : ∀ (a b z : List Int), a.length = b.length → lexlt (a ++ z) (b ++ z) = lexlt a b
  | [], [], z, _ => by simp [lexlt_irr, lexlt]
  | x :: a, y :: b, z, h => by simp [lexlt, lexlt_app a b z (by simpa using h)]
  | [], _ :: _, _, h => by simp at h
  | _ :: _, [], _, h => by simp at h
theorem lexlt_pad {a b : List Int} (h : a.length = b.length) : lexlt (pad a) (pad b) = lexlt a b := by
  unfold pad
  rw [← h]
  exact lexlt_app a b _ h
theorem mget_some {k : List Int} {v : Int} : ∀ {es : List (List Int × Int)}, mget k es = some v → (k, v) ∈ es
  | [], h => by simp [mget] at h
  | x :: es, h => by
    simp only [mget] at h
    split at h
    · rename_i e
      simp only [Option.some.injEq] at h
      subst h
      have : x = (k, x.2) := Prod.ext e rfl
      rw [← this]; simp
    · exact List.mem_cons_of_mem _ (mget_some h)
theorem mget_mem {k : List Int} {v : Int} : ∀ {es : List (List Int × Int)}, (es.map (·.1)).Nodup → (k, v) ∈ es → mget k es = some v
  | [], _, h => by simp at h
  | x :: es, hn, h => by
    simp only [List.map_cons, List.nodup_cons] at hn
    simp only [mget]
    rcases List.mem_cons.1 h with e | h
    · rw [← e]; simp
    · rw [if_neg]
      · exact mget_mem hn.2 h
      · rintro e
        exact hn.1 (List.mem_map.2 ⟨(k, v), h, e.symm⟩)
theorem pad_bd60 {e : List Int} {B : Int} (hB : 0 ≤ B) (hB2 : B ≤ 1000000) (h : ∀ x ∈ e, -B ≤ x ∧ x ≤ B) : ∀ x ∈ pad e, -1000000 ≤ x ∧ x ≤ 1000000 := fun x hx => by
  unfold pad at hx
  rcases List.mem_append.1 hx with hx | hx
  · have := h x hx; omega
  · have := List.eq_of_mem_replicate hx; omega
end Go.Proofs.Ytocknokodgnlbaa.Ab
namespace Go.Proofs.Ytocknokodgnlbaa.Ab
open Go
theorem addE_dv2 : ∀ (a b : List Int), a.length = b.length → addE (-1) (addE 1 a b) b = a
  | [], [], _ => rfl
  | x :: a, y :: b, h => by
    simp only [addE, addE_dv2 a b (by simpa using h)]
    congr 1
    omega
  | [], _ :: _, h => by simp at h
  | _ :: _, [], h => by simp at h
end Go.Proofs.Ytocknokodgnlbaa.Ab
namespace Go.Proofs.Ytocknokodgnlbaa.Ab
open Go
set_option linter.unusedSimpArgs false
set_option linter.unusedVariables false
set_option linter.unusedSectionVars false
def lS (l : List Int) : List D := [shI l]
def lO (l : List Int) : List D := [owI l]
theorem lS_one (l : List Int) : (lS l).length = 1 := rfl
theorem lO_one (l : List Int) : (lO l).length = 1 := rfl
@[simp] theorem lS_length (l : List (List Int)) : (rows lS l).length = l.length := by rw [rows_length lS_one l, Nat.one_mul]
@[simp] theorem lO_length (l : List (List Int)) : (rows lO l).length = l.length := by rw [rows_length lO_one l, Nat.one_mul]
@[simp] theorem lS_share (l : List (List Int)) : shareL (rows lO l) = rows lS l := by
  rw [rows_share]
  congr 1
  funext t
  simp [lO, lS, shareL, share, shareL_ints]
section
variable {l : List (List Int)} {i : Nat}
theorem lS_0 (h : i < l.length) : (rows lS l)[i]? = some (shI l[i]) ∧ ∀ h', (rows lS l)[i]'h' = shI l[i] := twice (by
  have := rows_get lS_one l i 0 h (by omega)
  simpa [lS] using this)
theorem lO_0 (h : i < l.length) : (rows lO l)[i]? = some (owI l[i]) ∧ ∀ h', (rows lO l)[i]'h' = owI l[i] := twice (by
  have := rows_get lO_one l i 0 h (by omega)
  simpa [lO] using this)
theorem lO_set (h : i < l.length) (x : List Int) : (rows lO l).set i (.ow 1 x.length (ints x)) = rows lO (l.set i x) := by
  have := rows_set lO_one l i 0 _ x h (by omega) rfl
  simpa [lO] using this
end
def lZ : Option (List Int) → List D
  | none => [.v (.slice none 0 0)]
  | some t => lO t
theorem lZ_one (t : Option (List Int)) : (lZ t).length = 1 := by cases t <;> rfl
@[simp] theorem lZ_length (l : List (Option (List Int))) : (rows lZ l).length = l.length := by rw [rows_length lZ_one l, Nat.one_mul]
theorem lZ_zero : ∀ n : Nat, zerosD [.slice none 0 0] n = rows lZ (List.replicate n none)
  | 0 => rfl
  | n + 1 => by
    simp only [zerosD, lZ_zero n, List.replicate_succ]
    rfl
theorem lZ_some (l : List (List Int)) : rows lZ (l.map some) = rows lO l := by
  induction l with
  | nil => rfl
  | cons x l ih => simp [rows, ih, lZ]
theorem lZ_none0 {l : List (Option (List Int))} {i : Nat} (h : l[i]? = some none) : (rows lZ l)[i]? = some (.v (.slice none 0 0)) ∧ ∀ h', (rows lZ l)[i]'h' = .v (.slice none 0 0) := by
  refine twice ?_
  obtain ⟨h1, h2⟩ := List.getElem?_eq_some_iff.1 h
  have := rows_get lZ_one l i 0 h1 (by omega)
  rw [h2] at this
  simpa [lZ] using this
theorem lZ_set {l : List (Option (List Int))} {i : Nat} (h : i < l.length) (e : List Int) : (rows lZ l).set i (.ow 1 e.length (ints e)) = rows lZ (l.set i (some e)) := by
  have := rows_set lZ_one l i 0 (.ow 1 e.length (ints e)) (some e) h (by omega) (by cases l[i] <;> rfl)
  simpa [lZ] using this
def szL (ls : List (List Int)) : Nat := ls.length + cntL List.length ls
def mkI (l : List Int) (k : Int) : List Int := marks k l.length
theorem szL_small2 {ls : List (List Int)} {r : Int} (h0 : 0 ≤ r) (h : r + szL ls ≤ 1048576) : ls.length ≤ 1048576 ∧ ∀ t ∈ ls, t.length ≤ 1048576 := by
  unfold szL at h
  refine ⟨by omega, fun t ht => ?_⟩
  have : t.length ≤ cntL List.length ls := by
    clear h
    induction ls with
    | nil => simp at ht
    | cons x ts ih =>
      simp only [cntL]
      rcases List.mem_cons.1 ht with rfl | ht
      · omega
      · have := ih ht; omega
  omega
theorem szL_cnt2 {ls : List (List Int)} {r : Int} (h0 : 0 ≤ r) (h : r + szL ls ≤ 1048576) : cntL List.length ls ≤ 1048576 := by
  unfold szL at h
  omega
@[simp] theorem lO_noSh (l : List (List Int)) : noShL (rows lO l) := rows_noSh (fun t => by simp [lO, noShL, noSh, noShL_ints]) l
end Go.Proofs.Ytocknokodgnlbaa.Ab
namespace Go.Proofs.Ytocknokodgnlbaa.Ab
open Go
set_option linter.unusedSimpArgs false
set_option linter.unusedVariables false
set_option maxRecDepth 10000
theorem laws_szIntSS_calls (ts : List (List Int)) (left : Int) (h0 : 0 ≤ left) (h1 : left ≤ 1048576) (hx : ts.length < 4611686018427387904) (hx2 : ∀ t ∈ ts, t.length < 4611686018427387904) : ACalls Try.prog F.laws_szIntSS [.d (.sh 1 ts.length (rows lS ts)), .int left] [] true (fun outs res => outs = [] ∧ ∃ r : Int, res = [.one (D.int r)] ∧ (r = -1 ∨ (0 ≤ r ∧ r + szL ts = left))) := by
  refine ACalls.of_body (C := C.laws_szIntSS) (n := Try.f33.ntmps) tabT folT Try.func33 rfl (by kernel_rfl) rfl (Nat.le_of_ble_eq_true rfl) (by decide) (by kernel_rfl) (by kernel_rfl) rfl (by simp) (by simp) ?_
  simp only [Try.f33]
  refine wseq ?_
  refine wreg fun K hK => ?_
  simp [C.laws_szIntSS]
  refine hK _ ?_; clear hK K
  show AWp _ _ _ _ _
  refine wseq ?_
  refine wreg fun K hK => ?_
  simp [C.laws_szIntSS]
  rw [wrapOk (x := left - ts.length) (by omega) (by omega)]
  refine hK _ ?_; clear hK K
  show AWp _ _ _ _ _
  refine wseq ?_
  refine wseq ?_
  refine wreg fun K hK => ?_
  simp [C.laws_szIntSS]
  refine hK _ ?_; clear hK K
  show AWp _ _ _ _ _
  refine wcond _ rfl (fun hc1 => ?_) (fun hc1 => ?_)
  · refine wseq ?_
    refine wreg fun K hK => ?_
    simp [C.laws_szIntSS]
    refine hK _ ?_; clear hK K
    show AWp _ _ _ _ _
    refine wret ?_
    simp [C.laws_szIntSS]
  · refine wskip ?_
    show AWp _ _ _ _ _
    refine wseq ?_
    refine wseq ?_
    refine wreg fun K hK => ?_
    simp [C.laws_szIntSS]
    refine hK _ ?_; clear hK K
    show AWp _ _ _ _ _
    refine wblock ?_
    refine wloop (fun x : Nat × Int => ⟨ofL [(0, .d (.sh 1 ts.length (rows lS ts))), (1, .int x.2), (5, .int x.1)], ofRO []⟩) (fun x => x.1 ≤ ts.length ∧ 0 ≤ x.2 ∧ x.2 + ts.length + cntL List.length (ts.take x.1) = left) (fun x => ts.length - x.1) (0, left - ts.length) (by simp [C.laws_szIntSS]) (by simp at hc1; simp [cntL]; omega) ?_
    intro x1 hx1 R1 hR1
    obtain ⟨j, r⟩ := x1
    obtain ⟨hj, hr0, hr⟩ := hx1
    dsimp only at hj hr0 hr ⊢
    refine wseq ?_
    refine wseq ?_
    refine wreg fun K hK => ?_
    simp [C.laws_szIntSS]
    refine hK _ ?_; clear hK K
    show AWp _ _ _ _ _
    refine wcond _ rfl (fun hc2 => ?_) (fun hc2 => ?_)
    · refine wskip ?_
      show AWp _ _ _ _ _
      refine wseq ?_
      refine wblock ?_
      refine wseq ?_
      have h2 : j < ts.length := by simpa using hc2
      refine wregI ([0, 1, 2, 3, 4, 5] ++ ([6])) rfl fun K hK => ?_
      refine opsI_seg fun L hL => ?_
      simp [C.laws_szIntSS, h2, lS_0 h2]
      refine wcall (laws_szIntS_calls ts[j] r (by omega) (by omega) (hx2 _ (List.getElem_mem h2))) (by simp) (by simp) (by simp) ?_
      rintro outs res ⟨rfl, r2, rfl, hr2⟩
      simp [C.laws_szIntSS, h2, lS_0 h2]
      refine hL _ ?_; clear hL L
      refine opsI_end fun L hL => ?_
      simp [C.laws_szIntSS, h2, lS_0 h2]
      refine hL _ ?_; clear hL L
      simp [C.laws_szIntSS, h2, lS_0 h2]
      refine hK _ ?_; clear hK K
      show AWp _ _ _ _ _
      refine wseq ?_
      refine wreg fun K hK => ?_
      simp [C.laws_szIntSS]
      refine hK _ ?_; clear hK K
      show AWp _ _ _ _ _
      refine wcond _ rfl (fun hc3 => ?_) (fun hc3 => ?_)
      · refine wseq ?_
        refine wreg fun K hK => ?_
        simp [C.laws_szIntSS]
        refine hK _ ?_; clear hK K
        show AWp _ _ _ _ _
        refine wret ?_
        simp [C.laws_szIntSS]
      · refine wskip ?_
        show AWp _ _ _ _ _
        refine wreg fun K hK => ?_
        simp [C.laws_szIntSS, wrap_succ (show j < 4611686018427387904 by omega)]
        refine hK _ ?_; clear hK K
        simp [C.laws_szIntSS]
        have hc3' : 0 ≤ r2 := by simpa using hc3
        refine hR1 (j + 1, r2) ⟨h2, hc3', ?_⟩ (by dsimp only; omega)
        dsimp only
        rw [cntL_step _ _ _ h2]
        omega
    · refine wexit ?_
      show AWp _ _ _ _ _
      refine wseq ?_
      refine wreg fun K hK => ?_
      simp [C.laws_szIntSS]
      refine hK _ ?_; clear hK K
      show AWp _ _ _ _ _
      refine wret ?_
      have hj2 : j = ts.length := by simp at hc2; omega
      simp [C.laws_szIntSS]
      right
      refine ⟨hr0, ?_⟩
      rw [hj2, List.take_length] at hr
      unfold szL
      omega

theorem laws_toIntSS_calls (ts : List (List Int)) (hx : ts.length ≤ 1048576) (hx2 : ∀ t ∈ ts, t.length ≤ 1048576) : ACalls Try.prog F.laws_toIntSS [.d (.sh 1 ts.length (rows lS ts))] [] true (fun outs res => outs = [] ∧ res = [.one (.ow 1 ts.length (rows lO ts))]) := by
  refine ACalls.of_body (C := C.laws_toIntSS) (n := Try.f35.ntmps) tabT folT Try.func35 rfl (by kernel_rfl) rfl (Nat.le_of_ble_eq_true rfl) (by decide) (by kernel_rfl) (by kernel_rfl) rfl (by simp) (by simp) ?_
  simp only [Try.f35]
  refine wseq ?_
  refine wreg fun K hK => ?_
  simp [C.laws_toIntSS]
  refine hK _ ?_; clear hK K
  show AWp _ _ _ _ _
  refine wseq ?_
  refine wreg fun K hK => ?_
  simp [C.laws_toIntSS, lZ_zero, show (24 : Int) * ts.length ≤ 281474976710656 by omega, show (ts.length : Int) ≤ 281474976710656 by omega]
  refine hK _ ?_; clear hK K
  show AWp _ _ _ _ _
  refine wseq ?_
  refine wseq ?_
  refine wreg fun K hK => ?_
  simp [C.laws_toIntSS]
  refine hK _ ?_; clear hK K
  show AWp _ _ _ _ _
  refine wblock ?_
  refine wloop (fun x : Nat × List (Option (List Int)) => ⟨ofL [(0, .d (.sh 1 ts.length (rows lS ts))), (3, .al (3, 0) [] 0 ts.length), (4, .int x.1)], ofRO [((3, 0), some (.ow 1 ts.length (rows lZ x.2)))]⟩) (fun x => x.1 ≤ ts.length ∧ x.2 = (ts.take x.1).map some ++ List.replicate (ts.length - x.1) none) (fun x => ts.length - x.1) (0, List.replicate ts.length none) (by simp [C.laws_toIntSS]) (by simp) ?_
  intro x1 hx1 R1 hR1
  obtain ⟨j, gs⟩ := x1
  obtain ⟨hj, hg⟩ := hx1
  dsimp only at hj hg ⊢
  refine wseq ?_
  refine wseq ?_
  refine wreg fun K hK => ?_
  simp [C.laws_toIntSS]
  refine hK _ ?_; clear hK K
  show AWp _ _ _ _ _
  refine wcond _ rfl (fun hc1 => ?_) (fun hc1 => ?_)
  · refine wskip ?_
    show AWp _ _ _ _ _
    refine wseq ?_
    refine wblock ?_
    have h1 : j < ts.length := by simpa using hc1
    have hl : gs.length = ts.length := by rw [hg]; simp; omega
    have hn : gs[j]? = some none := by
      rw [hg, List.getElem?_append_right (by simp; omega)]
      simp [Nat.min_eq_left hj, List.getElem?_replicate]
      omega
    refine wregI ([0, 1, 2, 3, 4, 5, 6] ++ ([7, 8])) rfl fun K hK => ?_
    refine opsI_seg fun L hL => ?_
    simp [C.laws_toIntSS, hl, h1, lS_0 h1, lZ_none0 hn, lZ_set (show j < gs.length by omega)]
    refine wcall1 (laws_toIntS_calls ts[j] (hx2 _ (List.getElem_mem h1))) (by simp) (by simp) ?_
    simp [C.laws_toIntSS, hl, h1, lS_0 h1, lZ_none0 hn, lZ_set (show j < gs.length by omega)]
    refine hL _ ?_; clear hL L
    refine opsI_end fun L hL => ?_
    simp [C.laws_toIntSS, hl, h1, lS_0 h1, lZ_none0 hn, lZ_set (show j < gs.length by omega)]
    refine hL _ ?_; clear hL L
    simp [C.laws_toIntSS, hl, h1, lS_0 h1, lZ_none0 hn, lZ_set (show j < gs.length by omega)]
    refine hK _ ?_; clear hK K
    show AWp _ _ _ _ _
    refine wreg fun K hK => ?_
    simp [C.laws_toIntSS, wrap_succ (show j < 4611686018427387904 by omega)]
    refine hK _ ?_; clear hK K
    simp [C.laws_toIntSS]
    refine hR1 (j + 1, _) ⟨h1, ?_⟩ (by dsimp only; omega)
    dsimp only
    have := fill_step (ts.map some) j (by simpa using h1) none
    simp only [List.length_map, List.getElem_map, ← List.map_take] at this
    rw [hg, ← this]
  · refine wexit ?_
    show AWp _ _ _ _ _
    refine wseq ?_
    refine wreg fun K hK => ?_
    simp [C.laws_toIntSS]
    refine hK _ ?_; clear hK K
    show AWp _ _ _ _ _
    refine wret ?_
    have hj2 : j = ts.length := by simp at hc1; omega
    have hz : rows lZ gs = rows lO ts := by rw [hg, hj2]; simp [lZ_some]
    simp [C.laws_toIntSS, hz, hj2]

theorem laws_eqIntSS_calls (xs ys : List (List Int)) (hx : xs.length < 4611686018427387904) (hx2 : ∀ t ∈ xs, t.length < 4611686018427387904) : ACalls Try.prog F.laws_eqIntSS [.d (.sh 1 xs.length (rows lS xs)), .d (.sh 1 ys.length (rows lS ys))] [] true (fun outs res => outs = [] ∧ res = [.one (D.bool (decide (xs = ys)))]) := by
  refine ACalls.of_body (C := C.laws_eqIntSS) (n := Try.f38.ntmps) tabT folT Try.func38 rfl (by kernel_rfl) rfl (Nat.le_of_ble_eq_true rfl) (by decide) (by kernel_rfl) (by kernel_rfl) rfl (by simp) (by simp) ?_
  simp only [Try.f38]
  refine wseq ?_
  refine wreg fun K hK => ?_
  simp [C.laws_eqIntSS]
  refine hK _ ?_; clear hK K
  show AWp _ _ _ _ _
  refine wseq ?_
  refine wseq ?_
  refine wreg fun K hK => ?_
  simp [C.laws_eqIntSS]
  refine hK _ ?_; clear hK K
  show AWp _ _ _ _ _
  refine wcond _ rfl (fun hc1 => ?_) (fun hc1 => ?_)
  · refine wseq ?_
    refine wreg fun K hK => ?_
    simp [C.laws_eqIntSS]
    refine hK _ ?_; clear hK K
    show AWp _ _ _ _ _
    refine wret ?_
    simp at hc1
    simp [C.laws_eqIntSS]
    intro e; simp [e] at hc1
  · refine wskip ?_
    show AWp _ _ _ _ _
    refine wseq ?_
    refine wseq ?_
    refine wreg fun K hK => ?_
    simp [C.laws_eqIntSS]
    refine hK _ ?_; clear hK K
    show AWp _ _ _ _ _
    refine wblock ?_
    have e : xs.length = ys.length := by simp at hc1; omega
    refine wloop (fun k : Nat => ⟨ofL [(0, .d (.sh 1 xs.length (rows lS xs))), (1, .d (.sh 1 ys.length (rows lS ys))), (5, FV.int k)], ofRO []⟩) (fun k => k ≤ xs.length ∧ xs.take k = ys.take k) (fun k => xs.length - k) 0 (by simp [C.laws_eqIntSS]) (by simp) ?_
    intro x1 hx1 R1 hR1
    obtain ⟨hk, ht⟩ := hx1
    refine wseq ?_
    refine wseq ?_
    refine wreg fun K hK => ?_
    simp [C.laws_eqIntSS]
    refine hK _ ?_; clear hK K
    show AWp _ _ _ _ _
    refine wcond _ rfl (fun hc2 => ?_) (fun hc2 => ?_)
    · refine wskip ?_
      show AWp _ _ _ _ _
      refine wseq ?_
      refine wblock ?_
      refine wseq ?_
      have h1 : x1 < xs.length := by simpa using hc2
      have h2 : x1 < ys.length := by omega
      refine wdrawI [(true, 0), (true, 1), (true, 2), (true, 3), (true, 4), (true, 5), (true, 6), (true, 7), (false, 8), (true, 9)] ⟨by kernel_rfl, by kernel_rfl⟩ ([0, 1, 2, 3, 4, 5, 6, 7, 8] ++ ([9])) rfl fun K hK => ?_
      refine opsI_seg fun L hL => ?_
      simp [C.laws_eqIntSS, h1, h2, lS_0 h1, lS_0 h2]
      refine wcall1 (laws_eqIntS_calls xs[x1] ys[x1] (hx2 _ (List.getElem_mem h1))) (by simp) (by simp) ?_
      simp [C.laws_eqIntSS, h1, h2, lS_0 h1, lS_0 h2]
      refine hL _ ?_; clear hL L
      refine opsI_end fun L hL => ?_
      simp [C.laws_eqIntSS, h1, h2, lS_0 h1, lS_0 h2]
      refine hL _ ?_; clear hL L
      simp [C.laws_eqIntSS, h1, h2, lS_0 h1, lS_0 h2]
      refine hK _ ?_; clear hK K
      show AWp _ _ _ _ _
      refine wcond _ rfl (fun hc3 => ?_) (fun hc3 => ?_)
      · refine wseq ?_
        refine wreg fun K hK => ?_
        simp [C.laws_eqIntSS]
        refine hK _ ?_; clear hK K
        show AWp _ _ _ _ _
        refine wret ?_
        simp at hc3
        simp [C.laws_eqIntSS]
        intro e; simp [e] at hc3
      · refine wskip ?_
        show AWp _ _ _ _ _
        refine wreg fun K hK => ?_
        simp [C.laws_eqIntSS, wrap_succ (show x1 < 4611686018427387904 by omega)]
        refine hK _ ?_; clear hK K
        simp [C.laws_eqIntSS]
        simp at hc3
        refine hR1 (x1 + 1) ⟨h1, ?_⟩ (by omega)
        rw [List.take_succ_eq_append_getElem h1, List.take_succ_eq_append_getElem h2, ht, hc3]
    · refine wexit ?_
      show AWp _ _ _ _ _
      refine wseq ?_
      refine wreg fun K hK => ?_
      simp [C.laws_eqIntSS]
      refine hK _ ?_; clear hK K
      show AWp _ _ _ _ _
      refine wret ?_
      have hk2 : x1 = xs.length := by simp at hc2; omega
      simp [C.laws_eqIntSS]
      rw [hk2, List.take_length, e, List.take_length] at ht
      exact ht

theorem laws_markIntSS_calls (ts : List (List Int)) (k : Int) (hk0 : 0 ≤ k) (hk : k + cntL List.length ts < 4611686018427387904) (hx : ts.length < 4611686018427387904) : ACalls Try.prog F.laws_markIntSS [.al (0, 0) [] 0 ts.length, .int k] [((0, 0), .ow 1 ts.length (rows lO ts))] true (fun outs res => outs = [.ow 1 ts.length (rows lO (mkL List.length mkI ts k))] ∧ res = [.one (D.int (k + cntL List.length ts))]) := by
  refine ACalls.of_body (C := C.laws_markIntSS) (n := Try.f39.ntmps) tabT folT Try.func39 rfl (by kernel_rfl) rfl (Nat.le_of_ble_eq_true rfl) (by decide) (by kernel_rfl) (by kernel_rfl) rfl (by simp) (by simp) ?_
  simp only [Try.f39]
  refine wseq ?_
  refine wreg fun K hK => ?_
  simp [C.laws_markIntSS]
  refine hK _ ?_; clear hK K
  show AWp _ _ _ _ _
  refine wseq ?_
  refine wseq ?_
  refine wreg fun K hK => ?_
  simp [C.laws_markIntSS]
  refine hK _ ?_; clear hK K
  show AWp _ _ _ _ _
  refine wblock ?_
  refine wloop (fun x : Nat × List (List Int) × Int => ⟨ofL [(0, .al (0, 0) [] 0 ts.length), (1, .int x.2.2), (5, .int x.1), (1000, .al (0, 0) [] 0 ts.length)], ofRO [((0, 0), some (.ow 1 ts.length (rows lO x.2.1)))]⟩) (fun x => x.1 ≤ ts.length ∧ x.2.1 = mkL List.length mkI (ts.take x.1) k ++ ts.drop x.1 ∧ x.2.2 = k + cntL List.length (ts.take x.1)) (fun x => ts.length - x.1) (0, ts, k) (by simp [C.laws_markIntSS]) (by simp [mkL, cntL]) ?_
  intro x1 hx1 R1 hR1
  obtain ⟨j, gs, kk⟩ := x1
  obtain ⟨h0, hg, he⟩ := hx1
  dsimp only at h0 hg he ⊢
  refine wseq ?_
  refine wseq ?_
  refine wreg fun K hK => ?_
  simp [C.laws_markIntSS]
  refine hK _ ?_; clear hK K
  show AWp _ _ _ _ _
  refine wcond _ rfl (fun hc1 => ?_) (fun hc1 => ?_)
  · refine wskip ?_
    show AWp _ _ _ _ _
    refine wseq ?_
    refine wblock ?_
    have h1 : j < ts.length := by simpa using hc1
    have hl : gs.length = ts.length := by rw [hg]; simp; omega
    have h2 : j < gs.length := by omega
    have hge : gs[j] = ts[j] := by
      have := mkL_get2 List.length mkI ts k j h1
      rw [← hg, List.getElem?_eq_getElem h2] at this
      injection this
    have hb := cntL_le1 List.length ts j h1
    have hset := lO_set h2 (marks kk ts[j].length)
    rw [marks_length] at hset
    refine wregI ([0, 1, 2, 3, 4, 5] ++ ([6])) rfl fun K hK => ?_
    refine opsI_seg fun L hL => ?_
    simp [C.laws_markIntSS, hl, h1, h2, hge, lO_0 h2, modify_const, hset]
    refine wcall1 (laws_markIntS_calls ts[j] kk (by omega) (by omega)) (by simp) (by simp) ?_
    simp [C.laws_markIntSS, hl, h1, h2, hge, lO_0 h2, modify_const, hset]
    refine hL _ ?_; clear hL L
    refine opsI_end fun L hL => ?_
    simp [C.laws_markIntSS, hl, h1, h2, hge, lO_0 h2, modify_const, hset]
    refine hL _ ?_; clear hL L
    simp [C.laws_markIntSS, hl, h1, h2, hge, lO_0 h2, modify_const, hset]
    refine hK _ ?_; clear hK K
    show AWp _ _ _ _ _
    refine wreg fun K hK => ?_
    simp [C.laws_markIntSS, wrap_succ (show j < 4611686018427387904 by omega)]
    refine hK _ ?_; clear hK K
    simp [C.laws_markIntSS]
    refine hR1 (j + 1, _, _) ⟨h1, ?_, ?_⟩ (by dsimp only; omega)
    · dsimp only
      rw [hg, he]
      exact mkL_step List.length mkI ts k j h1
    · dsimp only
      rw [cntL_step _ _ _ h1]
      omega
  · refine wexit ?_
    show AWp _ _ _ _ _
    refine wseq ?_
    refine wreg fun K hK => ?_
    simp [C.laws_markIntSS]
    refine hK _ ?_; clear hK K
    show AWp _ _ _ _ _
    refine wret ?_
    have hj2 : j = ts.length := by simp at hc1; omega
    simp [C.laws_markIntSS, hj2, hg, he]

end Go.Proofs.Ytocknokodgnlbaa.Ab
namespace Go.Proofs.Ytocknokodgnlbaa.Ab
open Go
set_option linter.unusedSimpArgs false
set_option linter.unusedVariables false
set_option linter.unusedSectionVars false
structure Qtm where
  e : List Int
  h : Int
  c : Int
deriving DecidableEq
structure Qsm where
  v : Int
  ts : List Qtm
deriving DecidableEq
def qtS (t : Qtm) : List D := [shI t.e, D.int t.h, D.int t.c]
def qtO (t : Qtm) : List D := [owI t.e, D.int t.h, D.int t.c]
def qS (f : Qsm) : List D := [D.int f.v, .sh 3 f.ts.length (rows qtS f.ts)]
def qO (f : Qsm) : List D := [D.int f.v, .ow 3 f.ts.length (rows qtO f.ts)]
theorem qtS_three (t : Qtm) : (qtS t).length = 3 := rfl
theorem qtO_three (t : Qtm) : (qtO t).length = 3 := rfl
@[simp] theorem qtS_length (l : List Qtm) : (rows qtS l).length = 3 * l.length := rows_length qtS_three l
@[simp] theorem qtO_length (l : List Qtm) : (rows qtO l).length = 3 * l.length := rows_length qtO_three l
@[simp] theorem qtS_share (l : List Qtm) : shareL (rows qtO l) = rows qtS l := by
  rw [rows_share]
  congr 1
  funext t
  simp [qtO, qtS, shareL, share, shareL_ints]
@[simp] theorem qtO_noSh (l : List Qtm) : noShL (rows qtO l) := rows_noSh (fun t => by simp [qtO, noShL, noSh, noShL_ints]) l
section
variable {l : List Qtm} {i : Nat}
theorem qtS_0 (h : i < l.length) : (rows qtS l)[3 * i]? = some (shI l[i].e) ∧ ∀ h', (rows qtS l)[3 * i]'h' = shI l[i].e := twice (rows_get qtS_three l i 0 h (by omega))
theorem qtS_1 (h : i < l.length) : (rows qtS l)[3 * i + 1]? = some (D.int l[i].h) ∧ ∀ h', (rows qtS l)[3 * i + 1]'h' = D.int l[i].h := twice (rows_get qtS_three l i 1 h (by omega))
theorem qtS_2 (h : i < l.length) : (rows qtS l)[3 * i + 2]? = some (D.int l[i].c) ∧ ∀ h', (rows qtS l)[3 * i + 2]'h' = D.int l[i].c := twice (rows_get qtS_three l i 2 h (by omega))
theorem qtO_0 (h : i < l.length) : (rows qtO l)[3 * i]? = some (owI l[i].e) ∧ ∀ h', (rows qtO l)[3 * i]'h' = owI l[i].e := twice (rows_get qtO_three l i 0 h (by omega))
theorem qtO_1 (h : i < l.length) : (rows qtO l)[3 * i + 1]? = some (D.int l[i].h) ∧ ∀ h', (rows qtO l)[3 * i + 1]'h' = D.int l[i].h := twice (rows_get qtO_three l i 1 h (by omega))
theorem qtO_2 (h : i < l.length) : (rows qtO l)[3 * i + 2]? = some (D.int l[i].c) ∧ ∀ h', (rows qtO l)[3 * i + 2]'h' = D.int l[i].c := twice (rows_get qtO_three l i 2 h (by omega))
theorem qtO_set0 (h : i < l.length) (x : List Int) : (rows qtO l).set (3 * i) (.ow 1 x.length (ints x)) = rows qtO (l.set i ⟨x, l[i].h, l[i].c⟩) := rows_set qtO_three l i 0 _ _ h (by omega) rfl
theorem qtO_set2 (h : i < l.length) (x : Int) : (rows qtO l).set (3 * i + 2) (.v (.int .i64 x)) = rows qtO (l.set i ⟨l[i].e, l[i].h, x⟩) := rows_set qtO_three l i 2 _ _ h (by omega) rfl
end
def cntQT (t : Qtm) : Nat := t.e.length + 2
def mkQT (t : Qtm) (k : Int) : Qtm := ⟨marks k t.e.length, k + t.e.length, k + t.e.length + 1⟩
def qtZ : Option Qtm → List D
  | none => [.v (.slice none 0 0), D.int 0, D.int 0]
  | some t => qtO t
theorem qtZ_three (t : Option Qtm) : (qtZ t).length = 3 := by cases t <;> rfl
@[simp] theorem qtZ_length (l : List (Option Qtm)) : (rows qtZ l).length = 3 * l.length := rows_length qtZ_three l
theorem qtZ_zero : ∀ n : Nat, zerosD [.slice none 0 0, .int .i64 0, .int .i64 0] n = rows qtZ (List.replicate n none)
  | 0 => rfl
  | n + 1 => by
    simp only [zerosD, qtZ_zero n, List.replicate_succ]
    rfl
theorem qtZ_some (l : List Qtm) : rows qtZ (l.map some) = rows qtO l := by
  induction l with
  | nil => rfl
  | cons x l ih => simp [rows, ih, qtZ]
theorem qtZ_none0 {l : List (Option Qtm)} {i : Nat} (h : l[i]? = some none) : (rows qtZ l)[3 * i]? = some (.v (.slice none 0 0)) ∧ ∀ h', (rows qtZ l)[3 * i]'h' = .v (.slice none 0 0) := by
  refine twice ?_
  obtain ⟨h1, h2⟩ := List.getElem?_eq_some_iff.1 h
  rw [show 3 * i = 3 * i + 0 from rfl, rows_get qtZ_three l i 0 h1 (by omega), h2]
  rfl
theorem qtZ_none1 {l : List (Option Qtm)} {i : Nat} (h : l[i]? = some none) : (rows qtZ l)[3 * i + 1]? = some (D.int 0) ∧ ∀ h', (rows qtZ l)[3 * i + 1]'h' = D.int 0 := by
  refine twice ?_
  obtain ⟨h1, h2⟩ := List.getElem?_eq_some_iff.1 h
  rw [rows_get qtZ_three l i 1 h1 (by omega), h2]
  rfl
theorem qtZ_none2 {l : List (Option Qtm)} {i : Nat} (h : l[i]? = some none) : (rows qtZ l)[3 * i + 1 + 1]? = some (D.int 0) ∧ ∀ h', (rows qtZ l)[3 * i + 1 + 1]'h' = D.int 0 := by
  refine twice ?_
  obtain ⟨h1, h2⟩ := List.getElem?_eq_some_iff.1 h
  rw [show 3 * i + 1 + 1 = 3 * i + 2 from rfl, rows_get qtZ_three l i 2 h1 (by omega), h2]
  rfl
theorem rows_set3 {α : Type} {f : α → List D} (hk : ∀ x, (f x).length = 3) (xs : List α) (i : Nat) (d0 d1 d2 : D) (y : α) (h : i < xs.length) (e : f y = [d0, d1, d2]) : (((rows f xs).set (3 * i) d0).set (3 * i + 1) d1).set (3 * i + 2) d2 = rows f (xs.set i y) := by
  induction xs generalizing i with
  | nil => simp at h
  | cons x xs ih =>
    cases i with
    | zero =>
      have hx := hk x
      match hfx : f x, hx with
      | [a, b, c], _ => simp [rows, hfx, e]
    | succ i =>
      have hx := hk x
      simp only [rows, List.set_cons_succ]
      rw [List.set_append_right _ _ (by rw [hx]; omega), List.set_append_right _ _ (by rw [hx]; omega), List.set_append_right _ _ (by rw [hx]; omega), hx, show 3 * (i + 1) - 3 = 3 * i by omega, show 3 * (i + 1) + 1 - 3 = 3 * i + 1 by omega, show 3 * (i + 1) + 2 - 3 = 3 * i + 2 by omega, ih i (by simpa using h)]
theorem qtZ_set3 {l : List (Option Qtm)} {i : Nat} (h : i < l.length) (e : List Int) (u c : Int) : (((rows qtZ l).set (3 * i) (.ow 1 e.length (ints e))).set (3 * i + 1) (.v (.int .i64 u))).set (3 * i + 1 + 1) (.v (.int .i64 c)) = rows qtZ (l.set i (some ⟨e, u, c⟩)) :=
  rows_set3 qtZ_three l i _ _ _ _ h rfl
theorem qtO_set3 {l : List Qtm} {i n : Nat} (h : i < l.length) (e : List Int) (u c : Int) (hn : e.length = n) : (((rows qtO l).set (3 * i) (.ow 1 n (ints e))).set (3 * i + 1) (.v (.int .i64 u))).set (3 * i + 2) (.v (.int .i64 c)) = rows qtO (l.set i ⟨e, u, c⟩) :=
  rows_set3 qtO_three l i _ _ _ _ h (by subst hn; rfl)
theorem qtO_snoc (l : List Qtm) (t : Qtm) : rows qtO l ++ [D.ow 1 t.e.length (ints t.e), D.v (.int .i64 t.h), D.v (.int .i64 t.c)] = rows qtO (l ++ [t]) := by
  rw [rows_append]
  rfl
def szQT (ts : List Qtm) : Nat := ts.length + cntL (fun t : Qtm => t.e.length) ts
abbrev aQT (t : Qtm) : FV := .ag [.d (shI t.e), .int t.h, .int t.c]
abbrev aQ (f : Qsm) : FV := .ag [.int f.v, .d (.sh 3 f.ts.length (rows qtS f.ts))]
theorem qtm_eq {a b : Qtm} : a = b ↔ a.e = b.e ∧ a.h = b.h ∧ a.c = b.c := by
  cases a; cases b; simp
theorem qsm_eq {a b : Qsm} : a = b ↔ a.v = b.v ∧ a.ts = b.ts := by
  cases a; cases b; simp
end Go.Proofs.Ytocknokodgnlbaa.Ab
namespace Go.Proofs.Ytocknokodgnlbaa.Ab
open Go
set_option linter.unusedSimpArgs false
set_option linter.unusedVariables false
set_option maxRecDepth 10000
theorem laws_szQTerm_calls (t : Qtm) (left : Int) (h0 : 0 ≤ left) (h1 : left ≤ 1048576) (hx : t.e.length < 4611686018427387904) : ACalls Try.prog F.laws_szQTerm [aQT t, .int left] [] true (fun outs res => outs = [] ∧ ∃ r : Int, res = [.one (D.int r)] ∧ (r = -1 ∨ (0 ≤ r ∧ r + t.e.length = left))) := by
  refine ACalls.of_body (C := C.laws_szQTerm) (n := Try.f145.ntmps) tabT folT Try.func145 rfl (by kernel_rfl) rfl (Nat.le_of_ble_eq_true rfl) (by decide) (by kernel_rfl) (by kernel_rfl) rfl (by simp) (by simp) ?_
  simp only [Try.f145]
  refine wseq ?_
  refine wreg fun K hK => ?_
  simp [C.laws_szQTerm]
  refine hK _ ?_; clear hK K
  show AWp _ _ _ _ _
  refine wseq ?_
  refine wregI ([0, 1, 2, 3] ++ ([4])) rfl fun K hK => ?_
  refine opsI_seg fun L hL => ?_
  simp [C.laws_szQTerm]
  refine wcall (laws_szIntS_calls t.e left h0 h1 hx) (by simp) (by simp) (by simp) ?_
  rintro outs res ⟨rfl, r, rfl, hr⟩
  simp [C.laws_szQTerm]
  refine hL _ ?_; clear hL L
  refine opsI_end fun L hL => ?_
  simp [C.laws_szQTerm]
  refine hL _ ?_; clear hL L
  simp [C.laws_szQTerm]
  refine hK _ ?_; clear hK K
  show AWp _ _ _ _ _
  refine wseq ?_
  refine wseq ?_
  refine wreg fun K hK => ?_
  simp [C.laws_szQTerm]
  refine hK _ ?_; clear hK K
  show AWp _ _ _ _ _
  refine wcond _ rfl (fun hc1 => ?_) (fun hc1 => ?_)
  · refine wseq ?_
    refine wreg fun K hK => ?_
    simp [C.laws_szQTerm]
    refine hK _ ?_; clear hK K
    show AWp _ _ _ _ _
    refine wret ?_
    simp [C.laws_szQTerm]
  · refine wskip ?_
    show AWp _ _ _ _ _
    refine wseq ?_
    refine wreg fun K hK => ?_
    simp [C.laws_szQTerm]
    refine hK _ ?_; clear hK K
    show AWp _ _ _ _ _
    refine wret ?_
    simp at hc1
    simp [C.laws_szQTerm]
    omega

theorem laws_szQTermS_calls (ts : List Qtm) (left : Int) (h0 : 0 ≤ left) (h1 : left ≤ 1048576) (hx : ts.length < 4611686018427387904) (hx2 : ∀ t ∈ ts, t.e.length < 4611686018427387904) : ACalls Try.prog F.laws_szQTermS [.d (.sh 3 ts.length (rows qtS ts)), .int left] [] true (fun outs res => outs = [] ∧ ∃ r : Int, res = [.one (D.int r)] ∧ (r = -1 ∨ (0 ≤ r ∧ r + szQT ts = left))) := by
  refine ACalls.of_body (C := C.laws_szQTermS) (n := Try.f91.ntmps) tabT folT Try.func91 rfl (by kernel_rfl) rfl (Nat.le_of_ble_eq_true rfl) (by decide) (by kernel_rfl) (by kernel_rfl) rfl (by simp) (by simp) ?_
  simp only [Try.f91]
  refine wseq ?_
  refine wreg fun K hK => ?_
  simp [C.laws_szQTermS]
  refine hK _ ?_; clear hK K
  show AWp _ _ _ _ _
  refine wseq ?_
  refine wreg fun K hK => ?_
  simp [C.laws_szQTermS]
  rw [wrapOk (x := left - ts.length) (by omega) (by omega)]
  refine hK _ ?_; clear hK K
  show AWp _ _ _ _ _
  refine wseq ?_
  refine wseq ?_
  refine wreg fun K hK => ?_
  simp [C.laws_szQTermS]
  refine hK _ ?_; clear hK K
  show AWp _ _ _ _ _
  refine wcond _ rfl (fun hc1 => ?_) (fun hc1 => ?_)
  · refine wseq ?_
    refine wreg fun K hK => ?_
    simp [C.laws_szQTermS]
    refine hK _ ?_; clear hK K
    show AWp _ _ _ _ _
    refine wret ?_
    simp [C.laws_szQTermS]
  · refine wskip ?_
    show AWp _ _ _ _ _
    refine wseq ?_
    refine wseq ?_
    refine wreg fun K hK => ?_
    simp [C.laws_szQTermS]
    refine hK _ ?_; clear hK K
    show AWp _ _ _ _ _
    refine wblock ?_
    refine wloop (fun x : Nat × Int => ⟨ofL [(0, .d (.sh 3 ts.length (rows qtS ts))), (1, .int x.2), (5, .int x.1)], ofRO []⟩) (fun x => x.1 ≤ ts.length ∧ 0 ≤ x.2 ∧ x.2 + ts.length + cntL (fun t : Qtm => t.e.length) (ts.take x.1) = left) (fun x => ts.length - x.1) (0, left - ts.length) (by simp [C.laws_szQTermS]) (by simp at hc1; simp [cntL]; omega) ?_
    intro x1 hx1 R1 hR1
    obtain ⟨j, r⟩ := x1
    obtain ⟨hj, hr0, hr⟩ := hx1
    dsimp only at hj hr0 hr ⊢
    refine wseq ?_
    refine wseq ?_
    refine wreg fun K hK => ?_
    simp [C.laws_szQTermS]
    refine hK _ ?_; clear hK K
    show AWp _ _ _ _ _
    refine wcond _ rfl (fun hc2 => ?_) (fun hc2 => ?_)
    · refine wskip ?_
      show AWp _ _ _ _ _
      refine wseq ?_
      refine wblock ?_
      refine wseq ?_
      have h2 : j < ts.length := by simpa using hc2
      refine wregI ([0, 1, 2, 3, 4, 5] ++ ([6])) rfl fun K hK => ?_
      refine opsI_seg fun L hL => ?_
      simp [C.laws_szQTermS, h2, qtS_0 h2, qtS_1 h2, qtS_2 h2]
      refine wcall (laws_szQTerm_calls ts[j] r (by omega) (by omega) (hx2 _ (List.getElem_mem h2))) (by simp) (by simp) (by simp) ?_
      rintro outs res ⟨rfl, r2, rfl, hr2⟩
      simp [C.laws_szQTermS, h2, qtS_0 h2, qtS_1 h2, qtS_2 h2]
      refine hL _ ?_; clear hL L
      refine opsI_end fun L hL => ?_
      simp [C.laws_szQTermS, h2, qtS_0 h2, qtS_1 h2, qtS_2 h2]
      refine hL _ ?_; clear hL L
      simp [C.laws_szQTermS, h2, qtS_0 h2, qtS_1 h2, qtS_2 h2]
      refine hK _ ?_; clear hK K
      show AWp _ _ _ _ _
      refine wseq ?_
      refine wreg fun K hK => ?_
      simp [C.laws_szQTermS]
      refine hK _ ?_; clear hK K
      show AWp _ _ _ _ _
      refine wcond _ rfl (fun hc3 => ?_) (fun hc3 => ?_)
      · refine wseq ?_
        refine wreg fun K hK => ?_
        simp [C.laws_szQTermS]
        refine hK _ ?_; clear hK K
        show AWp _ _ _ _ _
        refine wret ?_
        simp [C.laws_szQTermS]
      · refine wskip ?_
        show AWp _ _ _ _ _
        refine wreg fun K hK => ?_
        simp [C.laws_szQTermS, wrap_succ (show j < 4611686018427387904 by omega)]
        refine hK _ ?_; clear hK K
        simp [C.laws_szQTermS]
        have hc3' : 0 ≤ r2 := by simpa using hc3
        refine hR1 (j + 1, r2) ⟨h2, hc3', ?_⟩ (by dsimp only; omega)
        dsimp only
        rw [cntL_step _ _ _ h2]
        omega
    · refine wexit ?_
      show AWp _ _ _ _ _
      refine wseq ?_
      refine wreg fun K hK => ?_
      simp [C.laws_szQTermS]
      refine hK _ ?_; clear hK K
      show AWp _ _ _ _ _
      refine wret ?_
      have hj2 : j = ts.length := by simp at hc2; omega
      simp [C.laws_szQTermS]
      right
      refine ⟨hr0, ?_⟩
      rw [hj2, List.take_length] at hr
      unfold szQT
      omega

theorem laws_szQSum_calls (f : Qsm) (left : Int) (h0 : 0 ≤ left) (h1 : left ≤ 1048576) (hx : f.ts.length < 4611686018427387904) (hx2 : ∀ t ∈ f.ts, t.e.length < 4611686018427387904) : ACalls Try.prog F.laws_szQSum [aQ f, .int left] [] true (fun outs res => outs = [] ∧ ∃ r : Int, res = [.one (D.int r)] ∧ (r = -1 ∨ (0 ≤ r ∧ r + szQT f.ts = left))) := by
  refine ACalls.of_body (C := C.laws_szQSum) (n := Try.f34.ntmps) tabT folT Try.func34 rfl (by kernel_rfl) rfl (Nat.le_of_ble_eq_true rfl) (by decide) (by kernel_rfl) (by kernel_rfl) rfl (by simp) (by simp) ?_
  simp only [Try.f34]
  refine wseq ?_
  refine wreg fun K hK => ?_
  simp [C.laws_szQSum]
  refine hK _ ?_; clear hK K
  show AWp _ _ _ _ _
  refine wseq ?_
  refine wregI ([0, 1, 2, 3] ++ ([4])) rfl fun K hK => ?_
  refine opsI_seg fun L hL => ?_
  simp [C.laws_szQSum]
  refine wcall (laws_szQTermS_calls f.ts left h0 h1 hx hx2) (by simp) (by simp) (by simp) ?_
  rintro outs res ⟨rfl, r, rfl, hr⟩
  simp [C.laws_szQSum]
  refine hL _ ?_; clear hL L
  refine opsI_end fun L hL => ?_
  simp [C.laws_szQSum]
  refine hL _ ?_; clear hL L
  simp [C.laws_szQSum]
  refine hK _ ?_; clear hK K
  show AWp _ _ _ _ _
  refine wseq ?_
  refine wseq ?_
  refine wreg fun K hK => ?_
  simp [C.laws_szQSum]
  refine hK _ ?_; clear hK K
  show AWp _ _ _ _ _
  refine wcond _ rfl (fun hc1 => ?_) (fun hc1 => ?_)
  · refine wseq ?_
    refine wreg fun K hK => ?_
    simp [C.laws_szQSum]
    refine hK _ ?_; clear hK K
    show AWp _ _ _ _ _
    refine wret ?_
    simp [C.laws_szQSum]
  · refine wskip ?_
    show AWp _ _ _ _ _
    refine wseq ?_
    refine wreg fun K hK => ?_
    simp [C.laws_szQSum]
    refine hK _ ?_; clear hK K
    show AWp _ _ _ _ _
    refine wret ?_
    simp at hc1
    simp [C.laws_szQSum]
    omega

theorem laws_toQTerm_calls (t : Qtm) (hx : t.e.length ≤ 1048576) : ACalls Try.prog F.laws_toQTerm [aQT t] [] true (fun outs res => outs = [] ∧ res = [.ag (qtO t)]) := by
  refine ACalls.of_body (C := C.laws_toQTerm) (n := Try.f146.ntmps) tabT folT Try.func146 rfl (by kernel_rfl) rfl (Nat.le_of_ble_eq_true rfl) (by decide) (by kernel_rfl) (by kernel_rfl) rfl (by simp) (by simp) ?_
  simp only [Try.f146]
  refine wseq ?_
  refine wreg fun K hK => ?_
  simp [C.laws_toQTerm]
  refine hK _ ?_; clear hK K
  show AWp _ _ _ _ _
  refine wseq ?_
  refine wreg fun K hK => ?_
  simp [C.laws_toQTerm]
  refine hK _ ?_; clear hK K
  show AWp _ _ _ _ _
  refine wseq ?_
  refine wregI ([0, 1, 2] ++ ([3, 4])) rfl fun K hK => ?_
  refine opsI_seg fun L hL => ?_
  simp [C.laws_toQTerm]
  refine wcall1 (laws_toIntS_calls t.e hx) (by simp) (by simp) ?_
  simp [C.laws_toQTerm]
  refine hL _ ?_; clear hL L
  refine opsI_end fun L hL => ?_
  simp [C.laws_toQTerm]
  refine hL _ ?_; clear hL L
  simp [C.laws_toQTerm]
  refine hK _ ?_; clear hK K
  show AWp _ _ _ _ _
  refine wseq ?_
  refine wreg fun K hK => ?_
  simp [C.laws_toQTerm]
  refine hK _ ?_; clear hK K
  show AWp _ _ _ _ _
  refine wseq ?_
  refine wreg fun K hK => ?_
  simp [C.laws_toQTerm]
  refine hK _ ?_; clear hK K
  show AWp _ _ _ _ _
  refine wseq ?_
  refine wreg fun K hK => ?_
  simp [C.laws_toQTerm]
  refine hK _ ?_; clear hK K
  show AWp _ _ _ _ _
  refine wret ?_
  simp [C.laws_toQTerm, qtO]

theorem laws_toQTermS_calls (ts : List Qtm) (hx : ts.length ≤ 1048576) (hx2 : ∀ t ∈ ts, t.e.length ≤ 1048576) : ACalls Try.prog F.laws_toQTermS [.d (.sh 3 ts.length (rows qtS ts))] [] true (fun outs res => outs = [] ∧ res = [.one (.ow 3 ts.length (rows qtO ts))]) := by
  refine ACalls.of_body (C := C.laws_toQTermS) (n := Try.f93.ntmps) tabT folT Try.func93 rfl (by kernel_rfl) rfl (Nat.le_of_ble_eq_true rfl) (by decide) (by kernel_rfl) (by kernel_rfl) rfl (by simp) (by simp) ?_
  simp only [Try.f93]
  refine wseq ?_
  refine wreg fun K hK => ?_
  simp [C.laws_toQTermS]
  refine hK _ ?_; clear hK K
  show AWp _ _ _ _ _
  refine wseq ?_
  refine wreg fun K hK => ?_
  simp [C.laws_toQTermS, qtZ_zero, show (40 : Int) * ts.length ≤ 281474976710656 by omega, show (ts.length : Int) ≤ 281474976710656 by omega]
  refine hK _ ?_; clear hK K
  show AWp _ _ _ _ _
  refine wseq ?_
  refine wseq ?_
  refine wreg fun K hK => ?_
  simp [C.laws_toQTermS]
  refine hK _ ?_; clear hK K
  show AWp _ _ _ _ _
  refine wblock ?_
  refine wloop (fun x : Nat × List (Option Qtm) => ⟨ofL [(0, .d (.sh 3 ts.length (rows qtS ts))), (3, .al (3, 0) [] 0 ts.length), (4, .int x.1)], ofRO [((3, 0), some (.ow 3 ts.length (rows qtZ x.2)))]⟩) (fun x => x.1 ≤ ts.length ∧ x.2 = (ts.take x.1).map some ++ List.replicate (ts.length - x.1) none) (fun x => ts.length - x.1) (0, List.replicate ts.length none) (by simp [C.laws_toQTermS]) (by simp) ?_
  intro x1 hx1 R1 hR1
  obtain ⟨j, gs⟩ := x1
  obtain ⟨hj, hg⟩ := hx1
  dsimp only at hj hg ⊢
  refine wseq ?_
  refine wseq ?_
  refine wreg fun K hK => ?_
  simp [C.laws_toQTermS]
  refine hK _ ?_; clear hK K
  show AWp _ _ _ _ _
  refine wcond _ rfl (fun hc1 => ?_) (fun hc1 => ?_)
  · refine wskip ?_
    show AWp _ _ _ _ _
    refine wseq ?_
    refine wblock ?_
    have h1 : j < ts.length := by simpa using hc1
    have hl : gs.length = ts.length := by rw [hg]; simp; omega
    have hn : gs[j]? = some none := by
      rw [hg, List.getElem?_append_right (by simp; omega)]
      simp [Nat.min_eq_left hj, List.getElem?_replicate]
      omega
    refine wregI ([0, 1, 2, 3, 4, 5, 6] ++ ([7, 8])) rfl fun K hK => ?_
    refine opsI_seg fun L hL => ?_
    simp [C.laws_toQTermS, hl, h1, qtS_0 h1, qtS_1 h1, qtS_2 h1, qtO, qtZ_none0 hn, qtZ_none1 hn, qtZ_none2 hn, List.getElem?_set, List.getElem_set, show ¬ (3 * j = 3 * j + 1 + 1) by omega, show ¬ (3 * j + 1 = 3 * j + 1 + 1) by omega, qtZ_set3 (show j < gs.length by omega)]
    refine wcall1 (laws_toQTerm_calls ts[j] (hx2 _ (List.getElem_mem h1))) (by simp) (by simp) ?_
    simp [C.laws_toQTermS, hl, h1, qtS_0 h1, qtS_1 h1, qtS_2 h1, qtO, qtZ_none0 hn, qtZ_none1 hn, qtZ_none2 hn, List.getElem?_set, List.getElem_set, show ¬ (3 * j = 3 * j + 1 + 1) by omega, show ¬ (3 * j + 1 = 3 * j + 1 + 1) by omega, qtZ_set3 (show j < gs.length by omega)]
    refine hL _ ?_; clear hL L
    refine opsI_end fun L hL => ?_
    simp [C.laws_toQTermS, hl, h1, qtS_0 h1, qtS_1 h1, qtS_2 h1, qtO, qtZ_none0 hn, qtZ_none1 hn, qtZ_none2 hn, List.getElem?_set, List.getElem_set, show ¬ (3 * j = 3 * j + 1 + 1) by omega, show ¬ (3 * j + 1 = 3 * j + 1 + 1) by omega, qtZ_set3 (show j < gs.length by omega)]
    refine hL _ ?_; clear hL L
    simp [C.laws_toQTermS, hl, h1, qtS_0 h1, qtS_1 h1, qtS_2 h1, qtO, qtZ_none0 hn, qtZ_none1 hn, qtZ_none2 hn, List.getElem?_set, List.getElem_set, show ¬ (3 * j = 3 * j + 1 + 1) by omega, show ¬ (3 * j + 1 = 3 * j + 1 + 1) by omega, qtZ_set3 (show j < gs.length by omega)]
    refine hK _ ?_; clear hK K
    show AWp _ _ _ _ _
    refine wreg fun K hK => ?_
    simp [C.laws_toQTermS, wrap_succ (show j < 4611686018427387904 by omega)]
    refine hK _ ?_; clear hK K
    simp [C.laws_toQTermS]
    refine hR1 (j + 1, _) ⟨h1, ?_⟩ (by dsimp only; omega)
    dsimp only
    have := fill_step (ts.map some) j (by simpa using h1) none
    simp only [List.length_map, List.getElem_map, ← List.map_take] at this
    rw [hg, ← this]
  · refine wexit ?_
    show AWp _ _ _ _ _
    refine wseq ?_
    refine wreg fun K hK => ?_
    simp [C.laws_toQTermS]
    refine hK _ ?_; clear hK K
    show AWp _ _ _ _ _
    refine wret ?_
    have hj2 : j = ts.length := by simp at hc1; omega
    have hz : rows qtZ gs = rows qtO ts := by rw [hg, hj2]; simp [qtZ_some]
    simp [C.laws_toQTermS, hz, hj2]

theorem laws_toQSum_calls (f : Qsm) (hx : f.ts.length ≤ 1048576) (hx2 : ∀ t ∈ f.ts, t.e.length ≤ 1048576) : ACalls Try.prog F.laws_toQSum [aQ f] [] true (fun outs res => outs = [] ∧ res = [.ag (qO f)]) := by
  refine ACalls.of_body (C := C.laws_toQSum) (n := Try.f36.ntmps) tabT folT Try.func36 rfl (by kernel_rfl) rfl (Nat.le_of_ble_eq_true rfl) (by decide) (by kernel_rfl) (by kernel_rfl) rfl (by simp) (by simp) ?_
  simp only [Try.f36]
  refine wseq ?_
  refine wreg fun K hK => ?_
  simp [C.laws_toQSum]
  refine hK _ ?_; clear hK K
  show AWp _ _ _ _ _
  refine wseq ?_
  refine wreg fun K hK => ?_
  simp [C.laws_toQSum]
  refine hK _ ?_; clear hK K
  show AWp _ _ _ _ _
  refine wseq ?_
  refine wreg fun K hK => ?_
  simp [C.laws_toQSum]
  refine hK _ ?_; clear hK K
  show AWp _ _ _ _ _
  refine wseq ?_
  refine wregI ([0, 1, 2] ++ ([3, 4])) rfl fun K hK => ?_
  refine opsI_seg fun L hL => ?_
  simp [C.laws_toQSum]
  refine wcall1 (laws_toQTermS_calls f.ts hx hx2) (by simp) (by simp) ?_
  simp [C.laws_toQSum]
  refine hL _ ?_; clear hL L
  refine opsI_end fun L hL => ?_
  simp [C.laws_toQSum]
  refine hL _ ?_; clear hL L
  simp [C.laws_toQSum]
  refine hK _ ?_; clear hK K
  show AWp _ _ _ _ _
  refine wseq ?_
  refine wreg fun K hK => ?_
  simp [C.laws_toQSum]
  refine hK _ ?_; clear hK K
  show AWp _ _ _ _ _
  refine wret ?_
  simp [C.laws_toQSum, qO]

theorem laws_eqQTerm_calls (a b : Qtm) (hx : a.e.length < 4611686018427387904) : ACalls Try.prog F.laws_eqQTerm [aQT a, aQT b] [] true (fun outs res => outs = [] ∧ res = [.one (D.bool (decide (a = b)))]) := by
  refine ACalls.of_body (C := C.laws_eqQTerm) (n := Try.f147.ntmps) tabT folT Try.func147 rfl (by kernel_rfl) rfl (Nat.le_of_ble_eq_true rfl) (by decide) (by kernel_rfl) (by kernel_rfl) rfl (by simp) (by simp) ?_
  simp only [Try.f147]
  refine wseq ?_
  refine wreg fun K hK => ?_
  simp [C.laws_eqQTerm]
  refine hK _ ?_; clear hK K
  show AWp _ _ _ _ _
  refine wseq ?_
  refine wseq ?_
  refine wregI ([0, 1, 2, 3, 4] ++ ([5])) rfl fun K hK => ?_
  refine opsI_seg fun L hL => ?_
  simp [C.laws_eqQTerm]
  refine wcall1 (laws_eqIntS_calls a.e b.e hx) (by simp) (by simp) ?_
  simp [C.laws_eqQTerm]
  refine hL _ ?_; clear hL L
  refine opsI_end fun L hL => ?_
  simp [C.laws_eqQTerm]
  refine hL _ ?_; clear hL L
  simp [C.laws_eqQTerm]
  refine hK _ ?_; clear hK K
  show AWp _ _ _ _ _
  refine wcond _ rfl (fun hc1 => ?_) (fun hc1 => ?_)
  · refine wseq ?_
    refine wreg fun K hK => ?_
    simp [C.laws_eqQTerm]
    refine hK _ ?_; clear hK K
    show AWp _ _ _ _ _
    refine wret ?_
    simp at hc1
    simp [C.laws_eqQTerm, qtm_eq, hc1]
  · refine wskip ?_
    show AWp _ _ _ _ _
    refine wseq ?_
    refine wseq ?_
    refine wreg fun K hK => ?_
    simp [C.laws_eqQTerm]
    refine hK _ ?_; clear hK K
    show AWp _ _ _ _ _
    refine wcond _ rfl (fun hc2 => ?_) (fun hc2 => ?_)
    · refine wseq ?_
      refine wreg fun K hK => ?_
      simp [C.laws_eqQTerm]
      refine hK _ ?_; clear hK K
      show AWp _ _ _ _ _
      refine wret ?_
      simp at hc2
      simp [C.laws_eqQTerm, qtm_eq, hc2]
    · refine wskip ?_
      show AWp _ _ _ _ _
      refine wseq ?_
      refine wseq ?_
      refine wreg fun K hK => ?_
      simp [C.laws_eqQTerm]
      refine hK _ ?_; clear hK K
      show AWp _ _ _ _ _
      refine wcond _ rfl (fun hc3 => ?_) (fun hc3 => ?_)
      · refine wseq ?_
        refine wreg fun K hK => ?_
        simp [C.laws_eqQTerm]
        refine hK _ ?_; clear hK K
        show AWp _ _ _ _ _
        refine wret ?_
        simp at hc3
        simp [C.laws_eqQTerm, qtm_eq, hc3]
      · refine wskip ?_
        show AWp _ _ _ _ _
        refine wseq ?_
        refine wreg fun K hK => ?_
        simp [C.laws_eqQTerm]
        refine hK _ ?_; clear hK K
        show AWp _ _ _ _ _
        refine wret ?_
        simp at hc1 hc2 hc3
        simp [C.laws_eqQTerm, qtm_eq, hc1, hc2, hc3]

theorem laws_eqQTermS_calls (xs ys : List Qtm) (hx : xs.length < 4611686018427387904) (hx2 : ∀ t ∈ xs, t.e.length < 4611686018427387904) : ACalls Try.prog F.laws_eqQTermS [.d (.sh 3 xs.length (rows qtS xs)), .d (.sh 3 ys.length (rows qtS ys))] [] true (fun outs res => outs = [] ∧ res = [.one (D.bool (decide (xs = ys)))]) := by
  refine ACalls.of_body (C := C.laws_eqQTermS) (n := Try.f94.ntmps) tabT folT Try.func94 rfl (by kernel_rfl) rfl (Nat.le_of_ble_eq_true rfl) (by decide) (by kernel_rfl) (by kernel_rfl) rfl (by simp) (by simp) ?_
  simp only [Try.f94]
  refine wseq ?_
  refine wreg fun K hK => ?_
  simp [C.laws_eqQTermS]
  refine hK _ ?_; clear hK K
  show AWp _ _ _ _ _
  refine wseq ?_
  refine wseq ?_
  refine wreg fun K hK => ?_
  simp [C.laws_eqQTermS]
  refine hK _ ?_; clear hK K
  show AWp _ _ _ _ _
  refine wcond _ rfl (fun hc1 => ?_) (fun hc1 => ?_)
  · refine wseq ?_
    refine wreg fun K hK => ?_
    simp [C.laws_eqQTermS]
    refine hK _ ?_; clear hK K
    show AWp _ _ _ _ _
    refine wret ?_
    simp at hc1
    simp [C.laws_eqQTermS]
    intro e; simp [e] at hc1
  · refine wskip ?_
    show AWp _ _ _ _ _
    refine wseq ?_
    refine wseq ?_
    refine wreg fun K hK => ?_
    simp [C.laws_eqQTermS]
    refine hK _ ?_; clear hK K
    show AWp _ _ _ _ _
    refine wblock ?_
    have e : xs.length = ys.length := by simp at hc1; omega
    refine wloop (fun k : Nat => ⟨ofL [(0, .d (.sh 3 xs.length (rows qtS xs))), (1, .d (.sh 3 ys.length (rows qtS ys))), (5, FV.int k)], ofRO []⟩) (fun k => k ≤ xs.length ∧ xs.take k = ys.take k) (fun k => xs.length - k) 0 (by simp [C.laws_eqQTermS]) (by simp) ?_
    intro x1 hx1 R1 hR1
    obtain ⟨hk, ht⟩ := hx1
    refine wseq ?_
    refine wseq ?_
    refine wreg fun K hK => ?_
    simp [C.laws_eqQTermS]
    refine hK _ ?_; clear hK K
    show AWp _ _ _ _ _
    refine wcond _ rfl (fun hc2 => ?_) (fun hc2 => ?_)
    · refine wskip ?_
      show AWp _ _ _ _ _
      refine wseq ?_
      refine wblock ?_
      refine wseq ?_
      have h1 : x1 < xs.length := by simpa using hc2
      have h2 : x1 < ys.length := by omega
      refine wdrawI [(true, 0), (true, 1), (true, 2), (true, 3), (true, 4), (true, 5), (true, 6), (true, 7), (false, 8), (true, 9)] ⟨by kernel_rfl, by kernel_rfl⟩ ([0, 1, 2, 3, 4, 5, 6, 7, 8] ++ ([9])) rfl fun K hK => ?_
      refine opsI_seg fun L hL => ?_
      simp [C.laws_eqQTermS, h1, h2, qtS_0 h1, qtS_1 h1, qtS_2 h1, qtS_0 h2, qtS_1 h2, qtS_2 h2]
      refine wcall1 (laws_eqQTerm_calls xs[x1] ys[x1] (hx2 _ (List.getElem_mem h1))) (by simp) (by simp) ?_
      simp [C.laws_eqQTermS, h1, h2, qtS_0 h1, qtS_1 h1, qtS_2 h1, qtS_0 h2, qtS_1 h2, qtS_2 h2]
      refine hL _ ?_; clear hL L
      refine opsI_end fun L hL => ?_
      simp [C.laws_eqQTermS, h1, h2, qtS_0 h1, qtS_1 h1, qtS_2 h1, qtS_0 h2, qtS_1 h2, qtS_2 h2]
      refine hL _ ?_; clear hL L
      simp [C.laws_eqQTermS, h1, h2, qtS_0 h1, qtS_1 h1, qtS_2 h1, qtS_0 h2, qtS_1 h2, qtS_2 h2]
      refine hK _ ?_; clear hK K
      show AWp _ _ _ _ _
      refine wcond _ rfl (fun hc3 => ?_) (fun hc3 => ?_)
      · refine wseq ?_
        refine wreg fun K hK => ?_
        simp [C.laws_eqQTermS]
        refine hK _ ?_; clear hK K
        show AWp _ _ _ _ _
        refine wret ?_
        simp at hc3
        simp [C.laws_eqQTermS]
        intro e; simp [e] at hc3
      · refine wskip ?_
        show AWp _ _ _ _ _
        refine wreg fun K hK => ?_
        simp [C.laws_eqQTermS, wrap_succ (show x1 < 4611686018427387904 by omega)]
        refine hK _ ?_; clear hK K
        simp [C.laws_eqQTermS]
        simp at hc3
        refine hR1 (x1 + 1) ⟨h1, ?_⟩ (by omega)
        rw [List.take_succ_eq_append_getElem h1, List.take_succ_eq_append_getElem h2, ht, hc3]
    · refine wexit ?_
      show AWp _ _ _ _ _
      refine wseq ?_
      refine wreg fun K hK => ?_
      simp [C.laws_eqQTermS]
      refine hK _ ?_; clear hK K
      show AWp _ _ _ _ _
      refine wret ?_
      have hk2 : x1 = xs.length := by simp at hc2; omega
      simp [C.laws_eqQTermS]
      rw [hk2, List.take_length, e, List.take_length] at ht
      exact ht

theorem laws_eqQSum_calls (a b : Qsm) (hx : a.ts.length < 4611686018427387904) (hx2 : ∀ t ∈ a.ts, t.e.length < 4611686018427387904) : ACalls Try.prog F.laws_eqQSum [aQ a, aQ b] [] true (fun outs res => outs = [] ∧ res = [.one (D.bool (decide (a = b)))]) := by
  refine ACalls.of_body (C := C.laws_eqQSum) (n := Try.f37.ntmps) tabT folT Try.func37 rfl (by kernel_rfl) rfl (Nat.le_of_ble_eq_true rfl) (by decide) (by kernel_rfl) (by kernel_rfl) rfl (by simp) (by simp) ?_
  simp only [Try.f37]
  refine wseq ?_
  refine wreg fun K hK => ?_
  simp [C.laws_eqQSum]
  refine hK _ ?_; clear hK K
  show AWp _ _ _ _ _
  refine wseq ?_
  refine wseq ?_
  refine wreg fun K hK => ?_
  simp [C.laws_eqQSum]
  refine hK _ ?_; clear hK K
  show AWp _ _ _ _ _
  refine wcond _ rfl (fun hc1 => ?_) (fun hc1 => ?_)
  · refine wseq ?_
    refine wreg fun K hK => ?_
    simp [C.laws_eqQSum]
    refine hK _ ?_; clear hK K
    show AWp _ _ _ _ _
    refine wret ?_
    simp at hc1
    simp [C.laws_eqQSum, qsm_eq, hc1]
  · refine wskip ?_
    show AWp _ _ _ _ _
    refine wseq ?_
    refine wseq ?_
    refine wregI ([0, 1, 2, 3, 4] ++ ([5])) rfl fun K hK => ?_
    refine opsI_seg fun L hL => ?_
    simp [C.laws_eqQSum]
    refine wcall1 (laws_eqQTermS_calls a.ts b.ts hx hx2) (by simp) (by simp) ?_
    simp [C.laws_eqQSum]
    refine hL _ ?_; clear hL L
    refine opsI_end fun L hL => ?_
    simp [C.laws_eqQSum]
    refine hL _ ?_; clear hL L
    simp [C.laws_eqQSum]
    refine hK _ ?_; clear hK K
    show AWp _ _ _ _ _
    refine wcond _ rfl (fun hc2 => ?_) (fun hc2 => ?_)
    · refine wseq ?_
      refine wreg fun K hK => ?_
      simp [C.laws_eqQSum]
      refine hK _ ?_; clear hK K
      show AWp _ _ _ _ _
      refine wret ?_
      simp at hc2
      simp [C.laws_eqQSum, qsm_eq, hc2]
    · refine wskip ?_
      show AWp _ _ _ _ _
      refine wseq ?_
      refine wreg fun K hK => ?_
      simp [C.laws_eqQSum]
      refine hK _ ?_; clear hK K
      show AWp _ _ _ _ _
      refine wret ?_
      simp at hc1 hc2
      simp [C.laws_eqQSum, qsm_eq, hc1, hc2]

theorem laws_markQTermS_calls (ts : List Qtm) (k : Int) (hk0 : 0 ≤ k) (hk : k + cntL cntQT ts < 4611686018427387904) (hx : ts.length < 4611686018427387904) : ACalls Try.prog F.laws_markQTermS [.al (0, 0) [] 0 ts.length, .int k] [((0, 0), .ow 3 ts.length (rows qtO ts))] true (fun outs res => outs = [.ow 3 ts.length (rows qtO (mkL cntQT mkQT ts k))] ∧ res = [.one (D.int (k + cntL cntQT ts))]) := by
  refine ACalls.of_body (C := C.laws_markQTermS) (n := Try.f97.ntmps) tabT folT Try.func97 rfl (by kernel_rfl) rfl (Nat.le_of_ble_eq_true rfl) (by decide) (by kernel_rfl) (by kernel_rfl) rfl (by simp) (by simp) ?_
  simp only [Try.f97]
  refine wseq ?_
  refine wreg fun K hK => ?_
  simp [C.laws_markQTermS]
  refine hK _ ?_; clear hK K
  show AWp _ _ _ _ _
  refine wseq ?_
  refine wseq ?_
  refine wreg fun K hK => ?_
  simp [C.laws_markQTermS]
  refine hK _ ?_; clear hK K
  show AWp _ _ _ _ _
  refine wblock ?_
  refine wloop (fun x : Nat × List Qtm × Int => ⟨ofL [(0, .al (0, 0) [] 0 ts.length), (1, .int x.2.2), (5, .int x.1), (1000, .al (0, 0) [] 0 ts.length)], ofRO [((0, 0), some (.ow 3 ts.length (rows qtO x.2.1)))]⟩) (fun x => x.1 ≤ ts.length ∧ x.2.1 = mkL cntQT mkQT (ts.take x.1) k ++ ts.drop x.1 ∧ x.2.2 = k + cntL cntQT (ts.take x.1)) (fun x => ts.length - x.1) (0, ts, k) (by simp [C.laws_markQTermS]) (by simp [mkL, cntL]) ?_
  intro x1 hx1 R1 hR1
  obtain ⟨j, gs, kk⟩ := x1
  obtain ⟨h0, hg, he⟩ := hx1
  dsimp only at h0 hg he ⊢
  refine wseq ?_
  refine wseq ?_
  refine wreg fun K hK => ?_
  simp [C.laws_markQTermS]
  refine hK _ ?_; clear hK K
  show AWp _ _ _ _ _
  refine wcond _ rfl (fun hc1 => ?_) (fun hc1 => ?_)
  · refine wskip ?_
    show AWp _ _ _ _ _
    refine wseq ?_
    refine wblock ?_
    refine wseq ?_
    have h1 : j < ts.length := by simpa using hc1
    have hl : gs.length = ts.length := by rw [hg]; simp; omega
    have h2 : j < gs.length := by omega
    have hge : gs[j] = ts[j] := by
      have := mkL_get2 cntQT mkQT ts k j h1
      rw [← hg, List.getElem?_eq_getElem h2] at this
      injection this
    have hb := cntL_le1 cntQT ts j h1
    have hcj : cntQT ts[j] = ts[j].e.length + 2 := rfl
    refine wregI ([0, 1, 2, 3, 4, 5, 6] ++ ([7])) rfl fun K hK => ?_
    refine opsI_seg fun L hL => ?_
    simp [C.laws_markQTermS, hl, h1, h2, hge, qtO_0 h2, qtO_1 h2, qtO_2 h2, modify_const, qtO_set0 h2]
    refine wcall1 (laws_markIntS_calls ts[j].e kk (by omega) (by omega)) (by simp) (by simp) ?_
    simp [C.laws_markQTermS, hl, h1, h2, hge, qtO_0 h2, qtO_1 h2, qtO_2 h2, modify_const, qtO_set0 h2]
    refine hL _ ?_; clear hL L
    refine opsI_end fun L hL => ?_
    simp [C.laws_markQTermS, hl, h1, h2, hge, qtO_0 h2, qtO_1 h2, qtO_2 h2, modify_const, qtO_set0 h2]
    refine hL _ ?_; clear hL L
    simp [C.laws_markQTermS, hl, h1, h2, hge, qtO_0 h2, qtO_1 h2, qtO_2 h2, modify_const, qtO_set0 h2]
    refine hK _ ?_; clear hK K
    show AWp _ _ _ _ _
    refine wseq ?_
    refine wreg fun K hK => ?_
    simp [C.laws_markQTermS, h1, h2, hl, qtO_1 h2]
    refine hK _ ?_; clear hK K
    show AWp _ _ _ _ _
    refine wseq ?_
    refine wreg fun K hK => ?_
    simp [C.laws_markQTermS]
    rw [wrapOk (x := kk + ts[j].e.length + 1) (by omega) (by omega)]
    refine hK _ ?_; clear hK K
    show AWp _ _ _ _ _
    refine wseq ?_
    refine wreg fun K hK => ?_
    simp [C.laws_markQTermS, h1, h2, hl, qtO_2 h2]
    refine hK _ ?_; clear hK K
    show AWp _ _ _ _ _
    refine wreg fun K hK => ?_
    simp [C.laws_markQTermS]
    rw [wrapOk (x := kk + ts[j].e.length + 1 + 1) (by omega) (by omega)]
    refine hK _ ?_; clear hK K
    show AWp _ _ _ _ _
    refine wreg fun K hK => ?_
    simp [C.laws_markQTermS, wrap_succ (show j < 4611686018427387904 by omega)]
    refine hK _ ?_; clear hK K
    simp [C.laws_markQTermS]
    rw [qtO_set3 h2 _ _ _ (by simp)]
    refine hR1 (j + 1, _, _) ⟨h1, ?_, ?_⟩ (by dsimp only; omega)
    · dsimp only
      rw [hg, he]
      exact mkL_step cntQT mkQT ts k j h1
    · dsimp only
      rw [cntL_step _ _ _ h1]
      omega
  · refine wexit ?_
    show AWp _ _ _ _ _
    refine wseq ?_
    refine wreg fun K hK => ?_
    simp [C.laws_markQTermS]
    refine hK _ ?_; clear hK K
    show AWp _ _ _ _ _
    refine wret ?_
    have hj2 : j = ts.length := by simp at hc1; omega
    simp [C.laws_markQTermS, hj2, hg, he]

theorem laws_markQSum_calls (f : Qsm) (k : Int) (hk0 : 0 ≤ k) (hk : k + cntL cntQT f.ts < 4611686018427387904) (hx : f.ts.length < 4611686018427387904) : ACalls Try.prog F.laws_markQSum [.ag [.int f.v, .al (0, 1) [] 0 f.ts.length], .int k] [((0, 1), .ow 3 f.ts.length (rows qtO f.ts))] true (fun outs res => outs = [.ow 3 f.ts.length (rows qtO (mkL cntQT mkQT f.ts k))] ∧ res = [.one (D.int (k + cntL cntQT f.ts))]) := by
  refine ACalls.of_body (C := C.laws_markQSum) (n := Try.f40.ntmps) tabT folT Try.func40 rfl (by kernel_rfl) rfl (Nat.le_of_ble_eq_true rfl) (by decide) (by kernel_rfl) (by kernel_rfl) rfl (by simp) (by simp) ?_
  simp only [Try.f40]
  refine wseq ?_
  refine wreg fun K hK => ?_
  simp [C.laws_markQSum]
  refine hK _ ?_; clear hK K
  show AWp _ _ _ _ _
  refine wseq ?_
  refine wregI ([0, 1, 2, 3] ++ ([4])) rfl fun K hK => ?_
  refine opsI_seg fun L hL => ?_
  simp [C.laws_markQSum, modify_const]
  refine wcall1 (laws_markQTermS_calls f.ts k hk0 hk hx) (by simp) (by simp) ?_
  simp [C.laws_markQSum, modify_const]
  refine hL _ ?_; clear hL L
  refine opsI_end fun L hL => ?_
  simp [C.laws_markQSum, modify_const]
  refine hL _ ?_; clear hL L
  simp [C.laws_markQSum, modify_const]
  refine hK _ ?_; clear hK K
  show AWp _ _ _ _ _
  refine wseq ?_
  refine wreg fun K hK => ?_
  simp [C.laws_markQSum]
  refine hK _ ?_; clear hK K
  show AWp _ _ _ _ _
  refine wret ?_
  simp [C.laws_markQSum]

theorem laws_heldQTermS_calls (ts : List Qtm) (k : Int) (hk0 : 0 ≤ k) (hk : k + cntL cntQT ts < 4611686018427387904) (hx : ts.length < 4611686018427387904) : ACalls Try.prog F.laws_heldQTermS [.d (.sh 3 ts.length (rows qtS (mkL cntQT mkQT ts k))), .int k] [] true (fun outs res => outs = [] ∧ res = [.one (D.int (k + cntL cntQT ts))]) := by
  refine ACalls.of_body (C := C.laws_heldQTermS) (n := Try.f98.ntmps) tabT folT Try.func98 rfl (by kernel_rfl) rfl (Nat.le_of_ble_eq_true rfl) (by decide) (by kernel_rfl) (by kernel_rfl) rfl (by simp) (by simp) ?_
  simp only [Try.f98]
  refine wseq ?_
  refine wreg fun K hK => ?_
  simp [C.laws_heldQTermS]
  refine hK _ ?_; clear hK K
  show AWp _ _ _ _ _
  refine wseq ?_
  refine wseq ?_
  refine wreg fun K hK => ?_
  simp [C.laws_heldQTermS]
  refine hK _ ?_; clear hK K
  show AWp _ _ _ _ _
  refine wblock ?_
  refine wloop (fun x : Nat × Int => ⟨ofL [(0, .d (.sh 3 ts.length (rows qtS (mkL cntQT mkQT ts k)))), (1, .int x.2), (5, .int x.1)], ofRO []⟩) (fun x => x.1 ≤ ts.length ∧ x.2 = k + cntL cntQT (ts.take x.1)) (fun x => ts.length - x.1) (0, k) (by simp [C.laws_heldQTermS]) (by simp [cntL]) ?_
  intro x1 hx1 R1 hR1
  obtain ⟨j, kk⟩ := x1
  obtain ⟨h0, he⟩ := hx1
  dsimp only at h0 he ⊢
  refine wseq ?_
  refine wseq ?_
  refine wreg fun K hK => ?_
  simp [C.laws_heldQTermS]
  refine hK _ ?_; clear hK K
  show AWp _ _ _ _ _
  refine wcond _ rfl (fun hc1 => ?_) (fun hc1 => ?_)
  · refine wskip ?_
    show AWp _ _ _ _ _
    refine wseq ?_
    refine wblock ?_
    refine wseq ?_
    have h1 : j < ts.length := by simpa using hc1
    have h2 : j < (mkL cntQT mkQT ts k).length := by simpa using h1
    have hge : (mkL cntQT mkQT ts k)[j] = ⟨marks kk ts[j].e.length, kk + ts[j].e.length, kk + ts[j].e.length + 1⟩ := by
      rw [mkL_get1 _ _ _ _ _ h1, he]
      rfl
    have hb := cntL_le1 cntQT ts j h1
    have hcj : cntQT ts[j] = ts[j].e.length + 2 := rfl
    refine wregI ([0, 1, 2, 3, 4, 5, 6] ++ ([7])) rfl fun K hK => ?_
    refine opsI_seg fun L hL => ?_
    simp [C.laws_heldQTermS, h1, h2, hge, qtS_0 h2]
    refine wcall1 (laws_heldIntS_calls ts[j].e.length kk (by omega) (by omega)) (by simp) (by simp) ?_
    simp [C.laws_heldQTermS, h1, h2, hge, qtS_0 h2]
    refine hL _ ?_; clear hL L
    refine opsI_end fun L hL => ?_
    simp [C.laws_heldQTermS, h1, h2, hge, qtS_0 h2]
    refine hL _ ?_; clear hL L
    simp [C.laws_heldQTermS, h1, h2, hge, qtS_0 h2]
    refine hK _ ?_; clear hK K
    show AWp _ _ _ _ _
    refine wseq ?_
    refine wseq ?_
    refine wreg fun K hK => ?_
    simp [C.laws_heldQTermS]
    refine hK _ ?_; clear hK K
    show AWp _ _ _ _ _
    refine wcond _ rfl (fun hc2 => ?_) (fun hc2 => ?_)
    · simp at hc2; omega
    · refine wskip ?_
      show AWp _ _ _ _ _
      refine wseq ?_
      refine wseq ?_
      refine wreg fun K hK => ?_
      simp [C.laws_heldQTermS, h1, h2, hge, qtS_1 h2]
      refine hK _ ?_; clear hK K
      show AWp _ _ _ _ _
      refine wcond _ rfl (fun hc3 => ?_) (fun hc3 => ?_)
      · simp at hc3
      · refine wskip ?_
        show AWp _ _ _ _ _
        refine wseq ?_
        refine wreg fun K hK => ?_
        simp [C.laws_heldQTermS]
        rw [wrapOk (x := kk + ts[j].e.length + 1) (by omega) (by omega)]
        refine hK _ ?_; clear hK K
        show AWp _ _ _ _ _
        refine wseq ?_
        refine wseq ?_
        refine wreg fun K hK => ?_
        simp [C.laws_heldQTermS, h1, h2, hge, qtS_2 h2]
        refine hK _ ?_; clear hK K
        show AWp _ _ _ _ _
        refine wcond _ rfl (fun hc4 => ?_) (fun hc4 => ?_)
        · simp at hc4
        · refine wskip ?_
          show AWp _ _ _ _ _
          refine wreg fun K hK => ?_
          simp [C.laws_heldQTermS]
          rw [wrapOk (x := kk + ts[j].e.length + 1 + 1) (by omega) (by omega)]
          refine hK _ ?_; clear hK K
          show AWp _ _ _ _ _
          refine wreg fun K hK => ?_
          simp [C.laws_heldQTermS, wrap_succ (show j < 4611686018427387904 by omega)]
          refine hK _ ?_; clear hK K
          simp [C.laws_heldQTermS]
          refine hR1 (j + 1, _) ⟨h1, ?_⟩ (by dsimp only; omega)
          dsimp only
          rw [cntL_step _ _ _ h1]
          omega
  · refine wexit ?_
    show AWp _ _ _ _ _
    refine wseq ?_
    refine wreg fun K hK => ?_
    simp [C.laws_heldQTermS]
    refine hK _ ?_; clear hK K
    show AWp _ _ _ _ _
    refine wret ?_
    have hj2 : j = ts.length := by simp at hc1; omega
    simp [C.laws_heldQTermS]
    rw [he, hj2, List.take_length]

theorem laws_heldQSum_calls (v : Int) (ts : List Qtm) (k : Int) (hk0 : 0 ≤ k) (hk : k + cntL cntQT ts < 4611686018427387904) (hx : ts.length < 4611686018427387904) : ACalls Try.prog F.laws_heldQSum [.ag [.int v, .d (.sh 3 ts.length (rows qtS (mkL cntQT mkQT ts k)))], .int k] [] true (fun outs res => outs = [] ∧ res = [.one (D.int (k + cntL cntQT ts))]) := by
  refine ACalls.of_body (C := C.laws_heldQSum) (n := Try.f41.ntmps) tabT folT Try.func41 rfl (by kernel_rfl) rfl (Nat.le_of_ble_eq_true rfl) (by decide) (by kernel_rfl) (by kernel_rfl) rfl (by simp) (by simp) ?_
  simp only [Try.f41]
  refine wseq ?_
  refine wreg fun K hK => ?_
  simp [C.laws_heldQSum]
  refine hK _ ?_; clear hK K
  show AWp _ _ _ _ _
  refine wseq ?_
  refine wregI ([0, 1, 2, 3] ++ ([4])) rfl fun K hK => ?_
  refine opsI_seg fun L hL => ?_
  simp [C.laws_heldQSum]
  refine wcall1 (laws_heldQTermS_calls ts k hk0 hk hx) (by simp) (by simp) ?_
  simp [C.laws_heldQSum]
  refine hL _ ?_; clear hL L
  refine opsI_end fun L hL => ?_
  simp [C.laws_heldQSum]
  refine hL _ ?_; clear hL L
  simp [C.laws_heldQSum]
  refine hK _ ?_; clear hK K
  show AWp _ _ _ _ _
  refine wseq ?_
  refine wseq ?_
  refine wreg fun K hK => ?_
  simp [C.laws_heldQSum]
  refine hK _ ?_; clear hK K
  show AWp _ _ _ _ _
  refine wcond _ rfl (fun hc1 => ?_) (fun hc1 => ?_)
  · simp at hc1; omega
  · refine wskip ?_
    show AWp _ _ _ _ _
    refine wseq ?_
    refine wreg fun K hK => ?_
    simp [C.laws_heldQSum]
    refine hK _ ?_; clear hK K
    show AWp _ _ _ _ _
    refine wret ?_
    simp [C.laws_heldQSum]

end Go.Proofs.Ytocknokodgnlbaa.Ab
namespace Go.Proofs.Ytocknokodgnlbaa.Ab
open Go
set_option linter.unusedSimpArgs false
set_option linter.unusedVariables false
set_option maxRecDepth 10000
set_option maxHeartbeats 2000000
theorem cmpL_zero : ∀ (a b : List Int), cmpL a b = 0 ↔ a = b
  | [], [] => by simp [cmpL]
  | [], _ :: _ => by simp [cmpL]
  | _ :: _, [] => by simp [cmpL]
  | a :: x, b :: y => by
    have ih := cmpL_zero x y
    by_cases h : a = b
    · simp [cmpL, h, ih]
    · by_cases h2 : a < b
      · simp [cmpL, h, h2]
      · simp [cmpL, h, h2]
def cmpQ (a : List Int) (ah : Int) (b : List Int) (bh : Int) : Int := if cmpL b a = 0 then cmpI bh ah else cmpL b a
theorem cmpQ_pos (a : List Int) (ah : Int) (b : List Int) (bh : Int) : decide (0 ≤ cmpQ a ah b bh) = !qlt (b, bh) (a, ah) := by
  have hn := cmpL_neg b a
  have hz := cmpL_zero b a
  unfold cmpQ qlt
  by_cases h : b = a
  · rw [if_pos (hz.2 h)]
    simp only [h, if_true]
    unfold cmpI
    by_cases h1 : bh < ah
    · simp [h1]
    · by_cases h2 : ah < bh <;> simp [h1, h2]
  · have : ¬ cmpL b a = 0 := fun e => h (hz.1 e)
    rw [if_neg this]
    simp only [h, if_false]
    rw [← hn]
    by_cases q : cmpL b a < 0
    · simp [q]
    · simp [q]
      omega
def qk (t : Qtm) : List Int × Int := (t.e, t.h)
def QGood (v : Int) (t : Qtm) : Prop := (t.e.length : Int) = v ∧ t.c ≠ 0 ∧ (-1000000 ≤ t.c ∧ t.c ≤ 1000000) ∧ (-200 ≤ t.h ∧ t.h ≤ 200) ∧ ∀ x ∈ t.e, -20 ≤ x ∧ x ≤ 20
def DescQ (ts : List Qtm) : Prop := ts.Pairwise fun a b => qlt (qk b) (qk a) = true
def QRight (f : Qsm) : Prop := (1 ≤ f.v ∧ f.v ≤ 8) ∧ f.ts.length ≤ 600 ∧ (∀ t ∈ f.ts, QGood f.v t) ∧ DescQ f.ts
noncomputable instance (f : Qsm) : Decidable (QRight f) := Classical.propDecidable _
def zeroQ : Qsm := ⟨0, []⟩
theorem descQ_snoc {ts : List Qtm} {t : Qtm} (h : DescQ ts) (hl : ∀ x, ts.getLast? = some x → qlt (qk t) (qk x) = true) : DescQ (ts ++ [t]) := by
  unfold DescQ at *
  rw [List.pairwise_append]
  refine ⟨h, List.pairwise_singleton _ _, fun a ha b hb => ?_⟩
  simp only [List.mem_singleton] at hb
  subst hb
  rcases List.eq_nil_or_concat ts with rfl | ⟨l, x, rfl⟩
  · simp at ha
  · have hx := hl x (by simp)
    simp only [List.concat_eq_append] at ha h
    rcases List.mem_append.1 ha with ha | ha
    · have := (List.pairwise_append.1 h).2.2 a ha x (by simp)
      exact qOrd.tr _ _ _ hx this
    · simp only [List.mem_singleton] at ha
      rw [ha]
      exact hx
theorem descQ_step {ts : List Qtm} {j : Nat} (h1 : j < ts.length) (h : DescQ (ts.take j)) (hl : j = 0 ∨ qlt (qk ts[j]) (qk ts[j - 1]) = true) : DescQ (ts.take (j + 1)) := by
  rw [List.take_succ_eq_append_getElem h1]
  refine descQ_snoc h fun x hx => ?_
  rcases hl with rfl | hl
  · simp at hx
  · rcases Nat.eq_zero_or_pos j with rfl | hj
    · simp at hx
    · rw [List.getLast?_eq_getElem?] at hx
      simp only [List.length_take, List.getElem?_take] at hx
      rw [Nat.min_eq_left (by omega), if_pos (by omega), List.getElem?_eq_getElem (by omega)] at hx
      injection hx with hx
      rw [← hx]
      exact hl
theorem descQ_next {ts : List Qtm} {j : Nat} (h1 : j < ts.length) (h : DescQ ts) : j = 0 ∨ qlt (qk ts[j]) (qk ts[j - 1]) = true := by
  rcases Nat.eq_zero_or_pos j with rfl | hj
  · exact .inl rfl
  · right
    exact List.pairwise_iff_getElem.1 h (j - 1) j (by omega) h1 (by omega)
theorem szQ_small2 {ts : List Qtm} {r : Int} (h0 : 0 ≤ r) (h : r + szQT ts ≤ 1048576) : ts.length ≤ 1048576 ∧ ∀ t ∈ ts, t.e.length ≤ 1048576 := by
  unfold szQT at h
  refine ⟨by omega, fun t ht => ?_⟩
  have : t.e.length ≤ cntL (fun t : Qtm => t.e.length) ts := by
    clear h
    induction ts with
    | nil => simp at ht
    | cons x ts ih =>
      simp only [cntL]
      rcases List.mem_cons.1 ht with rfl | ht
      · omega
      · have := ih ht; omega
  omega
theorem szQ_cnt2 {ts : List Qtm} {r : Int} (h0 : 0 ≤ r) (h : r + szQT ts ≤ 1048576) : cntL cntQT ts ≤ 3145728 := by
  have : ∀ ts : List Qtm, cntL cntQT ts = cntL (fun t : Qtm => t.e.length) ts + 2 * ts.length := fun ts => by
    induction ts with
    | nil => rfl
    | cons x ts ih =>
      simp only [cntL, cntQT, List.length_cons] at ih ⊢
      omega
  rw [this]
  unfold szQT at h
  omega

theorem orI : ∀ (xs : List Int) (k : Nat) (h1 : k < xs.length), (∀ x ∈ xs.take k, x = 0) → xs[k] ≠ 0 → (xs.find? (fun x => x ≠ 0)).getD 0 = xs[k]
  | x :: xs, 0, _, _, h => by simpa using by simp [show x ≠ 0 from h]
  | x :: xs, k + 1, h1, ht, h => by
    have hx : x = 0 := ht x (by simp)
    have := orI xs k (by simpa using h1) (fun y hy => ht y (by simp [hy])) (by simpa using h)
    simpa [hx] using this
theorem cmp_Or_int_calls (xs : List Int) (hx : xs.length < 4611686018427387904) : ACalls Try.prog F.cmp_Or_int [.d (shI xs)] [] true (fun outs res => outs = [] ∧ res = [.one (D.int ((xs.find? (fun x => x ≠ 0)).getD 0))]) := by
  refine ACalls.of_body (C := C.cmp_Or_int) (n := Try.f136.ntmps) tabT folT Try.func136 rfl (by kernel_rfl) rfl (Nat.le_of_ble_eq_true rfl) (by decide) (by kernel_rfl) (by kernel_rfl) rfl (by simp) (by simp) ?_
  simp only [Try.f136]
  refine wseq ?_
  refine wreg fun K hK => ?_
  simp [C.cmp_Or_int]
  refine hK _ ?_; clear hK K
  show AWp _ _ _ _ _
  refine wseq ?_
  refine wreg fun K hK => ?_
  simp [C.cmp_Or_int]
  refine hK _ ?_; clear hK K
  show AWp _ _ _ _ _
  refine wseq ?_
  refine wseq ?_
  refine wreg fun K hK => ?_
  simp [C.cmp_Or_int]
  refine hK _ ?_; clear hK K
  show AWp _ _ _ _ _
  refine wblock ?_
  refine wloop (fun k : Nat => ⟨ofL [(3, .int 0), (6, .d (shI xs)), (7, .int xs.length), (8, FV.int k)], ofRO []⟩) (fun k => k ≤ xs.length ∧ ∀ x ∈ xs.take k, x = 0) (fun k => xs.length - k) 0 (by simp [C.cmp_Or_int]) (by simp) ?_
  intro x1 hx1 R1 hR1
  obtain ⟨hk, ht⟩ := hx1
  refine wseq ?_
  refine wreg fun K hK => ?_
  simp [C.cmp_Or_int]
  refine hK _ ?_; clear hK K
  show AWp _ _ _ _ _
  refine wseq ?_
  refine wcond _ rfl (fun hc1 => ?_) (fun hc1 => ?_)
  · have h1 : x1 < xs.length := by have := d_t hc1; omega
    refine wskip ?_
    show AWp _ _ _ _ _
    refine wseq ?_
    refine wblock ?_
    refine wseq ?_
    refine wreg fun K hK => ?_
    simp [C.cmp_Or_int, get_ints, h1]
    refine hK _ ?_; clear hK K
    show AWp _ _ _ _ _
    refine wseq ?_
    refine wreg fun K hK => ?_
    simp [C.cmp_Or_int]
    refine hK _ ?_; clear hK K
    show AWp _ _ _ _ _
    refine wcond _ rfl (fun hc2 => ?_) (fun hc2 => ?_)
    · have h2 : xs[x1] ≠ 0 := by simpa using hc2
      refine wseq ?_
      refine wreg fun K hK => ?_
      simp [C.cmp_Or_int]
      refine hK _ ?_; clear hK K
      show AWp _ _ _ _ _
      refine wret ?_
      simp [C.cmp_Or_int]
      have := orI xs x1 h1 ht h2
      simpa using this.symm
    · have h2 : xs[x1] = 0 := by simpa using hc2
      refine wskip ?_
      show AWp _ _ _ _ _
      refine wreg fun K hK => ?_
      simp [C.cmp_Or_int, wrap_succ (show x1 < 4611686018427387904 by omega)]
      refine hK _ ?_; clear hK K
      simp [C.cmp_Or_int]
      refine hR1 (x1 + 1) ⟨h1, ?_⟩ (by omega)
      rw [List.take_succ_eq_append_getElem h1]
      intro x hx
      rcases List.mem_append.1 hx with hx | hx
      · exact ht x hx
      · simp only [List.mem_singleton] at hx
        rw [hx, h2]
  · have h1 : x1 = xs.length := by have := d_f hc1; omega
    rw [h1, List.take_length] at ht
    refine wexit ?_
    show AWp _ _ _ _ _
    refine wseq ?_
    refine wreg fun K hK => ?_
    simp [C.cmp_Or_int]
    refine hK _ ?_; clear hK K
    show AWp _ _ _ _ _
    refine wret ?_
    simp [C.cmp_Or_int]
    rw [List.find?_eq_none.2 (fun x hx => by simp [ht x hx])]
    rfl
theorem or2 (a b : Int) : ACalls Try.prog F.cmp_Or_int [.d (.sh 1 2 [D.int a, D.int b])] [] true (fun outs res => outs = [] ∧ res = [.one (D.int (([a, b].find? (fun x => x ≠ 0)).getD 0))]) := cmp_Or_int_calls [a, b] (by simp)

theorem impl_descending_calls (a : List Int) (ah : Int) (b : List Int) (bh : Int) (ha : b.length < 4611686018427387904) : ACalls Try.prog F.impl_descending [.d (shI a), .int ah, .d (shI b), .int bh] [] true (fun outs res => outs = [] ∧ res = [.one (D.int (cmpQ a ah b bh))]) := by
  refine ACalls.of_body (C := C.impl_descending) (n := Try.f85.ntmps) tabT folT Try.func85 rfl (by kernel_rfl) rfl (Nat.le_of_ble_eq_true rfl) (by decide) (by kernel_rfl) (by kernel_rfl) rfl (by simp) (by simp) ?_
  simp only [Try.f85]
  refine wseq ?_
  refine wreg fun K hK => ?_
  simp [C.impl_descending]
  refine hK _ ?_; clear hK K
  show AWp _ _ _ _ _
  refine wseq ?_
  refine wregI ([0, 1, 2] ++ ([3, 4, 5] ++ ([6, 7] ++ ([8])))) rfl fun K hK => ?_
  refine opsI_seg fun L hL => ?_
  simp [C.impl_descending]
  refine wcall1 (slices_Compare_int_int_calls b a ha) (by simp) (by simp) ?_
  simp [C.impl_descending]
  refine hL _ ?_; clear hL L
  refine opsI_seg fun L hL => ?_
  simp [C.impl_descending]
  refine wcall1 (cmp_Compare_int_calls bh ah) (by simp) (by simp) ?_
  simp [C.impl_descending]
  refine hL _ ?_; clear hL L
  refine opsI_seg fun L hL => ?_
  simp [C.impl_descending]
  refine wcall1 (or2 (cmpL b a) (cmpI bh ah)) (by simp) (by simp) ?_
  simp [C.impl_descending]
  refine hL _ ?_; clear hL L
  refine opsI_end fun L hL => ?_
  simp [C.impl_descending]
  refine hL _ ?_; clear hL L
  simp [C.impl_descending]
  refine hK _ ?_; clear hK K
  show AWp _ _ _ _ _
  refine wret ?_
  simp [C.impl_descending]
  simp only [cmpQ]
  by_cases h : cmpL b a = 0
  · by_cases h2 : cmpI bh ah = 0 <;> simp [h, h2]
  · simp [h]

theorem spec_l8Less_calls (a b : Qtm) (ha : a.e.length < 4611686018427387904) (hb : b.e.length < 4611686018427387904) : ACalls Try.prog F.spec_l8Less [aQT a, aQT b] [] true (fun outs res => outs = [] ∧ res = [.one (D.bool (qlt (qk b) (qk a)))]) := by
  refine ACalls.of_body (C := C.spec_l8Less) (n := Try.f142.ntmps) tabT folT Try.func142 rfl (by kernel_rfl) rfl (Nat.le_of_ble_eq_true rfl) (by decide) (by kernel_rfl) (by kernel_rfl) rfl (by simp) (by simp) ?_
  simp only [Try.f142]
  refine wseq ?_
  refine wreg fun K hK => ?_
  simp [C.spec_l8Less]
  refine hK _ ?_; clear hK K
  show AWp _ _ _ _ _
  refine wseq ?_
  refine wseq ?_
  refine wregI ([0, 1, 2, 3, 4] ++ ([5])) rfl fun K hK => ?_
  refine opsI_seg fun L hL => ?_
  simp [C.spec_l8Less]
  refine wcall1 (spec_l1Same_calls a.e b.e ha) (by simp) (by simp) ?_
  simp [C.spec_l8Less]
  refine hL _ ?_; clear hL L
  refine opsI_end fun L hL => ?_
  simp [C.spec_l8Less]
  refine hL _ ?_; clear hL L
  simp [C.spec_l8Less]
  refine hK _ ?_; clear hK K
  show AWp _ _ _ _ _
  refine wcond _ rfl (fun hc1 => ?_) (fun hc1 => ?_)
  · have hc := nd_t hc1
    refine wseq ?_
    refine wregI ([0, 1, 2, 3, 4] ++ ([5])) rfl fun K hK => ?_
    refine opsI_seg fun L hL => ?_
    simp [C.spec_l8Less]
    refine wcall1 (spec_l1Less_calls b.e a.e hb) (by simp) (by simp) ?_
    simp [C.spec_l8Less]
    refine hL _ ?_; clear hL L
    refine opsI_end fun L hL => ?_
    simp [C.spec_l8Less]
    refine hL _ ?_; clear hL L
    simp [C.spec_l8Less]
    refine hK _ ?_; clear hK K
    show AWp _ _ _ _ _
    refine wret ?_
    simp [C.spec_l8Less, qlt, qk, Ne.symm hc]
  · have hc := nd_f hc1
    refine wskip ?_
    show AWp _ _ _ _ _
    refine wseq ?_
    refine wreg fun K hK => ?_
    simp [C.spec_l8Less]
    refine hK _ ?_; clear hK K
    show AWp _ _ _ _ _
    refine wret ?_
    simp [C.spec_l8Less, qlt, qk, hc]

end Go.Proofs.Ytocknokodgnlbaa.Ab
namespace Go.Proofs.Ytocknokodgnlbaa.Ab
open Go
set_option linter.unusedSimpArgs false
set_option linter.unusedVariables false
set_option maxRecDepth 10000
set_option maxHeartbeats 2000000
theorem spec_QSumOk_calls (f : Qsm) (hx : f.ts.length < 4611686018427387904) (hxe : ∀ t ∈ f.ts, t.e.length < 4611686018427387904) : ACalls Try.prog F.spec_QSumOk [aQ f] [] true (fun outs res => outs = [] ∧ res = [.one (D.bool (decide (QRight f)))]) := by
  refine ACalls.of_body (C := C.spec_QSumOk) (n := Try.f138.ntmps) tabT folT Try.func138 rfl (by kernel_rfl) rfl (Nat.le_of_ble_eq_true rfl) (by decide) (by kernel_rfl) (by kernel_rfl) rfl (by simp) (by simp) ?_
  simp only [Try.f138]
  refine wseq ?_
  refine wreg fun K hK => ?_
  simp [C.spec_QSumOk, qS, qtS]
  refine hK _ ?_; clear hK K
  show AWp _ _ _ _ _
  refine wseq ?_
  refine wseq ?_
  refine wregI ([0, 1, 2] ++ ([3, 4, 5, 6, 7, 8, 9])) rfl fun K hK => ?_
  have hJ : K ⟨ofL [(1, .pt (1, 0) [] 0), (15, .bool (decide (¬ (1 ≤ f.v ∧ f.v ≤ 8) ∨ 600 < (f.ts.length : Int))))], ofRO [((1, 0), some (.bx (qS f)))]⟩ := by
    refine hK _ ?_; clear hK K
    show AWp _ _ _ _ _
    refine wcond _ rfl (fun hc1 => ?_) (fun hc1 => ?_)
    · have hh := d_t hc1
      refine wseq ?_
      refine wreg fun K hK => ?_
      simp [C.spec_QSumOk, qS, qtS]
      refine hK _ ?_; clear hK K
      show AWp _ _ _ _ _
      refine wret ?_
      simp [C.spec_QSumOk, qS, qtS]
      intro hr; have := hr.1; have := hr.2.1; omega
    · have hh0 := d_f hc1
      have hh : (1 ≤ f.v ∧ f.v ≤ 8) ∧ f.ts.length ≤ 600 := by omega
      refine wskip ?_
      show AWp _ _ _ _ _
      refine wseq ?_
      refine wseq ?_
      refine wreg fun K hK => ?_
      simp [C.spec_QSumOk, qS, qtS]
      refine hK _ ?_; clear hK K
      show AWp _ _ _ _ _
      refine wblock ?_
      refine wloop (fun k : Nat => ⟨ofL [(1, .pt (1, 0) [] 0), (3, .int k)], ofRO [((1, 0), some (.bx (qS f)))]⟩) (fun k => k ≤ f.ts.length ∧ (∀ t ∈ f.ts.take k, QGood f.v t) ∧ DescQ (f.ts.take k)) (fun k => f.ts.length - k) 0 (by simp [C.spec_QSumOk, qS]) (by simp [DescQ]) ?_
      intro x1 hx1 R1 hR1
      obtain ⟨hk, hgood, hdesc⟩ := hx1
      refine wseq ?_
      refine wseq ?_
      refine wreg fun K hK => ?_
      simp [C.spec_QSumOk, qS, qtS]
      refine hK _ ?_; clear hK K
      show AWp _ _ _ _ _
      refine wcond _ rfl (fun hc2 => ?_) (fun hc2 => ?_)
      · have h1 : x1 < f.ts.length := by simpa using hc2
        refine wskip ?_
        show AWp _ _ _ _ _
        refine wseq ?_
        refine wblock ?_
        refine wseq ?_
        refine wreg fun K hK => ?_
        simp [C.spec_QSumOk, qS, qtS, h1, qtS_0 h1, qtS_1 h1, qtS_2 h1]
        refine hK _ ?_; clear hK K
        show AWp _ _ _ _ _
        refine wseq ?_
        refine wseq ?_
        have hp : 0 < x1 → x1 - 1 < f.ts.length := by omega
        refine wdrawI [(true, 0), (true, 1), (true, 2), (true, 3), (true, 4), (true, 5), (true, 6), (true, 7), (true, 8), (true, 9), (true, 10), (true, 11), (true, 12), (true, 13), (false, 14), (true, 15), (true, 16), (true, 17), (true, 18), (true, 19), (false, 20), (true, 21), (true, 22), (true, 23), (true, 24), (true, 25), (true, 26), (true, 27), (true, 28), (true, 29), (true, 30), (true, 31), (true, 32), (true, 33), (false, 34), (true, 35), (true, 36), (true, 37)] ⟨by kernel_rfl, by kernel_rfl⟩ ([0, 1, 2, 3, 4, 5, 6, 7, 8, 9, 10, 11, 12, 13, 14] ++ ([15, 16, 17, 18, 19, 20] ++ ([21, 22, 23, 24, 25, 26, 27, 28, 29, 30, 31, 32, 33, 34] ++ ([35, 36, 37])))) rfl fun K hK => ?_
        have hJ : K ⟨ofL [(1, .pt (1, 0) [] 0), (3, .int x1), (4, .pt (4, 0) [] 0), (65, .bool (!decide ((f.ts[x1].e.length : Int) = f.v ∧ f.ts[x1].c ≠ 0 ∧ (-1000000 ≤ f.ts[x1].c ∧ f.ts[x1].c ≤ 1000000) ∧ (-200 ≤ f.ts[x1].h ∧ f.ts[x1].h ≤ 200) ∧ (x1 = 0 ∨ qlt (qk f.ts[x1]) (qk f.ts[x1 - 1]) = true))))], ofRO [((1, 0), some (.bx (qS f))), ((4, 0), some (.bx (qtS f.ts[x1])))]⟩ := by
          refine hK _ ?_; clear hK K
          show AWp _ _ _ _ _
          refine wcond _ rfl (fun hc3 => ?_) (fun hc3 => ?_)
          · have hb := nd_t hc3
            refine wseq ?_
            refine wreg fun K hK => ?_
            simp [C.spec_QSumOk, qS, qtS]
            refine hK _ ?_; clear hK K
            show AWp _ _ _ _ _
            refine wret ?_
            simp [C.spec_QSumOk, qS, qtS]
            intro hr
            have hg := hr.2.2.1 _ (List.getElem_mem h1)
            exact hb ⟨hg.1, hg.2.1, hg.2.2.1, hg.2.2.2.1, descQ_next h1 hr.2.2.2⟩
          · have hb := nd_f hc3
            refine wskip ?_
            show AWp _ _ _ _ _
            refine wseq ?_
            refine wreg fun K hK => ?_
            simp [C.spec_QSumOk, qS, qtS]
            refine hK _ ?_; clear hK K
            show AWp _ _ _ _ _
            refine wblock ?_
            refine wloop (fun i : Nat => ⟨ofL [(1, .pt (1, 0) [] 0), (3, .int x1), (4, .pt (4, 0) [] 0), (5, .int i)], ofRO [((1, 0), some (.bx (qS f))), ((4, 0), some (.bx (qtS f.ts[x1])))]⟩) (fun i => i ≤ f.ts[x1].e.length ∧ ∀ x ∈ f.ts[x1].e.take i, -20 ≤ x ∧ x ≤ 20) (fun i => f.ts[x1].e.length - i) 0 (by simp [C.spec_QSumOk, qS, qtS]) (by simp) ?_
            intro x2 hx2 R2 hR2
            obtain ⟨hi, hin⟩ := hx2
            refine wseq ?_
            refine wseq ?_
            refine wreg fun K hK => ?_
            simp [C.spec_QSumOk, qS, qtS]
            refine hK _ ?_; clear hK K
            show AWp _ _ _ _ _
            refine wcond _ rfl (fun hc4 => ?_) (fun hc4 => ?_)
            · have h2 : x2 < f.ts[x1].e.length := by have := d_t hc4; omega
              refine wskip ?_
              show AWp _ _ _ _ _
              refine wseq ?_
              refine wblock ?_
              refine wseq ?_
              refine wregI ([0, 1, 2, 3, 4, 5] ++ ([6])) rfl fun K hK => ?_
              refine opsI_seg fun L hL => ?_
              simp [C.spec_QSumOk, qS, qtS, h1, h2, get_ints]
              refine wcall1 (spec_l1In_calls f.ts[x1].e[x2] (-20) 20) (by simp) (by simp) ?_
              simp [C.spec_QSumOk, qS, qtS, h1, h2, get_ints]
              refine hL _ ?_; clear hL L
              refine opsI_end fun L hL => ?_
              simp [C.spec_QSumOk, qS, qtS, h1, h2, get_ints]
              refine hL _ ?_; clear hL L
              simp [C.spec_QSumOk, qS, qtS, h1, h2, get_ints]
              refine hK _ ?_; clear hK K
              show AWp _ _ _ _ _
              refine wcond _ rfl (fun hc5 => ?_) (fun hc5 => ?_)
              · have hb2 : ¬ (-20 ≤ f.ts[x1].e[x2] ∧ f.ts[x1].e[x2] ≤ 20) := by simp at hc5; omega
                refine wseq ?_
                refine wreg fun K hK => ?_
                simp [C.spec_QSumOk, qS, qtS]
                refine hK _ ?_; clear hK K
                show AWp _ _ _ _ _
                refine wret ?_
                simp [C.spec_QSumOk, qS, qtS]
                intro hr
                exact hb2 ((hr.2.2.1 _ (List.getElem_mem h1)).2.2.2.2 _ (List.getElem_mem h2))
              · have hb2 : -20 ≤ f.ts[x1].e[x2] ∧ f.ts[x1].e[x2] ≤ 20 := by simpa using hc5
                refine wskip ?_
                show AWp _ _ _ _ _
                refine wreg fun K hK => ?_
                simp [C.spec_QSumOk, qS, qtS, wrap_succ (show x2 < 4611686018427387904 by have := hxe _ (List.getElem_mem h1); omega)]
                refine hK _ ?_; clear hK K
                simp [C.spec_QSumOk, qS, qtS]
                refine hR2 (x2 + 1) ⟨h2, ?_⟩ (by omega)
                rw [List.take_succ_eq_append_getElem h2]
                intro x hx
                rcases List.mem_append.1 hx with hx | hx
                · exact hin x hx
                · simp only [List.mem_singleton] at hx
                  rw [hx]
                  exact hb2
            · have h2 : x2 = f.ts[x1].e.length := by have := d_f hc4; omega
              refine wexit ?_
              show AWp _ _ _ _ _
              refine wreg fun K hK => ?_
              simp [C.spec_QSumOk, qS, qtS, wrap_succ (show x1 < 4611686018427387904 by omega)]
              refine hK _ ?_; clear hK K
              simp [C.spec_QSumOk, qS, qtS]
              refine hR1 (x1 + 1) ⟨h1, ?_, descQ_step h1 hdesc hb.2.2.2.2⟩ (by omega)
              rw [List.take_succ_eq_append_getElem h1]
              intro t ht
              rcases List.mem_append.1 ht with ht | ht
              · exact hgood t ht
              · simp only [List.mem_singleton] at ht
                rw [ht]
                refine ⟨hb.1, hb.2.1, hb.2.2.1, hb.2.2.2.1, ?_⟩
                rw [h2, List.take_length] at hin
                exact hin
        clear hK
        by_cases ha : (f.ts[x1].e.length : Int) = f.v
        · by_cases hb : f.ts[x1].c = 0
          · refine opsI_seg fun L hL => ?_
            simp [C.spec_QSumOk, qS, qtS, ha, hb]
            refine hL _ ?_; clear hL L
            refine opsI_seg fun L hL => ?_
            simp [C.spec_QSumOk, qS, qtS, ha, hb]
            refine hL _ ?_; clear hL L
            refine opsI_seg fun L hL => ?_
            simp [C.spec_QSumOk, qS, qtS, ha, hb]
            refine hL _ ?_; clear hL L
            refine opsI_end fun L hL => ?_
            simp [C.spec_QSumOk, qS, qtS, ha, hb]
            refine hL _ ?_; clear hL L
            simp [C.spec_QSumOk, qS, qtS, ha, hb]
            refine cast (congrArg K ?_) hJ
            simp [qS, qtS, ha, hb]
          · by_cases hc : -1000000 ≤ f.ts[x1].c ∧ f.ts[x1].c ≤ 1000000
            · by_cases he : -200 ≤ f.ts[x1].h ∧ f.ts[x1].h ≤ 200
              · by_cases hd : 0 < x1
                · obtain ⟨m, rfl⟩ : ∃ m, x1 = m + 1 := ⟨x1 - 1, by omega⟩
                  have hm : m < f.ts.length := by omega
                  refine opsI_seg fun L hL => ?_
                  simp [C.spec_QSumOk, qS, qtS, hm, qtS_0 hm, qtS_1 hm, qtS_2 hm, wrap_nat (show m < 4611686018427387904 by omega), ha, hb, hc, he, hd]
                  refine wcall1 (spec_l1In_calls f.ts[m + 1].c (-1000000) 1000000) (by simp) (by simp) ?_
                  simp [C.spec_QSumOk, qS, qtS, hm, qtS_0 hm, qtS_1 hm, qtS_2 hm, wrap_nat (show m < 4611686018427387904 by omega), ha, hb, hc, he, hd]
                  refine hL _ ?_; clear hL L
                  refine opsI_seg fun L hL => ?_
                  simp [C.spec_QSumOk, qS, qtS, hm, qtS_0 hm, qtS_1 hm, qtS_2 hm, wrap_nat (show m < 4611686018427387904 by omega), ha, hb, hc, he, hd]
                  refine wcall1 (spec_l1In_calls f.ts[m + 1].h (-200) 200) (by simp) (by simp) ?_
                  simp [C.spec_QSumOk, qS, qtS, hm, qtS_0 hm, qtS_1 hm, qtS_2 hm, wrap_nat (show m < 4611686018427387904 by omega), ha, hb, hc, he, hd]
                  refine hL _ ?_; clear hL L
                  refine opsI_seg fun L hL => ?_
                  simp [C.spec_QSumOk, qS, qtS, hm, qtS_0 hm, qtS_1 hm, qtS_2 hm, wrap_nat (show m < 4611686018427387904 by omega), ha, hb, hc, he, hd]
                  refine wcall1 (spec_l8Less_calls f.ts[m] f.ts[m + 1] (hxe _ (List.getElem_mem hm)) (hxe _ (List.getElem_mem h1))) (by simp) (by simp) ?_
                  simp [C.spec_QSumOk, qS, qtS, hm, qtS_0 hm, qtS_1 hm, qtS_2 hm, wrap_nat (show m < 4611686018427387904 by omega), ha, hb, hc, he, hd]
                  refine hL _ ?_; clear hL L
                  refine opsI_end fun L hL => ?_
                  simp [C.spec_QSumOk, qS, qtS, hm, qtS_0 hm, qtS_1 hm, qtS_2 hm, wrap_nat (show m < 4611686018427387904 by omega), ha, hb, hc, he, hd]
                  refine hL _ ?_; clear hL L
                  simp [C.spec_QSumOk, qS, qtS, hm, qtS_0 hm, qtS_1 hm, qtS_2 hm, wrap_nat (show m < 4611686018427387904 by omega), ha, hb, hc, he, hd]
                  refine cast (congrArg K ?_) hJ
                  simp [qS, qtS, ha, hb, hc, he, hd]
                · obtain rfl : x1 = 0 := by omega
                  refine opsI_seg fun L hL => ?_
                  simp [C.spec_QSumOk, qS, qtS, ha, hb, hc, he, hd]
                  refine wcall1 (spec_l1In_calls f.ts[0].c (-1000000) 1000000) (by simp) (by simp) ?_
                  simp [C.spec_QSumOk, qS, qtS, ha, hb, hc, he, hd]
                  refine hL _ ?_; clear hL L
                  refine opsI_seg fun L hL => ?_
                  simp [C.spec_QSumOk, qS, qtS, ha, hb, hc, he, hd]
                  refine wcall1 (spec_l1In_calls f.ts[0].h (-200) 200) (by simp) (by simp) ?_
                  simp [C.spec_QSumOk, qS, qtS, ha, hb, hc, he, hd]
                  refine hL _ ?_; clear hL L
                  refine opsI_seg fun L hL => ?_
                  simp [C.spec_QSumOk, qS, qtS, ha, hb, hc, he, hd]
                  refine hL _ ?_; clear hL L
                  refine opsI_end fun L hL => ?_
                  simp [C.spec_QSumOk, qS, qtS, ha, hb, hc, he, hd]
                  refine hL _ ?_; clear hL L
                  simp [C.spec_QSumOk, qS, qtS, ha, hb, hc, he, hd]
                  refine cast (congrArg K ?_) hJ
                  simp [qS, qtS, ha, hb, hc, he, hd]
              · refine opsI_seg fun L hL => ?_
                simp [C.spec_QSumOk, qS, qtS, ha, hb, hc, he]
                refine wcall1 (spec_l1In_calls f.ts[x1].c (-1000000) 1000000) (by simp) (by simp) ?_
                simp [C.spec_QSumOk, qS, qtS, ha, hb, hc, he]
                refine hL _ ?_; clear hL L
                refine opsI_seg fun L hL => ?_
                simp [C.spec_QSumOk, qS, qtS, ha, hb, hc, he]
                refine wcall1 (spec_l1In_calls f.ts[x1].h (-200) 200) (by simp) (by simp) ?_
                simp [C.spec_QSumOk, qS, qtS, ha, hb, hc, he]
                refine hL _ ?_; clear hL L
                refine opsI_seg fun L hL => ?_
                simp [C.spec_QSumOk, qS, qtS, ha, hb, hc, he]
                refine hL _ ?_; clear hL L
                refine opsI_end fun L hL => ?_
                simp [C.spec_QSumOk, qS, qtS, ha, hb, hc, he]
                refine hL _ ?_; clear hL L
                simp [C.spec_QSumOk, qS, qtS, ha, hb, hc, he]
                refine cast (congrArg K ?_) hJ
                simp [qS, qtS, ha, hb, hc, he]
            · refine opsI_seg fun L hL => ?_
              simp [C.spec_QSumOk, qS, qtS, ha, hb, hc]
              refine wcall1 (spec_l1In_calls f.ts[x1].c (-1000000) 1000000) (by simp) (by simp) ?_
              simp [C.spec_QSumOk, qS, qtS, ha, hb, hc]
              refine hL _ ?_; clear hL L
              refine opsI_seg fun L hL => ?_
              simp [C.spec_QSumOk, qS, qtS, ha, hb, hc]
              refine hL _ ?_; clear hL L
              refine opsI_seg fun L hL => ?_
              simp [C.spec_QSumOk, qS, qtS, ha, hb, hc]
              refine hL _ ?_; clear hL L
              refine opsI_end fun L hL => ?_
              simp [C.spec_QSumOk, qS, qtS, ha, hb, hc]
              refine hL _ ?_; clear hL L
              simp [C.spec_QSumOk, qS, qtS, ha, hb, hc]
              refine cast (congrArg K ?_) hJ
              simp [qS, qtS, ha, hb, hc]
        · refine opsI_seg fun L hL => ?_
          simp [C.spec_QSumOk, qS, qtS, ha]
          refine hL _ ?_; clear hL L
          refine opsI_seg fun L hL => ?_
          simp [C.spec_QSumOk, qS, qtS, ha]
          refine hL _ ?_; clear hL L
          refine opsI_seg fun L hL => ?_
          simp [C.spec_QSumOk, qS, qtS, ha]
          refine hL _ ?_; clear hL L
          refine opsI_end fun L hL => ?_
          simp [C.spec_QSumOk, qS, qtS, ha]
          refine hL _ ?_; clear hL L
          simp [C.spec_QSumOk, qS, qtS, ha]
          refine cast (congrArg K ?_) hJ
          simp [qS, qtS, ha]
      · have h2 : x1 = f.ts.length := by have := d_f hc2; omega
        refine wexit ?_
        show AWp _ _ _ _ _
        refine wseq ?_
        refine wreg fun K hK => ?_
        simp [C.spec_QSumOk, qS, qtS]
        refine hK _ ?_; clear hK K
        show AWp _ _ _ _ _
        refine wret ?_
        simp [C.spec_QSumOk, qS, qtS]
        rw [h2, List.take_length] at hgood hdesc
        exact ⟨hh.1, hh.2, hgood, hdesc⟩
  clear hK
  by_cases ha : 1 ≤ f.v ∧ f.v ≤ 8
  · refine opsI_seg fun L hL => ?_
    simp [C.spec_QSumOk, qS, qtS, ha]
    refine wcall1 (spec_l1In_calls f.v 1 8) (by simp) (by simp) ?_
    simp [C.spec_QSumOk, qS, qtS, ha]
    refine hL _ ?_; clear hL L
    refine opsI_end fun L hL => ?_
    simp [C.spec_QSumOk, qS, qtS, ha]
    refine hL _ ?_; clear hL L
    simp [C.spec_QSumOk, qS, qtS, ha]
    refine cast (congrArg K ?_) hJ
    simp [qS, qtS, ha]
  · refine opsI_seg fun L hL => ?_
    simp [C.spec_QSumOk, qS, qtS, ha]
    refine wcall1 (spec_l1In_calls f.v 1 8) (by simp) (by simp) ?_
    simp [C.spec_QSumOk, qS, qtS, ha]
    refine hL _ ?_; clear hL L
    refine opsI_end fun L hL => ?_
    simp [C.spec_QSumOk, qS, qtS, ha]
    refine hL _ ?_; clear hL L
    simp [C.spec_QSumOk, qS, qtS, ha]
    refine cast (congrArg K ?_) hJ
    simp [qS, qtS, ha]

theorem impl_QSumOk_calls (f : Qsm) (hx : f.ts.length < 4611686018427387904) (hxe : ∀ t ∈ f.ts, t.e.length < 4611686018427387904) : ACalls Try.prog F.impl_QSumOk [aQ f] [] true (fun outs res => outs = [] ∧ res = [.one (D.bool (decide (QRight f)))]) := by
  refine ACalls.of_body (C := C.impl_QSumOk) (n := Try.f83.ntmps) tabT folT Try.func83 rfl (by kernel_rfl) rfl (Nat.le_of_ble_eq_true rfl) (by decide) (by kernel_rfl) (by kernel_rfl) rfl (by simp) (by simp) ?_
  simp only [Try.f83]
  refine wseq ?_
  refine wreg fun K hK => ?_
  simp [C.impl_QSumOk, qS, qtS]
  refine hK _ ?_; clear hK K
  show AWp _ _ _ _ _
  refine wseq ?_
  refine wseq ?_
  refine wregI ([0, 1, 2] ++ ([3, 4, 5, 6, 7, 8, 9])) rfl fun K hK => ?_
  have hJ : K ⟨ofL [(1, .pt (1, 0) [] 0), (14, .bool (decide (¬ (1 ≤ f.v ∧ f.v ≤ 8) ∨ 600 < (f.ts.length : Int))))], ofRO [((1, 0), some (.bx (qS f)))]⟩ := by
    refine hK _ ?_; clear hK K
    show AWp _ _ _ _ _
    refine wcond _ rfl (fun hc1 => ?_) (fun hc1 => ?_)
    · have hh := d_t hc1
      refine wseq ?_
      refine wreg fun K hK => ?_
      simp [C.impl_QSumOk, qS, qtS]
      refine hK _ ?_; clear hK K
      show AWp _ _ _ _ _
      refine wret ?_
      simp [C.impl_QSumOk, qS, qtS]
      intro hr; have := hr.1; have := hr.2.1; omega
    · have hh0 := d_f hc1
      have hh : (1 ≤ f.v ∧ f.v ≤ 8) ∧ f.ts.length ≤ 600 := by omega
      refine wskip ?_
      show AWp _ _ _ _ _
      refine wseq ?_
      refine wseq ?_
      refine wreg fun K hK => ?_
      simp [C.impl_QSumOk, qS, qtS]
      refine hK _ ?_; clear hK K
      show AWp _ _ _ _ _
      refine wblock ?_
      refine wloop (fun k : Nat => ⟨ofL [(1, .pt (1, 0) [] 0), (16, .d (.sh 3 f.ts.length (rows qtS f.ts))), (17, .int f.ts.length), (18, .int k)], ofRO [((1, 0), some (.bx (qS f)))]⟩) (fun k => k ≤ f.ts.length ∧ (∀ t ∈ f.ts.take k, QGood f.v t) ∧ DescQ (f.ts.take k)) (fun k => f.ts.length - k) 0 (by simp [C.impl_QSumOk, qS]) (by simp [DescQ]) ?_
      intro x1 hx1 R1 hR1
      obtain ⟨hk, hgood, hdesc⟩ := hx1
      refine wseq ?_
      refine wreg fun K hK => ?_
      simp [C.impl_QSumOk, qS, qtS]
      refine hK _ ?_; clear hK K
      show AWp _ _ _ _ _
      refine wseq ?_
      refine wcond _ rfl (fun hc2 => ?_) (fun hc2 => ?_)
      · have h1 : x1 < f.ts.length := by have := d_t hc2; omega
        refine wskip ?_
        show AWp _ _ _ _ _
        refine wseq ?_
        refine wblock ?_
        refine wseq ?_
        refine wreg fun K hK => ?_
        simp [C.impl_QSumOk, qS, qtS, h1, qtS_0 h1, qtS_1 h1, qtS_2 h1]
        refine hK _ ?_; clear hK K
        show AWp _ _ _ _ _
        refine wseq ?_
        refine wseq ?_
        refine wregI ([0, 1, 2, 3, 4] ++ ([5, 6, 7, 8, 9] ++ ([10, 11, 12, 13, 14, 15] ++ ([16, 17])))) rfl fun K hK => ?_
        have hJ : K ⟨ofL [(1, .pt (1, 0) [] 0), (3, .int x1), (4, .pt (4, 0) [] 0), (16, .d (.sh 3 f.ts.length (rows qtS f.ts))), (17, .int f.ts.length), (18, .int x1), (40, .bool (!decide (okE f.ts[x1].e f.v = true ∧ (-200 ≤ f.ts[x1].h ∧ f.ts[x1].h ≤ 200) ∧ (f.ts[x1].c ≠ 0 ∧ -1000000 ≤ f.ts[x1].c ∧ f.ts[x1].c ≤ 1000000))))], ofRO [((1, 0), some (.bx (qS f))), ((4, 0), some (.bx (qtS f.ts[x1])))]⟩ := by
          refine hK _ ?_; clear hK K
          show AWp _ _ _ _ _
          refine wcond _ rfl (fun hc3 => ?_) (fun hc3 => ?_)
          · have hb := nd_t hc3
            refine wseq ?_
            refine wreg fun K hK => ?_
            simp [C.impl_QSumOk, qS, qtS]
            refine hK _ ?_; clear hK K
            show AWp _ _ _ _ _
            refine wret ?_
            simp [C.impl_QSumOk, qS, qtS]
            intro hr
            have hg := hr.2.2.1 _ (List.getElem_mem h1)
            exact hb ⟨okE_iff.2 ⟨hg.1, hg.2.2.2.2⟩, hg.2.2.2.1, hg.2.1, hg.2.2.1⟩
          · have hb := nd_f hc3
            refine wskip ?_
            show AWp _ _ _ _ _
            refine wseq ?_
            have hp : 0 < x1 → x1 - 1 < f.ts.length := by omega
            refine wdrawI [(true, 0), (true, 1), (true, 2), (true, 3), (true, 4), (true, 5), (true, 6), (true, 7), (true, 8), (true, 9), (true, 10), (true, 11), (true, 12), (true, 13), (true, 14), (true, 15), (true, 16), (true, 17), (true, 18), (true, 19), (true, 20), (false, 21), (true, 22), (true, 23)] ⟨by kernel_rfl, by kernel_rfl⟩ ([0, 1, 2, 3, 4, 5, 6, 7, 8, 9, 10, 11, 12, 13, 14, 15, 16, 17, 18, 19, 20, 21] ++ ([22, 23])) rfl fun K hK => ?_
            have hJ : K ⟨ofL [(1, .pt (1, 0) [] 0), (16, .d (.sh 3 f.ts.length (rows qtS f.ts))), (17, .int f.ts.length), (18, .int x1), (64, .bool (!decide (x1 = 0 ∨ qlt (qk f.ts[x1]) (qk f.ts[x1 - 1]) = true)))], ofRO [((1, 0), some (.bx (qS f)))]⟩ := by
              refine hK _ ?_; clear hK K
              show AWp _ _ _ _ _
              refine wcond _ rfl (fun hc4 => ?_) (fun hc4 => ?_)
              · have hb2 := nd_t hc4
                refine wseq ?_
                refine wreg fun K hK => ?_
                simp [C.impl_QSumOk, qS, qtS]
                refine hK _ ?_; clear hK K
                show AWp _ _ _ _ _
                refine wret ?_
                simp [C.impl_QSumOk, qS, qtS]
                intro hr
                exact hb2 (descQ_next h1 hr.2.2.2)
              · have hb2 := nd_f hc4
                refine wskip ?_
                show AWp _ _ _ _ _
                refine wreg fun K hK => ?_
                simp [C.impl_QSumOk, qS, qtS, wrap_succ (show x1 < 4611686018427387904 by omega)]
                refine hK _ ?_; clear hK K
                simp [C.impl_QSumOk, qS, qtS]
                refine hR1 (x1 + 1) ⟨h1, ?_, descQ_step h1 hdesc hb2⟩ (by omega)
                rw [List.take_succ_eq_append_getElem h1]
                intro t ht
                rcases List.mem_append.1 ht with ht | ht
                · exact hgood t ht
                · simp only [List.mem_singleton] at ht
                  rw [ht]
                  have ho := okE_iff.1 hb.1
                  exact ⟨ho.1, hb.2.2.1, hb.2.2.2, hb.2.1, ho.2⟩
            clear hK
            by_cases hd : 0 < x1
            · obtain ⟨m, rfl⟩ : ∃ m, x1 = m + 1 := ⟨x1 - 1, by omega⟩
              have hm : m < f.ts.length := by omega
              refine opsI_seg fun L hL => ?_
              simp [C.impl_QSumOk, qS, qtS, hm, qtS_0 hm, qtS_1 hm, qtS_2 hm, wrap_nat (show m < 4611686018427387904 by omega), hd]
              refine wcall1 (impl_descending_calls f.ts[m].e f.ts[m].h f.ts[m + 1].e f.ts[m + 1].h (hxe _ (List.getElem_mem h1))) (by simp) (by simp) ?_
              simp [C.impl_QSumOk, qS, qtS, hm, qtS_0 hm, qtS_1 hm, qtS_2 hm, wrap_nat (show m < 4611686018427387904 by omega), hd]
              refine hL _ ?_; clear hL L
              refine opsI_end fun L hL => ?_
              simp [C.impl_QSumOk, qS, qtS, hm, qtS_0 hm, qtS_1 hm, qtS_2 hm, wrap_nat (show m < 4611686018427387904 by omega), hd]
              refine hL _ ?_; clear hL L
              simp [C.impl_QSumOk, qS, qtS, hm, qtS_0 hm, qtS_1 hm, qtS_2 hm, wrap_nat (show m < 4611686018427387904 by omega), hd]
              refine cast (congrArg K ?_) hJ
              simp [cmpQ_pos, qk, qS, qtS, hd]
            · obtain rfl : x1 = 0 := by omega
              refine opsI_seg fun L hL => ?_
              simp [C.impl_QSumOk, qS, qtS, hd]
              refine hL _ ?_; clear hL L
              refine opsI_end fun L hL => ?_
              simp [C.impl_QSumOk, qS, qtS, hd]
              refine hL _ ?_; clear hL L
              simp [C.impl_QSumOk, qS, qtS, hd]
              refine cast (congrArg K ?_) hJ
              simp [qS, qtS, hd]
        clear hK
        by_cases ha : okE f.ts[x1].e f.v = true
        · by_cases he : -200 ≤ f.ts[x1].h ∧ f.ts[x1].h ≤ 200
          · refine opsI_seg fun L hL => ?_
            simp [C.impl_QSumOk, qS, qtS, ha, he]
            refine wcall1 (impl_expOk_calls f.ts[x1].e f.v (hxe _ (List.getElem_mem h1))) (by simp) (by simp) ?_
            simp [C.impl_QSumOk, qS, qtS, ha, he]
            refine hL _ ?_; clear hL L
            refine opsI_seg fun L hL => ?_
            simp [C.impl_QSumOk, qS, qtS, ha, he]
            refine wcall1 (impl_within_calls f.ts[x1].h (-200) 200) (by simp) (by simp) ?_
            simp [C.impl_QSumOk, qS, qtS, ha, he]
            refine hL _ ?_; clear hL L
            refine opsI_seg fun L hL => ?_
            simp [C.impl_QSumOk, qS, qtS, ha, he]
            refine wcall1 (impl_coefOk_calls f.ts[x1].c) (by simp) (by simp) ?_
            simp [C.impl_QSumOk, qS, qtS, ha, he]
            refine hL _ ?_; clear hL L
            refine opsI_end fun L hL => ?_
            simp [C.impl_QSumOk, qS, qtS, ha, he]
            refine hL _ ?_; clear hL L
            simp [C.impl_QSumOk, qS, qtS, ha, he]
            refine cast (congrArg K ?_) hJ
            simp [qS, qtS, ha, he]
          · refine opsI_seg fun L hL => ?_
            simp [C.impl_QSumOk, qS, qtS, ha, he]
            refine wcall1 (impl_expOk_calls f.ts[x1].e f.v (hxe _ (List.getElem_mem h1))) (by simp) (by simp) ?_
            simp [C.impl_QSumOk, qS, qtS, ha, he]
            refine hL _ ?_; clear hL L
            refine opsI_seg fun L hL => ?_
            simp [C.impl_QSumOk, qS, qtS, ha, he]
            refine wcall1 (impl_within_calls f.ts[x1].h (-200) 200) (by simp) (by simp) ?_
            simp [C.impl_QSumOk, qS, qtS, ha, he]
            refine hL _ ?_; clear hL L
            refine opsI_seg fun L hL => ?_
            simp [C.impl_QSumOk, qS, qtS, ha, he]
            refine hL _ ?_; clear hL L
            refine opsI_end fun L hL => ?_
            simp [C.impl_QSumOk, qS, qtS, ha, he]
            refine hL _ ?_; clear hL L
            simp [C.impl_QSumOk, qS, qtS, ha, he]
            refine cast (congrArg K ?_) hJ
            simp [qS, qtS, ha, he]
        · refine opsI_seg fun L hL => ?_
          simp [C.impl_QSumOk, qS, qtS, ha]
          refine wcall1 (impl_expOk_calls f.ts[x1].e f.v (hxe _ (List.getElem_mem h1))) (by simp) (by simp) ?_
          simp [C.impl_QSumOk, qS, qtS, ha]
          refine hL _ ?_; clear hL L
          refine opsI_seg fun L hL => ?_
          simp [C.impl_QSumOk, qS, qtS, ha]
          refine hL _ ?_; clear hL L
          refine opsI_seg fun L hL => ?_
          simp [C.impl_QSumOk, qS, qtS, ha]
          refine hL _ ?_; clear hL L
          refine opsI_end fun L hL => ?_
          simp [C.impl_QSumOk, qS, qtS, ha]
          refine hL _ ?_; clear hL L
          simp [C.impl_QSumOk, qS, qtS, ha]
          refine cast (congrArg K ?_) hJ
          simp [qS, qtS, ha]
      · have h2 : x1 = f.ts.length := by have := d_f hc2; omega
        refine wexit ?_
        show AWp _ _ _ _ _
        refine wseq ?_
        refine wreg fun K hK => ?_
        simp [C.impl_QSumOk, qS, qtS]
        refine hK _ ?_; clear hK K
        show AWp _ _ _ _ _
        refine wret ?_
        simp [C.impl_QSumOk, qS, qtS]
        rw [h2, List.take_length] at hgood hdesc
        exact ⟨hh.1, hh.2, hgood, hdesc⟩
  clear hK
  by_cases ha : 1 ≤ f.v ∧ f.v ≤ 8
  · refine opsI_seg fun L hL => ?_
    simp [C.impl_QSumOk, qS, qtS, ha]
    refine wcall1 (impl_within_calls f.v 1 8) (by simp) (by simp) ?_
    simp [C.impl_QSumOk, qS, qtS, ha]
    refine hL _ ?_; clear hL L
    refine opsI_end fun L hL => ?_
    simp [C.impl_QSumOk, qS, qtS, ha]
    refine hL _ ?_; clear hL L
    simp [C.impl_QSumOk, qS, qtS, ha]
    refine cast (congrArg K ?_) hJ
    simp [qS, qtS, ha]
  · refine opsI_seg fun L hL => ?_
    simp [C.impl_QSumOk, qS, qtS, ha]
    refine wcall1 (impl_within_calls f.v 1 8) (by simp) (by simp) ?_
    simp [C.impl_QSumOk, qS, qtS, ha]
    refine hL _ ?_; clear hL L
    refine opsI_end fun L hL => ?_
    simp [C.impl_QSumOk, qS, qtS, ha]
    refine hL _ ?_; clear hL L
    simp [C.impl_QSumOk, qS, qtS, ha]
    refine cast (congrArg K ?_) hJ
    simp [qS, qtS, ha]

end Go.Proofs.Ytocknokodgnlbaa.Ab
namespace Go.Proofs.Ytocknokodgnlbaa.Ab
open Go
set_option linter.unusedSimpArgs false
set_option linter.unusedVariables false
set_option maxRecDepth 10000
set_option maxHeartbeats 2000000
def at2 (fm : List (List Int)) (i j : Nat) : Int := (fm.getD i []).getD j 0
theorem row_eq {fm : List (List Int)} {i : Nat} (h : i < fm.length) : fm.getD i [] = fm[i] := by simp [List.getD_eq_getElem?_getD, h]
theorem int_eq {a : List Int} {i : Nat} (h : i < a.length) : a.getD i 0 = a[i] := by simp [List.getD_eq_getElem?_getD, h]
theorem at2_eq {fm : List (List Int)} {i j : Nat} (h : i < fm.length) (h2 : j < fm[i].length) : at2 fm i j = fm[i][j] := by
  unfold at2
  rw [row_eq h, int_eq h2]
def Skp (fm : List (List Int)) (i j : Nat) : Prop := (-99 ≤ at2 fm i j ∧ at2 fm i j ≤ 99) ∧ at2 fm i j + at2 fm j i = 0
def FormOk (fm : List (List Int)) : Prop := (1 ≤ (fm.length : Int) ∧ (fm.length : Int) ≤ 8) ∧ (∀ i, i < fm.length → (fm.getD i []).length = fm.length) ∧ ∀ i, i < fm.length → ∀ j, j < fm.length → Skp fm i j
noncomputable instance (fm : List (List Int)) : Decidable (FormOk fm) := Classical.propDecidable _
def I64 (fm : List (List Int)) : Prop := ∀ r ∈ fm, ∀ x ∈ r, -9223372036854775808 ≤ x ∧ x ≤ 9223372036854775807
theorem wrap_zero {a b : Int} (ha : -99 ≤ a ∧ a ≤ 99) (hb : -9223372036854775808 ≤ b ∧ b ≤ 9223372036854775807) : IntKind.i64.wrap (a + b) = 0 ↔ a + b = 0 := by
  rw [IntKind.wrap_i64]
  omega
theorem wrap_neg {a b : Int} (ha : -99 ≤ a ∧ a ≤ 99) (hb : -9223372036854775808 ≤ b ∧ b ≤ 9223372036854775807) : a = IntKind.i64.wrap (-b) ↔ a + b = 0 := by
  rw [IntKind.wrap_i64]
  omega
theorem spec_l8Form_calls (fm : List (List Int)) (hx : fm.length < 4611686018427387904) (hI : I64 fm) : ACalls Try.prog F.spec_l8Form [.d (.sh 1 fm.length (rows lS fm))] [] true (fun outs res => outs = [] ∧ res = [.one (D.bool (decide (FormOk fm)))]) := by
  refine ACalls.of_body (C := C.spec_l8Form) (n := Try.f137.ntmps) tabT folT Try.func137 rfl (by kernel_rfl) rfl (Nat.le_of_ble_eq_true rfl) (by decide) (by kernel_rfl) (by kernel_rfl) rfl (by simp) (by simp) ?_
  simp only [Try.f137]
  refine wseq ?_
  refine wreg fun K hK => ?_
  simp [C.spec_l8Form]
  refine hK _ ?_; clear hK K
  show AWp _ _ _ _ _
  refine wseq ?_
  refine wreg fun K hK => ?_
  simp [C.spec_l8Form]
  refine hK _ ?_; clear hK K
  show AWp _ _ _ _ _
  refine wseq ?_
  refine wseq ?_
  refine wregI ([0, 1] ++ ([2])) rfl fun K hK => ?_
  refine opsI_seg fun L hL => ?_
  simp [C.spec_l8Form]
  refine wcall1 (spec_l1In_calls fm.length 1 8) (by simp) (by simp) ?_
  simp [C.spec_l8Form]
  refine hL _ ?_; clear hL L
  refine opsI_end fun L hL => ?_
  simp [C.spec_l8Form]
  refine hL _ ?_; clear hL L
  simp [C.spec_l8Form]
  refine hK _ ?_; clear hK K
  show AWp _ _ _ _ _
  refine wcond _ rfl (fun hc1 => ?_) (fun hc1 => ?_)
  · have hc : ¬ (1 ≤ (fm.length : Int) ∧ (fm.length : Int) ≤ 8) := by simp at hc1; omega
    refine wseq ?_
    refine wreg fun K hK => ?_
    simp [C.spec_l8Form]
    refine hK _ ?_; clear hK K
    show AWp _ _ _ _ _
    refine wret ?_
    simp [C.spec_l8Form]
    exact fun h => hc h.1
  · have hn : 1 ≤ (fm.length : Int) ∧ (fm.length : Int) ≤ 8 := by simp at hc1; omega
    refine wskip ?_
    show AWp _ _ _ _ _
    refine wseq ?_
    refine wseq ?_
    refine wreg fun K hK => ?_
    simp [C.spec_l8Form]
    refine hK _ ?_; clear hK K
    show AWp _ _ _ _ _
    refine wblock ?_
    refine wloop (fun x : Nat => ⟨ofL [(0, .d (.sh 1 fm.length (rows lS fm))), (3, .int fm.length), (4, .int x)], ofRO []⟩) (fun x => x ≤ fm.length ∧ ∀ i, i < x → (fm.getD i []).length = fm.length) (fun x => fm.length - x) 0 (by simp [C.spec_l8Form]) (by simp) ?_
    intro x1 hx1 R1 hR1
    obtain ⟨g1, g2⟩ := hx1
    refine wseq ?_
    refine wseq ?_
    refine wreg fun K hK => ?_
    simp [C.spec_l8Form]
    refine hK _ ?_; clear hK K
    show AWp _ _ _ _ _
    refine wcond _ rfl (fun hc2 => ?_) (fun hc2 => ?_)
    · have h1 : x1 < fm.length := by have := d_t hc2; omega
      refine wskip ?_
      show AWp _ _ _ _ _
      refine wseq ?_
      refine wblock ?_
      refine wseq ?_
      refine wreg fun K hK => ?_
      simp [C.spec_l8Form, h1, lS_0 h1]
      refine hK _ ?_; clear hK K
      show AWp _ _ _ _ _
      refine wcond _ rfl (fun hc3 => ?_) (fun hc3 => ?_)
      · have hb : ¬ fm[x1].length = fm.length := by intro e; simp [e] at hc3
        refine wseq ?_
        refine wreg fun K hK => ?_
        simp [C.spec_l8Form]
        refine hK _ ?_; clear hK K
        show AWp _ _ _ _ _
        refine wret ?_
        simp [C.spec_l8Form]
        exact fun h => hb (by have := h.2.1 x1 h1; rwa [row_eq h1] at this)
      · have hb : fm[x1].length = fm.length := by simp at hc3; omega
        refine wskip ?_
        show AWp _ _ _ _ _
        refine wreg fun K hK => ?_
        simp [C.spec_l8Form, wrap_succ (show x1 < 4611686018427387904 by omega)]
        refine hK _ ?_; clear hK K
        simp [C.spec_l8Form]
        refine hR1 (x1 + 1) ⟨h1, fun i hi => ?_⟩ (by omega)
        rcases Nat.lt_or_ge i x1 with q | q
        · exact g2 i q
        · obtain rfl : i = x1 := by omega
          rw [row_eq h1]
          exact hb
    · have h1 : x1 = fm.length := by have := d_f hc2; omega
      rw [h1] at g2
      have hrl : ∀ i (h : i < fm.length), fm[i].length = fm.length := fun i h => by have := g2 i h; rwa [row_eq h] at this
      refine wexit ?_
      show AWp _ _ _ _ _
      refine wseq ?_
      refine wseq ?_
      refine wreg fun K hK => ?_
      simp [C.spec_l8Form]
      refine hK _ ?_; clear hK K
      show AWp _ _ _ _ _
      refine wblock ?_
      refine wloop (fun x : Nat => ⟨ofL [(0, .d (.sh 1 fm.length (rows lS fm))), (3, .int fm.length), (5, .int x)], ofRO []⟩) (fun x => x ≤ fm.length ∧ ∀ i, i < x → ∀ j, j < fm.length → Skp fm i j) (fun x => fm.length - x) 0 (by simp [C.spec_l8Form]) (by simp) ?_
      intro x2 hx2 R2 hR2
      obtain ⟨g3, g4⟩ := hx2
      refine wseq ?_
      refine wseq ?_
      refine wreg fun K hK => ?_
      simp [C.spec_l8Form]
      refine hK _ ?_; clear hK K
      show AWp _ _ _ _ _
      refine wcond _ rfl (fun hc4 => ?_) (fun hc4 => ?_)
      · have h2 : x2 < fm.length := by have := d_t hc4; omega
        refine wskip ?_
        show AWp _ _ _ _ _
        refine wseq ?_
        refine wblock ?_
        refine wseq ?_
        refine wreg fun K hK => ?_
        simp [C.spec_l8Form]
        refine hK _ ?_; clear hK K
        show AWp _ _ _ _ _
        refine wblock ?_
        refine wloop (fun x : Nat => ⟨ofL [(0, .d (.sh 1 fm.length (rows lS fm))), (3, .int fm.length), (5, .int x2), (6, .int x)], ofRO []⟩) (fun x => x ≤ fm.length ∧ ∀ j, j < x → Skp fm x2 j) (fun x => fm.length - x) 0 (by simp [C.spec_l8Form]) (by simp) ?_
        intro x3 hx3 R3 hR3
        obtain ⟨g5, g6⟩ := hx3
        refine wseq ?_
        refine wseq ?_
        refine wreg fun K hK => ?_
        simp [C.spec_l8Form]
        refine hK _ ?_; clear hK K
        show AWp _ _ _ _ _
        refine wcond _ rfl (fun hc5 => ?_) (fun hc5 => ?_)
        · have h3 : x3 < fm.length := by have := d_t hc5; omega
          have h23 : x3 < fm[x2].length := by rw [hrl x2 h2]; exact h3
          have h32 : x2 < fm[x3].length := by rw [hrl x3 h3]; exact h2
          have hi2 := hI _ (List.getElem_mem h2) _ (List.getElem_mem h23)
          have hi3 := hI _ (List.getElem_mem h3) _ (List.getElem_mem h32)
          have hsk : Skp fm x2 x3 ↔ (-99 ≤ fm[x2][x3] ∧ fm[x2][x3] ≤ 99) ∧ fm[x2][x3] + fm[x3][x2] = 0 := by unfold Skp; rw [at2_eq h2 h23, at2_eq h3 h32]
          refine wskip ?_
          show AWp _ _ _ _ _
          refine wseq ?_
          refine wblock ?_
          refine wseq ?_
          refine wdrawI [(true, 0), (true, 1), (true, 2), (true, 3), (true, 4), (true, 5), (true, 6), (false, 7), (true, 8), (true, 9), (true, 10), (true, 11), (true, 12), (true, 13), (true, 14), (true, 15), (true, 16), (true, 17), (true, 18), (true, 19), (true, 20), (true, 21), (true, 22), (true, 23), (true, 24), (true, 25), (true, 26)] ⟨by kernel_rfl, by kernel_rfl⟩ ([0, 1, 2, 3, 4, 5, 6, 7] ++ ([8, 9, 10, 11, 12, 13, 14, 15, 16, 17, 18, 19, 20, 21, 22, 23, 24, 25, 26])) rfl fun K hK => ?_
          have hJ : K ⟨ofL [(0, .d (.sh 1 fm.length (rows lS fm))), (3, .int fm.length), (5, .int x2), (6, .int x3), (60, .bool (!decide ((-99 ≤ fm[x2][x3] ∧ fm[x2][x3] ≤ 99) ∧ fm[x2][x3] + fm[x3][x2] = 0)))], ofRO []⟩ := by
            refine hK _ ?_; clear hK K
            show AWp _ _ _ _ _
            refine wcond _ rfl (fun hc6 => ?_) (fun hc6 => ?_)
            · have hb := nd_t hc6
              refine wseq ?_
              refine wreg fun K hK => ?_
              simp [C.spec_l8Form]
              refine hK _ ?_; clear hK K
              show AWp _ _ _ _ _
              refine wret ?_
              simp [C.spec_l8Form]
              exact fun h => hb (hsk.1 (h.2.2 x2 h2 x3 h3))
            · have hb := nd_f hc6
              refine wskip ?_
              show AWp _ _ _ _ _
              refine wreg fun K hK => ?_
              simp [C.spec_l8Form, wrap_succ (show x3 < 4611686018427387904 by omega)]
              refine hK _ ?_; clear hK K
              simp [C.spec_l8Form]
              refine hR3 (x3 + 1) ⟨h3, fun j hj => ?_⟩ (by omega)
              rcases Nat.lt_or_ge j x3 with q | q
              · exact g6 j q
              · obtain rfl : j = x3 := by omega
                exact hsk.2 hb
          clear hK
          by_cases ha : -99 ≤ fm[x2][x3] ∧ fm[x2][x3] ≤ 99
          · refine opsI_seg fun L hL => ?_
            simp [C.spec_l8Form, h2, h3, lS_0 h2, lS_0 h3, get_ints, h23, h32, ha]
            refine wcall1 (spec_l1In_calls fm[x2][x3] (-99) 99) (by simp) (by simp) ?_
            simp [C.spec_l8Form, h2, h3, lS_0 h2, lS_0 h3, get_ints, h23, h32, ha]
            refine hL _ ?_; clear hL L
            refine opsI_end fun L hL => ?_
            simp [C.spec_l8Form, h2, h3, lS_0 h2, lS_0 h3, get_ints, h23, h32, ha]
            refine hL _ ?_; clear hL L
            simp [C.spec_l8Form, h2, h3, lS_0 h2, lS_0 h3, get_ints, h23, h32, ha]
            refine cast (congrArg K ?_) hJ
            simp [wrap_zero ha hi3, ibne, ha]
          · refine opsI_seg fun L hL => ?_
            simp [C.spec_l8Form, h2, h3, lS_0 h2, lS_0 h3, get_ints, h23, h32, ha]
            refine wcall1 (spec_l1In_calls fm[x2][x3] (-99) 99) (by simp) (by simp) ?_
            simp [C.spec_l8Form, h2, h3, lS_0 h2, lS_0 h3, get_ints, h23, h32, ha]
            refine hL _ ?_; clear hL L
            refine opsI_end fun L hL => ?_
            simp [C.spec_l8Form, h2, h3, lS_0 h2, lS_0 h3, get_ints, h23, h32, ha]
            refine hL _ ?_; clear hL L
            simp [C.spec_l8Form, h2, h3, lS_0 h2, lS_0 h3, get_ints, h23, h32, ha]
            refine cast (congrArg K ?_) hJ
            simp [ha]
        · have h3 : x3 = fm.length := by have := d_f hc5; omega
          refine wexit ?_
          show AWp _ _ _ _ _
          refine wreg fun K hK => ?_
          simp [C.spec_l8Form, wrap_succ (show x2 < 4611686018427387904 by omega)]
          refine hK _ ?_; clear hK K
          simp [C.spec_l8Form]
          refine hR2 (x2 + 1) ⟨h2, fun i hi => ?_⟩ (by omega)
          rcases Nat.lt_or_ge i x2 with q | q
          · exact g4 i q
          · obtain rfl : i = x2 := by omega
            rw [h3] at g6
            exact g6
      · have h2 : x2 = fm.length := by have := d_f hc4; omega
        rw [h2] at g4
        refine wexit ?_
        show AWp _ _ _ _ _
        refine wseq ?_
        refine wreg fun K hK => ?_
        simp [C.spec_l8Form]
        refine hK _ ?_; clear hK K
        show AWp _ _ _ _ _
        refine wret ?_
        simp [C.spec_l8Form]
        exact ⟨hn, g2, g4⟩

theorem impl_IsForm_calls (fm : List (List Int)) (hx : fm.length < 4611686018427387904) (hI : I64 fm) : ACalls Try.prog F.impl_IsForm [.d (.sh 1 fm.length (rows lS fm))] [] true (fun outs res => outs = [] ∧ res = [.one (D.bool (decide (FormOk fm)))]) := by
  refine ACalls.of_body (C := C.impl_IsForm) (n := Try.f132.ntmps) tabT folT Try.func132 rfl (by kernel_rfl) rfl (Nat.le_of_ble_eq_true rfl) (by decide) (by kernel_rfl) (by kernel_rfl) rfl (by simp) (by simp) ?_
  simp only [Try.f132]
  refine wseq ?_
  refine wreg fun K hK => ?_
  simp [C.impl_IsForm]
  refine hK _ ?_; clear hK K
  show AWp _ _ _ _ _
  refine wseq ?_
  refine wreg fun K hK => ?_
  simp [C.impl_IsForm]
  refine hK _ ?_; clear hK K
  show AWp _ _ _ _ _
  refine wseq ?_
  refine wseq ?_
  refine wregI ([0, 1] ++ ([2])) rfl fun K hK => ?_
  refine opsI_seg fun L hL => ?_
  simp [C.impl_IsForm]
  refine wcall1 (impl_within_calls fm.length 1 8) (by simp) (by simp) ?_
  simp [C.impl_IsForm]
  refine hL _ ?_; clear hL L
  refine opsI_end fun L hL => ?_
  simp [C.impl_IsForm]
  refine hL _ ?_; clear hL L
  simp [C.impl_IsForm]
  refine hK _ ?_; clear hK K
  show AWp _ _ _ _ _
  refine wcond _ rfl (fun hc1 => ?_) (fun hc1 => ?_)
  · have hc : ¬ (1 ≤ (fm.length : Int) ∧ (fm.length : Int) ≤ 8) := by simp at hc1; omega
    refine wseq ?_
    refine wreg fun K hK => ?_
    simp [C.impl_IsForm]
    refine hK _ ?_; clear hK K
    show AWp _ _ _ _ _
    refine wret ?_
    simp [C.impl_IsForm]
    exact fun h => hc h.1
  · have hn : 1 ≤ (fm.length : Int) ∧ (fm.length : Int) ≤ 8 := by simp at hc1; omega
    refine wskip ?_
    show AWp _ _ _ _ _
    refine wseq ?_
    refine wseq ?_
    refine wreg fun K hK => ?_
    simp [C.impl_IsForm]
    refine hK _ ?_; clear hK K
    show AWp _ _ _ _ _
    refine wblock ?_
    refine wloop (fun x : Nat => ⟨ofL [(0, .d (.sh 1 fm.length (rows lS fm))), (3, .int fm.length), (14, .d (.sh 1 fm.length (rows lS fm))), (15, .int fm.length), (16, .int x)], ofRO []⟩) (fun x => x ≤ fm.length ∧ ∀ i, i < x → (fm.getD i []).length = fm.length) (fun x => fm.length - x) 0 (by simp [C.impl_IsForm]) (by simp) ?_
    intro x1 hx1 R1 hR1
    obtain ⟨g1, g2⟩ := hx1
    refine wseq ?_
    refine wreg fun K hK => ?_
    simp [C.impl_IsForm]
    refine hK _ ?_; clear hK K
    show AWp _ _ _ _ _
    refine wseq ?_
    refine wcond _ rfl (fun hc2 => ?_) (fun hc2 => ?_)
    · have h1 : x1 < fm.length := by have := d_t hc2; omega
      refine wskip ?_
      show AWp _ _ _ _ _
      refine wseq ?_
      refine wblock ?_
      refine wseq ?_
      refine wreg fun K hK => ?_
      simp [C.impl_IsForm, h1, lS_0 h1]
      refine hK _ ?_; clear hK K
      show AWp _ _ _ _ _
      refine wseq ?_
      refine wreg fun K hK => ?_
      simp [C.impl_IsForm]
      refine hK _ ?_; clear hK K
      show AWp _ _ _ _ _
      refine wcond _ rfl (fun hc3 => ?_) (fun hc3 => ?_)
      · have hb : ¬ fm[x1].length = fm.length := by intro e; simp [e] at hc3
        refine wseq ?_
        refine wreg fun K hK => ?_
        simp [C.impl_IsForm]
        refine hK _ ?_; clear hK K
        show AWp _ _ _ _ _
        refine wret ?_
        simp [C.impl_IsForm]
        exact fun h => hb (by have := h.2.1 x1 h1; rwa [row_eq h1] at this)
      · have hb : fm[x1].length = fm.length := by simp at hc3; omega
        refine wskip ?_
        show AWp _ _ _ _ _
        refine wreg fun K hK => ?_
        simp [C.impl_IsForm, wrap_succ (show x1 < 4611686018427387904 by omega)]
        refine hK _ ?_; clear hK K
        simp [C.impl_IsForm]
        refine hR1 (x1 + 1) ⟨h1, fun i hi => ?_⟩ (by omega)
        rcases Nat.lt_or_ge i x1 with q | q
        · exact g2 i q
        · obtain rfl : i = x1 := by omega
          rw [row_eq h1]
          exact hb
    · have h1 : x1 = fm.length := by have := d_f hc2; omega
      rw [h1] at g2
      have hrl : ∀ i (h : i < fm.length), fm[i].length = fm.length := fun i h => by have := g2 i h; rwa [row_eq h] at this
      refine wexit ?_
      show AWp _ _ _ _ _
      refine wseq ?_
      refine wseq ?_
      refine wreg fun K hK => ?_
      simp [C.impl_IsForm]
      refine hK _ ?_; clear hK K
      show AWp _ _ _ _ _
      refine wblock ?_
      refine wloop (fun x : Nat => ⟨ofL [(0, .d (.sh 1 fm.length (rows lS fm))), (26, .int fm.length), (27, .int x)], ofRO []⟩) (fun x => x ≤ fm.length ∧ ∀ i, i < x → ∀ j, j < fm.length → Skp fm i j) (fun x => fm.length - x) 0 (by simp [C.impl_IsForm]) (by simp) ?_
      intro x2 hx2 R2 hR2
      obtain ⟨g3, g4⟩ := hx2
      refine wseq ?_
      refine wreg fun K hK => ?_
      simp [C.impl_IsForm]
      refine hK _ ?_; clear hK K
      show AWp _ _ _ _ _
      refine wseq ?_
      refine wcond _ rfl (fun hc4 => ?_) (fun hc4 => ?_)
      · have h2 : x2 < fm.length := by have := d_t hc4; omega
        refine wskip ?_
        show AWp _ _ _ _ _
        refine wseq ?_
        refine wblock ?_
        refine wseq ?_
        refine wreg fun K hK => ?_
        simp [C.impl_IsForm]
        refine hK _ ?_; clear hK K
        show AWp _ _ _ _ _
        refine wseq ?_
        refine wreg fun K hK => ?_
        simp [C.impl_IsForm, h2, lS_0 h2]
        refine hK _ ?_; clear hK K
        show AWp _ _ _ _ _
        refine wblock ?_
        refine wloop (fun x : Nat => ⟨ofL [(0, .d (.sh 1 fm.length (rows lS fm))), (6, .int x2), (26, .int fm.length), (27, .int x2), (33, .d (shI fm[x2])), (34, .int fm[x2].length), (35, .int x)], ofRO []⟩) (fun x => x ≤ fm.length ∧ ∀ j, j < x → Skp fm x2 j) (fun x => fm.length - x) 0 (by simp [C.impl_IsForm]) (by simp) ?_
        intro x3 hx3 R3 hR3
        obtain ⟨g5, g6⟩ := hx3
        refine wseq ?_
        refine wreg fun K hK => ?_
        simp [C.impl_IsForm]
        refine hK _ ?_; clear hK K
        show AWp _ _ _ _ _
        refine wseq ?_
        refine wcond _ rfl (fun hc5 => ?_) (fun hc5 => ?_)
        · have h3 : x3 < fm.length := by have := d_t hc5; have := hrl x2 h2; omega
          have h23 : x3 < fm[x2].length := by rw [hrl x2 h2]; exact h3
          have h32 : x2 < fm[x3].length := by rw [hrl x3 h3]; exact h2
          have hi2 := hI _ (List.getElem_mem h2) _ (List.getElem_mem h23)
          have hi3 := hI _ (List.getElem_mem h3) _ (List.getElem_mem h32)
          have hsk : Skp fm x2 x3 ↔ (-99 ≤ fm[x2][x3] ∧ fm[x2][x3] ≤ 99) ∧ fm[x2][x3] + fm[x3][x2] = 0 := by unfold Skp; rw [at2_eq h2 h23, at2_eq h3 h32]
          refine wskip ?_
          show AWp _ _ _ _ _
          refine wseq ?_
          refine wblock ?_
          refine wseq ?_
          refine wreg fun K hK => ?_
          simp [C.impl_IsForm, get_ints, h23]
          refine hK _ ?_; clear hK K
          show AWp _ _ _ _ _
          refine wseq ?_
          refine wregI ([0, 1] ++ ([2, 3, 4, 5, 6, 7, 8, 9, 10, 11, 12, 13, 14])) rfl fun K hK => ?_
          have hJ : K ⟨ofL [(0, .d (.sh 1 fm.length (rows lS fm))), (6, .int x2), (26, .int fm.length), (27, .int x2), (33, .d (shI fm[x2])), (34, .int fm[x2].length), (35, .int x3), (54, .bool (!decide ((-99 ≤ fm[x2][x3] ∧ fm[x2][x3] ≤ 99) ∧ fm[x2][x3] + fm[x3][x2] = 0)))], ofRO []⟩ := by
            refine hK _ ?_; clear hK K
            show AWp _ _ _ _ _
            refine wcond _ rfl (fun hc6 => ?_) (fun hc6 => ?_)
            · have hb := nd_t hc6
              refine wseq ?_
              refine wreg fun K hK => ?_
              simp [C.impl_IsForm]
              refine hK _ ?_; clear hK K
              show AWp _ _ _ _ _
              refine wret ?_
              simp [C.impl_IsForm]
              exact fun h => hb (hsk.1 (h.2.2 x2 h2 x3 h3))
            · have hb := nd_f hc6
              refine wskip ?_
              show AWp _ _ _ _ _
              refine wreg fun K hK => ?_
              simp [C.impl_IsForm, wrap_succ (show x3 < 4611686018427387904 by omega)]
              refine hK _ ?_; clear hK K
              simp [C.impl_IsForm]
              refine hR3 (x3 + 1) ⟨h3, fun j hj => ?_⟩ (by omega)
              rcases Nat.lt_or_ge j x3 with q | q
              · exact g6 j q
              · obtain rfl : j = x3 := by omega
                exact hsk.2 hb
          clear hK
          by_cases ha : -99 ≤ fm[x2][x3] ∧ fm[x2][x3] ≤ 99
          · refine opsI_seg fun L hL => ?_
            simp [C.impl_IsForm, h2, h3, lS_0 h2, lS_0 h3, get_ints, h23, h32, ha]
            refine wcall1 (impl_within_calls fm[x2][x3] (-99) 99) (by simp) (by simp) ?_
            simp [C.impl_IsForm, h2, h3, lS_0 h2, lS_0 h3, get_ints, h23, h32, ha]
            refine hL _ ?_; clear hL L
            refine opsI_end fun L hL => ?_
            simp [C.impl_IsForm, h2, h3, lS_0 h2, lS_0 h3, get_ints, h23, h32, ha]
            refine hL _ ?_; clear hL L
            simp [C.impl_IsForm, h2, h3, lS_0 h2, lS_0 h3, get_ints, h23, h32, ha]
            refine cast (congrArg K ?_) hJ
            simp [wrap_neg ha hi3, ibne, ha]
          · refine opsI_seg fun L hL => ?_
            simp [C.impl_IsForm, h2, h3, lS_0 h2, lS_0 h3, get_ints, h23, h32, ha]
            refine wcall1 (impl_within_calls fm[x2][x3] (-99) 99) (by simp) (by simp) ?_
            simp [C.impl_IsForm, h2, h3, lS_0 h2, lS_0 h3, get_ints, h23, h32, ha]
            refine hL _ ?_; clear hL L
            refine opsI_end fun L hL => ?_
            simp [C.impl_IsForm, h2, h3, lS_0 h2, lS_0 h3, get_ints, h23, h32, ha]
            refine hL _ ?_; clear hL L
            simp [C.impl_IsForm, h2, h3, lS_0 h2, lS_0 h3, get_ints, h23, h32, ha]
            refine cast (congrArg K ?_) hJ
            simp [ha]
        · have h3 : x3 = fm.length := by have := d_f hc5; have := hrl x2 h2; omega
          refine wexit ?_
          show AWp _ _ _ _ _
          refine wreg fun K hK => ?_
          simp [C.impl_IsForm, wrap_succ (show x2 < 4611686018427387904 by omega)]
          refine hK _ ?_; clear hK K
          simp [C.impl_IsForm]
          refine hR2 (x2 + 1) ⟨h2, fun i hi => ?_⟩ (by omega)
          rcases Nat.lt_or_ge i x2 with q | q
          · exact g4 i q
          · obtain rfl : i = x2 := by omega
            rw [h3] at g6
            exact g6
      · have h2 : x2 = fm.length := by have := d_f hc4; omega
        rw [h2] at g4
        refine wexit ?_
        show AWp _ _ _ _ _
        refine wseq ?_
        refine wreg fun K hK => ?_
        simp [C.impl_IsForm]
        refine hK _ ?_; clear hK K
        show AWp _ _ _ _ _
        refine wret ?_
        simp [C.impl_IsForm]
        exact ⟨hn, g2, g4⟩

end Go.Proofs.Ytocknokodgnlbaa.Ab
namespace Go.Proofs.Ytocknokodgnlbaa.Ab
open Go
set_option linter.unusedSimpArgs false
set_option linter.unusedVariables false
set_option maxRecDepth 10000
set_option maxHeartbeats 2000000
def sm (f : Nat → Int) : Nat → Int
  | 0 => 0
  | n + 1 => sm f n + f n
theorem sm_bd {f : Nat → Int} {M : Nat} : ∀ n, (∀ i, i < n → (f i).natAbs ≤ M) → (sm f n).natAbs ≤ n * M
  | 0, _ => by simp [sm]
  | n + 1, h => by
    have h1 := sm_bd n fun i hi => h i (by omega)
    have h2 := h n (by omega)
    simp only [sm, Nat.add_mul, Nat.one_mul]
    omega
def skT (fm : List (List Int)) (a b : List Int) (i j : Nat) : Int := a.getD i 0 * at2 fm i j * b.getD j 0
def skR (fm : List (List Int)) (a b : List Int) (i : Nat) : Int := sm (skT fm a b i) fm.length
def skw (fm : List (List Int)) (a b : List Int) : Int := sm (skR fm a b) fm.length
structure SkOk (fm : List (List Int)) (a b : List Int) : Prop where
  ok : FormOk fm
  la : a.length = fm.length
  lb : b.length = fm.length
  ba : ∀ x ∈ a, -1000 ≤ x ∧ x ≤ 1000
  bb : ∀ x ∈ b, -1000 ≤ x ∧ x ≤ 1000
theorem mulB {x y : Int} {M N : Nat} (hx : x.natAbs ≤ M) (hy : y.natAbs ≤ N) : (x * y).natAbs ≤ M * N := by
  rw [Int.natAbs_mul]
  exact Nat.mul_le_mul hx hy
section
variable {fm : List (List Int)} {a b : List Int}
theorem SkOk.row (h : SkOk fm a b) {i : Nat} (hi : i < fm.length) : fm[i].length = fm.length := by
  have := h.ok.2.1 i hi
  rwa [row_eq hi] at this
theorem SkOk.n8 (h : SkOk fm a b) : fm.length ≤ 8 := by have := h.ok.1; omega
theorem SkOk.ent (h : SkOk fm a b) {i j : Nat} (hi : i < fm.length) (hj : j < fm.length) : (at2 fm i j).natAbs ≤ 99 := by
  have := (h.ok.2.2 i hi j hj).1
  omega
theorem SkOk.ai (h : SkOk fm a b) {i : Nat} (hi : i < fm.length) : (a.getD i 0).natAbs ≤ 1000 := by
  rw [int_eq (by rw [h.la]; exact hi)]
  have := h.ba _ (List.getElem_mem (by rw [h.la]; exact hi))
  omega
theorem SkOk.bj (h : SkOk fm a b) {j : Nat} (hj : j < fm.length) : (b.getD j 0).natAbs ≤ 1000 := by
  rw [int_eq (by rw [h.lb]; exact hj)]
  have := h.bb _ (List.getElem_mem (by rw [h.lb]; exact hj))
  omega
theorem SkOk.half (h : SkOk fm a b) {i j : Nat} (hi : i < fm.length) (hj : j < fm.length) : (a.getD i 0 * at2 fm i j).natAbs ≤ 99000 := mulB (h.ai hi) (h.ent hi hj)
theorem SkOk.t (h : SkOk fm a b) {i j : Nat} (hi : i < fm.length) (hj : j < fm.length) : (skT fm a b i j).natAbs ≤ 99000000 := mulB (h.half hi hj) (h.bj hj)
theorem SkOk.rowB (h : SkOk fm a b) {i j : Nat} (hi : i < fm.length) (hj : j ≤ fm.length) : (sm (skT fm a b i) j).natAbs ≤ 792000000 := by
  have := sm_bd (f := skT fm a b i) (M := 99000000) j fun k hk => h.t hi (by omega)
  have := h.n8
  omega
theorem SkOk.allB (h : SkOk fm a b) {i : Nat} (hi : i ≤ fm.length) : (sm (skR fm a b) i).natAbs ≤ 6336000000 := by
  have := sm_bd (f := skR fm a b) (M := 792000000) i fun k hk => h.rowB (by omega) (Nat.le_refl _)
  have := h.n8
  omega
theorem SkOk.bd (h : SkOk fm a b) : (skw fm a b).natAbs ≤ 6336000000 := h.allB (Nat.le_refl _)
end
theorem spec_l8Skew_calls (fm : List (List Int)) (a b : List Int) (h : SkOk fm a b) : ACalls Try.prog F.spec_l8Skew [.d (.sh 1 fm.length (rows lS fm)), .d (shI a), .d (shI b)] [] true (fun outs res => outs = [] ∧ res = [.one (D.int (skw fm a b))]) := by
  have hn8 := h.n8
  have hla := h.la
  have hlb := h.lb
  refine ACalls.of_body (C := C.spec_l8Skew) (n := Try.f140.ntmps) tabT folT Try.func140 rfl (by kernel_rfl) rfl (Nat.le_of_ble_eq_true rfl) (by decide) (by kernel_rfl) (by kernel_rfl) rfl (by simp) (by simp) ?_
  simp only [Try.f140]
  refine wseq ?_
  refine wreg fun K hK => ?_
  simp [C.spec_l8Skew]
  refine hK _ ?_; clear hK K
  show AWp _ _ _ _ _
  refine wseq ?_
  refine wreg fun K hK => ?_
  simp [C.spec_l8Skew]
  refine hK _ ?_; clear hK K
  show AWp _ _ _ _ _
  refine wseq ?_
  refine wseq ?_
  refine wreg fun K hK => ?_
  simp [C.spec_l8Skew]
  refine hK _ ?_; clear hK K
  show AWp _ _ _ _ _
  refine wblock ?_
  refine wloop (fun x : Nat => ⟨ofL [(0, .d (.sh 1 fm.length (rows lS fm))), (1, .d (shI a)), (2, .d (shI b)), (7, .int (sm (skR fm a b) x)), (8, .int x)], ofRO []⟩) (fun x => x ≤ fm.length) (fun x => fm.length - x) 0 (by simp [C.spec_l8Skew, sm]) (by simp) ?_
  intro x1 hx1 R1 hR1
  refine wseq ?_
  refine wseq ?_
  refine wreg fun K hK => ?_
  simp [C.spec_l8Skew]
  refine hK _ ?_; clear hK K
  show AWp _ _ _ _ _
  refine wcond _ rfl (fun hc1 => ?_) (fun hc1 => ?_)
  · have h1 : x1 < fm.length := by have := d_t hc1; omega
    have h1a : x1 < a.length := by omega
    refine wskip ?_
    show AWp _ _ _ _ _
    refine wseq ?_
    refine wblock ?_
    refine wseq ?_
    refine wreg fun K hK => ?_
    simp [C.spec_l8Skew]
    refine hK _ ?_; clear hK K
    show AWp _ _ _ _ _
    refine wblock ?_
    refine wloop (fun x : Nat => ⟨ofL [(0, .d (.sh 1 fm.length (rows lS fm))), (1, .d (shI a)), (2, .d (shI b)), (7, .int (sm (skR fm a b) x1 + sm (skT fm a b x1) x)), (8, .int x1), (9, .int x)], ofRO []⟩) (fun x => x ≤ fm.length) (fun x => fm.length - x) 0 (by simp [C.spec_l8Skew, sm]) (by simp) ?_
    intro x2 hx2 R2 hR2
    refine wseq ?_
    refine wseq ?_
    refine wreg fun K hK => ?_
    simp [C.spec_l8Skew]
    refine hK _ ?_; clear hK K
    show AWp _ _ _ _ _
    refine wcond _ rfl (fun hc2 => ?_) (fun hc2 => ?_)
    · have h2 : x2 < fm.length := by have := d_t hc2; omega
      have h2b : x2 < b.length := by omega
      have h12 : x2 < fm[x1].length := by rw [h.row h1]; exact h2
      have q1 := h.half h1 h2
      have q2 := h.t h1 h2
      have q3 := h.rowB h1 (show x2 ≤ fm.length by omega)
      have q4 := h.allB (show x1 ≤ fm.length by omega)
      have e1 : a.getD x1 0 = a[x1] := int_eq h1a
      have e2 : b.getD x2 0 = b[x2] := int_eq h2b
      have e3 : at2 fm x1 x2 = fm[x1][x2] := at2_eq h1 h12
      have e4 : skT fm a b x1 x2 = a[x1] * fm[x1][x2] * b[x2] := by unfold skT; rw [e1, e2, e3]
      rw [e1, e3] at q1
      rw [e4] at q2
      refine wskip ?_
      show AWp _ _ _ _ _
      refine wseq ?_
      refine wblock ?_
      refine wdrawI [(true, 0), (true, 1), (true, 2), (true, 3), (true, 4), (true, 5), (true, 6), (true, 7), (true, 8), (true, 9), (true, 10), (true, 11), (true, 12), (true, 13), (true, 14), (true, 15), (true, 16), (true, 17), (true, 18), (true, 19)] ⟨by kernel_rfl, by kernel_rfl⟩ ([0, 1, 2, 3, 4, 5, 6, 7, 8, 9, 10, 11, 12, 13, 14, 15, 16, 17, 18, 19]) rfl fun K hK => ?_
      refine opsI_end fun L hL => ?_
      simp [C.spec_l8Skew, h1, h1a, h2b, h12, lS_0 h1, get_ints]
      refine hL _ ?_; clear hL L
      simp [C.spec_l8Skew, h1, h1a, h2b, h12, lS_0 h1, get_ints]
      rw [wrapOk (x := a[x1] * fm[x1][x2]) (by omega) (by omega), wrapOk (x := a[x1] * fm[x1][x2] * b[x2]) (by omega) (by omega), wrapOk (x := sm (skR fm a b) x1 + sm (skT fm a b x1) x2 + a[x1] * fm[x1][x2] * b[x2]) (by omega) (by omega)]
      refine hK _ ?_; clear hK K
      show AWp _ _ _ _ _
      refine wreg fun K hK => ?_
      simp [C.spec_l8Skew, wrap_succ (show x2 < 4611686018427387904 by omega)]
      refine hK _ ?_; clear hK K
      simp [C.spec_l8Skew]
      refine cast (congrArg R2 ?_) (hR2 (x2 + 1) h2 (by omega))
      simp [sm, e4, Int.add_assoc]
    · have h2 : x2 = fm.length := by have := d_f hc2; omega
      refine wexit ?_
      show AWp _ _ _ _ _
      refine wreg fun K hK => ?_
      simp [C.spec_l8Skew, wrap_succ (show x1 < 4611686018427387904 by omega)]
      refine hK _ ?_; clear hK K
      simp [C.spec_l8Skew]
      refine cast (congrArg R1 ?_) (hR1 (x1 + 1) h1 (by omega))
      simp [sm, h2, skR]
  · have h1 : x1 = fm.length := by have := d_f hc1; omega
    refine wexit ?_
    show AWp _ _ _ _ _
    refine wseq ?_
    refine wreg fun K hK => ?_
    simp [C.spec_l8Skew]
    refine hK _ ?_; clear hK K
    show AWp _ _ _ _ _
    refine wret ?_
    simp [C.spec_l8Skew, skw, h1]

theorem impl_paired_calls (fm : List (List Int)) (a b : List Int) (h : SkOk fm a b) : ACalls Try.prog F.impl_paired [.d (.sh 1 fm.length (rows lS fm)), .d (shI a), .d (shI b)] [] true (fun outs res => outs = [] ∧ res = [.one (D.int (skw fm a b))]) := by
  have hn8 := h.n8
  have hla := h.la
  have hlb := h.lb
  refine ACalls.of_body (C := C.impl_paired) (n := Try.f81.ntmps) tabT folT Try.func81 rfl (by kernel_rfl) rfl (Nat.le_of_ble_eq_true rfl) (by decide) (by kernel_rfl) (by kernel_rfl) rfl (by simp) (by simp) ?_
  simp only [Try.f81]
  refine wseq ?_
  refine wreg fun K hK => ?_
  simp [C.impl_paired]
  refine hK _ ?_; clear hK K
  show AWp _ _ _ _ _
  refine wseq ?_
  refine wreg fun K hK => ?_
  simp [C.impl_paired]
  refine hK _ ?_; clear hK K
  show AWp _ _ _ _ _
  refine wseq ?_
  refine wseq ?_
  refine wreg fun K hK => ?_
  simp [C.impl_paired]
  refine hK _ ?_; clear hK K
  show AWp _ _ _ _ _
  refine wblock ?_
  refine wloop (fun x : Nat => ⟨ofL [(1, .d (shI a)), (2, .d (shI b)), (7, .int (sm (skR fm a b) x)), (12, .d (.sh 1 fm.length (rows lS fm))), (13, .int fm.length), (14, .int x)], ofRO []⟩) (fun x => x ≤ fm.length) (fun x => fm.length - x) 0 (by simp [C.impl_paired, sm]) (by simp) ?_
  intro x1 hx1 R1 hR1
  refine wseq ?_
  refine wreg fun K hK => ?_
  simp [C.impl_paired]
  refine hK _ ?_; clear hK K
  show AWp _ _ _ _ _
  refine wseq ?_
  refine wcond _ rfl (fun hc1 => ?_) (fun hc1 => ?_)
  · have h1 : x1 < fm.length := by have := d_t hc1; omega
    have h1a : x1 < a.length := by omega
    have hrow := h.row h1
    refine wskip ?_
    show AWp _ _ _ _ _
    refine wseq ?_
    refine wblock ?_
    refine wseq ?_
    refine wreg fun K hK => ?_
    simp [C.impl_paired, h1, lS_0 h1]
    refine hK _ ?_; clear hK K
    show AWp _ _ _ _ _
    refine wseq ?_
    refine wreg fun K hK => ?_
    simp [C.impl_paired]
    refine hK _ ?_; clear hK K
    show AWp _ _ _ _ _
    refine wblock ?_
    refine wloop (fun x : Nat => ⟨ofL [(1, .d (shI a)), (2, .d (shI b)), (7, .int (sm (skR fm a b) x1 + sm (skT fm a b x1) x)), (8, .int x1), (12, .d (.sh 1 fm.length (rows lS fm))), (13, .int fm.length), (14, .int x1), (19, .d (shI fm[x1])), (20, .int fm.length), (21, .int x)], ofRO []⟩) (fun x => x ≤ fm.length) (fun x => fm.length - x) 0 (by simp [C.impl_paired, sm, hrow]) (by simp) ?_
    intro x2 hx2 R2 hR2
    refine wseq ?_
    refine wreg fun K hK => ?_
    simp [C.impl_paired]
    refine hK _ ?_; clear hK K
    show AWp _ _ _ _ _
    refine wseq ?_
    refine wcond _ rfl (fun hc2 => ?_) (fun hc2 => ?_)
    · have h2 : x2 < fm.length := by have := d_t hc2; omega
      have h2b : x2 < b.length := by omega
      have h12 : x2 < fm[x1].length := by rw [h.row h1]; exact h2
      have q1 := h.half h1 h2
      have q2 := h.t h1 h2
      have q3 := h.rowB h1 (show x2 ≤ fm.length by omega)
      have q4 := h.allB (show x1 ≤ fm.length by omega)
      have e1 : a.getD x1 0 = a[x1] := int_eq h1a
      have e2 : b.getD x2 0 = b[x2] := int_eq h2b
      have e3 : at2 fm x1 x2 = fm[x1][x2] := at2_eq h1 h12
      have e4 : skT fm a b x1 x2 = a[x1] * fm[x1][x2] * b[x2] := by unfold skT; rw [e1, e2, e3]
      rw [e1, e3] at q1
      rw [e4] at q2
      refine wskip ?_
      show AWp _ _ _ _ _
      refine wseq ?_
      refine wblock ?_
      refine wseq ?_
      refine wreg fun K hK => ?_
      simp [C.impl_paired, get_ints, h12]
      refine hK _ ?_; clear hK K
      show AWp _ _ _ _ _
      refine wdrawI [(true, 0), (true, 1), (true, 2), (true, 3), (true, 4), (true, 5), (true, 6), (true, 7), (true, 8), (true, 9), (true, 10), (true, 11), (true, 12), (true, 13)] ⟨by kernel_rfl, by kernel_rfl⟩ ([0, 1, 2, 3, 4, 5, 6, 7, 8, 9, 10, 11, 12, 13]) rfl fun K hK => ?_
      refine opsI_end fun L hL => ?_
      simp [C.impl_paired, h1, h1a, h2b, get_ints]
      refine hL _ ?_; clear hL L
      simp [C.impl_paired, h1, h1a, h2b, get_ints]
      rw [wrapOk (x := a[x1] * fm[x1][x2]) (by omega) (by omega), wrapOk (x := a[x1] * fm[x1][x2] * b[x2]) (by omega) (by omega), wrapOk (x := sm (skR fm a b) x1 + sm (skT fm a b x1) x2 + a[x1] * fm[x1][x2] * b[x2]) (by omega) (by omega)]
      refine hK _ ?_; clear hK K
      show AWp _ _ _ _ _
      refine wreg fun K hK => ?_
      simp [C.impl_paired, wrap_succ (show x2 < 4611686018427387904 by omega)]
      refine hK _ ?_; clear hK K
      simp [C.impl_paired]
      refine cast (congrArg R2 ?_) (hR2 (x2 + 1) h2 (by omega))
      simp [sm, e4, Int.add_assoc]
    · have h2 : x2 = fm.length := by have := d_f hc2; omega
      refine wexit ?_
      show AWp _ _ _ _ _
      refine wreg fun K hK => ?_
      simp [C.impl_paired, wrap_succ (show x1 < 4611686018427387904 by omega)]
      refine hK _ ?_; clear hK K
      simp [C.impl_paired]
      refine cast (congrArg R1 ?_) (hR1 (x1 + 1) h1 (by omega))
      simp [sm, h2, skR]
  · have h1 : x1 = fm.length := by have := d_f hc1; omega
    refine wexit ?_
    show AWp _ _ _ _ _
    refine wseq ?_
    refine wreg fun K hK => ?_
    simp [C.impl_paired]
    refine hK _ ?_; clear hK K
    show AWp _ _ _ _ _
    refine wret ?_
    simp [C.impl_paired, skw, h1]

theorem spec_l8Two_calls (fm : List (List Int)) (f g : Qsm) (h0 : fm.length < 4611686018427387904) (hI : I64 fm) (hx : f.ts.length < 4611686018427387904) (hxe : ∀ t ∈ f.ts, t.e.length < 4611686018427387904) (hy : g.ts.length < 4611686018427387904) (hye : ∀ t ∈ g.ts, t.e.length < 4611686018427387904) : ACalls Try.prog F.spec_l8Two [.d (.sh 1 fm.length (rows lS fm)), aQ f, aQ g] [] true (fun outs res => outs = [] ∧ res = [.one (D.bool (decide (FormOk fm ∧ QRight f ∧ QRight g ∧ f.v = fm.length ∧ g.v = fm.length)))]) := by
  refine ACalls.of_body (C := C.spec_l8Two) (n := Try.f86.ntmps) tabT folT Try.func86 rfl (by kernel_rfl) rfl (Nat.le_of_ble_eq_true rfl) (by decide) (by kernel_rfl) (by kernel_rfl) rfl (by simp) (by simp) ?_
  simp only [Try.f86]
  refine wseq ?_
  refine wreg fun K hK => ?_
  simp [C.spec_l8Two, qS]
  refine hK _ ?_; clear hK K
  show AWp _ _ _ _ _
  refine wseq ?_
  refine wregI ([0, 1] ++ ([2, 3, 4] ++ ([5, 6, 7, 8] ++ ([9, 10, 11, 12, 13, 14, 15, 16, 17, 18, 19, 20, 21, 22, 23, 24])))) rfl fun K hK => ?_
  have hJ : K ⟨ofL [(6, .bool (decide (FormOk fm ∧ QRight f ∧ QRight g ∧ f.v = fm.length ∧ g.v = fm.length)))], ofRO []⟩ := by
    refine hK _ ?_; clear hK K
    show AWp _ _ _ _ _
    refine wret ?_
    simp [C.spec_l8Two, qS]
  clear hK
  by_cases ha : FormOk fm
  · by_cases hb : QRight f
    · by_cases hc : QRight g
      · by_cases hd : f.v = fm.length
        · refine opsI_seg fun L hL => ?_
          simp [C.spec_l8Two, qS, ha, hb, hc, hd]
          refine wcall1 (spec_l8Form_calls fm h0 hI) (by simp) (by simp) ?_
          simp [C.spec_l8Two, qS, ha, hb, hc, hd]
          refine hL _ ?_; clear hL L
          refine opsI_seg fun L hL => ?_
          simp [C.spec_l8Two, qS, ha, hb, hc, hd]
          refine wcall1 (spec_QSumOk_calls f hx hxe) (by simp; omega) (by simp) ?_
          simp [C.spec_l8Two, qS, ha, hb, hc, hd]
          refine hL _ ?_; clear hL L
          refine opsI_seg fun L hL => ?_
          simp [C.spec_l8Two, qS, ha, hb, hc, hd]
          refine wcall1 (spec_QSumOk_calls g hy hye) (by simp) (by simp) ?_
          simp [C.spec_l8Two, qS, ha, hb, hc, hd]
          refine hL _ ?_; clear hL L
          refine opsI_end fun L hL => ?_
          simp [C.spec_l8Two, qS, ha, hb, hc, hd]
          refine hL _ ?_; clear hL L
          simp [C.spec_l8Two, qS, ha, hb, hc, hd]
          refine cast (congrArg K ?_) hJ
          simp [ibeq, qS, ha, hb, hc, hd]
        · refine opsI_seg fun L hL => ?_
          simp [C.spec_l8Two, qS, ha, hb, hc, hd]
          refine wcall1 (spec_l8Form_calls fm h0 hI) (by simp) (by simp) ?_
          simp [C.spec_l8Two, qS, ha, hb, hc, hd]
          refine hL _ ?_; clear hL L
          refine opsI_seg fun L hL => ?_
          simp [C.spec_l8Two, qS, ha, hb, hc, hd]
          refine wcall1 (spec_QSumOk_calls f hx hxe) (by simp) (by simp) ?_
          simp [C.spec_l8Two, qS, ha, hb, hc, hd]
          refine hL _ ?_; clear hL L
          refine opsI_seg fun L hL => ?_
          simp [C.spec_l8Two, qS, ha, hb, hc, hd]
          refine wcall1 (spec_QSumOk_calls g hy hye) (by simp) (by simp) ?_
          simp [C.spec_l8Two, qS, ha, hb, hc, hd]
          refine hL _ ?_; clear hL L
          refine opsI_end fun L hL => ?_
          simp [C.spec_l8Two, qS, ha, hb, hc, hd]
          refine hL _ ?_; clear hL L
          simp [C.spec_l8Two, qS, ha, hb, hc, hd]
          refine cast (congrArg K ?_) hJ
          simp [ibeq, qS, ha, hb, hc, hd]
      · refine opsI_seg fun L hL => ?_
        simp [C.spec_l8Two, qS, ha, hb, hc]
        refine wcall1 (spec_l8Form_calls fm h0 hI) (by simp) (by simp) ?_
        simp [C.spec_l8Two, qS, ha, hb, hc]
        refine hL _ ?_; clear hL L
        refine opsI_seg fun L hL => ?_
        simp [C.spec_l8Two, qS, ha, hb, hc]
        refine wcall1 (spec_QSumOk_calls f hx hxe) (by simp) (by simp) ?_
        simp [C.spec_l8Two, qS, ha, hb, hc]
        refine hL _ ?_; clear hL L
        refine opsI_seg fun L hL => ?_
        simp [C.spec_l8Two, qS, ha, hb, hc]
        refine wcall1 (spec_QSumOk_calls g hy hye) (by simp) (by simp) ?_
        simp [C.spec_l8Two, qS, ha, hb, hc]
        refine hL _ ?_; clear hL L
        refine opsI_end fun L hL => ?_
        simp [C.spec_l8Two, qS, ha, hb, hc]
        refine hL _ ?_; clear hL L
        simp [C.spec_l8Two, qS, ha, hb, hc]
        refine cast (congrArg K ?_) hJ
        simp [ibeq, qS, ha, hb, hc]
    · refine opsI_seg fun L hL => ?_
      simp [C.spec_l8Two, qS, ha, hb]
      refine wcall1 (spec_l8Form_calls fm h0 hI) (by simp) (by simp) ?_
      simp [C.spec_l8Two, qS, ha, hb]
      refine hL _ ?_; clear hL L
      refine opsI_seg fun L hL => ?_
      simp [C.spec_l8Two, qS, ha, hb]
      refine wcall1 (spec_QSumOk_calls f hx hxe) (by simp) (by simp) ?_
      simp [C.spec_l8Two, qS, ha, hb]
      refine hL _ ?_; clear hL L
      refine opsI_seg fun L hL => ?_
      simp [C.spec_l8Two, qS, ha, hb]
      refine hL _ ?_; clear hL L
      refine opsI_end fun L hL => ?_
      simp [C.spec_l8Two, qS, ha, hb]
      refine hL _ ?_; clear hL L
      simp [C.spec_l8Two, qS, ha, hb]
      refine cast (congrArg K ?_) hJ
      simp [ibeq, qS, ha, hb]
  · refine opsI_seg fun L hL => ?_
    simp [C.spec_l8Two, qS, ha]
    refine wcall1 (spec_l8Form_calls fm h0 hI) (by simp) (by simp) ?_
    simp [C.spec_l8Two, qS, ha]
    refine hL _ ?_; clear hL L
    refine opsI_seg fun L hL => ?_
    simp [C.spec_l8Two, qS, ha]
    refine hL _ ?_; clear hL L
    refine opsI_seg fun L hL => ?_
    simp [C.spec_l8Two, qS, ha]
    refine hL _ ?_; clear hL L
    refine opsI_end fun L hL => ?_
    simp [C.spec_l8Two, qS, ha]
    refine hL _ ?_; clear hL L
    simp [C.spec_l8Two, qS, ha]
    refine cast (congrArg K ?_) hJ
    simp [ibeq, qS, ha]

theorem impl_multipliable_calls (fm : List (List Int)) (f g : Qsm) (h0 : fm.length < 4611686018427387904) (hI : I64 fm) (hx : f.ts.length < 4611686018427387904) (hxe : ∀ t ∈ f.ts, t.e.length < 4611686018427387904) (hy : g.ts.length < 4611686018427387904) (hye : ∀ t ∈ g.ts, t.e.length < 4611686018427387904) : ACalls Try.prog F.impl_multipliable [.d (.sh 1 fm.length (rows lS fm)), aQ f, aQ g] [] true (fun outs res => outs = [] ∧ res = [.one (D.bool (decide (FormOk fm ∧ QRight f ∧ QRight g ∧ f.v = fm.length ∧ g.v = fm.length)))]) := by
  refine ACalls.of_body (C := C.impl_multipliable) (n := Try.f78.ntmps) tabT folT Try.func78 rfl (by kernel_rfl) rfl (Nat.le_of_ble_eq_true rfl) (by decide) (by kernel_rfl) (by kernel_rfl) rfl (by simp) (by simp) ?_
  simp only [Try.f78]
  refine wseq ?_
  refine wreg fun K hK => ?_
  simp [C.impl_multipliable, qS]
  refine hK _ ?_; clear hK K
  show AWp _ _ _ _ _
  refine wseq ?_
  refine wregI ([0, 1] ++ ([2, 3, 4] ++ ([5, 6, 7, 8] ++ ([9, 10, 11, 12, 13, 14, 15, 16, 17, 18, 19, 20, 21, 22, 23, 24])))) rfl fun K hK => ?_
  have hJ : K ⟨ofL [(6, .bool (decide (FormOk fm ∧ QRight f ∧ QRight g ∧ f.v = fm.length ∧ g.v = fm.length)))], ofRO []⟩ := by
    refine hK _ ?_; clear hK K
    show AWp _ _ _ _ _
    refine wret ?_
    simp [C.impl_multipliable, qS]
  clear hK
  by_cases ha : FormOk fm
  · by_cases hb : QRight f
    · by_cases hc : QRight g
      · by_cases hd : f.v = fm.length
        · refine opsI_seg fun L hL => ?_
          simp [C.impl_multipliable, qS, ha, hb, hc, hd]
          refine wcall1 (impl_IsForm_calls fm h0 hI) (by simp) (by simp) ?_
          simp [C.impl_multipliable, qS, ha, hb, hc, hd]
          refine hL _ ?_; clear hL L
          refine opsI_seg fun L hL => ?_
          simp [C.impl_multipliable, qS, ha, hb, hc, hd]
          refine wcall1 (impl_QSumOk_calls f hx hxe) (by simp; omega) (by simp) ?_
          simp [C.impl_multipliable, qS, ha, hb, hc, hd]
          refine hL _ ?_; clear hL L
          refine opsI_seg fun L hL => ?_
          simp [C.impl_multipliable, qS, ha, hb, hc, hd]
          refine wcall1 (impl_QSumOk_calls g hy hye) (by simp) (by simp) ?_
          simp [C.impl_multipliable, qS, ha, hb, hc, hd]
          refine hL _ ?_; clear hL L
          refine opsI_end fun L hL => ?_
          simp [C.impl_multipliable, qS, ha, hb, hc, hd]
          refine hL _ ?_; clear hL L
          simp [C.impl_multipliable, qS, ha, hb, hc, hd]
          refine cast (congrArg K ?_) hJ
          simp [ibeq, qS, ha, hb, hc, hd]
        · refine opsI_seg fun L hL => ?_
          simp [C.impl_multipliable, qS, ha, hb, hc, hd]
          refine wcall1 (impl_IsForm_calls fm h0 hI) (by simp) (by simp) ?_
          simp [C.impl_multipliable, qS, ha, hb, hc, hd]
          refine hL _ ?_; clear hL L
          refine opsI_seg fun L hL => ?_
          simp [C.impl_multipliable, qS, ha, hb, hc, hd]
          refine wcall1 (impl_QSumOk_calls f hx hxe) (by simp) (by simp) ?_
          simp [C.impl_multipliable, qS, ha, hb, hc, hd]
          refine hL _ ?_; clear hL L
          refine opsI_seg fun L hL => ?_
          simp [C.impl_multipliable, qS, ha, hb, hc, hd]
          refine wcall1 (impl_QSumOk_calls g hy hye) (by simp) (by simp) ?_
          simp [C.impl_multipliable, qS, ha, hb, hc, hd]
          refine hL _ ?_; clear hL L
          refine opsI_end fun L hL => ?_
          simp [C.impl_multipliable, qS, ha, hb, hc, hd]
          refine hL _ ?_; clear hL L
          simp [C.impl_multipliable, qS, ha, hb, hc, hd]
          refine cast (congrArg K ?_) hJ
          simp [ibeq, qS, ha, hb, hc, hd]
      · refine opsI_seg fun L hL => ?_
        simp [C.impl_multipliable, qS, ha, hb, hc]
        refine wcall1 (impl_IsForm_calls fm h0 hI) (by simp) (by simp) ?_
        simp [C.impl_multipliable, qS, ha, hb, hc]
        refine hL _ ?_; clear hL L
        refine opsI_seg fun L hL => ?_
        simp [C.impl_multipliable, qS, ha, hb, hc]
        refine wcall1 (impl_QSumOk_calls f hx hxe) (by simp) (by simp) ?_
        simp [C.impl_multipliable, qS, ha, hb, hc]
        refine hL _ ?_; clear hL L
        refine opsI_seg fun L hL => ?_
        simp [C.impl_multipliable, qS, ha, hb, hc]
        refine wcall1 (impl_QSumOk_calls g hy hye) (by simp) (by simp) ?_
        simp [C.impl_multipliable, qS, ha, hb, hc]
        refine hL _ ?_; clear hL L
        refine opsI_end fun L hL => ?_
        simp [C.impl_multipliable, qS, ha, hb, hc]
        refine hL _ ?_; clear hL L
        simp [C.impl_multipliable, qS, ha, hb, hc]
        refine cast (congrArg K ?_) hJ
        simp [ibeq, qS, ha, hb, hc]
    · refine opsI_seg fun L hL => ?_
      simp [C.impl_multipliable, qS, ha, hb]
      refine wcall1 (impl_IsForm_calls fm h0 hI) (by simp) (by simp) ?_
      simp [C.impl_multipliable, qS, ha, hb]
      refine hL _ ?_; clear hL L
      refine opsI_seg fun L hL => ?_
      simp [C.impl_multipliable, qS, ha, hb]
      refine wcall1 (impl_QSumOk_calls f hx hxe) (by simp) (by simp) ?_
      simp [C.impl_multipliable, qS, ha, hb]
      refine hL _ ?_; clear hL L
      refine opsI_seg fun L hL => ?_
      simp [C.impl_multipliable, qS, ha, hb]
      refine hL _ ?_; clear hL L
      refine opsI_end fun L hL => ?_
      simp [C.impl_multipliable, qS, ha, hb]
      refine hL _ ?_; clear hL L
      simp [C.impl_multipliable, qS, ha, hb]
      refine cast (congrArg K ?_) hJ
      simp [ibeq, qS, ha, hb]
  · refine opsI_seg fun L hL => ?_
    simp [C.impl_multipliable, qS, ha]
    refine wcall1 (impl_IsForm_calls fm h0 hI) (by simp) (by simp) ?_
    simp [C.impl_multipliable, qS, ha]
    refine hL _ ?_; clear hL L
    refine opsI_seg fun L hL => ?_
    simp [C.impl_multipliable, qS, ha]
    refine hL _ ?_; clear hL L
    refine opsI_seg fun L hL => ?_
    simp [C.impl_multipliable, qS, ha]
    refine hL _ ?_; clear hL L
    refine opsI_end fun L hL => ?_
    simp [C.impl_multipliable, qS, ha]
    refine hL _ ?_; clear hL L
    simp [C.impl_multipliable, qS, ha]
    refine cast (congrArg K ?_) hJ
    simp [ibeq, qS, ha]

end Go.Proofs.Ytocknokodgnlbaa.Ab
namespace Go.Proofs.Ytocknokodgnlbaa.Ab
open Go
set_option linter.unusedSimpArgs false
set_option linter.unusedVariables false
set_option linter.unusedSectionVars false
section
variable {K : Type} [DecidableEq K] {lt : K → K → Bool}
def addL (left : List (K × Int)) (x : K × Int) : List (K × Int) :=
  match left.getLast? with
  | some z => if z.1 = x.1 then left.dropLast ++ [(z.1, z.2 + x.2)] else left ++ [x]
  | none => [x]
def combS (left : List (K × Int)) : List (K × Int) → List (K × Int)
  | [] => left
  | x :: r => combS (addL left x) r
theorem co_one (q : K) (x : K × Int) : co q [x] = if x.1 = q then x.2 else 0 := by simp [co]
theorem addL_co (q : K) (left : List (K × Int)) (x : K × Int) : co q (addL left x) = co q left + co q [x] := by
  rcases List.eq_nil_or_concat left with rfl | ⟨l, z, rfl⟩
  · simp [addL, co]
  · simp only [addL, List.concat_eq_append, List.getLast?_append, List.getLast?_singleton, Option.some_or, List.dropLast_concat]
    split
    · rename_i e
      rw [co_append, co_append, co_one, co_one, co_one]
      simp only
      rw [e]
      split <;> omega
    · rw [co_append (l := l ++ [z])]
theorem combS_co (q : K) : ∀ (r left : List (K × Int)), co q (combS left r) = co q left + co q r
  | [], left => by simp [combS, co]
  | x :: r, left => by
    simp only [combS]
    have hx : co q (x :: r) = co q [x] + co q r := by simp [co]
    rw [combS_co q r, addL_co, hx, Int.add_assoc]
theorem descK_snoc {l : List (K × Int)} {x : K × Int} (h : Desc lt l) (hx : ∀ y ∈ l, lt x.1 y.1 = true) : Desc lt (l ++ [x]) := by
  unfold Desc at *
  rw [List.pairwise_append]
  refine ⟨h, List.pairwise_singleton _ _, fun a ha b hb => ?_⟩
  simp only [List.mem_singleton] at hb
  subst hb
  exact hx a ha
theorem combS_desc (ho : Ord lt) : ∀ (r left : List (K × Int)), (r.Pairwise fun a b => lt a.1 b.1 = false) → Desc lt left → (∀ y ∈ left, ∀ z ∈ r, lt y.1 z.1 = false) → Desc lt (combS left r)
  | [], left, _, h, _ => h
  | x :: r, left, hs, h, hc => by
    simp only [combS]
    obtain ⟨hs1, hs2⟩ := List.pairwise_cons.1 hs
    rcases List.eq_nil_or_concat left with rfl | ⟨l, z, rfl⟩
    · refine combS_desc ho r _ hs2 (List.pairwise_singleton _ _) fun y hy z hz => ?_
      simp only [addL, List.getLast?_nil, List.mem_singleton] at hy
      rw [hy]
      exact hs1 z hz
    · simp only [List.concat_eq_append] at h hc ⊢
      simp only [addL, List.getLast?_append, List.getLast?_singleton, Option.some_or, List.dropLast_concat]
      split
      · rename_i e
        refine combS_desc ho r _ hs2 ?_ fun y hy w hw => ?_
        · refine descK_snoc (List.pairwise_append.1 h).1 fun y hy => ?_
          exact (List.pairwise_append.1 h).2.2 y hy z (by simp)
        · rcases List.mem_append.1 hy with hy | hy
          · exact hc y (by simp [hy]) w (by simp [hw])
          · simp only [List.mem_singleton] at hy
            rw [hy]
            exact hc z (by simp) w (by simp [hw])
      · rename_i e
        have hzx : lt x.1 z.1 = true := by
          rcases ho.tot x.1 z.1 with q | q | q
          · exact q
          · exact absurd q.symm e
          · rw [hc z (by simp) x (by simp)] at q
            simp at q
        refine combS_desc ho r _ hs2 (descK_snoc h fun y hy => ?_) fun y hy w hw => ?_
        · rcases List.mem_append.1 hy with hy | hy
          · exact ho.tr _ _ _ hzx ((List.pairwise_append.1 h).2.2 y hy z (by simp))
          · simp only [List.mem_singleton] at hy
            rw [hy]
            exact hzx
        · rcases List.mem_append.1 hy with hy | hy
          · exact hc y hy w (by simp [hw])
          · simp only [List.mem_singleton] at hy
            rw [hy]
            exact hs1 w hw
theorem fil_co (q : K) : ∀ (l : List (K × Int)), co q (l.filter fun x => x.2 ≠ 0) = co q l
  | [] => rfl
  | x :: l => by
    have ih := fil_co q l
    by_cases h : x.2 = 0
    · rw [List.filter_cons_of_neg (by simp [h]), ih]
      simp [co, h]
    · rw [List.filter_cons_of_pos (by simp [h])]
      simp only [co]
      rw [ih]
theorem combS_nf (ho : Ord lt) {out l : List (K × Int)} (hp : out.Perm l) (hs : out.Pairwise fun a b => lt a.1 b.1 = false) : (combS [] out).filter (fun x => x.2 ≠ 0) = nf lt l := by
  refine nf_unique ho ?_ ?_ fun k => ?_
  · exact (combS_desc ho out [] hs List.Pairwise.nil (by simp)).filter _
  · intro x hx
    simpa using (List.mem_filter.1 hx).2
  · rw [fil_co, combS_co, co_perm k hp]
    simp [co]
end
section
variable {α : Type} {le : α → α → Bool}
def sgt (out : List α) (a b : Nat) : List α := (out.drop a).take (b - a)
theorem sgt_cons {out : List α} {a b : Nat} (h : a < b) (h2 : a < out.length) : sgt out a b = out[a] :: sgt out (a + 1) b := by
  unfold sgt
  rw [List.drop_eq_getElem_cons h2, show b - a = (b - (a + 1)) + 1 by omega, List.take_succ_cons]
theorem sgt_nil {out : List α} {a b : Nat} (h : b ≤ a) : sgt out a b = [] := by
  unfold sgt
  rw [show b - a = 0 by omega, List.take_zero]
theorem sgt_runs {out : List α} {size at_ k b : Nat} (hr : Runs le size out) (ha : at_ = size * k) (hb : b = min (at_ + size) out.length) : (sgt out at_ b).Pairwise fun a b => le a b = true := by
  have := hr k
  rw [← ha] at this
  have e : sgt out at_ b = (out.drop at_).take size := by
    unfold sgt
    rw [hb]
    rcases Nat.le_total (at_ + size) out.length with h | h
    · rw [Nat.min_eq_left h, show at_ + size - at_ = size by omega]
    · rw [Nat.min_eq_right h, List.take_of_length_le (by simp), List.take_of_length_le (by simp; omega)]
  rw [e]
  exact this
theorem sgt_take {out : List α} {a b c : Nat} (h1 : a ≤ b) (h2 : b ≤ c) : out.take a ++ (sgt out a b ++ sgt out b c) = out.take c := by
  unfold sgt
  have e1 : out.take b = out.take a ++ (out.drop a).take (b - a) := by
    conv => lhs; rw [show b = a + (b - a) by omega, List.take_add]
  have e2 : out.take c = out.take b ++ (out.drop b).take (c - b) := by
    conv => lhs; rw [show c = b + (c - b) by omega, List.take_add]
  rw [e2, e1, List.append_assoc]
end
def qp (t : Qtm) : (List Int × Int) × Int := (qk t, t.c)
def qt (x : (List Int × Int) × Int) : Qtm := ⟨x.1.1, x.1.2, x.2⟩
theorem map_qt (l : List Qtm) : (l.map qp).map qt = l := by rw [List.map_map]; exact List.map_id _
theorem map_qp (l : List ((List Int × Int) × Int)) : (l.map qt).map qp = l := by rw [List.map_map]; exact List.map_id _
def qle (x y : Qtm) : Bool := !qlt (qk x) (qk y)
theorem qle_trans (a b c : Qtm) (h1 : qle a b = true) (h2 : qle b c = true) : qle a c = true := by
  simp only [qle, Bool.not_eq_true'] at *
  by_cases h : qlt (qk a) (qk c) = true
  · rcases qOrd.tot (qk b) (qk c) with q | q | q
    · rw [q] at h2
      simp at h2
    · rw [q] at h1
      rw [h1] at h
      simp at h
    · rw [qOrd.tr _ _ _ h q] at h1
      simp at h1
  · simpa using h
theorem qle_total (a b : Qtm) : (qle a b || qle b a) = true := by
  simp only [qle, Bool.or_eq_true, Bool.not_eq_true']
  by_cases h : qlt (qk a) (qk b) = true
  · right
    by_cases h2 : qlt (qk b) (qk a) = true
    · have := qOrd.tr _ _ _ h h2
      rw [qOrd.irr] at this
      simp at this
    · simpa using h2
  · left
    simpa using h
theorem mrq_sorted {xs ys : List Qtm} (h1 : xs.Pairwise fun a b => qle a b = true) (h2 : ys.Pairwise fun a b => qle a b = true) : (List.merge xs ys qle).Pairwise fun a b => qle a b = true :=
  List.pairwise_merge qle_trans qle_total xs ys h1 h2
theorem mrq_perm (xs ys : List Qtm) : (List.merge xs ys qle).Perm (xs ++ ys) := List.merge_perm_append qle
def addQ (left : List Qtm) (x : Qtm) : List Qtm :=
  match left.getLast? with
  | some z => if qk z = qk x then left.dropLast ++ [⟨z.e, z.h, z.c + x.c⟩] else left ++ [x]
  | none => [x]
theorem addQ_qp (left : List Qtm) (x : Qtm) : (addQ left x).map qp = addL (left.map qp) (qp x) := by
  rcases List.eq_nil_or_concat left with rfl | ⟨l, z, rfl⟩
  · rfl
  · simp only [addQ, addL, List.concat_eq_append, List.map_append, List.map_cons, List.map_nil, List.getLast?_append, List.getLast?_singleton, Option.some_or, List.dropLast_concat]
    by_cases e : qk z = qk x
    · rw [if_pos e, if_pos (show (qp z).1 = (qp x).1 from e)]
      simp [qp, qk]
    · rw [if_neg e, if_neg (show ¬ (qp z).1 = (qp x).1 from e)]
      simp
def absQ (l : List Qtm) : Nat := (l.map fun x => x.c.natAbs).sum
theorem absQ_append (l r : List Qtm) : absQ (l ++ r) = absQ l + absQ r := by simp [absQ]
theorem absQ_perm {l r : List Qtm} (h : l.Perm r) : absQ l = absQ r := (h.map _).sum_nat
theorem absQ_mem {l : List Qtm} {x : Qtm} (h : x ∈ l) : x.c.natAbs ≤ absQ l := by
  induction l with
  | nil => simp at h
  | cons y l ih =>
    simp only [absQ, List.map_cons, List.sum_cons] at ih ⊢
    rcases List.mem_cons.1 h with rfl | h
    · omega
    · have := ih h; omega
theorem absQ_le {l : List Qtm} {B : Nat} (h : ∀ x ∈ l, x.c.natAbs ≤ B) : absQ l ≤ l.length * B := by
  induction l with
  | nil => simp [absQ]
  | cons x l ih =>
    have h1 := h x (by simp)
    have h2 := ih fun y hy => h y (by simp [hy])
    simp only [absQ, List.map_cons, List.sum_cons, List.length_cons, Nat.add_mul, Nat.one_mul] at h2 ⊢
    omega
theorem absQ_addQ (left : List Qtm) (x : Qtm) : absQ (addQ left x) ≤ absQ left + x.c.natAbs := by
  rcases List.eq_nil_or_concat left with rfl | ⟨l, z, rfl⟩
  · simp [addQ, absQ]
  · simp only [addQ, List.concat_eq_append, List.getLast?_append, List.getLast?_singleton, Option.some_or, List.dropLast_concat]
    split
    · rw [absQ_append, absQ_append]
      simp only [absQ, List.map_cons, List.map_nil, List.sum_cons, List.sum_nil]
      omega
    · rw [absQ_append (l := l ++ [z])]
      simp [absQ]
theorem addQ_same {l : List Qtm} {q : Nat} {x : Qtm} (hl : l.length = q + 1) (e : qk (l[q]'(by omega)) = qk x) : addQ l x = l.set q ⟨(l[q]'(by omega)).e, (l[q]'(by omega)).h, (l[q]'(by omega)).c + x.c⟩ := by
  rcases List.eq_nil_or_concat l with rfl | ⟨l, z, rfl⟩
  · simp at hl
  · simp only [List.concat_eq_append] at *
    have hq : q = l.length := by simp at hl; omega
    subst hq
    simp only [List.getElem_concat_length] at e ⊢
    simp only [addQ, List.getLast?_append, List.getLast?_singleton, Option.some_or, List.dropLast_concat]
    rw [if_pos e]
    simp
theorem addQ_new {l : List Qtm} {x : Qtm} (e : ∀ z, l.getLast? = some z → ¬ qk z = qk x) : addQ l x = l ++ [x] := by
  unfold addQ
  cases h : l.getLast? with
  | none =>
    rw [List.getLast?_eq_none_iff] at h
    simp [h]
  | some z => simp [e z h]
/-- What a list of terms becomes. -/
def gaQ (l : List Qtm) : List Qtm := (nf qlt (l.map qp)).map qt
theorem combS_gaQ {out l : List Qtm} (hp : out.Perm l) (hs : out.Pairwise fun a b => qle a b = true) : ((combS [] (out.map qp)).filter (fun x => x.2 ≠ 0)).map qt = gaQ l := by
  unfold gaQ
  rw [combS_nf qOrd (hp.map qp)]
  rw [List.pairwise_map]
  refine hs.imp fun {a b} h => ?_
  have h2 : qlt (qk a) (qk b) = false := by simpa [qle] using h
  exact h2
end Go.Proofs.Ytocknokodgnlbaa.Ab
namespace Go.Proofs.Ytocknokodgnlbaa.Ab
open Go
set_option linter.unusedSimpArgs false
set_option linter.unusedVariables false
set_option maxRecDepth 10000
set_option maxHeartbeats 2000000
def q0 : Qtm := ⟨[], 0, 0⟩
theorem getQ_at {out : List Qtm} {i : Nat} (h : i < out.length) : out.getD i q0 = out[i] := by
  simp [List.getD_eq_getElem?_getD, h]
theorem qtS_snoc (l : List Qtm) (t : Qtm) : rows qtS l ++ [shI t.e, D.v (.int .i64 t.h), D.v (.int .i64 t.c)] = rows qtS (l ++ [t]) := by
  rw [rows_append]
  rfl
theorem leafL_app : ∀ {a b : List D}, leafL a → leafL b → leafL (a ++ b)
  | [], _, _, h => h
  | _ :: _, _, h1, h => ⟨h1.1, leafL_app h1.2 h⟩
@[simp] theorem qtS_leaf : ∀ l : List Qtm, leafL (rows qtS l)
  | [] => trivial
  | t :: l => leafL_app (a := qtS t) ⟨rfl, rfl, rfl, trivial⟩ (qtS_leaf l)
def mvQ (t : Qtm) : List D := if t.c = 0 then qtO t else [.gone, D.int t.h, D.int t.c]
theorem mvQ_three (t : Qtm) : (mvQ t).length = 3 := by unfold mvQ; split <;> rfl
/-- The terms of a list, those before place k moved away where they are not empty. -/
def mvS (S : List Qtm) (k : Nat) : List D := rows mvQ (S.take k) ++ rows qtO (S.drop k)
@[simp] theorem mvS_length (S : List Qtm) (k : Nat) : (mvS S k).length = 3 * S.length := by
  unfold mvS
  rw [List.length_append, rows_length mvQ_three, rows_length qtO_three, List.length_take, List.length_drop]
  omega
theorem mvS_zero (S : List Qtm) : mvS S 0 = rows qtO S := by simp [mvS, rows]
theorem mvS_get {S : List Qtm} {k : Nat} (h : k < S.length) (j : Nat) (hj : j < 3) : (mvS S k)[3 * k + j]? = (qtO S[k])[j]? := by
  unfold mvS
  have hl : (rows mvQ (S.take k)).length = 3 * k := by rw [rows_length mvQ_three, List.length_take]; omega
  rw [List.getElem?_append_right (by omega), hl, show 3 * k + j - 3 * k = 3 * 0 + j by omega]
  rw [rows_get qtO_three (S.drop k) 0 j (by simp; omega) hj]
  simp
theorem mvS_0 {S : List Qtm} {k : Nat} (h : k < S.length) : (mvS S k)[3 * k]? = some (owI S[k].e) ∧ ∀ h', (mvS S k)[3 * k]'h' = owI S[k].e := twice (mvS_get h 0 (by omega))
theorem mvS_1 {S : List Qtm} {k : Nat} (h : k < S.length) : (mvS S k)[3 * k + 1]? = some (D.int S[k].h) ∧ ∀ h', (mvS S k)[3 * k + 1]'h' = D.int S[k].h := twice (mvS_get h 1 (by omega))
theorem mvS_2 {S : List Qtm} {k : Nat} (h : k < S.length) : (mvS S k)[3 * k + 2]? = some (D.int S[k].c) ∧ ∀ h', (mvS S k)[3 * k + 2]'h' = D.int S[k].c := twice (mvS_get h 2 (by omega))
theorem mvS_stay {S : List Qtm} {k : Nat} (h : k < S.length) (hz : S[k].c = 0) : mvS S (k + 1) = mvS S k := by
  unfold mvS
  rw [List.take_succ_eq_append_getElem h, List.drop_eq_getElem_cons h, rows_append]
  simp [rows, mvQ, hz]
theorem mvS_move {S : List Qtm} {k : Nat} (h : k < S.length) (hz : ¬ S[k].c = 0) : (mvS S k).set (3 * k) .gone = mvS S (k + 1) := by
  unfold mvS
  have hl : (rows mvQ (S.take k)).length = 3 * k := by rw [rows_length mvQ_three, List.length_take]; omega
  rw [List.set_append_right _ _ (by omega), hl, Nat.sub_self, List.take_succ_eq_append_getElem h, List.drop_eq_getElem_cons h, rows_append]
  simp [rows, mvQ, hz, qtO]
theorem spec_l8Gather_calls (l : List Qtm) (hl : l.length ≤ 1000000) (hc : absQ l < 4611686018427387904) (he : ∀ t ∈ l, t.e.length ≤ 8) : ACalls Try.prog F.spec_l8Gather [.d (.sh 3 l.length (rows qtS l))] [] true (fun outs res => outs = [] ∧ res = [.one (.ow 3 (gaQ l).length (rows qtO (gaQ l)))]) := by
  refine ACalls.of_body (C := C.spec_l8Gather) (n := Try.f89.ntmps) tabT folT Try.func89 rfl (by kernel_rfl) rfl (Nat.le_of_ble_eq_true rfl) (by decide) (by kernel_rfl) (by kernel_rfl) rfl (by simp) (by simp) ?_
  simp only [Try.f89]
  refine wseq ?_
  refine wreg fun K hK => ?_
  simp [C.spec_l8Gather]
  refine hK _ ?_; clear hK K
  show AWp _ _ _ _ _
  refine wseq ?_
  refine wreg fun K hK => ?_
  simp [C.spec_l8Gather, show l.length * 40 ≤ 140737488355328 by omega]
  refine hK _ ?_; clear hK K
  show AWp _ _ _ _ _
  refine wseq ?_
  refine wseq ?_
  refine wreg fun K hK => ?_
  simp [C.spec_l8Gather]
  refine hK _ ?_; clear hK K
  show AWp _ _ _ _ _
  refine wblock ?_
  refine wloop (fun x : Nat × List Qtm => ⟨ofL [(3, .al (3, 0) [] 0 l.length), (4, .int x.1)], ofRO [((3, 0), some (.ow 3 l.length (rows qtS x.2)))]⟩) (fun x => x.2.Perm l ∧ Runs qle x.1 x.2 ∧ 1 ≤ x.1 ∧ x.1 ≤ 2 * l.length + 1) (fun x => 2 * l.length + 1 - x.1) (1, l) (by simp [C.spec_l8Gather]) ⟨List.Perm.refl _, runs_one _, by simp, by dsimp only; omega⟩ ?_
  intro x1 hx1 R1 hR1
  obtain ⟨size, out⟩ := x1
  obtain ⟨hperm, hruns, hs1, hs2⟩ := hx1
  dsimp only at hperm hruns hs1 hs2 ⊢
  have hol : out.length = l.length := hperm.length_eq
  have hel : ∀ t ∈ out, t.e.length ≤ 8 := fun t ht => he t (hperm.subset ht)
  refine wseq ?_
  refine wseq ?_
  refine wreg fun K hK => ?_
  simp [C.spec_l8Gather]
  refine hK _ ?_; clear hK K
  show AWp _ _ _ _ _
  refine wcond _ rfl (fun hc1 => ?_) (fun hc1 => ?_)
  · have hlt : size < l.length := by have := d_t hc1; omega
    refine wskip ?_
    show AWp _ _ _ _ _
    refine wseq ?_
    refine wblock ?_
    refine wseq ?_
    refine wreg fun K hK => ?_
    simp [C.spec_l8Gather, show (40 : Int) * l.length ≤ 281474976710656 by omega, show (l.length : Int) ≤ 281474976710656 by omega]
    refine hK _ ?_; clear hK K
    show AWp _ _ _ _ _
    refine wseq ?_
    refine wseq ?_
    refine wreg fun K hK => ?_
    simp [C.spec_l8Gather]
    refine hK _ ?_; clear hK K
    show AWp _ _ _ _ _
    refine wblock ?_
    refine wloop (fun x : Nat × List Qtm × Nat => ⟨ofL [(3, .al (3, 0) [] 0 l.length), (4, .int size), (5, .al (5, 0) [] 0 x.2.2), (6, .int x.1)], ofRO [((3, 0), some (.ow 3 l.length (rows qtS out))), ((5, 0), some (.ow 3 x.2.2 (rows qtS x.2.1)))]⟩) (fun x => (∃ k, x.1 = 2 * size * k) ∧ x.2.2 = x.2.1.length ∧ x.2.1.length = min x.1 l.length ∧ x.2.1.Perm (out.take x.1) ∧ Runs qle (2 * size) x.2.1 ∧ x.1 ≤ l.length + 2 * size) (fun x => l.length + 2 * size - x.1) (0, [], 0) (by simp [C.spec_l8Gather, rows]) ⟨⟨0, rfl⟩, rfl, by simp, by simp, fun k => by simp, by dsimp only; omega⟩ ?_
    intro x2 hx2 R2 hR2
    obtain ⟨at_, next, m⟩ := x2
    obtain ⟨⟨k, hk⟩, hm, hnl, hnp, hnr, hab⟩ := hx2
    dsimp only at hk hm hnl hnp hnr hab ⊢
    refine wseq ?_
    refine wseq ?_
    refine wreg fun K hK => ?_
    simp [C.spec_l8Gather]
    refine hK _ ?_; clear hK K
    show AWp _ _ _ _ _
    refine wcond _ rfl (fun hc2 => ?_) (fun hc2 => ?_)
    · have hat : at_ < l.length := by have := d_t hc2; omega
      have hnl2 : next.length = at_ := by omega
      obtain ⟨mid, hmid⟩ : ∃ mid, mid = min (at_ + size) l.length := ⟨_, rfl⟩
      obtain ⟨en, hen⟩ : ∃ en, en = min (at_ + 2 * size) l.length := ⟨_, rfl⟩
      have hmid2 : min ((at_ : Int) + size) l.length = (mid : Int) := by omega
      have hen2 : min ((at_ : Int) + 2 * size) l.length = (en : Int) := by omega
      refine wskip ?_
      show AWp _ _ _ _ _
      refine wseq ?_
      refine wblock ?_
      refine wseq ?_
      refine wreg fun K hK => ?_
      simp [C.spec_l8Gather]
      refine hK _ ?_; clear hK K
      show AWp _ _ _ _ _
      refine wseq ?_
      refine wreg fun K hK => ?_
      simp [C.spec_l8Gather]
      rw [wrapOk (x := (at_ : Int) + size) (by omega) (by omega), hmid2]
      refine hK _ ?_; clear hK K
      show AWp _ _ _ _ _
      refine wseq ?_
      refine wreg fun K hK => ?_
      simp [C.spec_l8Gather]
      refine hK _ ?_; clear hK K
      show AWp _ _ _ _ _
      refine wseq ?_
      refine wreg fun K hK => ?_
      simp [C.spec_l8Gather]
      rw [wrapOk (x := 2 * (size : Int)) (by omega) (by omega), wrapOk (x := (at_ : Int) + 2 * size) (by omega) (by omega), hen2]
      refine hK _ ?_; clear hK K
      show AWp _ _ _ _ _
      refine wblock ?_
      refine wloop (fun x : Nat × Nat × List Qtm × Nat => ⟨ofL [(3, .al (3, 0) [] 0 l.length), (4, .int size), (5, .al (5, 0) [] 0 x.2.2.2), (6, .int at_), (7, .int x.1), (8, .int mid), (9, .int x.2.1), (10, .int en)], ofRO [((3, 0), some (.ow 3 l.length (rows qtS out))), ((5, 0), some (.ow 3 x.2.2.2 (rows qtS x.2.2.1)))]⟩) (fun x => x.1 ≤ mid ∧ x.2.1 ≤ en ∧ mid ≤ x.2.1 ∧ x.2.2.2 = x.2.2.1.length ∧ x.2.2.2 ≤ 3000000 - ((mid - x.1) + (en - x.2.1)) ∧ ∃ M, x.2.2.1 = next ++ M ∧ M ++ List.merge (sgt out x.1 mid) (sgt out x.2.1 en) qle = List.merge (sgt out at_ mid) (sgt out mid en) qle) (fun x => (mid - x.1) + (en - x.2.1)) (at_, mid, next, m) (by simp [C.spec_l8Gather]) ⟨by dsimp only; omega, by dsimp only; omega, by dsimp only; omega, hm, by dsimp only; omega, [], by simp, by simp⟩ ?_
      intro x3 hx3 R3 hR3
      obtain ⟨i, j, nx, mm⟩ := x3
      obtain ⟨h1, h2, h3, h4, h5, M, h6, h7⟩ := hx3
      dsimp only at h1 h2 h3 h4 h5 h6 h7 ⊢
      refine wseq ?_
      refine wseq ?_
      refine wreg fun K hK => ?_
      have hJ : K ⟨ofL [(3, .al (3, 0) [] 0 l.length), (4, .int size), (5, .al (5, 0) [] 0 mm), (6, .int at_), (7, .int i), (8, .int mid), (9, .int j), (10, .int en), (58, .bool (decide (i < mid ∨ j < en)))], ofRO [((3, 0), some (.ow 3 l.length (rows qtS out))), ((5, 0), some (.ow 3 mm (rows qtS nx)))]⟩ := by
        refine hK _ ?_; clear hK K
        show AWp _ _ _ _ _
        refine wcond _ rfl (fun hc3 => ?_) (fun hc3 => ?_)
        · have hij := d_t hc3
          refine wskip ?_
          show AWp _ _ _ _ _
          refine wblock ?_
          refine wseq ?_
          refine wdrawI [(true, 0), (true, 1), (true, 2), (true, 3), (true, 4), (true, 5), (true, 6), (true, 7), (true, 8), (true, 9), (true, 10), (true, 11), (true, 12), (true, 13), (true, 14), (true, 15), (false, 16), (true, 17), (true, 18), (true, 19)] ⟨by kernel_rfl, by kernel_rfl⟩ ([0, 1, 2, 3, 4, 5, 6, 7, 8, 9, 10, 11, 12, 13, 14, 15, 16] ++ ([17, 18, 19])) rfl fun K hK => ?_
          have hJ : K ⟨ofL [(3, .al (3, 0) [] 0 l.length), (4, .int size), (5, .al (5, 0) [] 0 mm), (6, .int at_), (7, .int i), (8, .int mid), (9, .int j), (10, .int en), (78, .bool (decide (en ≤ j ∨ (i < mid ∧ qle (out.getD i q0) (out.getD j q0) = true))))], ofRO [((3, 0), some (.ow 3 l.length (rows qtS out))), ((5, 0), some (.ow 3 mm (rows qtS nx)))]⟩ := by
            refine hK _ ?_; clear hK K
            show AWp _ _ _ _ _
            refine wcond _ rfl (fun hc4 => ?_) (fun hc4 => ?_)
            · have hcc := d_t hc4
              have him : i < mid := by omega
              have hi : i < out.length := by omega
              have hi' : i < l.length := by omega
              refine wseq ?_
              refine wreg fun K hK => ?_
              simp [C.spec_l8Gather, hi', qtS_0 hi, qtS_1 hi, qtS_2 hi, qtS_snoc, show (mm + 1) * 40 ≤ 140737488355328 by omega]
              refine hK _ ?_; clear hK K
              show AWp _ _ _ _ _
              refine wreg fun K hK => ?_
              simp [C.spec_l8Gather, wrap_succ (show i < 4611686018427387904 by omega)]
              refine hK _ ?_; clear hK K
              simp [C.spec_l8Gather]
              refine hR3 (i + 1, j, _, mm + 1) ⟨him, h2, h3, by dsimp only; rw [h4]; simp, by dsimp only; omega, M ++ [out[i]], by dsimp only; rw [h6, List.append_assoc], ?_⟩ (by dsimp only; omega)
              dsimp only
              rw [← h7, List.append_assoc, sgt_cons him hi]
              rcases Nat.lt_or_ge j en with hje | hje
              · have hj : j < out.length := by omega
                rw [sgt_cons hje hj, mrg_cons]
                have hk' : qle out[i] out[j] = true := by
                  rcases hcc with hcc | ⟨_, hcc⟩
                  · omega
                  · rw [getQ_at hi, getQ_at hj] at hcc
                    exact hcc
                rw [if_pos hk']
                rfl
              · rw [sgt_nil hje, mrg_nil_right, mrg_nil_right]
                rfl
            · have hcc := d_f hc4
              have hje : j < en := by omega
              have hj : j < out.length := by omega
              have hj' : j < l.length := by omega
              refine wseq ?_
              refine wreg fun K hK => ?_
              simp [C.spec_l8Gather, hj', qtS_0 hj, qtS_1 hj, qtS_2 hj, qtS_snoc, show (mm + 1) * 40 ≤ 140737488355328 by omega]
              refine hK _ ?_; clear hK K
              show AWp _ _ _ _ _
              refine wreg fun K hK => ?_
              simp [C.spec_l8Gather, wrap_succ (show j < 4611686018427387904 by omega)]
              refine hK _ ?_; clear hK K
              simp [C.spec_l8Gather]
              refine hR3 (i, j + 1, _, mm + 1) ⟨h1, hje, by dsimp only; omega, by dsimp only; rw [h4]; simp, by dsimp only; omega, M ++ [out[j]], by dsimp only; rw [h6, List.append_assoc], ?_⟩ (by dsimp only; omega)
              dsimp only
              rw [← h7, List.append_assoc, sgt_cons hje hj]
              rcases Nat.lt_or_ge i mid with him | him
              · have hi : i < out.length := by omega
                rw [sgt_cons him hi, mrg_cons]
                have hk' : ¬ qle out[i] out[j] = true := by
                  intro hk'
                  refine hcc (.inr ⟨him, ?_⟩)
                  rw [getQ_at hi, getQ_at hj]
                  exact hk'
                rw [if_neg hk']
                rfl
              · rw [sgt_nil him, mrg_nil_left, mrg_nil_left]
                rfl
          clear hK
          by_cases ha : en ≤ j
          · refine opsI_seg fun L hL => ?_
            simp [C.spec_l8Gather, ha]
            refine hL _ ?_; clear hL L
            refine opsI_end fun L hL => ?_
            simp [C.spec_l8Gather, ha]
            refine hL _ ?_; clear hL L
            simp [C.spec_l8Gather, ha]
            refine cast (congrArg K ?_) hJ
            simp [ha]
          · by_cases hb : i < mid
            · have hi : i < out.length := by omega
              have hj : j < out.length := by omega
              have hi' : i < l.length := by omega
              have hj' : j < l.length := by omega
              refine opsI_seg fun L hL => ?_
              simp [C.spec_l8Gather, hi', hj', qtS_0 hi, qtS_0 hj, qtS_1 hi, qtS_1 hj, qtS_2 hi, qtS_2 hj, ha, hb]
              refine wcall1 (spec_l8Less_calls out[j] out[i] (by have := hel _ (List.getElem_mem hj); omega) (by have := hel _ (List.getElem_mem hi); omega)) (by simp) (by simp) ?_
              simp [C.spec_l8Gather, hi', hj', qtS_0 hi, qtS_0 hj, qtS_1 hi, qtS_1 hj, qtS_2 hi, qtS_2 hj, ha, hb]
              refine hL _ ?_; clear hL L
              refine opsI_end fun L hL => ?_
              simp [C.spec_l8Gather, hi', hj', qtS_0 hi, qtS_0 hj, qtS_1 hi, qtS_1 hj, qtS_2 hi, qtS_2 hj, ha, hb]
              refine hL _ ?_; clear hL L
              simp [C.spec_l8Gather, hi', hj', qtS_0 hi, qtS_0 hj, qtS_1 hi, qtS_1 hj, qtS_2 hi, qtS_2 hj, ha, hb]
              refine cast (congrArg K ?_) hJ
              simp [List.getD_eq_getElem?_getD, hi, hj, qle, ha, hb]
            · refine opsI_seg fun L hL => ?_
              simp [C.spec_l8Gather, ha, hb]
              refine hL _ ?_; clear hL L
              refine opsI_end fun L hL => ?_
              simp [C.spec_l8Gather, ha, hb]
              refine hL _ ?_; clear hL L
              simp [C.spec_l8Gather, ha, hb]
              refine cast (congrArg K ?_) hJ
              simp [ha, hb]
        · have hij := d_f hc3
          have ei : mid ≤ i := by omega
          have ej : en ≤ j := by omega
          rw [sgt_nil ei, sgt_nil ej, mrg_nil_left, List.append_nil] at h7
          refine wexit ?_
          show AWp _ _ _ _ _
          refine wreg fun K hK => ?_
          simp [C.spec_l8Gather]
          rw [wrapOk (x := 2 * (size : Int)) (by omega) (by omega), wrapOk (x := (at_ : Int) + 2 * size) (by omega) (by omega)]
          refine hK _ ?_; clear hK K
          have hA : (sgt out at_ mid).Pairwise fun a b => qle a b = true := sgt_runs (k := 2 * k) hruns (by rw [hk]; rw [Nat.mul_comm 2 size, Nat.mul_assoc]) (by rw [hmid, hol])
          have hB : (sgt out mid en).Pairwise fun a b => qle a b = true := by
            rcases Nat.le_total (at_ + size) l.length with hq | hq
            · have e1 : mid = at_ + size := by omega
              exact sgt_runs (k := 2 * k + 1) hruns (by rw [e1, hk, Nat.mul_succ, Nat.mul_comm 2 size, Nat.mul_assoc]) (by rw [hol, hen, e1]; congr 1; omega)
            · rw [sgt_nil (by omega)]
              exact List.Pairwise.nil
          have hM := mrq_sorted hA hB
          have hMp := mrq_perm (sgt out at_ mid) (sgt out mid en)
          rw [← h7] at hM hMp
          have hMl : M.length = en - at_ := by
            have := hMp.length_eq
            have e2 := congrArg List.length (sgt_take (out := out) (a := at_) (b := mid) (c := en) (by omega) (by omega))
            simp only [List.length_append, List.length_take] at this e2
            omega
          simp [C.spec_l8Gather]
          rw [show (at_ : Int) + 2 * size = ((at_ + 2 * size : Nat) : Int) by omega]
          refine hR2 (at_ + 2 * size, nx, mm) ⟨⟨k + 1, by dsimp only; rw [hk, Nat.mul_succ]⟩, h4, ?_, ?_, ?_, by dsimp only; omega⟩ (by dsimp only; omega)
          · dsimp only
            rw [h6, List.length_append, hMl]
            omega
          · dsimp only
            rw [h6]
            have e3 : out.take (at_ + 2 * size) = out.take en := by
              rw [hen]
              rcases Nat.le_total (at_ + 2 * size) l.length with hq | hq
              · rw [Nat.min_eq_left hq]
              · rw [Nat.min_eq_right hq, List.take_of_length_le (by omega), List.take_of_length_le (by omega)]
            rw [e3, ← sgt_take (out := out) (a := at_) (b := mid) (c := en) (by omega) (by omega)]
            exact hnp.append hMp
          · dsimp only
            rw [h6]
            exact runs_snoc hnr (by rw [hnl2, hk]) hM (by omega)
      clear hK
      by_cases ha : i < mid
      · simp [C.spec_l8Gather, ha]
        refine cast (congrArg K ?_) hJ
        simp [ha]
      · simp [C.spec_l8Gather, ha]
        refine cast (congrArg K ?_) hJ
        simp [ha]
    · have hat : l.length ≤ at_ := by have := d_f hc2; omega
      have hml : m = l.length := by omega
      refine wexit ?_
      show AWp _ _ _ _ _
      refine wreg fun K hK => ?_
      simp [C.spec_l8Gather]
      refine hK _ ?_; clear hK K
      show AWp _ _ _ _ _
      refine wreg fun K hK => ?_
      simp [C.spec_l8Gather]
      rw [wrapOk (x := (size : Int) * 2) (by omega) (by omega)]
      refine hK _ ?_; clear hK K
      simp [C.spec_l8Gather]
      rw [show (size : Int) * 2 = ((2 * size : Nat) : Int) by omega, hml]
      refine hR1 (2 * size, next) ⟨?_, hnr, by dsimp only; omega, by dsimp only; omega⟩ (by dsimp only; omega)
      dsimp only
      rw [List.take_of_length_le (by omega)] at hnp
      exact hnp.trans hperm
  · have hlt : l.length ≤ size := by have := d_f hc1; omega
    have hsort := runs_all hruns (by omega)
    have hga := combS_gaQ hperm hsort
    have habs := absQ_perm hperm
    obtain ⟨T, hT⟩ : ∃ T, T = combS [] (out.map qp) := ⟨_, rfl⟩
    rw [← hT] at hga
    refine wexit ?_
    show AWp _ _ _ _ _
    refine wseq ?_
    refine wreg fun K hK => ?_
    simp [C.spec_l8Gather]
    refine hK _ ?_; clear hK K
    show AWp _ _ _ _ _
    refine wseq ?_
    refine wseq ?_
    refine wreg fun K hK => ?_
    simp [C.spec_l8Gather]
    refine hK _ ?_; clear hK K
    show AWp _ _ _ _ _
    refine wblock ?_
    refine wloop (fun x : Nat × List Qtm => ⟨ofL [(3, .al (3, 0) [] 0 l.length), (11, .al (11, 0) [] 0 x.2.length), (12, .int x.1)], ofRO [((3, 0), some (.ow 3 l.length (rows qtS out))), ((11, 0), some (.ow 3 x.2.length (rows qtO x.2)))]⟩) (fun x => x.1 ≤ l.length ∧ x.2.length ≤ x.1 ∧ combS (x.2.map qp) ((out.drop x.1).map qp) = T ∧ absQ x.2 ≤ absQ (out.take x.1) ∧ ∀ t ∈ x.2, t.e.length ≤ 8) (fun x => l.length - x.1) (0, []) (by simp [C.spec_l8Gather, rows]) ⟨by simp, by simp, by simp [hT], by simp, by simp⟩ ?_
    intro x4 hx4 R4 hR4
    obtain ⟨k, G⟩ := x4
    obtain ⟨g1, g2, g3, g4, g5⟩ := hx4
    dsimp only at g1 g2 g3 g4 g5 ⊢
    refine wseq ?_
    refine wseq ?_
    refine wreg fun K hK => ?_
    simp [C.spec_l8Gather]
    refine hK _ ?_; clear hK K
    show AWp _ _ _ _ _
    refine wcond _ rfl (fun hc5 => ?_) (fun hc5 => ?_)
    · have hk : k < l.length := by have := d_t hc5; omega
      have hko : k < out.length := by omega
      have hokb : (out.take k) ++ [out[k]] = out.take (k + 1) := (List.take_succ_eq_append_getElem hko).symm
      have hab1 : absQ (out.take (k + 1)) = absQ (out.take k) + out[k].c.natAbs := by rw [← hokb, absQ_append]; simp [absQ]
      have hab2 : absQ (out.take (k + 1)) ≤ absQ l := by
        rw [← habs]
        conv => rhs; rw [← List.take_append_drop (k + 1) out, absQ_append]
        omega
      have hg3 : combS ((addQ G out[k]).map qp) ((out.drop (k + 1)).map qp) = T := by
        rw [addQ_qp, ← g3, List.drop_eq_getElem_cons hko]
        rfl
      have hg4 : absQ (addQ G out[k]) ≤ absQ (out.take (k + 1)) := by
        have := absQ_addQ G out[k]
        omega
      have hek := hel _ (List.getElem_mem hko)
      refine wskip ?_
      show AWp _ _ _ _ _
      refine wseq ?_
      refine wblock ?_
      refine wseq ?_
      refine wreg fun K hK => ?_
      simp [C.spec_l8Gather]
      refine hK _ ?_; clear hK K
      show AWp _ _ _ _ _
      refine wseq ?_
      refine wseq ?_
      refine wdrawI [(true, 0), (true, 1), (true, 2), (true, 3), (true, 4), (true, 5), (true, 6), (true, 7), (true, 8), (true, 9), (true, 10), (true, 11), (true, 12), (true, 13), (true, 14), (true, 15), (true, 16), (true, 17), (true, 18), (true, 19), (true, 20), (true, 21), (true, 22), (true, 23), (true, 24), (true, 25), (true, 26), (true, 27), (false, 28), (true, 29)] ⟨by kernel_rfl, by kernel_rfl⟩ ([0, 1, 2, 3, 4, 5, 6, 7, 8, 9, 10, 11, 12, 13, 14, 15, 16, 17, 18, 19, 20, 21, 22, 23, 24, 25, 26, 27, 28] ++ ([29])) rfl fun K hK => ?_
      have hJ : K ⟨ofL [(3, .al (3, 0) [] 0 l.length), (11, .al (11, 0) [] 0 G.length), (12, .int k), (13, .int G.length), (136, .bool (decide (0 < G.length ∧ (G.getD (G.length - 1) q0).h = out[k].h ∧ (G.getD (G.length - 1) q0).e = out[k].e)))], ofRO [((3, 0), some (.ow 3 l.length (rows qtS out))), ((11, 0), some (.ow 3 G.length (rows qtO G)))]⟩ := by
        refine hK _ ?_; clear hK K
        show AWp _ _ _ _ _
        refine wcond _ rfl (fun hc6 => ?_) (fun hc6 => ?_)
        · have hcc := d_t hc6
          obtain ⟨q, hqe⟩ : ∃ q, G.length = q + 1 := ⟨G.length - 1, by omega⟩
          have hq : q < G.length := by omega
          rw [show G.length - 1 = q by omega, getQ_at hq] at hcc
          have hkk : qk G[q] = qk out[k] := by simp [qk, hcc.2.1, hcc.2.2]
          have hGq := absQ_mem (List.getElem_mem hq)
          have hsm := addQ_same hqe hkk
          refine wseq ?_
          refine wdrawI [(true, 0), (true, 1), (true, 2), (true, 3), (true, 4), (true, 5), (true, 6), (true, 7), (true, 8), (true, 9), (true, 10), (true, 11), (true, 12), (true, 13), (true, 14), (true, 15), (true, 16), (false, 17)] ⟨by kernel_rfl, by kernel_rfl⟩ ([0, 1, 2, 3, 4, 5, 6, 7, 8, 9, 10, 11, 12, 13, 14, 15, 16, 17]) rfl fun K hK => ?_
          refine opsI_end fun L hL => ?_
          simp [C.spec_l8Gather, hqe, hk, show ((q : Int) < (q : Int) + 1) by omega, qtO_2 hq, qtS_2 hko, qtO_set2 hq, wrap_nat (show q < 4611686018427387904 by omega), wrapOk (x := G[q].c + out[k].c) (by omega) (by omega)]
          refine hL _ ?_; clear hL L
          simp [C.spec_l8Gather, hqe, hk, show ((q : Int) < (q : Int) + 1) by omega, qtO_2 hq, qtS_2 hko, qtO_set2 hq, wrap_nat (show q < 4611686018427387904 by omega), wrapOk (x := G[q].c + out[k].c) (by omega) (by omega)]
          refine hK _ ?_; clear hK K
          show AWp _ _ _ _ _
          refine wexit ?_
          show AWp _ _ _ _ _
          refine wreg fun K hK => ?_
          simp [C.spec_l8Gather, wrap_succ (show k < 4611686018427387904 by omega)]
          refine hK _ ?_; clear hK K
          simp [C.spec_l8Gather]
          rw [show q + 1 = (addQ G out[k]).length by rw [hsm]; simp [hqe], ← hsm]
          refine hR4 (k + 1, addQ G out[k]) ⟨hk, by dsimp only; rw [hsm]; simp; omega, hg3, hg4, ?_⟩ (by dsimp only; omega)
          dsimp only
          rw [hsm]
          intro t ht
          rcases List.mem_or_eq_of_mem_set ht with ht | ht
          · exact g5 t ht
          · have := g5 _ (List.getElem_mem hq)
            rw [ht]
            exact this
        · have hcc := d_f hc6
          have hnw : addQ G out[k] = G ++ [out[k]] := addQ_new fun z hz e => by
            rw [List.getLast?_eq_getElem?] at hz
            obtain ⟨hq, hz⟩ := List.getElem?_eq_some_iff.1 hz
            refine hcc ⟨by omega, ?_⟩
            rw [getQ_at hq, hz]
            simp only [qk, Prod.mk.injEq] at e
            exact ⟨e.2, e.1⟩
          refine wskip ?_
          show AWp _ _ _ _ _
          refine wdrawI [(true, 0), (true, 1), (true, 2), (true, 3), (true, 4), (true, 5), (true, 7), (true, 8), (true, 9), (true, 10), (true, 11), (true, 12), (true, 13), (true, 14), (true, 15), (true, 16), (false, 6), (true, 17), (false, 18), (false, 19), (true, 20)] ⟨by kernel_rfl, by kernel_rfl⟩ ([0, 1, 2, 3, 4, 5, 7, 8, 9, 10, 11, 12, 13, 14, 15, 16, 6] ++ ([17, 18, 19, 20])) rfl fun K hK => ?_
          refine opsI_seg fun L hL => ?_
          simp [C.spec_l8Gather, hk, qtS_0 hko, qtS_1 hko, qtS_2 hko, qtO_snoc, show (G.length + 1) * 40 ≤ 140737488355328 by omega]
          refine wcall1 (spec_l1Ints_calls out[k].e (by omega)) (by simp) (by simp) ?_
          simp [C.spec_l8Gather, hk, qtS_0 hko, qtS_1 hko, qtS_2 hko, qtO_snoc, show (G.length + 1) * 40 ≤ 140737488355328 by omega]
          refine hL _ ?_; clear hL L
          refine opsI_end fun L hL => ?_
          simp [C.spec_l8Gather, hk, qtS_0 hko, qtS_1 hko, qtS_2 hko, qtO_snoc, show (G.length + 1) * 40 ≤ 140737488355328 by omega]
          refine hL _ ?_; clear hL L
          simp [C.spec_l8Gather, hk, qtS_0 hko, qtS_1 hko, qtS_2 hko, qtO_snoc, show (G.length + 1) * 40 ≤ 140737488355328 by omega]
          refine hK _ ?_; clear hK K
          show AWp _ _ _ _ _
          refine wreg fun K hK => ?_
          simp [C.spec_l8Gather, wrap_succ (show k < 4611686018427387904 by omega)]
          refine hK _ ?_; clear hK K
          simp [C.spec_l8Gather]
          rw [show G.length + 1 = (addQ G out[k]).length by rw [hnw]; simp, ← hnw]
          refine hR4 (k + 1, addQ G out[k]) ⟨hk, by dsimp only; rw [hnw]; simp; omega, hg3, hg4, ?_⟩ (by dsimp only; omega)
          dsimp only
          rw [hnw]
          intro t ht
          rcases List.mem_append.1 ht with ht | ht
          · exact g5 t ht
          · simp only [List.mem_singleton] at ht
            rw [ht]
            exact hek
      clear hK
      by_cases ha : 0 < G.length
      · by_cases hb : (G.getD (G.length - 1) q0).h = out[k].h
        · obtain ⟨q, hqe⟩ : ∃ q, G.length = q + 1 := ⟨G.length - 1, by omega⟩
          have hq : q < G.length := by omega
          rw [hqe, show q + 1 - 1 = q by omega, getQ_at hq] at hb
          refine opsI_seg fun L hL => ?_
          simp [C.spec_l8Gather, hk, qtS_0 hko, qtS_1 hko, qtS_2 hko, hqe, show ((0 : Int) < (q : Int) + 1) by omega, show ((q : Int) < (q : Int) + 1) by omega, qtO_0 hq, qtO_1 hq, wrap_nat (show q < 4611686018427387904 by omega), ha, hb]
          refine wcall1 (spec_l1Same_calls G[q].e out[k].e (by have := g5 _ (List.getElem_mem hq); omega)) (by simp) (by simp) ?_
          simp [C.spec_l8Gather, hk, qtS_0 hko, qtS_1 hko, qtS_2 hko, hqe, show ((0 : Int) < (q : Int) + 1) by omega, show ((q : Int) < (q : Int) + 1) by omega, qtO_0 hq, qtO_1 hq, wrap_nat (show q < 4611686018427387904 by omega), ha, hb]
          refine hL _ ?_; clear hL L
          refine opsI_end fun L hL => ?_
          simp [C.spec_l8Gather, hk, qtS_0 hko, qtS_1 hko, qtS_2 hko, hqe, show ((0 : Int) < (q : Int) + 1) by omega, show ((q : Int) < (q : Int) + 1) by omega, qtO_0 hq, qtO_1 hq, wrap_nat (show q < 4611686018427387904 by omega), ha, hb]
          refine hL _ ?_; clear hL L
          simp [C.spec_l8Gather, hk, qtS_0 hko, qtS_1 hko, qtS_2 hko, hqe, show ((0 : Int) < (q : Int) + 1) by omega, show ((q : Int) < (q : Int) + 1) by omega, qtO_0 hq, qtO_1 hq, wrap_nat (show q < 4611686018427387904 by omega), ha, hb]
          refine cast (congrArg K ?_) hJ
          simp [List.getD_eq_getElem?_getD, hqe, List.getElem?_eq_getElem hq, hb, ha, hb]
        · obtain ⟨q, hqe⟩ : ∃ q, G.length = q + 1 := ⟨G.length - 1, by omega⟩
          have hq : q < G.length := by omega
          rw [hqe, show q + 1 - 1 = q by omega, getQ_at hq] at hb
          refine opsI_seg fun L hL => ?_
          simp [C.spec_l8Gather, hk, qtS_0 hko, qtS_1 hko, qtS_2 hko, hqe, show ((0 : Int) < (q : Int) + 1) by omega, show ((q : Int) < (q : Int) + 1) by omega, qtO_1 hq, wrap_nat (show q < 4611686018427387904 by omega), ha, hb]
          refine hL _ ?_; clear hL L
          refine opsI_end fun L hL => ?_
          simp [C.spec_l8Gather, hk, qtS_0 hko, qtS_1 hko, qtS_2 hko, hqe, show ((0 : Int) < (q : Int) + 1) by omega, show ((q : Int) < (q : Int) + 1) by omega, qtO_1 hq, wrap_nat (show q < 4611686018427387904 by omega), ha, hb]
          refine hL _ ?_; clear hL L
          simp [C.spec_l8Gather, hk, qtS_0 hko, qtS_1 hko, qtS_2 hko, hqe, show ((0 : Int) < (q : Int) + 1) by omega, show ((q : Int) < (q : Int) + 1) by omega, qtO_1 hq, wrap_nat (show q < 4611686018427387904 by omega), ha, hb]
          refine cast (congrArg K ?_) hJ
          simp [List.getD_eq_getElem?_getD, hqe, List.getElem?_eq_getElem hq, hb, ha, hb]
      · refine opsI_seg fun L hL => ?_
        simp [C.spec_l8Gather, hk, qtS_0 hko, qtS_1 hko, qtS_2 hko, ha]
        refine hL _ ?_; clear hL L
        refine opsI_end fun L hL => ?_
        simp [C.spec_l8Gather, hk, qtS_0 hko, qtS_1 hko, qtS_2 hko, ha]
        refine hL _ ?_; clear hL L
        simp [C.spec_l8Gather, hk, qtS_0 hko, qtS_1 hko, qtS_2 hko, ha]
        refine cast (congrArg K ?_) hJ
        simp [ha]
    · have hk : k = l.length := by have := d_f hc5; omega
      have hGT : G.map qp = T := by
        rw [← g3, hk, ← hol, List.drop_length]
        rfl
      have hfin : G.filter (fun t => t.c ≠ 0) = gaQ l := by
        rw [← hga, ← hGT, List.filter_map, map_qt]
        rfl
      refine wexit ?_
      show AWp _ _ _ _ _
      refine wseq ?_
      refine wreg fun K hK => ?_
      simp [C.spec_l8Gather]
      refine hK _ ?_; clear hK K
      show AWp _ _ _ _ _
      refine wseq ?_
      refine wseq ?_
      refine wreg fun K hK => ?_
      simp [C.spec_l8Gather]
      refine hK _ ?_; clear hK K
      show AWp _ _ _ _ _
      refine wblock ?_
      refine wloop (fun x : Nat × List Qtm => ⟨ofL [(11, .al (11, 0) [] 0 G.length), (14, .al (14, 0) [] 0 x.2.length), (15, .int x.1)], ofRO [((11, 0), some (.ow 3 G.length (mvS G x.1))), ((14, 0), some (.ow 3 x.2.length (rows qtO x.2)))]⟩) (fun x => x.1 ≤ G.length ∧ x.2.length ≤ x.1 ∧ x.2 = (G.take x.1).filter (fun t => t.c ≠ 0)) (fun x => G.length - x.1) (0, []) (by simp [C.spec_l8Gather, rows, mvS_zero]) ⟨by simp, by simp, by simp⟩ ?_
      intro x5 hx5 R5 hR5
      obtain ⟨k, L⟩ := x5
      obtain ⟨e1, e2, e3⟩ := hx5
      dsimp only at e1 e2 e3 ⊢
      refine wseq ?_
      refine wseq ?_
      refine wreg fun K hK => ?_
      simp [C.spec_l8Gather]
      refine hK _ ?_; clear hK K
      show AWp _ _ _ _ _
      refine wcond _ rfl (fun hc7 => ?_) (fun hc7 => ?_)
      · have hk2 : k < G.length := by have := d_t hc7; omega
        refine wskip ?_
        show AWp _ _ _ _ _
        refine wseq ?_
        refine wblock ?_
        refine wseq ?_
        refine wreg fun K hK => ?_
        simp [C.spec_l8Gather, hk2, mvS_2 hk2]
        refine hK _ ?_; clear hK K
        show AWp _ _ _ _ _
        refine wcond _ rfl (fun hc8 => ?_) (fun hc8 => ?_)
        · have hz : ¬ G[k].c = 0 := by simpa using hc8
          refine wreg fun K hK => ?_
          simp [C.spec_l8Gather, hk2, mvS_0 hk2, mvS_1 hk2, mvS_2 hk2, modify_const, mvS_move hk2 hz, qtO_snoc, show (L.length + 1) * 40 ≤ 140737488355328 by omega]
          refine hK _ ?_; clear hK K
          show AWp _ _ _ _ _
          refine wreg fun K hK => ?_
          simp [C.spec_l8Gather, wrap_succ (show k < 4611686018427387904 by omega)]
          refine hK _ ?_; clear hK K
          simp [C.spec_l8Gather]
          rw [show L.length + 1 = (L ++ [G[k]]).length by simp]
          refine hR5 (k + 1, L ++ [G[k]]) ⟨hk2, by dsimp only; simp; omega, ?_⟩ (by dsimp only; omega)
          dsimp only
          rw [List.take_succ_eq_append_getElem hk2, List.filter_append, ← e3]
          simp [hz]
        · have hz : G[k].c = 0 := by simpa using hc8
          refine wskip ?_
          show AWp _ _ _ _ _
          refine wreg fun K hK => ?_
          simp [C.spec_l8Gather, wrap_succ (show k < 4611686018427387904 by omega)]
          refine hK _ ?_; clear hK K
          simp [C.spec_l8Gather]
          rw [← mvS_stay hk2 hz]
          refine hR5 (k + 1, L) ⟨hk2, by dsimp only; omega, ?_⟩ (by dsimp only; omega)
          dsimp only
          rw [List.take_succ_eq_append_getElem hk2, List.filter_append, ← e3]
          simp [hz]
      · have hk2 : k = G.length := by have := d_f hc7; omega
        have hL : L = gaQ l := by rw [e3, hk2, List.take_length]; exact hfin
        refine wexit ?_
        show AWp _ _ _ _ _
        refine wseq ?_
        refine wreg fun K hK => ?_
        simp [C.spec_l8Gather]
        refine hK _ ?_; clear hK K
        show AWp _ _ _ _ _
        refine wret ?_
        simp [C.spec_l8Gather, hL]

end Go.Proofs.Ytocknokodgnlbaa.Ab
namespace Go.Proofs.Ytocknokodgnlbaa.Ab
open Go
set_option linter.unusedSimpArgs false
set_option linter.unusedVariables false
set_option maxRecDepth 10000
set_option maxHeartbeats 2000000
@[simp] theorem qtS_share2 (l : List Qtm) : shareL (rows qtS l) = rows qtS l := by
  rw [rows_share]
  congr 1
noncomputable def enQ (v : Int) (ts : List Qtm) : Qsm × Bool := if QRight ⟨v, ts⟩ then (⟨v, ts⟩, true) else (zeroQ, false)
/-- What is left of the terms that were handed in. -/
noncomputable def oQ (v : Int) (ts : List Qtm) : D := if QRight ⟨v, ts⟩ then .gone else .ow 3 ts.length (rows qtO ts)
theorem gaQ_len (l : List Qtm) : (gaQ l).length ≤ l.length := by
  unfold gaQ
  have := nf_len (lt := qlt) (l.map qp)
  simpa using this
theorem gaQ_e {l : List Qtm} {p : List Int → Prop} (h : ∀ t ∈ l, p t.e) : ∀ t ∈ gaQ l, p t.e := fun t ht => by
  unfold gaQ at ht
  obtain ⟨y, hy, rfl⟩ := List.mem_map.1 ht
  obtain ⟨x, hx, e⟩ := nf_mem hy
  obtain ⟨u, hu, rfl⟩ := List.mem_map.1 hx
  have := h u hu
  have e2 : u.e = (qt y).e := congrArg (·.1) e
  rw [← e2]
  exact this
theorem spec_l8Shut_calls (ts : List Qtm) (v : Int) (hx : ts.length < 4611686018427387904) (hxe : ∀ t ∈ ts, t.e.length < 4611686018427387904) : ACalls Try.prog F.spec_l8Shut [.al (0, 0) [] 0 ts.length, .int v] [((0, 0), .ow 3 ts.length (rows qtO ts))] true (fun outs res => outs = [oQ v ts] ∧ WkRs res [.ag (qO (enQ v ts).1), .one (D.bool (enQ v ts).2)]) := by
  refine ACalls.of_body (C := C.spec_l8Shut) (n := Try.f88.ntmps) tabT folT Try.func88 rfl (by kernel_rfl) rfl (Nat.le_of_ble_eq_true rfl) (by decide) (by kernel_rfl) (by kernel_rfl) rfl (by simp) (by simp) ?_
  simp only [Try.f88]
  refine wseq ?_
  refine wreg fun K hK => ?_
  simp [C.spec_l8Shut]
  refine hK _ ?_; clear hK K
  show AWp _ _ _ _ _
  refine wseq ?_
  refine wreg fun K hK => ?_
  simp [C.spec_l8Shut]
  refine hK _ ?_; clear hK K
  show AWp _ _ _ _ _
  refine wseq ?_
  refine wseq ?_
  refine wregI ([0, 1] ++ ([2])) rfl fun K hK => ?_
  refine opsI_seg fun L hL => ?_
  simp [C.spec_l8Shut]
  refine wcall1 (spec_QSumOk_calls ⟨v, ts⟩ hx hxe) (by simp) (by simp) ?_
  simp [C.spec_l8Shut]
  refine hL _ ?_; clear hL L
  refine opsI_end fun L hL => ?_
  simp [C.spec_l8Shut]
  refine hL _ ?_; clear hL L
  simp [C.spec_l8Shut]
  refine hK _ ?_; clear hK K
  show AWp _ _ _ _ _
  refine wcond _ rfl (fun hc1 => ?_) (fun hc1 => ?_)
  · have hr := nd_t hc1
    have hm : enQ v ts = (zeroQ, false) := if_neg hr
    have ho : oQ v ts = .ow 3 ts.length (rows qtO ts) := if_neg hr
    refine wseq ?_
    refine wreg fun K hK => ?_
    simp [C.spec_l8Shut]
    refine hK _ ?_; clear hK K
    show AWp _ _ _ _ _
    refine wret ?_
    simp [C.spec_l8Shut, hm, ho, qO, zeroQ, rows]
  · have hr := nd_f hc1
    have hm : enQ v ts = (⟨v, ts⟩, true) := if_pos hr
    have ho : oQ v ts = .gone := if_pos hr
    refine wskip ?_
    show AWp _ _ _ _ _
    refine wseq ?_
    refine wreg fun K hK => ?_
    simp [C.spec_l8Shut]
    refine hK _ ?_; clear hK K
    show AWp _ _ _ _ _
    refine wret ?_
    simp [C.spec_l8Shut, hm, ho, qO]
theorem l8Shut_calls (ts : List Qtm) (v : Int) (hx : ts.length < 4611686018427387904) (hxe : ∀ t ∈ ts, t.e.length < 4611686018427387904) : ACalls Try.prog F.spec_l8Shut [.al (0, 0) [] 0 ts.length, .int v] [((0, 0), .ow 3 ts.length (rows qtO ts))] true (fun outs res => outs = [.gone] ∧ res = [.ag (qO (enQ v ts).1), .one (D.bool (enQ v ts).2)]) := ACalls.goneOut (spec_l8Shut_calls ts v hx hxe).weak1



end Go.Proofs.Ytocknokodgnlbaa.Ab
namespace Go.Proofs.Ytocknokodgnlbaa.Ab
open Go
set_option linter.unusedSimpArgs false
set_option linter.unusedVariables false
set_option maxRecDepth 10000
set_option maxHeartbeats 2000000
@[simp] theorem lowL_length (ts : List Trm) (n : Nat) : (lowL ts n).length = n := by simp [lowL]
@[simp] theorem highL_length (ts : List Trm) (n : Nat) : (highL ts n).length = n := by simp [highL]
theorem ieq600 (n : Nat) : ((n : Int) == 600) = decide (n = 600) := by
  rw [Bool.eq_iff_iff]; simp; omega
end Go.Proofs.Ytocknokodgnlbaa.Ab
namespace Go.Proofs.Ytocknokodgnlbaa.Ab
open Go
set_option linter.unusedSimpArgs false
set_option linter.unusedVariables false
set_option maxRecDepth 10000
set_option maxHeartbeats 2000000
def mulT2 (fm : List (List Int)) (x y : Qtm) : Qtm := ⟨addE 1 x.e y.e, x.h + y.h + skw fm x.e y.e, x.c * y.c⟩
def prodQ (fm : List (List Int)) (a b : List Qtm) : List Qtm := a.flatMap fun x => b.map (mulT2 fm x)
/-- Terms of moderate size. -/
def QL (n : Nat) (l : List Qtm) : Prop := l.length ≤ 600 ∧ ∀ t ∈ l, t.e.length = n ∧ (∀ x ∈ t.e, -1000 ≤ x ∧ x ≤ 1000) ∧ (-1000 ≤ t.h ∧ t.h ≤ 1000) ∧ (-1000000 ≤ t.c ∧ t.c ≤ 1000000)
theorem qright_ql {f : Qsm} (h : QRight f) {n : Nat} (hn : f.v = n) : QL n f.ts := ⟨h.2.1, fun t ht => by
  obtain ⟨h1, _, h2, h3, h4⟩ := h.2.2.1 t ht
  exact ⟨by omega, fun x hx => by have := h4 x hx; omega, by omega, h2⟩⟩
theorem QL.sk {fm : List (List Int)} {a b : List Qtm} (hok : FormOk fm) (ha : QL fm.length a) (hb : QL fm.length b) {x y : Qtm} (hx : x ∈ a) (hy : y ∈ b) : SkOk fm x.e y.e :=
  ⟨hok, (ha.2 x hx).1, (hb.2 y hy).1, (ha.2 x hx).2.1, (hb.2 y hy).2.1⟩
theorem addE_tk : ∀ (a b : List Int) (k : Nat) (h1 : k < a.length) (h2 : k < b.length), addE 1 (a.take (k + 1)) (b.take (k + 1)) = addE 1 (a.take k) (b.take k) ++ [a[k] + b[k]]
  | x :: a, y :: b, 0, _, _ => by simp [addE]
  | x :: a, y :: b, k + 1, h1, h2 => by
    have := addE_tk a b k (by simpa using h1) (by simpa using h2)
    simp only [List.take_succ_cons, addE, this, List.getElem_cons_succ, List.cons_append]
theorem ints_snoc1 (xs : List Int) (x : Int) : ints xs ++ [D.v (.int .i64 x)] = ints (xs ++ [x]) := by simp [ints]
theorem prodQ_step {fm : List (List Int)} {a b : List Qtm} {i : Nat} (h : i < a.length) : prodQ fm (a.take (i + 1)) b = prodQ fm (a.take i) b ++ b.map (mulT2 fm a[i]) := by
  unfold prodQ
  rw [List.take_succ_eq_append_getElem h, List.flatMap_append]
  simp
theorem prodQ_len (fm : List (List Int)) (a b : List Qtm) : (prodQ fm a b).length = a.length * b.length := by
  unfold prodQ
  induction a with
  | nil => simp
  | cons x a ih => simp [List.flatMap_cons, ih, Nat.add_mul]; omega
theorem prodQ_mem {fm : List (List Int)} {a b : List Qtm} {t : Qtm} (h : t ∈ prodQ fm a b) : ∃ x ∈ a, ∃ y ∈ b, t = mulT2 fm x y := by
  unfold prodQ at h
  obtain ⟨x, hx, h⟩ := List.mem_flatMap.1 h
  obtain ⟨y, hy, h⟩ := List.mem_map.1 h
  exact ⟨x, hx, y, hy, h.symm⟩
theorem prodQ_abs {fm : List (List Int)} {a b : List Qtm} {n : Nat} (ha : QL n a) (hb : QL n b) : absQ (prodQ fm a b) < 4611686018427387904 := by
  have h1 : absQ (prodQ fm a b) ≤ (prodQ fm a b).length * 1000000000000 := absQ_le fun t ht => by
    obtain ⟨x, hx, y, hy, rfl⟩ := prodQ_mem ht
    have := mul_bd (ha.2 x hx).2.2.2 (hb.2 y hy).2.2.2
    simp only [mulT2]
    omega
  rw [prodQ_len] at h1
  have h2 : a.length * b.length ≤ 600 * 600 := Nat.mul_le_mul ha.1 hb.1
  omega
theorem prodQ_e {fm : List (List Int)} {a b : List Qtm} {n : Nat} (ha : QL n a) (hb : QL n b) : ∀ t ∈ prodQ fm a b, t.e.length = n := fun t ht => by
  obtain ⟨x, hx, y, hy, rfl⟩ := prodQ_mem ht
  simp only [mulT2]
  rw [addE_length _ _ _ (by rw [(ha.2 x hx).1, (hb.2 y hy).1]), (ha.2 x hx).1]
theorem spec_l8Times_calls (fm : List (List Int)) (a b : List Qtm) (hok : FormOk fm) (ha : QL fm.length a) (hb : QL fm.length b) : ACalls Try.prog F.spec_l8Times [.d (.sh 1 fm.length (rows lS fm)), .d (.sh 3 a.length (rows qtS a)), .d (.sh 3 b.length (rows qtS b))] [] true (fun outs res => outs = [] ∧ res = [.one (.ow 3 (gaQ (prodQ fm a b)).length (rows qtO (gaQ (prodQ fm a b))))]) := by
  have hla := ha.1
  have hlb := hb.1
  have hn8 : fm.length ≤ 8 := by have := hok.1; omega
  have hab : a.length * b.length ≤ 600 * 600 := Nat.mul_le_mul hla hlb
  have habz : IntKind.i64.wrap ((a.length : Int) * b.length) = ((a.length * b.length : Nat) : Int) := by
    rw [show (a.length : Int) * b.length = ((a.length * b.length : Nat) : Int) by simp, wrapOk (by omega) (by omega)]
  have hplen := prodQ_len fm a b
  generalize hq : a.length * b.length = q at hab habz hplen
  refine ACalls.of_body (C := C.spec_l8Times) (n := Try.f141.ntmps) tabT folT Try.func141 rfl (by kernel_rfl) rfl (Nat.le_of_ble_eq_true rfl) (by decide) (by kernel_rfl) (by kernel_rfl) rfl (by simp) (by simp) ?_
  simp only [Try.f141]
  refine wseq ?_
  refine wreg fun K hK => ?_
  simp [C.spec_l8Times]
  refine hK _ ?_; clear hK K
  show AWp _ _ _ _ _
  refine wseq ?_
  refine wreg fun K hK => ?_
  simp [C.spec_l8Times, habz, show (40 : Int) * q ≤ 281474976710656 by omega, show (q : Int) ≤ 281474976710656 by omega]
  refine hK _ ?_; clear hK K
  show AWp _ _ _ _ _
  refine wseq ?_
  refine wseq ?_
  refine wreg fun K hK => ?_
  simp [C.spec_l8Times]
  refine hK _ ?_; clear hK K
  show AWp _ _ _ _ _
  refine wblock ?_
  refine wloop (fun x : Nat × List Qtm × Nat => ⟨ofL [(0, .d (.sh 1 fm.length (rows lS fm))), (1, .d (.sh 3 a.length (rows qtS a))), (2, .d (.sh 3 b.length (rows qtS b))), (7, .al (7, 0) [] 0 x.2.2), (8, .int x.1)], ofRO [((7, 0), some (.ow 3 x.2.2 (rows qtO x.2.1)))]⟩) (fun x => x.1 ≤ a.length ∧ x.2.1 = prodQ fm (a.take x.1) b ∧ x.2.2 = x.2.1.length ∧ x.2.2 ≤ x.1 * 600) (fun x => a.length - x.1) (0, [], 0) (by simp [C.spec_l8Times, rows]) (by simp [prodQ]) ?_
  intro x1 hx1 R1 hR1
  obtain ⟨i, out, m⟩ := x1
  obtain ⟨hi, hout, hm, hmb⟩ := hx1
  dsimp only at hi hout hm hmb ⊢
  refine wseq ?_
  refine wseq ?_
  refine wreg fun K hK => ?_
  simp [C.spec_l8Times]
  refine hK _ ?_; clear hK K
  show AWp _ _ _ _ _
  refine wcond _ rfl (fun hc1 => ?_) (fun hc1 => ?_)
  · have hia : i < a.length := by have := d_t hc1; omega
    have hA := ha.2 _ (List.getElem_mem hia)
    refine wskip ?_
    show AWp _ _ _ _ _
    refine wseq ?_
    refine wblock ?_
    refine wseq ?_
    refine wreg fun K hK => ?_
    simp [C.spec_l8Times]
    refine hK _ ?_; clear hK K
    show AWp _ _ _ _ _
    refine wblock ?_
    refine wloop (fun x : Nat × List Qtm × Nat => ⟨ofL [(0, .d (.sh 1 fm.length (rows lS fm))), (1, .d (.sh 3 a.length (rows qtS a))), (2, .d (.sh 3 b.length (rows qtS b))), (7, .al (7, 0) [] 0 x.2.2), (8, .int i), (9, .int x.1)], ofRO [((7, 0), some (.ow 3 x.2.2 (rows qtO x.2.1)))]⟩) (fun x => x.1 ≤ b.length ∧ x.2.1 = out ++ (b.take x.1).map (mulT2 fm a[i]) ∧ x.2.2 = x.2.1.length ∧ x.2.2 ≤ i * 600 + x.1) (fun x => b.length - x.1) (0, out, m) (by simp [C.spec_l8Times]) ⟨by simp, by simp, hm, by dsimp only; omega⟩ ?_
    intro x2 hx2 R2 hR2
    obtain ⟨j, o2, m2⟩ := x2
    obtain ⟨hj, ho2, hm2, hm2b⟩ := hx2
    dsimp only at hj ho2 hm2 hm2b ⊢
    refine wseq ?_
    refine wseq ?_
    refine wreg fun K hK => ?_
    simp [C.spec_l8Times]
    refine hK _ ?_; clear hK K
    show AWp _ _ _ _ _
    refine wcond _ rfl (fun hc2 => ?_) (fun hc2 => ?_)
    · have hjb : j < b.length := by have := d_t hc2; omega
      have hB := hb.2 _ (List.getElem_mem hjb)
      refine wskip ?_
      show AWp _ _ _ _ _
      refine wseq ?_
      refine wblock ?_
      refine wseq ?_
      refine wreg fun K hK => ?_
      simp [C.spec_l8Times]
      refine hK _ ?_; clear hK K
      show AWp _ _ _ _ _
      refine wseq ?_
      refine wseq ?_
      refine wreg fun K hK => ?_
      simp [C.spec_l8Times]
      refine hK _ ?_; clear hK K
      show AWp _ _ _ _ _
      refine wblock ?_
      refine wloop (fun x : Nat => ⟨ofL [(0, .d (.sh 1 fm.length (rows lS fm))), (1, .d (.sh 3 a.length (rows qtS a))), (2, .d (.sh 3 b.length (rows qtS b))), (7, .al (7, 0) [] 0 m2), (8, .int i), (9, .int j), (10, .al (10, 0) [] 0 x), (11, .int x)], ofRO [((7, 0), some (.ow 3 m2 (rows qtO o2))), ((10, 0), some (.ow 1 x (ints (addE 1 (a[i].e.take x) (b[j].e.take x)))))]⟩) (fun x => x ≤ fm.length) (fun x => fm.length - x) 0 (by simp [C.spec_l8Times, addE, ints]) (by simp) ?_
      intro x3 hx3 R3 hR3
      refine wseq ?_
      refine wseq ?_
      refine wreg fun K hK => ?_
      simp [C.spec_l8Times]
      refine hK _ ?_; clear hK K
      show AWp _ _ _ _ _
      refine wcond _ rfl (fun hc3 => ?_) (fun hc3 => ?_)
      · have hk : x3 < fm.length := by have := d_t hc3; omega
        have hka : x3 < a[i].e.length := by omega
        have hkb : x3 < b[j].e.length := by omega
        have q1 := hA.2.1 _ (List.getElem_mem hka)
        have q2 := hB.2.1 _ (List.getElem_mem hkb)
        refine wskip ?_
        show AWp _ _ _ _ _
        refine wseq ?_
        refine wblock ?_
        refine wdrawI [(true, 0), (true, 1), (true, 2), (true, 3), (true, 4), (true, 5), (true, 6), (true, 7), (true, 8), (true, 9), (true, 10), (true, 11), (true, 12), (true, 13), (true, 14), (true, 15), (true, 16), (true, 17), (false, 18), (false, 19), (true, 20)] ⟨by kernel_rfl, by kernel_rfl⟩ ([0, 1, 2, 3, 4, 5, 6, 7, 8, 9, 10, 11, 12, 13, 14, 15, 16, 17, 18, 19, 20]) rfl fun K hK => ?_
        refine opsI_end fun L hL => ?_
        simp [C.spec_l8Times, hia, hjb, qtS_0 hia, qtS_0 hjb, hka, hkb, get_ints, ints_snoc1, ← addE_tk _ _ _ hka hkb, wrapOk (x := a[i].e[x3] + b[j].e[x3]) (by omega) (by omega), show (x3 + 1) * 8 ≤ 140737488355328 by omega]
        refine hL _ ?_; clear hL L
        simp [C.spec_l8Times, hia, hjb, qtS_0 hia, qtS_0 hjb, hka, hkb, get_ints, ints_snoc1, ← addE_tk _ _ _ hka hkb, wrapOk (x := a[i].e[x3] + b[j].e[x3]) (by omega) (by omega), show (x3 + 1) * 8 ≤ 140737488355328 by omega]
        refine hK _ ?_; clear hK K
        show AWp _ _ _ _ _
        refine wreg fun K hK => ?_
        simp [C.spec_l8Times, wrap_succ (show x3 < 4611686018427387904 by omega)]
        refine hK _ ?_; clear hK K
        simp [C.spec_l8Times]
        exact hR3 (x3 + 1) hk (by omega)
      · have hk : x3 = fm.length := by have := d_f hc3; omega
        have ek : addE 1 (a[i].e.take x3) (b[j].e.take x3) = addE 1 a[i].e b[j].e := by rw [List.take_of_length_le (by omega), List.take_of_length_le (by omega)]
        subst hk
        have hsk := QL.sk hok ha hb (List.getElem_mem hia) (List.getElem_mem hjb)
        have hsb := hsk.bd
        have hcc := mul_bd hA.2.2.2 hB.2.2.2
        have hel : (addE 1 a[i].e b[j].e).length = fm.length := by rw [addE_length _ _ _ (by omega)]; omega
        refine wexit ?_
        show AWp _ _ _ _ _
        refine wdrawI [(true, 0), (true, 1), (true, 2), (true, 3), (true, 4), (true, 5), (true, 6), (true, 7), (true, 8), (true, 9), (true, 10), (true, 11), (true, 12), (true, 13), (true, 14), (true, 15), (true, 16), (true, 17), (true, 18), (true, 19), (true, 20), (true, 21), (true, 22), (true, 23), (true, 26), (true, 27), (true, 28), (true, 29), (true, 30), (true, 31), (true, 32), (true, 33), (true, 34), (true, 35), (true, 36), (false, 24), (true, 25), (true, 37), (false, 38), (false, 39), (true, 40)] ⟨by kernel_rfl, by kernel_rfl⟩ ([0, 1, 2, 3, 4, 5, 6, 7, 8, 9, 10, 11, 12, 13, 14, 15, 16, 17, 18, 19, 20, 21, 22, 23, 26, 27, 28, 29, 30, 31, 32, 33, 34, 35, 36, 24] ++ ([25, 37, 38, 39, 40])) rfl fun K hK => ?_
        refine opsI_seg fun L hL => ?_
        simp [C.spec_l8Times, ek, hia, hjb, qtS_0 hia, qtS_0 hjb, qtS_1 hia, qtS_1 hjb, qtS_2 hia, qtS_2 hjb, wrapOk (x := a[i].h + b[j].h) (by omega) (by omega), wrapOk (x := a[i].h + b[j].h + skw fm a[i].e b[j].e) (by omega) (by omega), wrapOk (x := a[i].c * b[j].c) (by omega) (by omega), show (m2 + 1) * 40 ≤ 140737488355328 by omega]
        refine wcall1 (spec_l8Skew_calls fm a[i].e b[j].e hsk) (by simp) (by simp) ?_
        simp [C.spec_l8Times, ek, hia, hjb, qtS_0 hia, qtS_0 hjb, qtS_1 hia, qtS_1 hjb, qtS_2 hia, qtS_2 hjb, wrapOk (x := a[i].h + b[j].h) (by omega) (by omega), wrapOk (x := a[i].h + b[j].h + skw fm a[i].e b[j].e) (by omega) (by omega), wrapOk (x := a[i].c * b[j].c) (by omega) (by omega), show (m2 + 1) * 40 ≤ 140737488355328 by omega]
        refine hL _ ?_; clear hL L
        refine opsI_end fun L hL => ?_
        simp [C.spec_l8Times, ek, hia, hjb, qtS_0 hia, qtS_0 hjb, qtS_1 hia, qtS_1 hjb, qtS_2 hia, qtS_2 hjb, wrapOk (x := a[i].h + b[j].h) (by omega) (by omega), wrapOk (x := a[i].h + b[j].h + skw fm a[i].e b[j].e) (by omega) (by omega), wrapOk (x := a[i].c * b[j].c) (by omega) (by omega), show (m2 + 1) * 40 ≤ 140737488355328 by omega]
        refine hL _ ?_; clear hL L
        simp [C.spec_l8Times, ek, hia, hjb, qtS_0 hia, qtS_0 hjb, qtS_1 hia, qtS_1 hjb, qtS_2 hia, qtS_2 hjb, wrapOk (x := a[i].h + b[j].h) (by omega) (by omega), wrapOk (x := a[i].h + b[j].h + skw fm a[i].e b[j].e) (by omega) (by omega), wrapOk (x := a[i].c * b[j].c) (by omega) (by omega), show (m2 + 1) * 40 ≤ 140737488355328 by omega]
        refine hK _ ?_; clear hK K
        show AWp _ _ _ _ _
        refine wreg fun K hK => ?_
        simp [C.spec_l8Times, wrap_succ (show j < 4611686018427387904 by omega)]
        refine hK _ ?_; clear hK K
        simp [C.spec_l8Times]
        have hrow : rows qtO o2 ++ [D.ow 1 fm.length (ints (addE 1 a[i].e b[j].e)), D.v (.int .i64 (a[i].h + b[j].h + skw fm a[i].e b[j].e)), D.v (.int .i64 (a[i].c * b[j].c))] = rows qtO (o2 ++ [mulT2 fm a[i] b[j]]) := by
          rw [← qtO_snoc]
          simp only [mulT2, hel]
        refine cast (congrArg R2 ?_) (hR2 (j + 1, o2 ++ [mulT2 fm a[i] b[j]], m2 + 1) ⟨hjb, ?_, by dsimp only; rw [hm2]; simp, by dsimp only; omega⟩ (by dsimp only; omega))
        · simp [hrow]
        · dsimp only
          rw [ho2, List.take_succ_eq_append_getElem hjb, List.map_append, List.append_assoc]
          rfl
    · have hjb : j = b.length := by have := d_f hc2; omega
      refine wexit ?_
      show AWp _ _ _ _ _
      refine wreg fun K hK => ?_
      simp [C.spec_l8Times, wrap_succ (show i < 4611686018427387904 by omega)]
      refine hK _ ?_; clear hK K
      simp [C.spec_l8Times]
      refine hR1 (i + 1, o2, m2) ⟨hia, ?_, hm2, by dsimp only; omega⟩ (by dsimp only; omega)
      dsimp only
      rw [prodQ_step hia, ← hout, ho2, hjb, List.take_length]
  · have hia : i = a.length := by have := d_f hc1; omega
    have hfull : out = prodQ fm a b := by rw [hout, hia, List.take_length]
    subst hfull
    subst hm
    refine wexit ?_
    show AWp _ _ _ _ _
    refine wseq ?_
    refine wregI ([0, 1] ++ ([2])) rfl fun K hK => ?_
    refine opsI_seg fun L hL => ?_
    simp [C.spec_l8Times]
    refine wcall1 (spec_l8Gather_calls (prodQ fm a b) (by omega) (prodQ_abs ha hb) (fun t ht => by have := prodQ_e ha hb t ht; omega)) (by simp) (by simp) ?_
    simp [C.spec_l8Times]
    refine hL _ ?_; clear hL L
    refine opsI_end fun L hL => ?_
    simp [C.spec_l8Times]
    refine hL _ ?_; clear hL L
    simp [C.spec_l8Times]
    refine hK _ ?_; clear hK K
    show AWp _ _ _ _ _
    refine wret ?_
    simp [C.spec_l8Times]



end Go.Proofs.Ytocknokodgnlbaa.Ab
