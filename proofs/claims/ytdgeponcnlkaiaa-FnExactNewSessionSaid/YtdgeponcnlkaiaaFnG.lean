/- The program's sums: what is right, keys, comparisons. No condition. -/
import Derived.Test.YtdgeponcnlkaiaaFnD
namespace Go.Proofs.Ytdgeponcnlkaiaa.Ab
open Go
set_option linter.unusedSimpArgs false
set_option linter.unusedVariables false
set_option maxRecDepth 10000
set_option maxHeartbeats 2000000
def cmpI (a b : Int) : Int := if a < b then -1 else if b < a then 1 else 0
def cmpL : List Int → List Int → Int
  | [], [] => 0
  | [], _ :: _ => -1
  | _ :: _, [] => 1
  | a :: x, b :: y => if a = b then cmpL x y else if a < b then -1 else 1
theorem cmpL_neg : ∀ (a b : List Int), decide (cmpL a b < 0) = lexlt a b
  | [], [] => rfl
  | [], _ :: _ => rfl
  | _ :: _, [] => rfl
  | a :: x, b :: y => by
    have ih := cmpL_neg x y
    by_cases h : a = b
    · have e : cmpL (a :: x) (b :: y) = cmpL x y := by simp [cmpL, h]
      rw [e, ih]
      simp [lexlt, h]
    · by_cases h2 : a < b
      · have e : cmpL (a :: x) (b :: y) = -1 := by simp [cmpL, h, h2]
        rw [e]
        simp [lexlt, h, h2]
      · have e : cmpL (a :: x) (b :: y) = 1 := by simp [cmpL, h, h2]
        rw [e]
        simp [lexlt, h, h2]
theorem cmpL_pos : ∀ (a b : List Int), decide (cmpL a b ≤ 0) = !lexlt b a
  | [], [] => rfl
  | [], _ :: _ => rfl
  | _ :: _, [] => rfl
  | a :: x, b :: y => by
    have ih := cmpL_pos x y
    by_cases h : a = b
    · have e : cmpL (a :: x) (b :: y) = cmpL x y := by simp [cmpL, h]
      rw [e, ih]
      simp [lexlt, h]
    · by_cases h2 : a < b
      · have e : cmpL (a :: x) (b :: y) = -1 := by simp [cmpL, h, h2]
        rw [e]
        simp [lexlt, Ne.symm h]
        omega
      · have e : cmpL (a :: x) (b :: y) = 1 := by simp [cmpL, h, h2]
        rw [e]
        simp [lexlt, Ne.symm h]
        omega

def okE (e : List Int) (v : Int) : Bool := decide ((e.length : Int) = v) && !e.any (fun x => !decide (-20 ≤ x ∧ x ≤ 20))
theorem okE_iff {e : List Int} {v : Int} : okE e v = true ↔ (e.length : Int) = v ∧ ∀ x ∈ e, -20 ≤ x ∧ x ≤ 20 := by
  unfold okE
  simp only [Bool.and_eq_true, decide_eq_true_eq, Bool.not_eq_true', List.any_eq_false, Bool.not_eq_true']
  refine ⟨fun ⟨h1, h2⟩ => ⟨h1, fun x hx => ?_⟩, fun ⟨h1, h2⟩ => ⟨h1, fun x hx => ?_⟩⟩
  · have := h2 x hx
    simpa using this
  · have := h2 x hx
    simpa using this
theorem cmp_isNaN_int_calls (a : Int) : ACalls Try.prog F.cmp_isNaN_int [.int a] [] true (fun outs res => outs = [] ∧ res = [.one (D.bool false)]) := by
  refine ACalls.of_body (C := C.cmp_isNaN_int) (n := Try.f227.ntmps) tabT folT Try.func227 rfl (by kernel_rfl) rfl (Nat.le_of_ble_eq_true rfl) (by decide) (by kernel_rfl) (by kernel_rfl) rfl (by simp) (by simp) ?_
  simp only [Try.f227]
  refine wseq ?_
  refine wreg fun K hK => ?_
  simp [C.cmp_isNaN_int]
  refine hK _ ?_; clear hK K
  show AWp _ _ _ _ _
  refine wseq ?_
  refine wreg fun K hK => ?_
  simp [C.cmp_isNaN_int]
  refine hK _ ?_; clear hK K
  show AWp _ _ _ _ _
  refine wret ?_
  simp [C.cmp_isNaN_int]

theorem cmp_Compare_int_calls (a b : Int) : ACalls Try.prog F.cmp_Compare_int [.int a, .int b] [] true (fun outs res => outs = [] ∧ res = [.one (D.int (cmpI a b))]) := by
  refine ACalls.of_body (C := C.cmp_Compare_int) (n := Try.f191.ntmps) tabT folT Try.func191 rfl (by kernel_rfl) rfl (Nat.le_of_ble_eq_true rfl) (by decide) (by kernel_rfl) (by kernel_rfl) rfl (by simp) (by simp) ?_
  simp only [Try.f191]
  refine wseq ?_
  refine wreg fun K hK => ?_
  simp [C.cmp_Compare_int]
  refine hK _ ?_; clear hK K
  show AWp _ _ _ _ _
  refine wseq ?_
  refine wregI ([0, 1] ++ ([2])) rfl fun K hK => ?_
  refine opsI_seg fun L hL => ?_
  simp [C.cmp_Compare_int]
  refine wcall1 (cmp_isNaN_int_calls a) (by simp) (by simp) ?_
  simp [C.cmp_Compare_int]
  refine hL _ ?_; clear hL L
  refine opsI_end fun L hL => ?_
  simp [C.cmp_Compare_int]
  refine hL _ ?_; clear hL L
  simp [C.cmp_Compare_int]
  refine hK _ ?_; clear hK K
  show AWp _ _ _ _ _
  refine wseq ?_
  refine wregI ([0, 1] ++ ([2])) rfl fun K hK => ?_
  refine opsI_seg fun L hL => ?_
  simp [C.cmp_Compare_int]
  refine wcall1 (cmp_isNaN_int_calls b) (by simp) (by simp) ?_
  simp [C.cmp_Compare_int]
  refine hL _ ?_; clear hL L
  refine opsI_end fun L hL => ?_
  simp [C.cmp_Compare_int]
  refine hL _ ?_; clear hL L
  simp [C.cmp_Compare_int]
  refine hK _ ?_; clear hK K
  show AWp _ _ _ _ _
  refine wseq ?_
  refine wseq ?_
  refine wreg fun K hK => ?_
  simp [C.cmp_Compare_int]
  refine hK _ ?_; clear hK K
  show AWp _ _ _ _ _
  refine wcond _ rfl (fun hc1 => ?_) (fun hc1 => ?_)
  · simp at hc1
  · refine wskip ?_
    show AWp _ _ _ _ _
    refine wseq ?_
    refine wseq ?_
    refine wreg fun K hK => ?_
    simp [C.cmp_Compare_int]
    refine hK _ ?_; clear hK K
    show AWp _ _ _ _ _
    refine wcond _ rfl (fun hc3 => ?_) (fun hc3 => ?_)
    · simp at hc3
    · refine wskip ?_
      show AWp _ _ _ _ _
      refine wseq ?_
      refine wseq ?_
      refine wreg fun K hK => ?_
      simp [C.cmp_Compare_int]
      refine hK _ ?_; clear hK K
      show AWp _ _ _ _ _
      refine wcond _ rfl (fun hc4 => ?_) (fun hc4 => ?_)
      · have h4 := d_t hc4
        refine wseq ?_
        refine wreg fun K hK => ?_
        simp [C.cmp_Compare_int]
        refine hK _ ?_; clear hK K
        show AWp _ _ _ _ _
        refine wret ?_
        simp [C.cmp_Compare_int, cmpI, h4]
      · have h4 := d_f hc4
        refine wskip ?_
        show AWp _ _ _ _ _
        refine wseq ?_
        refine wseq ?_
        refine wreg fun K hK => ?_
        simp [C.cmp_Compare_int]
        refine hK _ ?_; clear hK K
        show AWp _ _ _ _ _
        refine wcond _ rfl (fun hc5 => ?_) (fun hc5 => ?_)
        · have h5 : b < a := by simpa using hc5
          refine wseq ?_
          refine wreg fun K hK => ?_
          simp [C.cmp_Compare_int]
          refine hK _ ?_; clear hK K
          show AWp _ _ _ _ _
          refine wret ?_
          simp [C.cmp_Compare_int, cmpI, h4, h5]
        · have h5 : ¬ b < a := by simpa using hc5
          refine wskip ?_
          show AWp _ _ _ _ _
          refine wseq ?_
          refine wreg fun K hK => ?_
          simp [C.cmp_Compare_int]
          refine hK _ ?_; clear hK K
          show AWp _ _ _ _ _
          refine wret ?_
          simp [C.cmp_Compare_int, cmpI, h4, h5]

theorem slices_Compare_int_int_calls (a b : List Int) (ha : a.length < 4611686018427387904) : ACalls Try.prog F.slices_Compare_int_int [.d (shI a), .d (shI b)] [] true (fun outs res => outs = [] ∧ res = [.one (D.int (cmpL a b))]) := by
  refine ACalls.of_body (C := C.slices_Compare_int_int) (n := Try.f114.ntmps) tabT folT Try.func114 rfl (by kernel_rfl) rfl (Nat.le_of_ble_eq_true rfl) (by decide) (by kernel_rfl) (by kernel_rfl) rfl (by simp) (by simp) ?_
  simp only [Try.f114]
  refine wseq ?_
  refine wreg fun K hK => ?_
  simp [C.slices_Compare_int_int]
  refine hK _ ?_; clear hK K
  show AWp _ _ _ _ _
  refine wseq ?_
  refine wseq ?_
  refine wreg fun K hK => ?_
  simp [C.slices_Compare_int_int]
  refine hK _ ?_; clear hK K
  show AWp _ _ _ _ _
  refine wblock ?_
  refine wloop (fun k : Nat => ⟨ofL [(0, .d (shI a)), (1, .d (shI b)), (9, .d (shI a)), (10, .int a.length), (11, FV.int k)], ofRO []⟩) (fun k => k ≤ a.length ∧ k ≤ b.length ∧ cmpL a b = cmpL (a.drop k) (b.drop k)) (fun k => a.length - k) 0 (by simp [C.slices_Compare_int_int]) (by simp) ?_
  intro x1 hx1 R1 hR1
  obtain ⟨hk, hk2, ht⟩ := hx1
  refine wseq ?_
  refine wreg fun K hK => ?_
  simp [C.slices_Compare_int_int]
  refine hK _ ?_; clear hK K
  show AWp _ _ _ _ _
  refine wseq ?_
  refine wcond _ rfl (fun hc1 => ?_) (fun hc1 => ?_)
  · have h1 : x1 < a.length := by have := d_t hc1; omega
    refine wskip ?_
    show AWp _ _ _ _ _
    refine wseq ?_
    refine wblock ?_
    refine wseq ?_
    refine wreg fun K hK => ?_
    simp [C.slices_Compare_int_int, get_ints, h1]
    refine hK _ ?_; clear hK K
    show AWp _ _ _ _ _
    refine wseq ?_
    refine wseq ?_
    refine wreg fun K hK => ?_
    simp [C.slices_Compare_int_int]
    refine hK _ ?_; clear hK K
    show AWp _ _ _ _ _
    refine wcond _ rfl (fun hc2 => ?_) (fun hc2 => ?_)
    · have h2 : b.length ≤ x1 := by have := d_t hc2; omega
      refine wseq ?_
      refine wreg fun K hK => ?_
      simp [C.slices_Compare_int_int]
      refine hK _ ?_; clear hK K
      show AWp _ _ _ _ _
      refine wret ?_
      simp [C.slices_Compare_int_int]
      rw [ht, List.drop_eq_nil_of_le h2, List.drop_eq_getElem_cons h1]
      rfl
    · have h2 : x1 < b.length := by have := d_f hc2; omega
      refine wskip ?_
      show AWp _ _ _ _ _
      refine wseq ?_
      refine wreg fun K hK => ?_
      simp [C.slices_Compare_int_int, get_ints, h2]
      refine hK _ ?_; clear hK K
      show AWp _ _ _ _ _
      refine wseq ?_
      refine wregI ([0, 1, 2] ++ ([3])) rfl fun K hK => ?_
      refine opsI_seg fun L hL => ?_
      simp [C.slices_Compare_int_int]
      refine wcall1 (cmp_Compare_int_calls a[x1] b[x1]) (by simp) (by simp) ?_
      simp [C.slices_Compare_int_int]
      refine hL _ ?_; clear hL L
      refine opsI_end fun L hL => ?_
      simp [C.slices_Compare_int_int]
      refine hL _ ?_; clear hL L
      simp [C.slices_Compare_int_int]
      refine hK _ ?_; clear hK K
      show AWp _ _ _ _ _
      refine wseq ?_
      refine wreg fun K hK => ?_
      simp [C.slices_Compare_int_int]
      refine hK _ ?_; clear hK K
      show AWp _ _ _ _ _
      refine wcond _ rfl (fun hc3 => ?_) (fun hc3 => ?_)
      · have hne : ¬ cmpI a[x1] b[x1] = 0 := by simpa using hc3
        refine wseq ?_
        refine wreg fun K hK => ?_
        simp [C.slices_Compare_int_int]
        refine hK _ ?_; clear hK K
        show AWp _ _ _ _ _
        refine wret ?_
        simp [C.slices_Compare_int_int]
        rw [ht, List.drop_eq_getElem_cons h1, List.drop_eq_getElem_cons h2]
        rcases Int.lt_trichotomy a[x1] b[x1] with q | q | q
        · simp [cmpL, cmpI, q, Int.ne_of_lt q]
        · simp [cmpI, q] at hne
        · simp [cmpL, cmpI, q, Int.ne_of_gt q, Int.not_lt.2 (Int.le_of_lt q)]
      · have heq : cmpI a[x1] b[x1] = 0 := by simpa using hc3
        have hab : a[x1] = b[x1] := by
          unfold cmpI at heq
          split at heq
          · simp at heq
          · split at heq
            · simp at heq
            · omega
        refine wskip ?_
        show AWp _ _ _ _ _
        refine wreg fun K hK => ?_
        simp [C.slices_Compare_int_int, wrap_succ (show x1 < 4611686018427387904 by omega)]
        refine hK _ ?_; clear hK K
        simp [C.slices_Compare_int_int]
        refine hR1 (x1 + 1) ⟨h1, h2, ?_⟩ (by omega)
        rw [ht, List.drop_eq_getElem_cons h1, List.drop_eq_getElem_cons h2]
        simp [cmpL, hab]
  · have h1 : x1 = a.length := by have := d_f hc1; omega
    have hn : a.drop x1 = [] := List.drop_eq_nil_of_le (by omega)
    refine wexit ?_
    show AWp _ _ _ _ _
    refine wseq ?_
    refine wseq ?_
    refine wreg fun K hK => ?_
    simp [C.slices_Compare_int_int]
    refine hK _ ?_; clear hK K
    show AWp _ _ _ _ _
    refine wcond _ rfl (fun hc4 => ?_) (fun hc4 => ?_)
    · have h2 : a.length < b.length := by have := d_t hc4; omega
      refine wseq ?_
      refine wreg fun K hK => ?_
      simp [C.slices_Compare_int_int]
      refine hK _ ?_; clear hK K
      show AWp _ _ _ _ _
      refine wret ?_
      simp [C.slices_Compare_int_int]
      rw [ht, hn, List.drop_eq_getElem_cons (show x1 < b.length by omega)]
      rfl
    · have h2 : ¬ a.length < b.length := by have := d_f hc4; omega
      refine wskip ?_
      show AWp _ _ _ _ _
      refine wseq ?_
      refine wreg fun K hK => ?_
      simp [C.slices_Compare_int_int]
      refine hK _ ?_; clear hK K
      show AWp _ _ _ _ _
      refine wret ?_
      simp [C.slices_Compare_int_int]
      rw [ht, hn, List.drop_eq_nil_of_le (show b.length ≤ x1 by omega)]
      rfl

theorem slices_IndexFunc_int_int_calls (xs : List Int) (g : Nat) (p : Int → Bool) (hx : xs.length < 4611686018427387904) (hM : aget [] MM g = []) (hp : ∀ x ∈ xs, ACalls Try.prog g [.int x] [] true (fun outs res => outs = [] ∧ res = [.one (D.bool (p x))])) : ACalls Try.prog F.slices_IndexFunc_int_int [.d (shI xs), .d (.fn g [])] [] true (fun outs res => outs = [] ∧ ∃ r : Int, res = [.one (D.int r)] ∧ decide (0 ≤ r) = xs.any p) := by
  refine ACalls.of_body (C := C.slices_IndexFunc_int_int) (n := Try.f211.ntmps) tabT folT Try.func211 rfl (by kernel_rfl) rfl (Nat.le_of_ble_eq_true rfl) (by decide) (by kernel_rfl) (by kernel_rfl) rfl (by simp) (by simp) ?_
  simp only [Try.f211]
  refine wseq ?_
  refine wreg fun K hK => ?_
  simp [C.slices_IndexFunc_int_int]
  refine hK _ ?_; clear hK K
  show AWp _ _ _ _ _
  refine wseq ?_
  refine wseq ?_
  refine wreg fun K hK => ?_
  simp [C.slices_IndexFunc_int_int]
  refine hK _ ?_; clear hK K
  show AWp _ _ _ _ _
  refine wblock ?_
  refine wloop (fun k : Nat => ⟨ofL [(0, .d (shI xs)), (1, .d (.fn g [])), (7, .int xs.length), (8, FV.int k)], ofRO []⟩) (fun k => k ≤ xs.length ∧ (xs.take k).any p = false) (fun k => xs.length - k) 0 (by simp [C.slices_IndexFunc_int_int]) (by simp) ?_
  intro x1 hx1 R1 hR1
  obtain ⟨hk, ht⟩ := hx1
  refine wseq ?_
  refine wreg fun K hK => ?_
  simp [C.slices_IndexFunc_int_int]
  refine hK _ ?_; clear hK K
  show AWp _ _ _ _ _
  refine wseq ?_
  refine wcond _ rfl (fun hc1 => ?_) (fun hc1 => ?_)
  · have h1 : x1 < xs.length := by have := d_t hc1; omega
    refine wskip ?_
    show AWp _ _ _ _ _
    refine wseq ?_
    refine wblock ?_
    refine wseq ?_
    refine wreg fun K hK => ?_
    simp [C.slices_IndexFunc_int_int]
    refine hK _ ?_; clear hK K
    show AWp _ _ _ _ _
    refine wseq ?_
    refine wregI ([0, 1, 2, 3, 4, 5] ++ ([])) rfl fun K hK => ?_
    refine opsI_seg fun L hL => ?_
    simp [C.slices_IndexFunc_int_int, get_ints, h1, hM]
    refine wcall1 (hp xs[x1] (List.getElem_mem h1)) (by simp) (by simp) ?_
    simp [C.slices_IndexFunc_int_int, get_ints, h1, hM]
    refine hL _ ?_; clear hL L
    refine opsI_end fun L hL => ?_
    simp only [AOpsI]
    refine hL _ ?_; clear hL L
    simp [C.slices_IndexFunc_int_int, get_ints, h1, hM]
    refine hK _ ?_; clear hK K
    show AWp _ _ _ _ _
    refine wcond _ rfl (fun hc2 => ?_) (fun hc2 => ?_)
    · have hpx : p xs[x1] = true := by simpa using hc2
      refine wseq ?_
      refine wreg fun K hK => ?_
      simp [C.slices_IndexFunc_int_int]
      refine hK _ ?_; clear hK K
      show AWp _ _ _ _ _
      refine wret ?_
      simp [C.slices_IndexFunc_int_int]
      exact ⟨xs[x1], List.getElem_mem h1, hpx⟩
    · have hpx : p xs[x1] = false := by simpa using hc2
      refine wskip ?_
      show AWp _ _ _ _ _
      refine wreg fun K hK => ?_
      simp [C.slices_IndexFunc_int_int, wrap_succ (show x1 < 4611686018427387904 by omega)]
      refine hK _ ?_; clear hK K
      simp [C.slices_IndexFunc_int_int]
      refine hR1 (x1 + 1) ⟨h1, ?_⟩ (by omega)
      rw [List.take_succ_eq_append_getElem h1, List.any_append, ht]
      simp [hpx]
  · have h1 : x1 = xs.length := by have := d_f hc1; omega
    have ht2 : xs.any p = false := by rw [h1, List.take_length] at ht; exact ht
    refine wexit ?_
    show AWp _ _ _ _ _
    refine wseq ?_
    refine wreg fun K hK => ?_
    simp [C.slices_IndexFunc_int_int]
    refine hK _ ?_; clear hK K
    show AWp _ _ _ _ _
    refine wret ?_
    simp [C.slices_IndexFunc_int_int]
    intro x hx
    have := List.any_eq_false.1 ht2 x hx
    simpa using this

theorem slices_ContainsFunc_int_int_calls (xs : List Int) (g : Nat) (p : Int → Bool) (hx : xs.length < 4611686018427387904) (hM : aget [] MM g = []) (hp : ∀ x ∈ xs, ACalls Try.prog g [.int x] [] true (fun outs res => outs = [] ∧ res = [.one (D.bool (p x))])) : ACalls Try.prog F.slices_ContainsFunc_int_int [.d (shI xs), .d (.fn g [])] [] true (fun outs res => outs = [] ∧ res = [.one (D.bool (xs.any p))]) := by
  refine ACalls.of_body (C := C.slices_ContainsFunc_int_int) (n := Try.f134.ntmps) tabT folT Try.func134 rfl (by kernel_rfl) rfl (Nat.le_of_ble_eq_true rfl) (by decide) (by kernel_rfl) (by kernel_rfl) rfl (by simp) (by simp) ?_
  simp only [Try.f134]
  refine wseq ?_
  refine wreg fun K hK => ?_
  simp [C.slices_ContainsFunc_int_int]
  refine hK _ ?_; clear hK K
  show AWp _ _ _ _ _
  refine wseq ?_
  refine wregI ([0, 1, 2] ++ ([3, 4])) rfl fun K hK => ?_
  refine opsI_seg fun L hL => ?_
  simp [C.slices_ContainsFunc_int_int]
  refine wcall (slices_IndexFunc_int_int_calls xs g p hx hM hp) (by simp) (by simp) (by simp) ?_
  rintro outs res ⟨rfl, r, rfl, hr⟩
  simp [C.slices_ContainsFunc_int_int]
  refine hL _ ?_; clear hL L
  refine opsI_end fun L hL => ?_
  simp [C.slices_ContainsFunc_int_int]
  refine hL _ ?_; clear hL L
  simp [C.slices_ContainsFunc_int_int]
  refine hK _ ?_; clear hK K
  show AWp _ _ _ _ _
  refine wret ?_
  simp [C.slices_ContainsFunc_int_int]
  exact hr

theorem impl_expOk_1_calls (x : Int) : ACalls Try.prog F.impl_expOk_1 [.int x] [] true (fun outs res => outs = [] ∧ res = [.one (D.bool (!decide (-20 ≤ x ∧ x ≤ 20)))]) := by
  refine ACalls.of_body (C := C.impl_expOk_1) (n := Try.f192.ntmps) tabT folT Try.func192 rfl (by kernel_rfl) rfl (Nat.le_of_ble_eq_true rfl) (by decide) (by kernel_rfl) (by kernel_rfl) rfl (by simp) (by simp) ?_
  simp only [Try.f192]
  refine wseq ?_
  refine wreg fun K hK => ?_
  simp [C.impl_expOk_1]
  refine hK _ ?_; clear hK K
  show AWp _ _ _ _ _
  refine wseq ?_
  refine wregI ([0, 1] ++ ([2, 3])) rfl fun K hK => ?_
  refine opsI_seg fun L hL => ?_
  simp [C.impl_expOk_1]
  refine wcall1 (impl_within_calls x (-20) 20) (by simp) (by simp) ?_
  simp [C.impl_expOk_1]
  refine hL _ ?_; clear hL L
  refine opsI_end fun L hL => ?_
  simp [C.impl_expOk_1]
  refine hL _ ?_; clear hL L
  simp [C.impl_expOk_1]
  refine hK _ ?_; clear hK K
  show AWp _ _ _ _ _
  refine wret ?_
  simp [C.impl_expOk_1]

theorem impl_expOk_calls (e : List Int) (v : Int) (hx : e.length < 4611686018427387904) : ACalls Try.prog F.impl_expOk [.d (shI e), .int v] [] true (fun outs res => outs = [] ∧ res = [.one (D.bool (okE e v))]) := by
  refine ACalls.of_body (C := C.impl_expOk) (n := Try.f115.ntmps) tabT folT Try.func115 rfl (by kernel_rfl) rfl (Nat.le_of_ble_eq_true rfl) (by decide) (by kernel_rfl) (by kernel_rfl) rfl (by simp) (by simp) ?_
  simp only [Try.f115]
  refine wseq ?_
  refine wreg fun K hK => ?_
  simp [C.impl_expOk]
  refine hK _ ?_; clear hK K
  show AWp _ _ _ _ _
  refine wseq ?_
  refine wregI ([0, 1, 2, 3, 4, 5, 6] ++ ([7, 8, 9])) rfl fun K hK => ?_
  have hJ : K ⟨ofL [(4, .bool (okE e v))], ofRO []⟩ := by
    refine hK _ ?_; clear hK K
    show AWp _ _ _ _ _
    refine wret ?_
    simp [C.impl_expOk]
  clear hK
  by_cases ha : (e.length : Int) = v
  · refine opsI_seg fun L hL => ?_
    simp [C.impl_expOk, ha]
    refine wcall1 (slices_ContainsFunc_int_int_calls e _ (fun x => !decide (-20 ≤ x ∧ x ≤ 20)) hx rfl (fun x _ => impl_expOk_1_calls x)) (by simp) (by simp) ?_
    simp [C.impl_expOk, ha]
    refine hL _ ?_; clear hL L
    refine opsI_end fun L hL => ?_
    simp [C.impl_expOk, ha]
    refine hL _ ?_; clear hL L
    simp [C.impl_expOk, ha]
    refine cast (congrArg K ?_) hJ
    simp [okE, ha]
  · refine opsI_seg fun L hL => ?_
    simp [C.impl_expOk, ha]
    refine hL _ ?_; clear hL L
    refine opsI_end fun L hL => ?_
    simp [C.impl_expOk, ha]
    refine hL _ ?_; clear hL L
    simp [C.impl_expOk, ha]
    refine cast (congrArg K ?_) hJ
    simp [okE, ha]

theorem impl_coefOk_calls (c : Int) : ACalls Try.prog F.impl_coefOk [.int c] [] true (fun outs res => outs = [] ∧ res = [.one (D.bool (decide (c ≠ 0 ∧ -1000000 ≤ c ∧ c ≤ 1000000)))]) := by
  refine ACalls.of_body (C := C.impl_coefOk) (n := Try.f116.ntmps) tabT folT Try.func116 rfl (by kernel_rfl) rfl (Nat.le_of_ble_eq_true rfl) (by decide) (by kernel_rfl) (by kernel_rfl) rfl (by simp) (by simp) ?_
  simp only [Try.f116]
  refine wseq ?_
  refine wreg fun K hK => ?_
  simp [C.impl_coefOk]
  refine hK _ ?_; clear hK K
  show AWp _ _ _ _ _
  refine wseq ?_
  refine wregI ([0, 1, 2, 3, 4] ++ ([5, 6])) rfl fun K hK => ?_
  have hJ : K ⟨ofL [(2, .bool (decide (c ≠ 0 ∧ -1000000 ≤ c ∧ c ≤ 1000000)))], ofRO []⟩ := by
    refine hK _ ?_; clear hK K
    show AWp _ _ _ _ _
    refine wret ?_
    simp [C.impl_coefOk]
  clear hK
  by_cases ha : c = 0
  · refine opsI_seg fun L hL => ?_
    simp [C.impl_coefOk, ha]
    refine hL _ ?_; clear hL L
    refine opsI_end fun L hL => ?_
    simp [C.impl_coefOk, ha]
    refine hL _ ?_; clear hL L
    simp [C.impl_coefOk, ha]
    refine cast (congrArg K ?_) hJ
    simp [ha]
  · refine opsI_seg fun L hL => ?_
    simp [C.impl_coefOk, ha]
    refine wcall1 (impl_within_calls c (-1000000) 1000000) (by simp) (by simp) ?_
    simp [C.impl_coefOk, ha]
    refine hL _ ?_; clear hL L
    refine opsI_end fun L hL => ?_
    simp [C.impl_coefOk, ha]
    refine hL _ ?_; clear hL L
    simp [C.impl_coefOk, ha]
    refine cast (congrArg K ?_) hJ
    simp [ha]

theorem impl_LaurentOk_calls (f : Lau) (hx : f.ts.length < 4611686018427387904) (hxe : ∀ t ∈ f.ts, t.e.length < 4611686018427387904) : ACalls Try.prog F.impl_LaurentOk [aF f] [] true (fun outs res => outs = [] ∧ res = [.one (D.bool (decide (Right f)))]) := by
  refine ACalls.of_body (C := C.impl_LaurentOk) (n := Try.f133.ntmps) tabT folT Try.func133 rfl (by kernel_rfl) rfl (Nat.le_of_ble_eq_true rfl) (by decide) (by kernel_rfl) (by kernel_rfl) rfl (by simp) (by simp) ?_
  simp only [Try.f133]
  refine wseq ?_
  refine wreg fun K hK => ?_
  simp [C.impl_LaurentOk, fS, tS]
  refine hK _ ?_; clear hK K
  show AWp _ _ _ _ _
  refine wseq ?_
  refine wseq ?_
  refine wregI ([0, 1, 2] ++ ([3, 4, 5, 6, 7, 8, 9])) rfl fun K hK => ?_
  have hJ : K ⟨ofL [(1, .pt (1, 0) [] 0), (14, .bool (decide (¬ (1 ≤ f.v ∧ f.v ≤ 8) ∨ 600 < (f.ts.length : Int))))], ofRO [((1, 0), some (.bx (fS f)))]⟩ := by
    refine hK _ ?_; clear hK K
    show AWp _ _ _ _ _
    refine wcond _ rfl (fun hc1 => ?_) (fun hc1 => ?_)
    · have hh := d_t hc1
      refine wseq ?_
      refine wreg fun K hK => ?_
      simp [C.impl_LaurentOk, fS, tS]
      refine hK _ ?_; clear hK K
      show AWp _ _ _ _ _
      refine wret ?_
      simp [C.impl_LaurentOk, fS, tS]
      intro hr; have := hr.1; have := hr.2.1; omega
    · have hh0 := d_f hc1
      have hh : (1 ≤ f.v ∧ f.v ≤ 8) ∧ f.ts.length ≤ 600 := by omega
      refine wskip ?_
      show AWp _ _ _ _ _
      refine wseq ?_
      refine wseq ?_
      refine wreg fun K hK => ?_
      simp [C.impl_LaurentOk, fS, tS]
      refine hK _ ?_; clear hK K
      show AWp _ _ _ _ _
      refine wblock ?_
      refine wloop (fun k : Nat => ⟨ofL [(1, .pt (1, 0) [] 0), (16, .d (.sh 2 f.ts.length (rows tS f.ts))), (17, .int f.ts.length), (18, .int k)], ofRO [((1, 0), some (.bx (fS f)))]⟩) (fun k => k ≤ f.ts.length ∧ (∀ t ∈ f.ts.take k, Good f.v t) ∧ DescT (f.ts.take k)) (fun k => f.ts.length - k) 0 (by simp [C.impl_LaurentOk, fS]) (by simp [DescT]) ?_
      intro x1 hx1 R1 hR1
      obtain ⟨hk, hgood, hdesc⟩ := hx1
      refine wseq ?_
      refine wreg fun K hK => ?_
      simp [C.impl_LaurentOk, fS, tS]
      refine hK _ ?_; clear hK K
      show AWp _ _ _ _ _
      refine wseq ?_
      refine wcond _ rfl (fun hc2 => ?_) (fun hc2 => ?_)
      · have h1 : x1 < f.ts.length := by have := d_t hc2; omega
        refine wskip ?_
        show AWp _ _ _ _ _
        refine wseq ?_
        refine wblock ?_
        refine wseq ?_
        refine wreg fun K hK => ?_
        simp [C.impl_LaurentOk, fS, tS, h1, tS_0 h1, tS_1 h1]
        refine hK _ ?_; clear hK K
        show AWp _ _ _ _ _
        refine wseq ?_
        refine wdrawI [(true, 0), (true, 1), (true, 2), (true, 3), (false, 4), (true, 5), (true, 6), (true, 7), (true, 8), (false, 9), (true, 10), (true, 11), (true, 12), (true, 13), (true, 14), (true, 15), (true, 16), (true, 17), (true, 18), (true, 19), (true, 20), (true, 21), (true, 22), (true, 23), (true, 24), (false, 25), (true, 26), (true, 27), (true, 28)] ⟨by kernel_rfl, by kernel_rfl⟩ ([0, 1, 2, 3, 4] ++ ([5, 6, 7, 8, 9] ++ ([10, 11, 12, 13, 14, 15, 16, 17, 18, 19, 20, 21, 22, 23, 24, 25] ++ ([26, 27, 28])))) rfl fun K hK => ?_
        have hJ : K ⟨ofL [(1, .pt (1, 0) [] 0), (16, .d (.sh 2 f.ts.length (rows tS f.ts))), (17, .int f.ts.length), (18, .int x1), (51, .bool (!decide (okE f.ts[x1].e f.v = true ∧ (f.ts[x1].c ≠ 0 ∧ -1000000 ≤ f.ts[x1].c ∧ f.ts[x1].c ≤ 1000000) ∧ (x1 = 0 ∨ lexlt f.ts[x1].e f.ts[x1 - 1].e = true))))], ofRO [((1, 0), some (.bx (fS f)))]⟩ := by
          refine hK _ ?_; clear hK K
          show AWp _ _ _ _ _
          refine wcond _ rfl (fun hc3 => ?_) (fun hc3 => ?_)
          · have hb := nd_t hc3
            refine wseq ?_
            refine wreg fun K hK => ?_
            simp [C.impl_LaurentOk, fS, tS]
            refine hK _ ?_; clear hK K
            show AWp _ _ _ _ _
            refine wret ?_
            simp [C.impl_LaurentOk, fS, tS]
            intro hr
            have hg := hr.2.2.1 _ (List.getElem_mem h1)
            exact hb ⟨okE_iff.2 ⟨hg.1, hg.2.2.2⟩, ⟨hg.2.1, hg.2.2.1⟩, descT_next h1 hr.2.2.2⟩
          · have hb := nd_f hc3
            refine wskip ?_
            show AWp _ _ _ _ _
            refine wreg fun K hK => ?_
            simp [C.impl_LaurentOk, fS, tS, wrap_succ (show x1 < 4611686018427387904 by omega)]
            refine hK _ ?_; clear hK K
            simp [C.impl_LaurentOk, fS, tS]
            refine hR1 (x1 + 1) ⟨h1, ?_, descT_step h1 hdesc hb.2.2⟩ (by omega)
            rw [List.take_succ_eq_append_getElem h1]
            intro t ht
            rcases List.mem_append.1 ht with ht | ht
            · exact hgood t ht
            · simp only [List.mem_singleton] at ht
              rw [ht]
              have ho := okE_iff.1 hb.1
              exact ⟨ho.1, hb.2.1.1, hb.2.1.2, ho.2⟩
        clear hK
        by_cases ha : okE f.ts[x1].e f.v = true
        · by_cases hb : f.ts[x1].c ≠ 0 ∧ -1000000 ≤ f.ts[x1].c ∧ f.ts[x1].c ≤ 1000000
          · by_cases hd : 0 < x1
            · obtain ⟨m, rfl⟩ : ∃ m, x1 = m + 1 := ⟨x1 - 1, by omega⟩
              have hm : m < f.ts.length := by omega
              refine opsI_seg fun L hL => ?_
              simp [C.impl_LaurentOk, fS, tS, hm, tS_0 hm, wrap_nat (show m < 4611686018427387904 by omega), ha, hb, hd]
              refine wcall1 (impl_expOk_calls f.ts[m + 1].e f.v (hxe _ (List.getElem_mem h1))) (by simp) (by simp) ?_
              simp [C.impl_LaurentOk, fS, tS, hm, tS_0 hm, wrap_nat (show m < 4611686018427387904 by omega), ha, hb, hd]
              refine hL _ ?_; clear hL L
              refine opsI_seg fun L hL => ?_
              simp [C.impl_LaurentOk, fS, tS, hm, tS_0 hm, wrap_nat (show m < 4611686018427387904 by omega), ha, hb, hd]
              refine wcall1 (impl_coefOk_calls f.ts[m + 1].c) (by simp) (by simp) ?_
              simp [C.impl_LaurentOk, fS, tS, hm, tS_0 hm, wrap_nat (show m < 4611686018427387904 by omega), ha, hb, hd]
              refine hL _ ?_; clear hL L
              refine opsI_seg fun L hL => ?_
              simp [C.impl_LaurentOk, fS, tS, hm, tS_0 hm, wrap_nat (show m < 4611686018427387904 by omega), ha, hb, hd]
              refine wcall1 (slices_Compare_int_int_calls f.ts[m].e f.ts[m + 1].e (hxe _ (List.getElem_mem hm))) (by simp) (by simp) ?_
              simp [C.impl_LaurentOk, fS, tS, hm, tS_0 hm, wrap_nat (show m < 4611686018427387904 by omega), ha, hb, hd]
              refine hL _ ?_; clear hL L
              refine opsI_end fun L hL => ?_
              simp [C.impl_LaurentOk, fS, tS, hm, tS_0 hm, wrap_nat (show m < 4611686018427387904 by omega), ha, hb, hd]
              refine hL _ ?_; clear hL L
              simp [C.impl_LaurentOk, fS, tS, hm, tS_0 hm, wrap_nat (show m < 4611686018427387904 by omega), ha, hb, hd]
              refine cast (congrArg K ?_) hJ
              simp [cmpL_pos, fS, tS, ha, hb, hd]
            · obtain rfl : x1 = 0 := by omega
              refine opsI_seg fun L hL => ?_
              simp [C.impl_LaurentOk, fS, tS, ha, hb, hd]
              refine wcall1 (impl_expOk_calls f.ts[0].e f.v (hxe _ (List.getElem_mem h1))) (by simp) (by simp) ?_
              simp [C.impl_LaurentOk, fS, tS, ha, hb, hd]
              refine hL _ ?_; clear hL L
              refine opsI_seg fun L hL => ?_
              simp [C.impl_LaurentOk, fS, tS, ha, hb, hd]
              refine wcall1 (impl_coefOk_calls f.ts[0].c) (by simp) (by simp) ?_
              simp [C.impl_LaurentOk, fS, tS, ha, hb, hd]
              refine hL _ ?_; clear hL L
              refine opsI_seg fun L hL => ?_
              simp [C.impl_LaurentOk, fS, tS, ha, hb, hd]
              refine hL _ ?_; clear hL L
              refine opsI_end fun L hL => ?_
              simp [C.impl_LaurentOk, fS, tS, ha, hb, hd]
              refine hL _ ?_; clear hL L
              simp [C.impl_LaurentOk, fS, tS, ha, hb, hd]
              refine cast (congrArg K ?_) hJ
              simp [fS, tS, ha, hb, hd]
          · refine opsI_seg fun L hL => ?_
            simp [C.impl_LaurentOk, fS, tS, ha, hb]
            refine wcall1 (impl_expOk_calls f.ts[x1].e f.v (hxe _ (List.getElem_mem h1))) (by simp) (by simp) ?_
            simp [C.impl_LaurentOk, fS, tS, ha, hb]
            refine hL _ ?_; clear hL L
            refine opsI_seg fun L hL => ?_
            simp [C.impl_LaurentOk, fS, tS, ha, hb]
            refine wcall1 (impl_coefOk_calls f.ts[x1].c) (by simp) (by simp) ?_
            simp [C.impl_LaurentOk, fS, tS, ha, hb]
            refine hL _ ?_; clear hL L
            refine opsI_seg fun L hL => ?_
            simp [C.impl_LaurentOk, fS, tS, ha, hb]
            refine hL _ ?_; clear hL L
            refine opsI_end fun L hL => ?_
            simp [C.impl_LaurentOk, fS, tS, ha, hb]
            refine hL _ ?_; clear hL L
            simp [C.impl_LaurentOk, fS, tS, ha, hb]
            refine cast (congrArg K ?_) hJ
            simp [fS, tS, ha, hb]
        · refine opsI_seg fun L hL => ?_
          simp [C.impl_LaurentOk, fS, tS, ha]
          refine wcall1 (impl_expOk_calls f.ts[x1].e f.v (hxe _ (List.getElem_mem h1))) (by simp) (by simp) ?_
          simp [C.impl_LaurentOk, fS, tS, ha]
          refine hL _ ?_; clear hL L
          refine opsI_seg fun L hL => ?_
          simp [C.impl_LaurentOk, fS, tS, ha]
          refine hL _ ?_; clear hL L
          refine opsI_seg fun L hL => ?_
          simp [C.impl_LaurentOk, fS, tS, ha]
          refine hL _ ?_; clear hL L
          refine opsI_end fun L hL => ?_
          simp [C.impl_LaurentOk, fS, tS, ha]
          refine hL _ ?_; clear hL L
          simp [C.impl_LaurentOk, fS, tS, ha]
          refine cast (congrArg K ?_) hJ
          simp [fS, tS, ha]
      · have h2 : x1 = f.ts.length := by have := d_f hc2; omega
        refine wexit ?_
        show AWp _ _ _ _ _
        refine wseq ?_
        refine wreg fun K hK => ?_
        simp [C.impl_LaurentOk, fS, tS]
        refine hK _ ?_; clear hK K
        show AWp _ _ _ _ _
        refine wret ?_
        simp [C.impl_LaurentOk, fS, tS]
        rw [h2, List.take_length] at hgood hdesc
        exact ⟨hh.1, hh.2, hgood, hdesc⟩
  clear hK
  by_cases ha : 1 ≤ f.v ∧ f.v ≤ 8
  · refine opsI_seg fun L hL => ?_
    simp [C.impl_LaurentOk, fS, tS, ha]
    refine wcall1 (impl_within_calls f.v 1 8) (by simp) (by simp) ?_
    simp [C.impl_LaurentOk, fS, tS, ha]
    refine hL _ ?_; clear hL L
    refine opsI_end fun L hL => ?_
    simp [C.impl_LaurentOk, fS, tS, ha]
    refine hL _ ?_; clear hL L
    simp [C.impl_LaurentOk, fS, tS, ha]
    refine cast (congrArg K ?_) hJ
    simp [fS, tS, ha]
  · refine opsI_seg fun L hL => ?_
    simp [C.impl_LaurentOk, fS, tS, ha]
    refine wcall1 (impl_within_calls f.v 1 8) (by simp) (by simp) ?_
    simp [C.impl_LaurentOk, fS, tS, ha]
    refine hL _ ?_; clear hL L
    refine opsI_end fun L hL => ?_
    simp [C.impl_LaurentOk, fS, tS, ha]
    refine hL _ ?_; clear hL L
    simp [C.impl_LaurentOk, fS, tS, ha]
    refine cast (congrArg K ?_) hJ
    simp [fS, tS, ha]

theorem impl_bothOk_calls (f g : Lau) (hx : f.ts.length < 4611686018427387904) (hxe : ∀ t ∈ f.ts, t.e.length < 4611686018427387904) (hy : g.ts.length < 4611686018427387904) (hye : ∀ t ∈ g.ts, t.e.length < 4611686018427387904) : ACalls Try.prog F.impl_bothOk [aF f, aF g] [] true (fun outs res => outs = [] ∧ res = [.one (D.bool (decide (Right f ∧ Right g ∧ f.v = g.v)))]) := by
  refine ACalls.of_body (C := C.impl_bothOk) (n := Try.f108.ntmps) tabT folT Try.func108 rfl (by kernel_rfl) rfl (Nat.le_of_ble_eq_true rfl) (by decide) (by kernel_rfl) (by kernel_rfl) rfl (by simp) (by simp) ?_
  simp only [Try.f108]
  refine wseq ?_
  refine wreg fun K hK => ?_
  simp [C.impl_bothOk, fS]
  refine hK _ ?_; clear hK K
  show AWp _ _ _ _ _
  refine wseq ?_
  refine wregI ([0, 1] ++ ([2, 3, 4] ++ ([5, 6, 7, 8, 9, 10, 11, 12, 13]))) rfl fun K hK => ?_
  have hJ : K ⟨ofL [(4, .bool (decide (Right f ∧ Right g ∧ f.v = g.v)))], ofRO []⟩ := by
    refine hK _ ?_; clear hK K
    show AWp _ _ _ _ _
    refine wret ?_
    simp [C.impl_bothOk, fS]
  clear hK
  by_cases ha : Right f
  · by_cases hb : Right g
    · refine opsI_seg fun L hL => ?_
      simp [C.impl_bothOk, fS, ha, hb]
      refine wcall1 (impl_LaurentOk_calls f hx hxe) (by simp) (by simp) ?_
      simp [C.impl_bothOk, fS, ha, hb]
      refine hL _ ?_; clear hL L
      refine opsI_seg fun L hL => ?_
      simp [C.impl_bothOk, fS, ha, hb]
      refine wcall1 (impl_LaurentOk_calls g hy hye) (by simp) (by simp) ?_
      simp [C.impl_bothOk, fS, ha, hb]
      refine hL _ ?_; clear hL L
      refine opsI_end fun L hL => ?_
      simp [C.impl_bothOk, fS, ha, hb]
      refine hL _ ?_; clear hL L
      simp [C.impl_bothOk, fS, ha, hb]
      refine cast (congrArg K ?_) hJ
      simp [ibeq, fS, ha, hb]
    · refine opsI_seg fun L hL => ?_
      simp [C.impl_bothOk, fS, ha, hb]
      refine wcall1 (impl_LaurentOk_calls f hx hxe) (by simp) (by simp) ?_
      simp [C.impl_bothOk, fS, ha, hb]
      refine hL _ ?_; clear hL L
      refine opsI_seg fun L hL => ?_
      simp [C.impl_bothOk, fS, ha, hb]
      refine wcall1 (impl_LaurentOk_calls g hy hye) (by simp) (by simp) ?_
      simp [C.impl_bothOk, fS, ha, hb]
      refine hL _ ?_; clear hL L
      refine opsI_end fun L hL => ?_
      simp [C.impl_bothOk, fS, ha, hb]
      refine hL _ ?_; clear hL L
      simp [C.impl_bothOk, fS, ha, hb]
      refine cast (congrArg K ?_) hJ
      simp [ibeq, fS, ha, hb]
  · refine opsI_seg fun L hL => ?_
    simp [C.impl_bothOk, fS, ha]
    refine wcall1 (impl_LaurentOk_calls f hx hxe) (by simp) (by simp) ?_
    simp [C.impl_bothOk, fS, ha]
    refine hL _ ?_; clear hL L
    refine opsI_seg fun L hL => ?_
    simp [C.impl_bothOk, fS, ha]
    refine hL _ ?_; clear hL L
    refine opsI_end fun L hL => ?_
    simp [C.impl_bothOk, fS, ha]
    refine hL _ ?_; clear hL L
    simp [C.impl_bothOk, fS, ha]
    refine cast (congrArg K ?_) hJ
    simp [ibeq, fS, ha]

end Go.Proofs.Ytdgeponcnlkaiaa.Ab
