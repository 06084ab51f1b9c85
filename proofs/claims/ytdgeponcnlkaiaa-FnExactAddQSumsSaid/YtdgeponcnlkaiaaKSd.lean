/- Sums that are right; their coded terms; what products and sums come to. The reference's sums: which are right; codes and their decoding. The program's sums: what is right, keys, comparisons. The reference's coded terms: opened, multiplied, shut. Merging runs sorts; terms of one key that lie together are added. The reference's gathering: terms in order, those of one key added. The reference's products of coded terms. The reference's products and powers of sums. The reference's powers of sums. Keys of the program's sums, and their building. The program's powers of sums, over its products. A map of padded exponents as a sum. The program's products of sums, over the end of a building. Powers of sums: the program's are the reference's, fresh at each call. Quantum sums: the order of terms, which sums are right. Quantum terms in order: segments, merging, those of one key added, the empty ones left out. The end of a building, over a sort. Maps that hold quantum sums: keys of nine numbers. The reference's gathering of quantum terms: in order, those of one key added, the empty ones left out. Quantum sums: which are right, for the reference and for the program. The reference's sums of quantum sums. The program's building of quantum sums, over a sort. The sort of quantum terms, greatest first, at this program. Division of sums by their greatest terms, over any keys: what it finds, what it keeps, and that it does not matter which of two tests it makes. Seeds and sessions: what is equal, marks. The first seed and the first session, on both sides. Least exponents, denominators, numerators. Division of sums in variables: two ways to test whether to go on lead to the same. What a division keeps from step to step. Greatest exponents, sums of coded terms, division: the reference's side. The sum that a quantum sum becomes with 1 in place of q: the reference's, the program's. The program's sums of quantum sums. Lists of lists of numbers as trees. Lists of lists of numbers: their size, copies, what is equal, marks. Skew forms: which are right; what a form makes of two lists of exponents. What a form makes of two lists of exponents; what fits a form. Products of quantum sums: the reference's. Products of quantum sums: the program's. Sums of quantum sums: both sides' contracts, their common result is small. The law of sums of quantum sums. More arguments of this program's laws, read as trees: lists of lists, quantum sums. Sums of quantum sums: the law, with its arguments. No condition. -/
import Derived.Test.YtdgeponcnlkaiaaKSc
import Derived.Shelf.SlSortCmp.NoneTotal
set_option linter.unusedVariables false
set_option linter.unusedSimpArgs false
namespace Go.Proofs.Ytdgeponcnlkaiaa.Ab
open Go
set_option linter.unusedSimpArgs false
set_option linter.unusedVariables false
set_option linter.unusedSectionVars false

def Good (v : Int) (t : Trm) : Prop := (t.e.length : Int) = v ∧ t.c ≠ 0 ∧ (-1000000 ≤ t.c ∧ t.c ≤ 1000000) ∧ ∀ x ∈ t.e, -20 ≤ x ∧ x ≤ 20
def DescT (ts : List Trm) : Prop := ts.Pairwise fun a b => lexlt b.e a.e = true
def Right (f : Lau) : Prop := (1 ≤ f.v ∧ f.v ≤ 8) ∧ f.ts.length ≤ 600 ∧ (∀ t ∈ f.ts, Good f.v t) ∧ DescT f.ts
noncomputable instance (f : Lau) : Decidable (Right f) := Classical.propDecidable _
def zeroF : Lau := ⟨0, []⟩

/-! ### Coded terms -/
def gM (x : Int × Int) : List D := [D.int x.1, D.int x.2]
theorem gM_two (x : Int × Int) : (gM x).length = 2 := rfl
@[simp] theorem gM_length (l : List (Int × Int)) : (rows gM l).length = 2 * l.length := rows_length gM_two l
theorem gM_leaf : ∀ l : List (Int × Int), leafL (rows gM l)
  | [] => trivial
  | x :: l => ⟨rfl, rfl, gM_leaf l⟩
theorem gM_noSh (l : List (Int × Int)) : noShL (rows gM l) := rows_noSh (fun t => by simp [gM, noShL, noSh]) l
theorem gM_share : ∀ l : List (Int × Int), shareL (rows gM l) = rows gM l
  | [] => rfl
  | x :: l => by simp [rows, gM, shareL, share, gM_share l]
attribute [simp] gM_leaf gM_noSh gM_share
section
variable {l : List (Int × Int)} {i : Nat}
end
end Go.Proofs.Ytdgeponcnlkaiaa.Ab
namespace Go.Proofs.Ytdgeponcnlkaiaa.Ab
open Go
set_option linter.unusedSimpArgs false
set_option linter.unusedVariables false
set_option maxRecDepth 10000
set_option maxHeartbeats 2000000
theorem spec_l1Less_calls (a b : List Int) (ha : a.length < 4611686018427387904) : ACalls Try.prog F.spec_l1Less [.d (shI a), .d (shI b)] [] true (fun outs res => outs = [] ∧ res = [.one (D.bool (lexlt a b))]) := by
  refine ACalls.of_body (C := C.spec_l1Less) (n := Try.f212.ntmps) tabT folT Try.func212 rfl (by kernel_rfl) rfl (Nat.le_of_ble_eq_true rfl) (by decide) (by kernel_rfl) (by kernel_rfl) rfl (by simp) (by simp) ?_
  simp only [Try.f212]
  refine wseq ?_
  refine wreg fun K hK => ?_
  simp [C.spec_l1Less]
  refine hK _ ?_; clear hK K
  show AWp _ _ _ _ _
  refine wseq ?_
  refine wseq ?_
  refine wreg fun K hK => ?_
  simp [C.spec_l1Less]
  refine hK _ ?_; clear hK K
  show AWp _ _ _ _ _
  refine wblock ?_
  refine wloop (fun k : Nat => ⟨ofL [(0, .d (shI a)), (1, .d (shI b)), (5, FV.int k)], ofRO []⟩) (fun k => k ≤ a.length ∧ k ≤ b.length ∧ lexlt a b = lexlt (a.drop k) (b.drop k)) (fun k => a.length - k) 0 (by simp [C.spec_l1Less]) (by simp) ?_
  intro x1 hx1 R1 hR1
  obtain ⟨hk, hk2, ht⟩ := hx1
  refine wseq ?_
  refine wseq ?_
  refine wreg fun K hK => ?_
  have hJ : K ⟨ofL [(0, .d (shI a)), (1, .d (shI b)), (5, FV.int x1), (15, .bool (decide (x1 < a.length ∧ x1 < b.length)))], ofRO []⟩ := by
    refine hK _ ?_; clear hK K
    show AWp _ _ _ _ _
    refine wcond _ rfl (fun hc1 => ?_) (fun hc1 => ?_)
    · have hh : x1 < a.length ∧ x1 < b.length := by simpa using hc1
      obtain ⟨h1, h2⟩ := hh
      refine wskip ?_
      show AWp _ _ _ _ _
      refine wseq ?_
      refine wblock ?_
      refine wseq ?_
      refine wdraw (.take 0 (.take 1 (.take 2 (.take 3 (.take 4 (.take 5 (.take 6 (.take 7 (.take 8 (.done)))))))))) ⟨by kernel_rfl, by kernel_rfl⟩ fun K hK => ?_
      simp [C.spec_l1Less, get_ints, h1, h2]
      refine hK _ ?_; clear hK K
      show AWp _ _ _ _ _
      refine wcond _ rfl (fun hc2 => ?_) (fun hc2 => ?_)
      · refine wseq ?_
        refine wdraw (.take 0 (.take 1 (.take 2 (.take 3 (.take 4 (.take 5 (.take 6 (.take 7 (.take 8 (.take 9 (.done))))))))))) ⟨by kernel_rfl, by kernel_rfl⟩ fun K hK => ?_
        simp [C.spec_l1Less, get_ints, h1, h2]
        refine hK _ ?_; clear hK K
        show AWp _ _ _ _ _
        refine wret ?_
        simp at hc2
        simp [C.spec_l1Less]
        rw [ht, List.drop_eq_getElem_cons h1, List.drop_eq_getElem_cons h2]
        simp [lexlt, hc2]
      · refine wskip ?_
        show AWp _ _ _ _ _
        refine wreg fun K hK => ?_
        simp [C.spec_l1Less, wrap_succ (show x1 < 4611686018427387904 by omega)]
        refine hK _ ?_; clear hK K
        simp [C.spec_l1Less]
        simp at hc2
        refine hR1 (x1 + 1) ⟨h1, h2, ?_⟩ (by omega)
        rw [ht, List.drop_eq_getElem_cons h1, List.drop_eq_getElem_cons h2]
        simp [lexlt, hc2]
    · have hh : ¬ (x1 < a.length ∧ x1 < b.length) := by simpa using hc1
      refine wexit ?_
      show AWp _ _ _ _ _
      refine wseq ?_
      refine wreg fun K hK => ?_
      simp [C.spec_l1Less]
      refine hK _ ?_; clear hK K
      show AWp _ _ _ _ _
      refine wret ?_
      simp [C.spec_l1Less]
      rw [ht]
      by_cases q : x1 < a.length
      · rw [List.drop_eq_nil_of_le (show b.length ≤ x1 by omega), List.drop_eq_getElem_cons q]
        simp [lexlt]
        omega
      · rw [List.drop_eq_nil_of_le (show a.length ≤ x1 by omega)]
        by_cases q2 : x1 < b.length
        · rw [List.drop_eq_getElem_cons q2]
          simp [lexlt]
          omega
        · rw [List.drop_eq_nil_of_le (show b.length ≤ x1 by omega)]
          simp [lexlt]
          omega
  clear hK
  by_cases hg : x1 < a.length
  · simp [C.spec_l1Less, hg]
    refine cast (congrArg K ?_) hJ
    simp [hg]
  · simp [C.spec_l1Less, hg]
    refine cast (congrArg K ?_) hJ
    simp [hg]

end Go.Proofs.Ytdgeponcnlkaiaa.Ab
namespace Go.Proofs.Ytdgeponcnlkaiaa.Ab
open Go
set_option linter.unusedSimpArgs false
set_option linter.unusedVariables false
set_option maxRecDepth 10000
set_option maxHeartbeats 2000000
def cmpI (a b : Int) : Int := if a < b then -1 else if b < a then 1 else 0
def cmpL : List Int → List Int → Int
  | [], [] => 0
  | [], _ :: _ => -1
  | _ :: _, [] => 1
  | a :: x, b :: y => if a = b then cmpL x y else if a < b then -1 else 1
theorem cmpL_neg : ∀ (a b : List Int), decide (cmpL a b < 0) = lexlt a b
  | [], [] => rfl
  | [], _ :: _ => rfl
  | _ :: _, [] => rfl
  | a :: x, b :: y => by
    have ih := cmpL_neg x y
    by_cases h : a = b
    · have e : cmpL (a :: x) (b :: y) = cmpL x y := by simp [cmpL, h]
      rw [e, ih]
      simp [lexlt, h]
    · by_cases h2 : a < b
      · have e : cmpL (a :: x) (b :: y) = -1 := by simp [cmpL, h, h2]
        rw [e]
        simp [lexlt, h, h2]
      · have e : cmpL (a :: x) (b :: y) = 1 := by simp [cmpL, h, h2]
        rw [e]
        simp [lexlt, h, h2]
def okE (e : List Int) (v : Int) : Bool := decide ((e.length : Int) = v) && !e.any (fun x => !decide (-20 ≤ x ∧ x ≤ 20))
theorem okE_iff {e : List Int} {v : Int} : okE e v = true ↔ (e.length : Int) = v ∧ ∀ x ∈ e, -20 ≤ x ∧ x ≤ 20 := by
  unfold okE
  simp only [Bool.and_eq_true, decide_eq_true_eq, Bool.not_eq_true', List.any_eq_false, Bool.not_eq_true']
  refine ⟨fun ⟨h1, h2⟩ => ⟨h1, fun x hx => ?_⟩, fun ⟨h1, h2⟩ => ⟨h1, fun x hx => ?_⟩⟩
  · have := h2 x hx
    simpa using this
  · have := h2 x hx
    simpa using this
theorem cmp_isNaN_int_calls (a : Int) : ACalls Try.prog F.cmp_isNaN_int [.int a] [] true (fun outs res => outs = [] ∧ res = [.one (D.bool false)]) := by
  refine ACalls.of_body (C := C.cmp_isNaN_int) (n := Try.f227.ntmps) tabT folT Try.func227 rfl (by kernel_rfl) rfl (Nat.le_of_ble_eq_true rfl) (by decide) (by kernel_rfl) (by kernel_rfl) rfl (by simp) (by simp) ?_
  simp only [Try.f227]
  refine wseq ?_
  refine wreg fun K hK => ?_
  simp [C.cmp_isNaN_int]
  refine hK _ ?_; clear hK K
  show AWp _ _ _ _ _
  refine wseq ?_
  refine wreg fun K hK => ?_
  simp [C.cmp_isNaN_int]
  refine hK _ ?_; clear hK K
  show AWp _ _ _ _ _
  refine wret ?_
  simp [C.cmp_isNaN_int]

theorem cmp_Compare_int_calls (a b : Int) : ACalls Try.prog F.cmp_Compare_int [.int a, .int b] [] true (fun outs res => outs = [] ∧ res = [.one (D.int (cmpI a b))]) := by
  refine ACalls.of_body (C := C.cmp_Compare_int) (n := Try.f191.ntmps) tabT folT Try.func191 rfl (by kernel_rfl) rfl (Nat.le_of_ble_eq_true rfl) (by decide) (by kernel_rfl) (by kernel_rfl) rfl (by simp) (by simp) ?_
  simp only [Try.f191]
  refine wseq ?_
  refine wreg fun K hK => ?_
  simp [C.cmp_Compare_int]
  refine hK _ ?_; clear hK K
  show AWp _ _ _ _ _
  refine wseq ?_
  refine wregI ([0, 1] ++ ([2])) rfl fun K hK => ?_
  refine opsI_seg fun L hL => ?_
  simp [C.cmp_Compare_int]
  refine wcall1 (cmp_isNaN_int_calls a) (by simp) (by simp) ?_
  simp [C.cmp_Compare_int]
  refine hL _ ?_; clear hL L
  refine opsI_end fun L hL => ?_
  simp [C.cmp_Compare_int]
  refine hL _ ?_; clear hL L
  simp [C.cmp_Compare_int]
  refine hK _ ?_; clear hK K
  show AWp _ _ _ _ _
  refine wseq ?_
  refine wregI ([0, 1] ++ ([2])) rfl fun K hK => ?_
  refine opsI_seg fun L hL => ?_
  simp [C.cmp_Compare_int]
  refine wcall1 (cmp_isNaN_int_calls b) (by simp) (by simp) ?_
  simp [C.cmp_Compare_int]
  refine hL _ ?_; clear hL L
  refine opsI_end fun L hL => ?_
  simp [C.cmp_Compare_int]
  refine hL _ ?_; clear hL L
  simp [C.cmp_Compare_int]
  refine hK _ ?_; clear hK K
  show AWp _ _ _ _ _
  refine wseq ?_
  refine wseq ?_
  refine wreg fun K hK => ?_
  simp [C.cmp_Compare_int]
  refine hK _ ?_; clear hK K
  show AWp _ _ _ _ _
  refine wcond _ rfl (fun hc1 => ?_) (fun hc1 => ?_)
  · simp at hc1
  · refine wskip ?_
    show AWp _ _ _ _ _
    refine wseq ?_
    refine wseq ?_
    refine wreg fun K hK => ?_
    simp [C.cmp_Compare_int]
    refine hK _ ?_; clear hK K
    show AWp _ _ _ _ _
    refine wcond _ rfl (fun hc3 => ?_) (fun hc3 => ?_)
    · simp at hc3
    · refine wskip ?_
      show AWp _ _ _ _ _
      refine wseq ?_
      refine wseq ?_
      refine wreg fun K hK => ?_
      simp [C.cmp_Compare_int]
      refine hK _ ?_; clear hK K
      show AWp _ _ _ _ _
      refine wcond _ rfl (fun hc4 => ?_) (fun hc4 => ?_)
      · have h4 := d_t hc4
        refine wseq ?_
        refine wreg fun K hK => ?_
        simp [C.cmp_Compare_int]
        refine hK _ ?_; clear hK K
        show AWp _ _ _ _ _
        refine wret ?_
        simp [C.cmp_Compare_int, cmpI, h4]
      · have h4 := d_f hc4
        refine wskip ?_
        show AWp _ _ _ _ _
        refine wseq ?_
        refine wseq ?_
        refine wreg fun K hK => ?_
        simp [C.cmp_Compare_int]
        refine hK _ ?_; clear hK K
        show AWp _ _ _ _ _
        refine wcond _ rfl (fun hc5 => ?_) (fun hc5 => ?_)
        · have h5 : b < a := by simpa using hc5
          refine wseq ?_
          refine wreg fun K hK => ?_
          simp [C.cmp_Compare_int]
          refine hK _ ?_; clear hK K
          show AWp _ _ _ _ _
          refine wret ?_
          simp [C.cmp_Compare_int, cmpI, h4, h5]
        · have h5 : ¬ b < a := by simpa using hc5
          refine wskip ?_
          show AWp _ _ _ _ _
          refine wseq ?_
          refine wreg fun K hK => ?_
          simp [C.cmp_Compare_int]
          refine hK _ ?_; clear hK K
          show AWp _ _ _ _ _
          refine wret ?_
          simp [C.cmp_Compare_int, cmpI, h4, h5]

theorem slices_Compare_int_int_calls (a b : List Int) (ha : a.length < 4611686018427387904) : ACalls Try.prog F.slices_Compare_int_int [.d (shI a), .d (shI b)] [] true (fun outs res => outs = [] ∧ res = [.one (D.int (cmpL a b))]) := by
  refine ACalls.of_body (C := C.slices_Compare_int_int) (n := Try.f114.ntmps) tabT folT Try.func114 rfl (by kernel_rfl) rfl (Nat.le_of_ble_eq_true rfl) (by decide) (by kernel_rfl) (by kernel_rfl) rfl (by simp) (by simp) ?_
  simp only [Try.f114]
  refine wseq ?_
  refine wreg fun K hK => ?_
  simp [C.slices_Compare_int_int]
  refine hK _ ?_; clear hK K
  show AWp _ _ _ _ _
  refine wseq ?_
  refine wseq ?_
  refine wreg fun K hK => ?_
  simp [C.slices_Compare_int_int]
  refine hK _ ?_; clear hK K
  show AWp _ _ _ _ _
  refine wblock ?_
  refine wloop (fun k : Nat => ⟨ofL [(0, .d (shI a)), (1, .d (shI b)), (9, .d (shI a)), (10, .int a.length), (11, FV.int k)], ofRO []⟩) (fun k => k ≤ a.length ∧ k ≤ b.length ∧ cmpL a b = cmpL (a.drop k) (b.drop k)) (fun k => a.length - k) 0 (by simp [C.slices_Compare_int_int]) (by simp) ?_
  intro x1 hx1 R1 hR1
  obtain ⟨hk, hk2, ht⟩ := hx1
  refine wseq ?_
  refine wreg fun K hK => ?_
  simp [C.slices_Compare_int_int]
  refine hK _ ?_; clear hK K
  show AWp _ _ _ _ _
  refine wseq ?_
  refine wcond _ rfl (fun hc1 => ?_) (fun hc1 => ?_)
  · have h1 : x1 < a.length := by have := d_t hc1; omega
    refine wskip ?_
    show AWp _ _ _ _ _
    refine wseq ?_
    refine wblock ?_
    refine wseq ?_
    refine wreg fun K hK => ?_
    simp [C.slices_Compare_int_int, get_ints, h1]
    refine hK _ ?_; clear hK K
    show AWp _ _ _ _ _
    refine wseq ?_
    refine wseq ?_
    refine wreg fun K hK => ?_
    simp [C.slices_Compare_int_int]
    refine hK _ ?_; clear hK K
    show AWp _ _ _ _ _
    refine wcond _ rfl (fun hc2 => ?_) (fun hc2 => ?_)
    · have h2 : b.length ≤ x1 := by have := d_t hc2; omega
      refine wseq ?_
      refine wreg fun K hK => ?_
      simp [C.slices_Compare_int_int]
      refine hK _ ?_; clear hK K
      show AWp _ _ _ _ _
      refine wret ?_
      simp [C.slices_Compare_int_int]
      rw [ht, List.drop_eq_nil_of_le h2, List.drop_eq_getElem_cons h1]
      rfl
    · have h2 : x1 < b.length := by have := d_f hc2; omega
      refine wskip ?_
      show AWp _ _ _ _ _
      refine wseq ?_
      refine wreg fun K hK => ?_
      simp [C.slices_Compare_int_int, get_ints, h2]
      refine hK _ ?_; clear hK K
      show AWp _ _ _ _ _
      refine wseq ?_
      refine wregI ([0, 1, 2] ++ ([3])) rfl fun K hK => ?_
      refine opsI_seg fun L hL => ?_
      simp [C.slices_Compare_int_int]
      refine wcall1 (cmp_Compare_int_calls a[x1] b[x1]) (by simp) (by simp) ?_
      simp [C.slices_Compare_int_int]
      refine hL _ ?_; clear hL L
      refine opsI_end fun L hL => ?_
      simp [C.slices_Compare_int_int]
      refine hL _ ?_; clear hL L
      simp [C.slices_Compare_int_int]
      refine hK _ ?_; clear hK K
      show AWp _ _ _ _ _
      refine wseq ?_
      refine wreg fun K hK => ?_
      simp [C.slices_Compare_int_int]
      refine hK _ ?_; clear hK K
      show AWp _ _ _ _ _
      refine wcond _ rfl (fun hc3 => ?_) (fun hc3 => ?_)
      · have hne : ¬ cmpI a[x1] b[x1] = 0 := by simpa using hc3
        refine wseq ?_
        refine wreg fun K hK => ?_
        simp [C.slices_Compare_int_int]
        refine hK _ ?_; clear hK K
        show AWp _ _ _ _ _
        refine wret ?_
        simp [C.slices_Compare_int_int]
        rw [ht, List.drop_eq_getElem_cons h1, List.drop_eq_getElem_cons h2]
        rcases Int.lt_trichotomy a[x1] b[x1] with q | q | q
        · simp [cmpL, cmpI, q, Int.ne_of_lt q]
        · simp [cmpI, q] at hne
        · simp [cmpL, cmpI, q, Int.ne_of_gt q, Int.not_lt.2 (Int.le_of_lt q)]
      · have heq : cmpI a[x1] b[x1] = 0 := by simpa using hc3
        have hab : a[x1] = b[x1] := by
          unfold cmpI at heq
          split at heq
          · simp at heq
          · split at heq
            · simp at heq
            · omega
        refine wskip ?_
        show AWp _ _ _ _ _
        refine wreg fun K hK => ?_
        simp [C.slices_Compare_int_int, wrap_succ (show x1 < 4611686018427387904 by omega)]
        refine hK _ ?_; clear hK K
        simp [C.slices_Compare_int_int]
        refine hR1 (x1 + 1) ⟨h1, h2, ?_⟩ (by omega)
        rw [ht, List.drop_eq_getElem_cons h1, List.drop_eq_getElem_cons h2]
        simp [cmpL, hab]
  · have h1 : x1 = a.length := by have := d_f hc1; omega
    have hn : a.drop x1 = [] := List.drop_eq_nil_of_le (by omega)
    refine wexit ?_
    show AWp _ _ _ _ _
    refine wseq ?_
    refine wseq ?_
    refine wreg fun K hK => ?_
    simp [C.slices_Compare_int_int]
    refine hK _ ?_; clear hK K
    show AWp _ _ _ _ _
    refine wcond _ rfl (fun hc4 => ?_) (fun hc4 => ?_)
    · have h2 : a.length < b.length := by have := d_t hc4; omega
      refine wseq ?_
      refine wreg fun K hK => ?_
      simp [C.slices_Compare_int_int]
      refine hK _ ?_; clear hK K
      show AWp _ _ _ _ _
      refine wret ?_
      simp [C.slices_Compare_int_int]
      rw [ht, hn, List.drop_eq_getElem_cons (show x1 < b.length by omega)]
      rfl
    · have h2 : ¬ a.length < b.length := by have := d_f hc4; omega
      refine wskip ?_
      show AWp _ _ _ _ _
      refine wseq ?_
      refine wreg fun K hK => ?_
      simp [C.slices_Compare_int_int]
      refine hK _ ?_; clear hK K
      show AWp _ _ _ _ _
      refine wret ?_
      simp [C.slices_Compare_int_int]
      rw [ht, hn, List.drop_eq_nil_of_le (show b.length ≤ x1 by omega)]
      rfl

theorem slices_IndexFunc_int_int_calls (xs : List Int) (g : Nat) (p : Int → Bool) (hx : xs.length < 4611686018427387904) (hM : aget [] MM g = []) (hp : ∀ x ∈ xs, ACalls Try.prog g [.int x] [] true (fun outs res => outs = [] ∧ res = [.one (D.bool (p x))])) : ACalls Try.prog F.slices_IndexFunc_int_int [.d (shI xs), .d (.fn g [])] [] true (fun outs res => outs = [] ∧ ∃ r : Int, res = [.one (D.int r)] ∧ decide (0 ≤ r) = xs.any p) := by
  refine ACalls.of_body (C := C.slices_IndexFunc_int_int) (n := Try.f211.ntmps) tabT folT Try.func211 rfl (by kernel_rfl) rfl (Nat.le_of_ble_eq_true rfl) (by decide) (by kernel_rfl) (by kernel_rfl) rfl (by simp) (by simp) ?_
  simp only [Try.f211]
  refine wseq ?_
  refine wreg fun K hK => ?_
  simp [C.slices_IndexFunc_int_int]
  refine hK _ ?_; clear hK K
  show AWp _ _ _ _ _
  refine wseq ?_
  refine wseq ?_
  refine wreg fun K hK => ?_
  simp [C.slices_IndexFunc_int_int]
  refine hK _ ?_; clear hK K
  show AWp _ _ _ _ _
  refine wblock ?_
  refine wloop (fun k : Nat => ⟨ofL [(0, .d (shI xs)), (1, .d (.fn g [])), (7, .int xs.length), (8, FV.int k)], ofRO []⟩) (fun k => k ≤ xs.length ∧ (xs.take k).any p = false) (fun k => xs.length - k) 0 (by simp [C.slices_IndexFunc_int_int]) (by simp) ?_
  intro x1 hx1 R1 hR1
  obtain ⟨hk, ht⟩ := hx1
  refine wseq ?_
  refine wreg fun K hK => ?_
  simp [C.slices_IndexFunc_int_int]
  refine hK _ ?_; clear hK K
  show AWp _ _ _ _ _
  refine wseq ?_
  refine wcond _ rfl (fun hc1 => ?_) (fun hc1 => ?_)
  · have h1 : x1 < xs.length := by have := d_t hc1; omega
    refine wskip ?_
    show AWp _ _ _ _ _
    refine wseq ?_
    refine wblock ?_
    refine wseq ?_
    refine wreg fun K hK => ?_
    simp [C.slices_IndexFunc_int_int]
    refine hK _ ?_; clear hK K
    show AWp _ _ _ _ _
    refine wseq ?_
    refine wregI ([0, 1, 2, 3, 4, 5] ++ ([])) rfl fun K hK => ?_
    refine opsI_seg fun L hL => ?_
    simp [C.slices_IndexFunc_int_int, get_ints, h1, hM]
    refine wcall1 (hp xs[x1] (List.getElem_mem h1)) (by simp) (by simp) ?_
    simp [C.slices_IndexFunc_int_int, get_ints, h1, hM]
    refine hL _ ?_; clear hL L
    refine opsI_end fun L hL => ?_
    simp only [AOpsI]
    refine hL _ ?_; clear hL L
    simp [C.slices_IndexFunc_int_int, get_ints, h1, hM]
    refine hK _ ?_; clear hK K
    show AWp _ _ _ _ _
    refine wcond _ rfl (fun hc2 => ?_) (fun hc2 => ?_)
    · have hpx : p xs[x1] = true := by simpa using hc2
      refine wseq ?_
      refine wreg fun K hK => ?_
      simp [C.slices_IndexFunc_int_int]
      refine hK _ ?_; clear hK K
      show AWp _ _ _ _ _
      refine wret ?_
      simp [C.slices_IndexFunc_int_int]
      exact ⟨xs[x1], List.getElem_mem h1, hpx⟩
    · have hpx : p xs[x1] = false := by simpa using hc2
      refine wskip ?_
      show AWp _ _ _ _ _
      refine wreg fun K hK => ?_
      simp [C.slices_IndexFunc_int_int, wrap_succ (show x1 < 4611686018427387904 by omega)]
      refine hK _ ?_; clear hK K
      simp [C.slices_IndexFunc_int_int]
      refine hR1 (x1 + 1) ⟨h1, ?_⟩ (by omega)
      rw [List.take_succ_eq_append_getElem h1, List.any_append, ht]
      simp [hpx]
  · have h1 : x1 = xs.length := by have := d_f hc1; omega
    have ht2 : xs.any p = false := by rw [h1, List.take_length] at ht; exact ht
    refine wexit ?_
    show AWp _ _ _ _ _
    refine wseq ?_
    refine wreg fun K hK => ?_
    simp [C.slices_IndexFunc_int_int]
    refine hK _ ?_; clear hK K
    show AWp _ _ _ _ _
    refine wret ?_
    simp [C.slices_IndexFunc_int_int]
    intro x hx
    have := List.any_eq_false.1 ht2 x hx
    simpa using this

theorem slices_ContainsFunc_int_int_calls (xs : List Int) (g : Nat) (p : Int → Bool) (hx : xs.length < 4611686018427387904) (hM : aget [] MM g = []) (hp : ∀ x ∈ xs, ACalls Try.prog g [.int x] [] true (fun outs res => outs = [] ∧ res = [.one (D.bool (p x))])) : ACalls Try.prog F.slices_ContainsFunc_int_int [.d (shI xs), .d (.fn g [])] [] true (fun outs res => outs = [] ∧ res = [.one (D.bool (xs.any p))]) := by
  refine ACalls.of_body (C := C.slices_ContainsFunc_int_int) (n := Try.f134.ntmps) tabT folT Try.func134 rfl (by kernel_rfl) rfl (Nat.le_of_ble_eq_true rfl) (by decide) (by kernel_rfl) (by kernel_rfl) rfl (by simp) (by simp) ?_
  simp only [Try.f134]
  refine wseq ?_
  refine wreg fun K hK => ?_
  simp [C.slices_ContainsFunc_int_int]
  refine hK _ ?_; clear hK K
  show AWp _ _ _ _ _
  refine wseq ?_
  refine wregI ([0, 1, 2] ++ ([3, 4])) rfl fun K hK => ?_
  refine opsI_seg fun L hL => ?_
  simp [C.slices_ContainsFunc_int_int]
  refine wcall (slices_IndexFunc_int_int_calls xs g p hx hM hp) (by simp) (by simp) (by simp) ?_
  rintro outs res ⟨rfl, r, rfl, hr⟩
  simp [C.slices_ContainsFunc_int_int]
  refine hL _ ?_; clear hL L
  refine opsI_end fun L hL => ?_
  simp [C.slices_ContainsFunc_int_int]
  refine hL _ ?_; clear hL L
  simp [C.slices_ContainsFunc_int_int]
  refine hK _ ?_; clear hK K
  show AWp _ _ _ _ _
  refine wret ?_
  simp [C.slices_ContainsFunc_int_int]
  exact hr

theorem impl_expOk_1_calls (x : Int) : ACalls Try.prog F.impl_expOk_1 [.int x] [] true (fun outs res => outs = [] ∧ res = [.one (D.bool (!decide (-20 ≤ x ∧ x ≤ 20)))]) := by
  refine ACalls.of_body (C := C.impl_expOk_1) (n := Try.f192.ntmps) tabT folT Try.func192 rfl (by kernel_rfl) rfl (Nat.le_of_ble_eq_true rfl) (by decide) (by kernel_rfl) (by kernel_rfl) rfl (by simp) (by simp) ?_
  simp only [Try.f192]
  refine wseq ?_
  refine wreg fun K hK => ?_
  simp [C.impl_expOk_1]
  refine hK _ ?_; clear hK K
  show AWp _ _ _ _ _
  refine wseq ?_
  refine wregI ([0, 1] ++ ([2, 3])) rfl fun K hK => ?_
  refine opsI_seg fun L hL => ?_
  simp [C.impl_expOk_1]
  refine wcall1 (impl_within_calls x (-20) 20) (by simp) (by simp) ?_
  simp [C.impl_expOk_1]
  refine hL _ ?_; clear hL L
  refine opsI_end fun L hL => ?_
  simp [C.impl_expOk_1]
  refine hL _ ?_; clear hL L
  simp [C.impl_expOk_1]
  refine hK _ ?_; clear hK K
  show AWp _ _ _ _ _
  refine wret ?_
  simp [C.impl_expOk_1]

theorem impl_expOk_calls (e : List Int) (v : Int) (hx : e.length < 4611686018427387904) : ACalls Try.prog F.impl_expOk [.d (shI e), .int v] [] true (fun outs res => outs = [] ∧ res = [.one (D.bool (okE e v))]) := by
  refine ACalls.of_body (C := C.impl_expOk) (n := Try.f115.ntmps) tabT folT Try.func115 rfl (by kernel_rfl) rfl (Nat.le_of_ble_eq_true rfl) (by decide) (by kernel_rfl) (by kernel_rfl) rfl (by simp) (by simp) ?_
  simp only [Try.f115]
  refine wseq ?_
  refine wreg fun K hK => ?_
  simp [C.impl_expOk]
  refine hK _ ?_; clear hK K
  show AWp _ _ _ _ _
  refine wseq ?_
  refine wregI ([0, 1, 2, 3, 4, 5, 6] ++ ([7, 8, 9])) rfl fun K hK => ?_
  have hJ : K ⟨ofL [(4, .bool (okE e v))], ofRO []⟩ := by
    refine hK _ ?_; clear hK K
    show AWp _ _ _ _ _
    refine wret ?_
    simp [C.impl_expOk]
  clear hK
  by_cases ha : (e.length : Int) = v
  · refine opsI_seg fun L hL => ?_
    simp [C.impl_expOk, ha]
    refine wcall1 (slices_ContainsFunc_int_int_calls e _ (fun x => !decide (-20 ≤ x ∧ x ≤ 20)) hx rfl (fun x _ => impl_expOk_1_calls x)) (by simp) (by simp) ?_
    simp [C.impl_expOk, ha]
    refine hL _ ?_; clear hL L
    refine opsI_end fun L hL => ?_
    simp [C.impl_expOk, ha]
    refine hL _ ?_; clear hL L
    simp [C.impl_expOk, ha]
    refine cast (congrArg K ?_) hJ
    simp [okE, ha]
  · refine opsI_seg fun L hL => ?_
    simp [C.impl_expOk, ha]
    refine hL _ ?_; clear hL L
    refine opsI_end fun L hL => ?_
    simp [C.impl_expOk, ha]
    refine hL _ ?_; clear hL L
    simp [C.impl_expOk, ha]
    refine cast (congrArg K ?_) hJ
    simp [okE, ha]

theorem impl_coefOk_calls (c : Int) : ACalls Try.prog F.impl_coefOk [.int c] [] true (fun outs res => outs = [] ∧ res = [.one (D.bool (decide (c ≠ 0 ∧ -1000000 ≤ c ∧ c ≤ 1000000)))]) := by
  refine ACalls.of_body (C := C.impl_coefOk) (n := Try.f116.ntmps) tabT folT Try.func116 rfl (by kernel_rfl) rfl (Nat.le_of_ble_eq_true rfl) (by decide) (by kernel_rfl) (by kernel_rfl) rfl (by simp) (by simp) ?_
  simp only [Try.f116]
  refine wseq ?_
  refine wreg fun K hK => ?_
  simp [C.impl_coefOk]
  refine hK _ ?_; clear hK K
  show AWp _ _ _ _ _
  refine wseq ?_
  refine wregI ([0, 1, 2, 3, 4] ++ ([5, 6])) rfl fun K hK => ?_
  have hJ : K ⟨ofL [(2, .bool (decide (c ≠ 0 ∧ -1000000 ≤ c ∧ c ≤ 1000000)))], ofRO []⟩ := by
    refine hK _ ?_; clear hK K
    show AWp _ _ _ _ _
    refine wret ?_
    simp [C.impl_coefOk]
  clear hK
  by_cases ha : c = 0
  · refine opsI_seg fun L hL => ?_
    simp [C.impl_coefOk, ha]
    refine hL _ ?_; clear hL L
    refine opsI_end fun L hL => ?_
    simp [C.impl_coefOk, ha]
    refine hL _ ?_; clear hL L
    simp [C.impl_coefOk, ha]
    refine cast (congrArg K ?_) hJ
    simp [ha]
  · refine opsI_seg fun L hL => ?_
    simp [C.impl_coefOk, ha]
    refine wcall1 (impl_within_calls c (-1000000) 1000000) (by simp) (by simp) ?_
    simp [C.impl_coefOk, ha]
    refine hL _ ?_; clear hL L
    refine opsI_end fun L hL => ?_
    simp [C.impl_coefOk, ha]
    refine hL _ ?_; clear hL L
    simp [C.impl_coefOk, ha]
    refine cast (congrArg K ?_) hJ
    simp [ha]

end Go.Proofs.Ytdgeponcnlkaiaa.Ab
namespace Go.Proofs.Ytdgeponcnlkaiaa.Ab
open Go
set_option linter.unusedSimpArgs false
set_option linter.unusedVariables false
set_option maxRecDepth 10000
set_option maxHeartbeats 2000000
end Go.Proofs.Ytdgeponcnlkaiaa.Ab
namespace Go.Proofs.Ytdgeponcnlkaiaa.Ab
open Go
set_option linter.unusedSimpArgs false
set_option linter.unusedVariables false
set_option linter.unusedSectionVars false

section
variable {α : Type} {le : α → α → Bool}
def Runs (le : α → α → Bool) (n : Nat) (l : List α) : Prop := ∀ k, ((l.drop (n * k)).take n).Pairwise fun a b => le a b = true
theorem runs_one (l : List α) : Runs le 1 l := fun k => by
  rcases (l.drop (1 * k)) with _ | ⟨x, r⟩
  · simp
  · simp
theorem runs_all {n : Nat} {l : List α} (h : Runs le n l) (hl : l.length ≤ n) : l.Pairwise fun a b => le a b = true := by
  have := h 0
  rw [Nat.mul_zero, List.drop_zero, List.take_of_length_le hl] at this
  exact this
theorem runs_snoc {b k : Nat} {n0 s : List α} (h : Runs le b n0) (hl : n0.length = b * k) (hs : s.Pairwise fun a b => le a b = true) (hsl : s.length ≤ b) : Runs le b (n0 ++ s) := fun j => by
  rcases Nat.lt_trichotomy j k with hj | hj | hj
  · have h1 : b * j + b ≤ n0.length := by
      rw [hl, ← Nat.mul_succ]
      exact Nat.mul_le_mul_left b hj
    rw [List.drop_append_of_le_length (by omega), List.take_append_of_le_length (by rw [List.length_drop]; omega)]
    exact h j
  · subst hj
    rw [← hl, List.drop_left, List.take_of_length_le hsl]
    exact hs
  · have h1 : n0.length + s.length ≤ b * j := by
      have : b * (k + 1) ≤ b * j := Nat.mul_le_mul_left b hj
      rw [Nat.mul_succ] at this
      omega
    rw [List.drop_of_length_le (by simp; omega)]
    simp
end

theorem mrg_nil_left {α : Type} (le : α → α → Bool) (ys : List α) : List.merge [] ys le = ys := by simp
theorem mrg_nil_right {α : Type} (le : α → α → Bool) (xs : List α) : List.merge xs [] le = xs := by simp
theorem mrg_cons {α : Type} (le : α → α → Bool) (x y : α) (xs ys : List α) : List.merge (x :: xs) (y :: ys) le = if le x y then x :: List.merge xs (y :: ys) le else y :: List.merge (x :: xs) ys le := by
  rw [List.merge]
/-! ### Terms of one key -/
/-! ### How great the numbers are -/
end Go.Proofs.Ytdgeponcnlkaiaa.Ab
namespace Go.Proofs.Ytdgeponcnlkaiaa.Ab
open Go
set_option linter.unusedSimpArgs false
set_option linter.unusedVariables false
set_option maxRecDepth 10000
set_option maxHeartbeats 2000000
end Go.Proofs.Ytdgeponcnlkaiaa.Ab
namespace Go.Proofs.Ytdgeponcnlkaiaa.Ab
open Go
set_option linter.unusedSimpArgs false
set_option linter.unusedVariables false
set_option maxRecDepth 10000
set_option maxHeartbeats 2000000
end Go.Proofs.Ytdgeponcnlkaiaa.Ab
namespace Go.Proofs.Ytdgeponcnlkaiaa.Ab
open Go
set_option linter.unusedSimpArgs false
set_option linter.unusedVariables false
set_option maxRecDepth 10000
set_option maxHeartbeats 2000000
theorem insK_len {K : Type} [DecidableEq K] {lt : K → K → Bool} (k : K) (c : Int) : ∀ l : List (K × Int), (insK lt k c l).length ≤ l.length + 1
  | [] => by simp only [insK]; split <;> simp
  | x :: l => by
    simp only [insK]
    split
    · split <;> simp
      omega
    · split
      · split <;> simp
      · simp only [List.length_cons]
        have := insK_len (lt := lt) k c l
        omega
theorem nf_len {K : Type} [DecidableEq K] {lt : K → K → Bool} : ∀ l : List (K × Int), (nf lt l).length ≤ l.length
  | [] => by simp [nf]
  | x :: l => by
    simp only [nf, List.length_cons]
    have := insK_len (lt := lt) x.1 x.2 (nf lt l)
    have := nf_len (lt := lt) l
    omega
end Go.Proofs.Ytdgeponcnlkaiaa.Ab
namespace Go.Proofs.Ytdgeponcnlkaiaa.Ab
open Go
set_option linter.unusedSimpArgs false
set_option linter.unusedVariables false
set_option maxRecDepth 10000
set_option maxHeartbeats 2000000
end Go.Proofs.Ytdgeponcnlkaiaa.Ab
namespace Go.Proofs.Ytdgeponcnlkaiaa.Ab
open Go
set_option linter.unusedSimpArgs false
set_option linter.unusedVariables false
set_option maxRecDepth 10000
set_option maxHeartbeats 2000000
attribute [local simp] mapKV flatInt tileB
def pad (e : List Int) : List Int := e ++ List.replicate (8 - e.length) 0
theorem pad_length {e : List Int} (h : e.length ≤ 8) : (pad e).length = 8 := by
  unfold pad
  simp
  omega
theorem eight {l : List Int} (h : l.length = 8) : ∃ a b c d e f g k, l = [a, b, c, d, e, f, g, k] := by
  match l, h with
  | [a, b, c, d, e, f, g, k], _ => exact ⟨a, b, c, d, e, f, g, k, rfl⟩
def madd (es : List (List Int × Int)) (k : List Int) (c : Int) : List (List Int × Int) :=
  if c + (mget k es).getD 0 = 0 then mdel k es else mset k (c + (mget k es).getD 0) es
theorem impl_keyOf_calls (e : List Int) (he : e.length ≤ 8) (k0 k1 k2 k3 k4 k5 k6 k7 : Int) (hk : pad e = [k0, k1, k2, k3, k4, k5, k6, k7]) : ACalls Try.prog F.impl_keyOf [.d (shI e)] [] true (fun outs res => outs = [] ∧ res = [.ag [D.int k0, D.int k1, D.int k2, D.int k3, D.int k4, D.int k5, D.int k6, D.int k7]]) := by
  refine ACalls.of_body (C := C.impl_keyOf) (n := Try.f112.ntmps) tabT folT Try.func112 rfl (by kernel_rfl) rfl (Nat.le_of_ble_eq_true rfl) (by decide) (by kernel_rfl) (by kernel_rfl) rfl (by simp) (by simp) ?_
  simp only [Try.f112]
  refine wseq ?_
  refine wreg fun K hK => ?_
  simp [C.impl_keyOf]
  refine hK _ ?_; clear hK K
  show AWp _ _ _ _ _
  refine wseq ?_
  refine wreg fun K hK => ?_
  simp [C.impl_keyOf]
  refine hK _ ?_; clear hK K
  show AWp _ _ _ _ _
  refine wseq ?_
  have hcp : ints (e.take (min e.length 8)) ++ List.drop (min e.length 8) [D.int 0, D.int 0, D.int 0, D.int 0, D.int 0, D.int 0, D.int 0, D.int 0] = [D.int k0, D.int k1, D.int k2, D.int k3, D.int k4, D.int k5, D.int k6, D.int k7] := by
    have hz : ([D.int 0, D.int 0, D.int 0, D.int 0, D.int 0, D.int 0, D.int 0, D.int 0] : List D) = ints (List.replicate 8 0) := rfl
    rw [hz, Nat.min_eq_left he, List.take_length, ints_drop, ints_append, List.drop_replicate]
    show ints (pad e) = _
    rw [hk]
    rfl
  refine wreg fun K hK => ?_
  simp [C.impl_keyOf]
  rw [hcp]
  refine hK _ ?_; clear hK K
  show AWp _ _ _ _ _
  refine wseq ?_
  refine wreg fun K hK => ?_
  simp [C.impl_keyOf]
  refine hK _ ?_; clear hK K
  show AWp _ _ _ _ _
  refine wret ?_
  simp [C.impl_keyOf]

end Go.Proofs.Ytdgeponcnlkaiaa.Ab
namespace Go.Proofs.Ytdgeponcnlkaiaa.Ab
open Go
set_option linter.unusedSimpArgs false
set_option linter.unusedVariables false
set_option maxRecDepth 10000
set_option maxHeartbeats 2000000
end Go.Proofs.Ytdgeponcnlkaiaa.Ab
namespace Go.Proofs.Ytdgeponcnlkaiaa.Ab
open Go
set_option linter.unusedSimpArgs false
set_option linter.unusedVariables false
set_option linter.unusedSectionVars false

theorem pad_inj {a b : List Int} (h : a.length = b.length) (e : pad a = pad b) : a = b := by
  unfold pad at e
  rw [h] at e
  exact List.append_cancel_right e
theorem pad_take {e : List Int} : (pad e).take e.length = e := by
  unfold pad
  exact List.take_left
theorem mget_none {k : List Int} : ∀ {es : List (List Int × Int)}, (∀ x ∈ es, x.1 ≠ k) → mget k es = none
  | [], _ => rfl
  | x :: es, h => by
    simp only [mget]
    rw [if_neg (h x (by simp))]
    exact mget_none fun y hy => h y (by simp [hy])
theorem mget_mset {k q : List Int} {v : Int} : ∀ (es : List (List Int × Int)), mget q (mset k v es) = if k = q then some v else mget q es
  | [] => by simp [mset, mget]
  | x :: es => by
    simp only [mset]
    split
    · rename_i e
      subst e
      simp only [mget]
      split <;> rfl
    · rename_i e
      simp only [mget, mget_mset es]
      by_cases h1 : x.1 = q
      · rw [if_pos h1, if_neg (fun h2 => e (h1.trans h2.symm)), if_pos h1]
      · rw [if_neg h1, if_neg h1]
theorem mget_mdel {k q : List Int} : ∀ (es : List (List Int × Int)), (es.map (·.1)).Nodup → mget q (mdel k es) = if k = q then none else mget q es
  | [], _ => by simp [mdel, mget]
  | x :: es, h => by
    simp only [List.map_cons, List.nodup_cons] at h
    simp only [mdel]
    split
    · rename_i e
      subst e
      by_cases h1 : x.1 = q
      · rw [if_pos h1]
        exact mget_none fun y hy e2 => h.1 (by rw [h1, ← e2]; exact List.mem_map.2 ⟨y, hy, rfl⟩)
      · rw [if_neg h1]
        simp only [mget]
        rw [if_neg h1]
    · rename_i e
      simp only [mget, mget_mdel es h.2]
      by_cases h1 : x.1 = q
      · rw [if_pos h1, if_neg (fun h2 => e (h1.trans h2.symm)), if_pos h1]
      · rw [if_neg h1, if_neg h1]
theorem mset_mem {k : List Int} {v : Int} : ∀ {es : List (List Int × Int)} {x : List Int × Int}, x ∈ mset k v es → x = (k, v) ∨ x ∈ es
  | [], x, h => by
    simp only [mset, List.mem_singleton] at h
    exact .inl h
  | y :: es, x, h => by
    simp only [mset] at h
    split at h
    · rcases List.mem_cons.1 h with h | h
      · exact .inl h
      · exact .inr (by simp [h])
    · rcases List.mem_cons.1 h with h | h
      · exact .inr (by simp [h])
      · rcases mset_mem h with h | h
        · exact .inl h
        · exact .inr (by simp [h])
theorem mdel_mem {k : List Int} : ∀ {es : List (List Int × Int)} {x : List Int × Int}, x ∈ mdel k es → x ∈ es
  | [], x, h => by simp [mdel] at h
  | y :: es, x, h => by
    simp only [mdel] at h
    split at h
    · simp [h]
    · rcases List.mem_cons.1 h with h | h
      · simp [h]
      · simp [mdel_mem h]
theorem mset_nodup {k : List Int} {v : Int} : ∀ {es : List (List Int × Int)}, (es.map (·.1)).Nodup → ((mset k v es).map (·.1)).Nodup
  | [], _ => by simp [mset]
  | y :: es, h => by
    simp only [List.map_cons, List.nodup_cons] at h
    simp only [mset]
    split
    · rename_i e
      simp only [List.map_cons, List.nodup_cons]
      rw [← e]
      exact h
    · rename_i e
      simp only [List.map_cons, List.nodup_cons]
      refine ⟨fun hm => ?_, mset_nodup h.2⟩
      obtain ⟨z, hz, e2⟩ := List.mem_map.1 hm
      rcases mset_mem hz with rfl | hz
      · exact e e2.symm
      · exact h.1 (List.mem_map.2 ⟨z, hz, e2⟩)
theorem mdel_nodup {k : List Int} : ∀ {es : List (List Int × Int)}, (es.map (·.1)).Nodup → ((mdel k es).map (·.1)).Nodup
  | [], _ => by simp [mdel]
  | y :: es, h => by
    simp only [List.map_cons, List.nodup_cons] at h
    simp only [mdel]
    split
    · exact h.2
    · simp only [List.map_cons, List.nodup_cons]
      refine ⟨fun hm => ?_, mdel_nodup h.2⟩
      obtain ⟨z, hz, e2⟩ := List.mem_map.1 hm
      exact h.1 (List.mem_map.2 ⟨z, mdel_mem hz, e2⟩)

end Go.Proofs.Ytdgeponcnlkaiaa.Ab
namespace Go.Proofs.Ytdgeponcnlkaiaa.Ab
open Go
set_option linter.unusedSimpArgs false
set_option linter.unusedVariables false
set_option maxRecDepth 10000
set_option maxHeartbeats 2000000
end Go.Proofs.Ytdgeponcnlkaiaa.Ab
namespace Go.Proofs.Ytdgeponcnlkaiaa.Ab
open Go
set_option linter.unusedSimpArgs false
set_option linter.unusedVariables false
set_option maxRecDepth 10000
set_option maxHeartbeats 2000000
end Go.Proofs.Ytdgeponcnlkaiaa.Ab
namespace Go.Proofs.Ytdgeponcnlkaiaa.Ab
open Go
set_option linter.unusedSimpArgs false
set_option linter.unusedVariables false
set_option maxRecDepth 10000
set_option maxHeartbeats 2000000
theorem cmpL_zero : ∀ (a b : List Int), cmpL a b = 0 ↔ a = b
  | [], [] => by simp [cmpL]
  | [], _ :: _ => by simp [cmpL]
  | _ :: _, [] => by simp [cmpL]
  | a :: x, b :: y => by
    have ih := cmpL_zero x y
    by_cases h : a = b
    · simp [cmpL, h, ih]
    · by_cases h2 : a < b
      · simp [cmpL, h, h2]
      · simp [cmpL, h, h2]
def cmpQ (a : List Int) (ah : Int) (b : List Int) (bh : Int) : Int := if cmpL b a = 0 then cmpI bh ah else cmpL b a
theorem cmpQ_pos (a : List Int) (ah : Int) (b : List Int) (bh : Int) : decide (0 ≤ cmpQ a ah b bh) = !qlt (b, bh) (a, ah) := by
  have hn := cmpL_neg b a
  have hz := cmpL_zero b a
  unfold cmpQ qlt
  by_cases h : b = a
  · rw [if_pos (hz.2 h)]
    simp only [h, if_true]
    unfold cmpI
    by_cases h1 : bh < ah
    · simp [h1]
    · by_cases h2 : ah < bh <;> simp [h1, h2]
  · have : ¬ cmpL b a = 0 := fun e => h (hz.1 e)
    rw [if_neg this]
    simp only [h, if_false]
    rw [← hn]
    by_cases q : cmpL b a < 0
    · simp [q]
    · simp [q]
      omega
def qk (t : Qtm) : List Int × Int := (t.e, t.h)
def QGood (v : Int) (t : Qtm) : Prop := (t.e.length : Int) = v ∧ t.c ≠ 0 ∧ (-1000000 ≤ t.c ∧ t.c ≤ 1000000) ∧ (-200 ≤ t.h ∧ t.h ≤ 200) ∧ ∀ x ∈ t.e, -20 ≤ x ∧ x ≤ 20
def DescQ (ts : List Qtm) : Prop := ts.Pairwise fun a b => qlt (qk b) (qk a) = true
def QRight (f : Qsm) : Prop := (1 ≤ f.v ∧ f.v ≤ 8) ∧ f.ts.length ≤ 600 ∧ (∀ t ∈ f.ts, QGood f.v t) ∧ DescQ f.ts
noncomputable instance (f : Qsm) : Decidable (QRight f) := Classical.propDecidable _
def zeroQ : Qsm := ⟨0, []⟩
theorem descQ_snoc {ts : List Qtm} {t : Qtm} (h : DescQ ts) (hl : ∀ x, ts.getLast? = some x → qlt (qk t) (qk x) = true) : DescQ (ts ++ [t]) := by
  unfold DescQ at *
  rw [List.pairwise_append]
  refine ⟨h, List.pairwise_singleton _ _, fun a ha b hb => ?_⟩
  simp only [List.mem_singleton] at hb
  subst hb
  rcases List.eq_nil_or_concat ts with rfl | ⟨l, x, rfl⟩
  · simp at ha
  · have hx := hl x (by simp)
    simp only [List.concat_eq_append] at ha h
    rcases List.mem_append.1 ha with ha | ha
    · have := (List.pairwise_append.1 h).2.2 a ha x (by simp)
      exact qOrd.tr _ _ _ hx this
    · simp only [List.mem_singleton] at ha
      rw [ha]
      exact hx
theorem descQ_step {ts : List Qtm} {j : Nat} (h1 : j < ts.length) (h : DescQ (ts.take j)) (hl : j = 0 ∨ qlt (qk ts[j]) (qk ts[j - 1]) = true) : DescQ (ts.take (j + 1)) := by
  rw [List.take_succ_eq_append_getElem h1]
  refine descQ_snoc h fun x hx => ?_
  rcases hl with rfl | hl
  · simp at hx
  · rcases Nat.eq_zero_or_pos j with rfl | hj
    · simp at hx
    · rw [List.getLast?_eq_getElem?] at hx
      simp only [List.length_take, List.getElem?_take] at hx
      rw [Nat.min_eq_left (by omega), if_pos (by omega), List.getElem?_eq_getElem (by omega)] at hx
      injection hx with hx
      rw [← hx]
      exact hl
theorem descQ_next {ts : List Qtm} {j : Nat} (h1 : j < ts.length) (h : DescQ ts) : j = 0 ∨ qlt (qk ts[j]) (qk ts[j - 1]) = true := by
  rcases Nat.eq_zero_or_pos j with rfl | hj
  · exact .inl rfl
  · right
    exact List.pairwise_iff_getElem.1 h (j - 1) j (by omega) h1 (by omega)
theorem szQ_small2 {ts : List Qtm} {r : Int} (h0 : 0 ≤ r) (h : r + szQT ts ≤ 1048576) : ts.length ≤ 1048576 ∧ ∀ t ∈ ts, t.e.length ≤ 1048576 := by
  unfold szQT at h
  refine ⟨by omega, fun t ht => ?_⟩
  have : t.e.length ≤ cntL (fun t : Qtm => t.e.length) ts := by
    clear h
    induction ts with
    | nil => simp at ht
    | cons x ts ih =>
      simp only [cntL]
      rcases List.mem_cons.1 ht with rfl | ht
      · omega
      · have := ih ht; omega
  omega
theorem szQ_cnt2 {ts : List Qtm} {r : Int} (h0 : 0 ≤ r) (h : r + szQT ts ≤ 1048576) : cntL cntQT ts ≤ 3145728 := by
  have : ∀ ts : List Qtm, cntL cntQT ts = cntL (fun t : Qtm => t.e.length) ts + 2 * ts.length := fun ts => by
    induction ts with
    | nil => rfl
    | cons x ts ih =>
      simp only [cntL, cntQT, List.length_cons] at ih ⊢
      omega
  rw [this]
  unfold szQT at h
  omega

theorem orI : ∀ (xs : List Int) (k : Nat) (h1 : k < xs.length), (∀ x ∈ xs.take k, x = 0) → xs[k] ≠ 0 → (xs.find? (fun x => x ≠ 0)).getD 0 = xs[k]
  | x :: xs, 0, _, _, h => by simpa using by simp [show x ≠ 0 from h]
  | x :: xs, k + 1, h1, ht, h => by
    have hx : x = 0 := ht x (by simp)
    have := orI xs k (by simpa using h1) (fun y hy => ht y (by simp [hy])) (by simpa using h)
    simpa [hx] using this
theorem cmp_Or_int_calls (xs : List Int) (hx : xs.length < 4611686018427387904) : ACalls Try.prog F.cmp_Or_int [.d (shI xs)] [] true (fun outs res => outs = [] ∧ res = [.one (D.int ((xs.find? (fun x => x ≠ 0)).getD 0))]) := by
  refine ACalls.of_body (C := C.cmp_Or_int) (n := Try.f216.ntmps) tabT folT Try.func216 rfl (by kernel_rfl) rfl (Nat.le_of_ble_eq_true rfl) (by decide) (by kernel_rfl) (by kernel_rfl) rfl (by simp) (by simp) ?_
  simp only [Try.f216]
  refine wseq ?_
  refine wreg fun K hK => ?_
  simp [C.cmp_Or_int]
  refine hK _ ?_; clear hK K
  show AWp _ _ _ _ _
  refine wseq ?_
  refine wreg fun K hK => ?_
  simp [C.cmp_Or_int]
  refine hK _ ?_; clear hK K
  show AWp _ _ _ _ _
  refine wseq ?_
  refine wseq ?_
  refine wreg fun K hK => ?_
  simp [C.cmp_Or_int]
  refine hK _ ?_; clear hK K
  show AWp _ _ _ _ _
  refine wblock ?_
  refine wloop (fun k : Nat => ⟨ofL [(3, .int 0), (6, .d (shI xs)), (7, .int xs.length), (8, FV.int k)], ofRO []⟩) (fun k => k ≤ xs.length ∧ ∀ x ∈ xs.take k, x = 0) (fun k => xs.length - k) 0 (by simp [C.cmp_Or_int]) (by simp) ?_
  intro x1 hx1 R1 hR1
  obtain ⟨hk, ht⟩ := hx1
  refine wseq ?_
  refine wreg fun K hK => ?_
  simp [C.cmp_Or_int]
  refine hK _ ?_; clear hK K
  show AWp _ _ _ _ _
  refine wseq ?_
  refine wcond _ rfl (fun hc1 => ?_) (fun hc1 => ?_)
  · have h1 : x1 < xs.length := by have := d_t hc1; omega
    refine wskip ?_
    show AWp _ _ _ _ _
    refine wseq ?_
    refine wblock ?_
    refine wseq ?_
    refine wreg fun K hK => ?_
    simp [C.cmp_Or_int, get_ints, h1]
    refine hK _ ?_; clear hK K
    show AWp _ _ _ _ _
    refine wseq ?_
    refine wreg fun K hK => ?_
    simp [C.cmp_Or_int]
    refine hK _ ?_; clear hK K
    show AWp _ _ _ _ _
    refine wcond _ rfl (fun hc2 => ?_) (fun hc2 => ?_)
    · have h2 : xs[x1] ≠ 0 := by simpa using hc2
      refine wseq ?_
      refine wreg fun K hK => ?_
      simp [C.cmp_Or_int]
      refine hK _ ?_; clear hK K
      show AWp _ _ _ _ _
      refine wret ?_
      simp [C.cmp_Or_int]
      have := orI xs x1 h1 ht h2
      simpa using this.symm
    · have h2 : xs[x1] = 0 := by simpa using hc2
      refine wskip ?_
      show AWp _ _ _ _ _
      refine wreg fun K hK => ?_
      simp [C.cmp_Or_int, wrap_succ (show x1 < 4611686018427387904 by omega)]
      refine hK _ ?_; clear hK K
      simp [C.cmp_Or_int]
      refine hR1 (x1 + 1) ⟨h1, ?_⟩ (by omega)
      rw [List.take_succ_eq_append_getElem h1]
      intro x hx
      rcases List.mem_append.1 hx with hx | hx
      · exact ht x hx
      · simp only [List.mem_singleton] at hx
        rw [hx, h2]
  · have h1 : x1 = xs.length := by have := d_f hc1; omega
    rw [h1, List.take_length] at ht
    refine wexit ?_
    show AWp _ _ _ _ _
    refine wseq ?_
    refine wreg fun K hK => ?_
    simp [C.cmp_Or_int]
    refine hK _ ?_; clear hK K
    show AWp _ _ _ _ _
    refine wret ?_
    simp [C.cmp_Or_int]
    rw [List.find?_eq_none.2 (fun x hx => by simp [ht x hx])]
    rfl
theorem or2 (a b : Int) : ACalls Try.prog F.cmp_Or_int [.d (.sh 1 2 [D.int a, D.int b])] [] true (fun outs res => outs = [] ∧ res = [.one (D.int (([a, b].find? (fun x => x ≠ 0)).getD 0))]) := cmp_Or_int_calls [a, b] (by simp)

theorem impl_descending_calls (a : List Int) (ah : Int) (b : List Int) (bh : Int) (ha : b.length < 4611686018427387904) : ACalls Try.prog F.impl_descending [.d (shI a), .int ah, .d (shI b), .int bh] [] true (fun outs res => outs = [] ∧ res = [.one (D.int (cmpQ a ah b bh))]) := by
  refine ACalls.of_body (C := C.impl_descending) (n := Try.f160.ntmps) tabT folT Try.func160 rfl (by kernel_rfl) rfl (Nat.le_of_ble_eq_true rfl) (by decide) (by kernel_rfl) (by kernel_rfl) rfl (by simp) (by simp) ?_
  simp only [Try.f160]
  refine wseq ?_
  refine wreg fun K hK => ?_
  simp [C.impl_descending]
  refine hK _ ?_; clear hK K
  show AWp _ _ _ _ _
  refine wseq ?_
  refine wregI ([0, 1, 2] ++ ([3, 4, 5] ++ ([6, 7] ++ ([8])))) rfl fun K hK => ?_
  refine opsI_seg fun L hL => ?_
  simp [C.impl_descending]
  refine wcall1 (slices_Compare_int_int_calls b a ha) (by simp) (by simp) ?_
  simp [C.impl_descending]
  refine hL _ ?_; clear hL L
  refine opsI_seg fun L hL => ?_
  simp [C.impl_descending]
  refine wcall1 (cmp_Compare_int_calls bh ah) (by simp) (by simp) ?_
  simp [C.impl_descending]
  refine hL _ ?_; clear hL L
  refine opsI_seg fun L hL => ?_
  simp [C.impl_descending]
  refine wcall1 (or2 (cmpL b a) (cmpI bh ah)) (by simp) (by simp) ?_
  simp [C.impl_descending]
  refine hL _ ?_; clear hL L
  refine opsI_end fun L hL => ?_
  simp [C.impl_descending]
  refine hL _ ?_; clear hL L
  simp [C.impl_descending]
  refine hK _ ?_; clear hK K
  show AWp _ _ _ _ _
  refine wret ?_
  simp [C.impl_descending]
  simp only [cmpQ]
  by_cases h : cmpL b a = 0
  · by_cases h2 : cmpI bh ah = 0 <;> simp [h, h2]
  · simp [h]

theorem spec_l8Less_calls (a b : Qtm) (ha : a.e.length < 4611686018427387904) (hb : b.e.length < 4611686018427387904) : ACalls Try.prog F.spec_l8Less [aQT a, aQT b] [] true (fun outs res => outs = [] ∧ res = [.one (D.bool (qlt (qk b) (qk a)))]) := by
  refine ACalls.of_body (C := C.spec_l8Less) (n := Try.f201.ntmps) tabT folT Try.func201 rfl (by kernel_rfl) rfl (Nat.le_of_ble_eq_true rfl) (by decide) (by kernel_rfl) (by kernel_rfl) rfl (by simp) (by simp) ?_
  simp only [Try.f201]
  refine wseq ?_
  refine wreg fun K hK => ?_
  simp [C.spec_l8Less]
  refine hK _ ?_; clear hK K
  show AWp _ _ _ _ _
  refine wseq ?_
  refine wseq ?_
  refine wregI ([0, 1, 2, 3, 4] ++ ([5])) rfl fun K hK => ?_
  refine opsI_seg fun L hL => ?_
  simp [C.spec_l8Less]
  refine wcall1 (spec_l1Same_calls a.e b.e ha) (by simp) (by simp) ?_
  simp [C.spec_l8Less]
  refine hL _ ?_; clear hL L
  refine opsI_end fun L hL => ?_
  simp [C.spec_l8Less]
  refine hL _ ?_; clear hL L
  simp [C.spec_l8Less]
  refine hK _ ?_; clear hK K
  show AWp _ _ _ _ _
  refine wcond _ rfl (fun hc1 => ?_) (fun hc1 => ?_)
  · have hc := nd_t hc1
    refine wseq ?_
    refine wregI ([0, 1, 2, 3, 4] ++ ([5])) rfl fun K hK => ?_
    refine opsI_seg fun L hL => ?_
    simp [C.spec_l8Less]
    refine wcall1 (spec_l1Less_calls b.e a.e hb) (by simp) (by simp) ?_
    simp [C.spec_l8Less]
    refine hL _ ?_; clear hL L
    refine opsI_end fun L hL => ?_
    simp [C.spec_l8Less]
    refine hL _ ?_; clear hL L
    simp [C.spec_l8Less]
    refine hK _ ?_; clear hK K
    show AWp _ _ _ _ _
    refine wret ?_
    simp [C.spec_l8Less, qlt, qk, Ne.symm hc]
  · have hc := nd_f hc1
    refine wskip ?_
    show AWp _ _ _ _ _
    refine wseq ?_
    refine wreg fun K hK => ?_
    simp [C.spec_l8Less]
    refine hK _ ?_; clear hK K
    show AWp _ _ _ _ _
    refine wret ?_
    simp [C.spec_l8Less, qlt, qk, hc]

end Go.Proofs.Ytdgeponcnlkaiaa.Ab
namespace Go.Proofs.Ytdgeponcnlkaiaa.Ab
open Go
set_option linter.unusedSimpArgs false
set_option linter.unusedVariables false
set_option linter.unusedSectionVars false
section
variable {K : Type} [DecidableEq K] {lt : K → K → Bool}
def addL (left : List (K × Int)) (x : K × Int) : List (K × Int) :=
  match left.getLast? with
  | some z => if z.1 = x.1 then left.dropLast ++ [(z.1, z.2 + x.2)] else left ++ [x]
  | none => [x]
def combS (left : List (K × Int)) : List (K × Int) → List (K × Int)
  | [] => left
  | x :: r => combS (addL left x) r
theorem co_one (q : K) (x : K × Int) : co q [x] = if x.1 = q then x.2 else 0 := by simp [co]
theorem addL_co (q : K) (left : List (K × Int)) (x : K × Int) : co q (addL left x) = co q left + co q [x] := by
  rcases List.eq_nil_or_concat left with rfl | ⟨l, z, rfl⟩
  · simp [addL, co]
  · simp only [addL, List.concat_eq_append, List.getLast?_append, List.getLast?_singleton, Option.some_or, List.dropLast_concat]
    split
    · rename_i e
      rw [co_append, co_append, co_one, co_one, co_one]
      simp only
      rw [e]
      split <;> omega
    · rw [co_append (l := l ++ [z])]
theorem combS_co (q : K) : ∀ (r left : List (K × Int)), co q (combS left r) = co q left + co q r
  | [], left => by simp [combS, co]
  | x :: r, left => by
    simp only [combS]
    have hx : co q (x :: r) = co q [x] + co q r := by simp [co]
    rw [combS_co q r, addL_co, hx, Int.add_assoc]
theorem descK_snoc {l : List (K × Int)} {x : K × Int} (h : Desc lt l) (hx : ∀ y ∈ l, lt x.1 y.1 = true) : Desc lt (l ++ [x]) := by
  unfold Desc at *
  rw [List.pairwise_append]
  refine ⟨h, List.pairwise_singleton _ _, fun a ha b hb => ?_⟩
  simp only [List.mem_singleton] at hb
  subst hb
  exact hx a ha
theorem combS_desc (ho : Ord lt) : ∀ (r left : List (K × Int)), (r.Pairwise fun a b => lt a.1 b.1 = false) → Desc lt left → (∀ y ∈ left, ∀ z ∈ r, lt y.1 z.1 = false) → Desc lt (combS left r)
  | [], left, _, h, _ => h
  | x :: r, left, hs, h, hc => by
    simp only [combS]
    obtain ⟨hs1, hs2⟩ := List.pairwise_cons.1 hs
    rcases List.eq_nil_or_concat left with rfl | ⟨l, z, rfl⟩
    · refine combS_desc ho r _ hs2 (List.pairwise_singleton _ _) fun y hy z hz => ?_
      simp only [addL, List.getLast?_nil, List.mem_singleton] at hy
      rw [hy]
      exact hs1 z hz
    · simp only [List.concat_eq_append] at h hc ⊢
      simp only [addL, List.getLast?_append, List.getLast?_singleton, Option.some_or, List.dropLast_concat]
      split
      · rename_i e
        refine combS_desc ho r _ hs2 ?_ fun y hy w hw => ?_
        · refine descK_snoc (List.pairwise_append.1 h).1 fun y hy => ?_
          exact (List.pairwise_append.1 h).2.2 y hy z (by simp)
        · rcases List.mem_append.1 hy with hy | hy
          · exact hc y (by simp [hy]) w (by simp [hw])
          · simp only [List.mem_singleton] at hy
            rw [hy]
            exact hc z (by simp) w (by simp [hw])
      · rename_i e
        have hzx : lt x.1 z.1 = true := by
          rcases ho.tot x.1 z.1 with q | q | q
          · exact q
          · exact absurd q.symm e
          · rw [hc z (by simp) x (by simp)] at q
            simp at q
        refine combS_desc ho r _ hs2 (descK_snoc h fun y hy => ?_) fun y hy w hw => ?_
        · rcases List.mem_append.1 hy with hy | hy
          · exact ho.tr _ _ _ hzx ((List.pairwise_append.1 h).2.2 y hy z (by simp))
          · simp only [List.mem_singleton] at hy
            rw [hy]
            exact hzx
        · rcases List.mem_append.1 hy with hy | hy
          · exact hc y hy w (by simp [hw])
          · simp only [List.mem_singleton] at hy
            rw [hy]
            exact hs1 w hw
theorem fil_co (q : K) : ∀ (l : List (K × Int)), co q (l.filter fun x => x.2 ≠ 0) = co q l
  | [] => rfl
  | x :: l => by
    have ih := fil_co q l
    by_cases h : x.2 = 0
    · rw [List.filter_cons_of_neg (by simp [h]), ih]
      simp [co, h]
    · rw [List.filter_cons_of_pos (by simp [h])]
      simp only [co]
      rw [ih]
theorem combS_nf (ho : Ord lt) {out l : List (K × Int)} (hp : out.Perm l) (hs : out.Pairwise fun a b => lt a.1 b.1 = false) : (combS [] out).filter (fun x => x.2 ≠ 0) = nf lt l := by
  refine nf_unique ho ?_ ?_ fun k => ?_
  · exact (combS_desc ho out [] hs List.Pairwise.nil (by simp)).filter _
  · intro x hx
    simpa using (List.mem_filter.1 hx).2
  · rw [fil_co, combS_co, co_perm k hp]
    simp [co]
end
section
variable {α : Type} {le : α → α → Bool}
def sgt (out : List α) (a b : Nat) : List α := (out.drop a).take (b - a)
theorem sgt_cons {out : List α} {a b : Nat} (h : a < b) (h2 : a < out.length) : sgt out a b = out[a] :: sgt out (a + 1) b := by
  unfold sgt
  rw [List.drop_eq_getElem_cons h2, show b - a = (b - (a + 1)) + 1 by omega, List.take_succ_cons]
theorem sgt_nil {out : List α} {a b : Nat} (h : b ≤ a) : sgt out a b = [] := by
  unfold sgt
  rw [show b - a = 0 by omega, List.take_zero]
theorem sgt_runs {out : List α} {size at_ k b : Nat} (hr : Runs le size out) (ha : at_ = size * k) (hb : b = min (at_ + size) out.length) : (sgt out at_ b).Pairwise fun a b => le a b = true := by
  have := hr k
  rw [← ha] at this
  have e : sgt out at_ b = (out.drop at_).take size := by
    unfold sgt
    rw [hb]
    rcases Nat.le_total (at_ + size) out.length with h | h
    · rw [Nat.min_eq_left h, show at_ + size - at_ = size by omega]
    · rw [Nat.min_eq_right h, List.take_of_length_le (by simp), List.take_of_length_le (by simp; omega)]
  rw [e]
  exact this
theorem sgt_take {out : List α} {a b c : Nat} (h1 : a ≤ b) (h2 : b ≤ c) : out.take a ++ (sgt out a b ++ sgt out b c) = out.take c := by
  unfold sgt
  have e1 : out.take b = out.take a ++ (out.drop a).take (b - a) := by
    conv => lhs; rw [show b = a + (b - a) by omega, List.take_add]
  have e2 : out.take c = out.take b ++ (out.drop b).take (c - b) := by
    conv => lhs; rw [show c = b + (c - b) by omega, List.take_add]
  rw [e2, e1, List.append_assoc]
end
def qp (t : Qtm) : (List Int × Int) × Int := (qk t, t.c)
def qt (x : (List Int × Int) × Int) : Qtm := ⟨x.1.1, x.1.2, x.2⟩
theorem map_qt (l : List Qtm) : (l.map qp).map qt = l := by rw [List.map_map]; exact List.map_id _
def qle (x y : Qtm) : Bool := !qlt (qk x) (qk y)
theorem qle_trans (a b c : Qtm) (h1 : qle a b = true) (h2 : qle b c = true) : qle a c = true := by
  simp only [qle, Bool.not_eq_true'] at *
  by_cases h : qlt (qk a) (qk c) = true
  · rcases qOrd.tot (qk b) (qk c) with q | q | q
    · rw [q] at h2
      simp at h2
    · rw [q] at h1
      rw [h1] at h
      simp at h
    · rw [qOrd.tr _ _ _ h q] at h1
      simp at h1
  · simpa using h
theorem qle_total (a b : Qtm) : (qle a b || qle b a) = true := by
  simp only [qle, Bool.or_eq_true, Bool.not_eq_true']
  by_cases h : qlt (qk a) (qk b) = true
  · right
    by_cases h2 : qlt (qk b) (qk a) = true
    · have := qOrd.tr _ _ _ h h2
      rw [qOrd.irr] at this
      simp at this
    · simpa using h2
  · left
    simpa using h
theorem mrq_sorted {xs ys : List Qtm} (h1 : xs.Pairwise fun a b => qle a b = true) (h2 : ys.Pairwise fun a b => qle a b = true) : (List.merge xs ys qle).Pairwise fun a b => qle a b = true :=
  List.pairwise_merge qle_trans qle_total xs ys h1 h2
theorem mrq_perm (xs ys : List Qtm) : (List.merge xs ys qle).Perm (xs ++ ys) := List.merge_perm_append qle
def addQ (left : List Qtm) (x : Qtm) : List Qtm :=
  match left.getLast? with
  | some z => if qk z = qk x then left.dropLast ++ [⟨z.e, z.h, z.c + x.c⟩] else left ++ [x]
  | none => [x]
theorem addQ_qp (left : List Qtm) (x : Qtm) : (addQ left x).map qp = addL (left.map qp) (qp x) := by
  rcases List.eq_nil_or_concat left with rfl | ⟨l, z, rfl⟩
  · rfl
  · simp only [addQ, addL, List.concat_eq_append, List.map_append, List.map_cons, List.map_nil, List.getLast?_append, List.getLast?_singleton, Option.some_or, List.dropLast_concat]
    by_cases e : qk z = qk x
    · rw [if_pos e, if_pos (show (qp z).1 = (qp x).1 from e)]
      simp [qp, qk]
    · rw [if_neg e, if_neg (show ¬ (qp z).1 = (qp x).1 from e)]
      simp
def absQ (l : List Qtm) : Nat := (l.map fun x => x.c.natAbs).sum
theorem absQ_append (l r : List Qtm) : absQ (l ++ r) = absQ l + absQ r := by simp [absQ]
theorem absQ_perm {l r : List Qtm} (h : l.Perm r) : absQ l = absQ r := (h.map _).sum_nat
theorem absQ_mem {l : List Qtm} {x : Qtm} (h : x ∈ l) : x.c.natAbs ≤ absQ l := by
  induction l with
  | nil => simp at h
  | cons y l ih =>
    simp only [absQ, List.map_cons, List.sum_cons] at ih ⊢
    rcases List.mem_cons.1 h with rfl | h
    · omega
    · have := ih h; omega
theorem absQ_le {l : List Qtm} {B : Nat} (h : ∀ x ∈ l, x.c.natAbs ≤ B) : absQ l ≤ l.length * B := by
  induction l with
  | nil => simp [absQ]
  | cons x l ih =>
    have h1 := h x (by simp)
    have h2 := ih fun y hy => h y (by simp [hy])
    simp only [absQ, List.map_cons, List.sum_cons, List.length_cons, Nat.add_mul, Nat.one_mul] at h2 ⊢
    omega
theorem absQ_addQ (left : List Qtm) (x : Qtm) : absQ (addQ left x) ≤ absQ left + x.c.natAbs := by
  rcases List.eq_nil_or_concat left with rfl | ⟨l, z, rfl⟩
  · simp [addQ, absQ]
  · simp only [addQ, List.concat_eq_append, List.getLast?_append, List.getLast?_singleton, Option.some_or, List.dropLast_concat]
    split
    · rw [absQ_append, absQ_append]
      simp only [absQ, List.map_cons, List.map_nil, List.sum_cons, List.sum_nil]
      omega
    · rw [absQ_append (l := l ++ [z])]
      simp [absQ]
theorem addQ_same {l : List Qtm} {q : Nat} {x : Qtm} (hl : l.length = q + 1) (e : qk (l[q]'(by omega)) = qk x) : addQ l x = l.set q ⟨(l[q]'(by omega)).e, (l[q]'(by omega)).h, (l[q]'(by omega)).c + x.c⟩ := by
  rcases List.eq_nil_or_concat l with rfl | ⟨l, z, rfl⟩
  · simp at hl
  · simp only [List.concat_eq_append] at *
    have hq : q = l.length := by simp at hl; omega
    subst hq
    simp only [List.getElem_concat_length] at e ⊢
    simp only [addQ, List.getLast?_append, List.getLast?_singleton, Option.some_or, List.dropLast_concat]
    rw [if_pos e]
    simp
theorem addQ_new {l : List Qtm} {x : Qtm} (e : ∀ z, l.getLast? = some z → ¬ qk z = qk x) : addQ l x = l ++ [x] := by
  unfold addQ
  cases h : l.getLast? with
  | none =>
    rw [List.getLast?_eq_none_iff] at h
    simp [h]
  | some z => simp [e z h]
/-- What a list of terms becomes. -/
def gaQ (l : List Qtm) : List Qtm := (nf qlt (l.map qp)).map qt
theorem combS_gaQ {out l : List Qtm} (hp : out.Perm l) (hs : out.Pairwise fun a b => qle a b = true) : ((combS [] (out.map qp)).filter (fun x => x.2 ≠ 0)).map qt = gaQ l := by
  unfold gaQ
  rw [combS_nf qOrd (hp.map qp)]
  rw [List.pairwise_map]
  refine hs.imp fun {a b} h => ?_
  have h2 : qlt (qk a) (qk b) = false := by simpa [qle] using h
  exact h2
end Go.Proofs.Ytdgeponcnlkaiaa.Ab
namespace Go.Proofs.Ytdgeponcnlkaiaa.Ab
open Go
set_option linter.unusedSimpArgs false
set_option linter.unusedVariables false
set_option maxRecDepth 10000
set_option maxHeartbeats 2000000
attribute [local simp] mapKV flatInt tileB
theorem insK_len_eq {K : Type} [DecidableEq K] {lt : K → K → Bool} {k : K} {c : Int} (hc : c ≠ 0) : ∀ l : List (K × Int), (∀ x ∈ l, x.1 ≠ k) → (insK lt k c l).length = l.length + 1
  | [], _ => by simp [insK, hc]
  | x :: l, h => by
    simp only [insK]
    rw [if_neg (h x (by simp))]
    split
    · first | rfl | (rw [if_neg hc]; rfl)
    · simp [insK_len_eq hc l fun y hy => h y (by simp [hy])]
theorem nf_len_eq {K : Type} [DecidableEq K] {lt : K → K → Bool} : ∀ l : List (K × Int), (l.map (·.1)).Nodup → (∀ x ∈ l, x.2 ≠ 0) → (nf lt l).length = l.length
  | [], _, _ => rfl
  | x :: l, h, hz => by
    simp only [List.map_cons, List.nodup_cons] at h
    simp only [nf]
    rw [insK_len_eq (hz x (by simp)), nf_len_eq l h.2 fun y hy => hz y (by simp [hy])]
    · rfl
    · intro y hy e
      obtain ⟨z, hz, e2⟩ := nf_mem hy
      exact h.1 (List.mem_map.2 ⟨z, hz, by rw [e2, e]⟩)
theorem erase_perm {α : Type} : ∀ (l : List α) (i : Nat) (h : i < l.length), (l[i] :: l.eraseIdx i).Perm l
  | [], i, h => by simp at h
  | x :: l, 0, h => by simp
  | x :: l, i + 1, h => by
    simp only [List.getElem_cons_succ, List.eraseIdx_cons_succ]
    exact (List.Perm.swap ..).trans (List.Perm.cons x (erase_perm l i (by simpa using h)))
end Go.Proofs.Ytdgeponcnlkaiaa.Ab
namespace Go.Proofs.Ytdgeponcnlkaiaa.Ab
open Go
set_option linter.unusedSimpArgs false
set_option linter.unusedVariables false
abbrev QK := List Int × Int
def kq (k : QK) : List Int := pad k.1 ++ [k.2]
theorem kq_inj {a b : QK} {n : Nat} (ha : a.1.length = n) (hb : b.1.length = n) (h : kq a = kq b) : a = b := by
  unfold kq at h
  obtain ⟨h1, h2⟩ := List.append_inj' h rfl
  have := pad_inj (ha.trans hb.symm) h1
  simp only [List.cons.injEq, and_true] at h2
  exact Prod.ext this h2
theorem kq_length {k : QK} (h : k.1.length ≤ 8) : (kq k).length = 9 := by
  unfold kq
  rw [List.length_append, pad_length h]
  rfl
def uq (n : Nat) (x : List Int) : QK := (x.take n, x.getD 8 0)
theorem uq_kq {k : QK} {n : Nat} (h : k.1.length = n) (h8 : n ≤ 8) : uq n (kq k) = k := by
  have hp := pad_length (e := k.1) (by omega)
  unfold uq kq
  rw [List.take_append_of_le_length (by omega), ← h, pad_take, List.getD_eq_getElem?_getD, List.getElem?_append_right (by omega), hp]
  rfl
/-- The map holds what belongs to each key of the sum. -/
structure MapQ (n : Nat) (es : List (List Int × Int)) (l : List (QK × Int)) : Prop where
  nod : (es.map (·.1)).Nodup
  nz : ∀ x ∈ es, x.2 ≠ 0 ∧ ∃ e : QK, e.1.length = n ∧ x.1 = kq e
  val : ∀ e : QK, e.1.length = n → (mget (kq e) es).getD 0 = co e l
theorem MapQ.nil (n : Nat) : MapQ n [] [] := ⟨by simp, by simp, fun e _ => rfl⟩
theorem MapQ.add {n : Nat} {es : List (List Int × Int)} {l : List (QK × Int)} (h : MapQ n es l) {e : QK} (he : e.1.length = n) (c : Int) : MapQ n (madd es (kq e) c) ((e, c) :: l) := by
  have hv := h.val e he
  unfold madd
  split
  · rename_i hz
    refine ⟨mdel_nodup h.nod, fun x hx => h.nz x (mdel_mem hx), fun q hq => ?_⟩
    rw [mget_mdel _ h.nod]
    by_cases e1 : e = q
    · subst e1
      rw [if_pos rfl]
      simp only [co, if_true, Option.getD_none]
      omega
    · rw [if_neg (fun e2 => e1 (kq_inj he hq e2)), h.val q hq]
      simp [co, e1]
  · rename_i hz
    refine ⟨mset_nodup h.nod, fun x hx => ?_, fun q hq => ?_⟩
    · rcases mset_mem hx with rfl | hx
      · exact ⟨hz, e, he, rfl⟩
      · exact h.nz x hx
    · rw [mget_mset]
      by_cases e1 : e = q
      · subst e1
        rw [if_pos rfl]
        simp only [co, if_true, Option.getD_some]
        omega
      · rw [if_neg (fun e2 => e1 (kq_inj he hq e2)), h.val q hq]
        simp [co, e1]
theorem MapQ.len9 {n : Nat} {es : List (List Int × Int)} {l : List (QK × Int)} (h : MapQ n es l) (hn : n ≤ 8) : mapLen 9 es := fun x hx => by
  obtain ⟨_, e, he, e2⟩ := h.nz x hx
  rw [e2]
  exact kq_length (by omega)
/-- What a term of the map comes to. -/
def unpadQ (n : Nat) (x : List Int × Int) : QK × Int := (uq n x.1, x.2)
theorem unpadQ_co {n : Nat} {es : List (List Int × Int)} {l : List (QK × Int)} (h : MapQ n es l) (h8 : n ≤ 8) (hl : ∀ x ∈ l, x.1.1.length = n) : ∀ q, co q (es.map (unpadQ n)) = co q l := by
  intro q
  by_cases hq : q.1.length = n
  · rw [← h.val q hq]
    have : ∀ (es : List (List Int × Int)), (es.map (·.1)).Nodup → (∀ x ∈ es, ∃ e : QK, e.1.length = n ∧ x.1 = kq e) → co q (es.map (unpadQ n)) = (mget (kq q) es).getD 0 := by
      intro es
      induction es with
      | nil => intro _ _; rfl
      | cons x es ih =>
        intro hn hp
        simp only [List.map_cons, List.nodup_cons] at hn
        obtain ⟨e, he, e2⟩ := hp x (by simp)
        have ht : (unpadQ n x).1 = e := by
          simp only [unpadQ]
          rw [e2, uq_kq he h8]
        simp only [List.map_cons, co, mget]
        rw [ih hn.2 fun y hy => hp y (by simp [hy]), ht]
        by_cases e3 : e = q
        · subst e3
          rw [if_pos rfl, if_pos e2, mget_none fun y hy e4 => hn.1 (by rw [e2, ← e4]; exact List.mem_map.2 ⟨y, hy, rfl⟩)]
          simp [unpadQ]
        · rw [if_neg e3, if_neg (fun e4 => e3 (kq_inj he hq (e2.symm.trans e4)))]
          simp
    exact this es h.nod fun x hx => (h.nz x hx).2
  · rw [co_none q l fun x hx e => hq (e ▸ hl x hx), co_none q _ fun x hx e => hq ?_]
    obtain ⟨y, hy, rfl⟩ := List.mem_map.1 hx
    obtain ⟨_, e', he', e2⟩ := h.nz y hy
    rw [← e]
    simp only [unpadQ]
    rw [e2, uq_kq he' h8]
    exact he'
/-- **Terms of the map in descending order are the sum's normal form.** -/
theorem unpadQ_nf {n : Nat} {es : List (List Int × Int)} {l t : List (QK × Int)} (h : MapQ n es l) (h8 : n ≤ 8) (hl : ∀ x ∈ l, x.1.1.length = n) (hp : t.Perm (es.map (unpadQ n))) (hd : Desc qlt t) : t = nf qlt l := by
  refine nf_unique qOrd hd (fun x hx => ?_) fun k => by rw [co_perm k hp, unpadQ_co h h8 hl]
  obtain ⟨y, hy, rfl⟩ := List.mem_map.1 (hp.mem_iff.1 hx)
  exact (h.nz y hy).1
theorem unpadQ_inj {n : Nat} {es : List (List Int × Int)} {l : List (QK × Int)} (h : MapQ n es l) (h8 : n ≤ 8) : ((es.map (unpadQ n)).map (·.1)).Nodup := by
  have : ∀ es : List (List Int × Int), (es.map (·.1)).Nodup → (∀ x ∈ es, ∃ e : QK, e.1.length = n ∧ x.1 = kq e) → ((es.map (unpadQ n)).map (·.1)).Nodup := by
    intro es
    induction es with
    | nil => intro _ _; simp
    | cons x es ih =>
      intro hn hp
      simp only [List.map_cons, List.nodup_cons] at hn ⊢
      refine ⟨fun hm => ?_, ih hn.2 fun y hy => hp y (by simp [hy])⟩
      obtain ⟨y, hy, e⟩ := List.mem_map.1 hm
      obtain ⟨z, hz, rfl⟩ := List.mem_map.1 hy
      obtain ⟨a, ha, e1⟩ := hp x (by simp)
      obtain ⟨b, hb, e2⟩ := hp z (by simp [hz])
      refine hn.1 (List.mem_map.2 ⟨z, hz, ?_⟩)
      simp only [unpadQ] at e
      rw [e1, e2] at e ⊢
      rw [uq_kq ha h8, uq_kq hb h8] at e
      rw [e]
  exact this es h.nod fun x hx => (h.nz x hx).2
theorem unpadQ_nf2 {n : Nat} {es : List (List Int × Int)} {l : List (QK × Int)} (h : MapQ n es l) (h8 : n ≤ 8) (hl : ∀ x ∈ l, x.1.1.length = n) : nf qlt (es.map (unpadQ n)) = nf qlt l :=
  nf_unique qOrd (nf_desc qOrd _) (nf_nz _) fun k => by rw [nf_co, unpadQ_co h h8 hl]
theorem unpadQ_len {n : Nat} {es : List (List Int × Int)} {l : List (QK × Int)} (h : MapQ n es l) (h8 : n ≤ 8) (hl : ∀ x ∈ l, x.1.1.length = n) : (nf qlt l).length = es.length := by
  rw [← unpadQ_nf2 h h8 hl, nf_len_eq _ (unpadQ_inj h h8), List.length_map]
  intro x hx
  obtain ⟨y, hy, rfl⟩ := List.mem_map.1 hx
  exact (h.nz y hy).1
end Go.Proofs.Ytdgeponcnlkaiaa.Ab
namespace Go.Proofs.Ytdgeponcnlkaiaa.Ab
open Go
set_option linter.unusedSimpArgs false
set_option linter.unusedVariables false
set_option maxRecDepth 10000
set_option maxHeartbeats 2000000
def q0 : Qtm := ⟨[], 0, 0⟩
theorem getQ_at {out : List Qtm} {i : Nat} (h : i < out.length) : out.getD i q0 = out[i] := by
  simp [List.getD_eq_getElem?_getD, h]
theorem qtS_snoc (l : List Qtm) (t : Qtm) : rows qtS l ++ [shI t.e, D.v (.int .i64 t.h), D.v (.int .i64 t.c)] = rows qtS (l ++ [t]) := by
  rw [rows_append]
  rfl
theorem leafL_app : ∀ {a b : List D}, leafL a → leafL b → leafL (a ++ b)
  | [], _, _, h => h
  | _ :: _, _, h1, h => ⟨h1.1, leafL_app h1.2 h⟩
@[simp] theorem qtS_leaf : ∀ l : List Qtm, leafL (rows qtS l)
  | [] => trivial
  | t :: l => leafL_app (a := qtS t) ⟨rfl, rfl, rfl, trivial⟩ (qtS_leaf l)
def mvQ (t : Qtm) : List D := if t.c = 0 then qtO t else [.gone, D.int t.h, D.int t.c]
theorem mvQ_three (t : Qtm) : (mvQ t).length = 3 := by unfold mvQ; split <;> rfl
/-- The terms of a list, those before place k moved away where they are not empty. -/
def mvS (S : List Qtm) (k : Nat) : List D := rows mvQ (S.take k) ++ rows qtO (S.drop k)
@[simp] theorem mvS_length (S : List Qtm) (k : Nat) : (mvS S k).length = 3 * S.length := by
  unfold mvS
  rw [List.length_append, rows_length mvQ_three, rows_length qtO_three, List.length_take, List.length_drop]
  omega
theorem mvS_zero (S : List Qtm) : mvS S 0 = rows qtO S := by simp [mvS, rows]
theorem mvS_get {S : List Qtm} {k : Nat} (h : k < S.length) (j : Nat) (hj : j < 3) : (mvS S k)[3 * k + j]? = (qtO S[k])[j]? := by
  unfold mvS
  have hl : (rows mvQ (S.take k)).length = 3 * k := by rw [rows_length mvQ_three, List.length_take]; omega
  rw [List.getElem?_append_right (by omega), hl, show 3 * k + j - 3 * k = 3 * 0 + j by omega]
  rw [rows_get qtO_three (S.drop k) 0 j (by simp; omega) hj]
  simp
theorem mvS_0 {S : List Qtm} {k : Nat} (h : k < S.length) : (mvS S k)[3 * k]? = some (owI S[k].e) ∧ ∀ h', (mvS S k)[3 * k]'h' = owI S[k].e := twice (mvS_get h 0 (by omega))
theorem mvS_1 {S : List Qtm} {k : Nat} (h : k < S.length) : (mvS S k)[3 * k + 1]? = some (D.int S[k].h) ∧ ∀ h', (mvS S k)[3 * k + 1]'h' = D.int S[k].h := twice (mvS_get h 1 (by omega))
theorem mvS_2 {S : List Qtm} {k : Nat} (h : k < S.length) : (mvS S k)[3 * k + 2]? = some (D.int S[k].c) ∧ ∀ h', (mvS S k)[3 * k + 2]'h' = D.int S[k].c := twice (mvS_get h 2 (by omega))
theorem mvS_stay {S : List Qtm} {k : Nat} (h : k < S.length) (hz : S[k].c = 0) : mvS S (k + 1) = mvS S k := by
  unfold mvS
  rw [List.take_succ_eq_append_getElem h, List.drop_eq_getElem_cons h, rows_append]
  simp [rows, mvQ, hz]
theorem mvS_move {S : List Qtm} {k : Nat} (h : k < S.length) (hz : ¬ S[k].c = 0) : (mvS S k).set (3 * k) .gone = mvS S (k + 1) := by
  unfold mvS
  have hl : (rows mvQ (S.take k)).length = 3 * k := by rw [rows_length mvQ_three, List.length_take]; omega
  rw [List.set_append_right _ _ (by omega), hl, Nat.sub_self, List.take_succ_eq_append_getElem h, List.drop_eq_getElem_cons h, rows_append]
  simp [rows, mvQ, hz, qtO]
theorem spec_l8Gather_calls (l : List Qtm) (hl : l.length ≤ 1000000) (hc : absQ l < 4611686018427387904) (he : ∀ t ∈ l, t.e.length ≤ 8) : ACalls Try.prog F.spec_l8Gather [.d (.sh 3 l.length (rows qtS l))] [] true (fun outs res => outs = [] ∧ res = [.one (.ow 3 (gaQ l).length (rows qtO (gaQ l)))]) := by
  refine ACalls.of_body (C := C.spec_l8Gather) (n := Try.f122.ntmps) tabT folT Try.func122 rfl (by kernel_rfl) rfl (Nat.le_of_ble_eq_true rfl) (by decide) (by kernel_rfl) (by kernel_rfl) rfl (by simp) (by simp) ?_
  simp only [Try.f122]
  refine wseq ?_
  refine wreg fun K hK => ?_
  simp [C.spec_l8Gather]
  refine hK _ ?_; clear hK K
  show AWp _ _ _ _ _
  refine wseq ?_
  refine wreg fun K hK => ?_
  simp [C.spec_l8Gather, show l.length * 40 ≤ 140737488355328 by omega]
  refine hK _ ?_; clear hK K
  show AWp _ _ _ _ _
  refine wseq ?_
  refine wseq ?_
  refine wreg fun K hK => ?_
  simp [C.spec_l8Gather]
  refine hK _ ?_; clear hK K
  show AWp _ _ _ _ _
  refine wblock ?_
  refine wloop (fun x : Nat × List Qtm => ⟨ofL [(3, .al (3, 0) [] 0 l.length), (4, .int x.1)], ofRO [((3, 0), some (.ow 3 l.length (rows qtS x.2)))]⟩) (fun x => x.2.Perm l ∧ Runs qle x.1 x.2 ∧ 1 ≤ x.1 ∧ x.1 ≤ 2 * l.length + 1) (fun x => 2 * l.length + 1 - x.1) (1, l) (by simp [C.spec_l8Gather]) ⟨List.Perm.refl _, runs_one _, by simp, by dsimp only; omega⟩ ?_
  intro x1 hx1 R1 hR1
  obtain ⟨size, out⟩ := x1
  obtain ⟨hperm, hruns, hs1, hs2⟩ := hx1
  dsimp only at hperm hruns hs1 hs2 ⊢
  have hol : out.length = l.length := hperm.length_eq
  have hel : ∀ t ∈ out, t.e.length ≤ 8 := fun t ht => he t (hperm.subset ht)
  refine wseq ?_
  refine wseq ?_
  refine wreg fun K hK => ?_
  simp [C.spec_l8Gather]
  refine hK _ ?_; clear hK K
  show AWp _ _ _ _ _
  refine wcond _ rfl (fun hc1 => ?_) (fun hc1 => ?_)
  · have hlt : size < l.length := by have := d_t hc1; omega
    refine wskip ?_
    show AWp _ _ _ _ _
    refine wseq ?_
    refine wblock ?_
    refine wseq ?_
    refine wreg fun K hK => ?_
    simp [C.spec_l8Gather, show (40 : Int) * l.length ≤ 281474976710656 by omega, show (l.length : Int) ≤ 281474976710656 by omega]
    refine hK _ ?_; clear hK K
    show AWp _ _ _ _ _
    refine wseq ?_
    refine wseq ?_
    refine wreg fun K hK => ?_
    simp [C.spec_l8Gather]
    refine hK _ ?_; clear hK K
    show AWp _ _ _ _ _
    refine wblock ?_
    refine wloop (fun x : Nat × List Qtm × Nat => ⟨ofL [(3, .al (3, 0) [] 0 l.length), (4, .int size), (5, .al (5, 0) [] 0 x.2.2), (6, .int x.1)], ofRO [((3, 0), some (.ow 3 l.length (rows qtS out))), ((5, 0), some (.ow 3 x.2.2 (rows qtS x.2.1)))]⟩) (fun x => (∃ k, x.1 = 2 * size * k) ∧ x.2.2 = x.2.1.length ∧ x.2.1.length = min x.1 l.length ∧ x.2.1.Perm (out.take x.1) ∧ Runs qle (2 * size) x.2.1 ∧ x.1 ≤ l.length + 2 * size) (fun x => l.length + 2 * size - x.1) (0, [], 0) (by simp [C.spec_l8Gather, rows]) ⟨⟨0, rfl⟩, rfl, by simp, by simp, fun k => by simp, by dsimp only; omega⟩ ?_
    intro x2 hx2 R2 hR2
    obtain ⟨at_, next, m⟩ := x2
    obtain ⟨⟨k, hk⟩, hm, hnl, hnp, hnr, hab⟩ := hx2
    dsimp only at hk hm hnl hnp hnr hab ⊢
    refine wseq ?_
    refine wseq ?_
    refine wreg fun K hK => ?_
    simp [C.spec_l8Gather]
    refine hK _ ?_; clear hK K
    show AWp _ _ _ _ _
    refine wcond _ rfl (fun hc2 => ?_) (fun hc2 => ?_)
    · have hat : at_ < l.length := by have := d_t hc2; omega
      have hnl2 : next.length = at_ := by omega
      obtain ⟨mid, hmid⟩ : ∃ mid, mid = min (at_ + size) l.length := ⟨_, rfl⟩
      obtain ⟨en, hen⟩ : ∃ en, en = min (at_ + 2 * size) l.length := ⟨_, rfl⟩
      have hmid2 : min ((at_ : Int) + size) l.length = (mid : Int) := by omega
      have hen2 : min ((at_ : Int) + 2 * size) l.length = (en : Int) := by omega
      refine wskip ?_
      show AWp _ _ _ _ _
      refine wseq ?_
      refine wblock ?_
      refine wseq ?_
      refine wreg fun K hK => ?_
      simp [C.spec_l8Gather]
      refine hK _ ?_; clear hK K
      show AWp _ _ _ _ _
      refine wseq ?_
      refine wreg fun K hK => ?_
      simp [C.spec_l8Gather]
      rw [wrapOk (x := (at_ : Int) + size) (by omega) (by omega), hmid2]
      refine hK _ ?_; clear hK K
      show AWp _ _ _ _ _
      refine wseq ?_
      refine wreg fun K hK => ?_
      simp [C.spec_l8Gather]
      refine hK _ ?_; clear hK K
      show AWp _ _ _ _ _
      refine wseq ?_
      refine wreg fun K hK => ?_
      simp [C.spec_l8Gather]
      rw [wrapOk (x := 2 * (size : Int)) (by omega) (by omega), wrapOk (x := (at_ : Int) + 2 * size) (by omega) (by omega), hen2]
      refine hK _ ?_; clear hK K
      show AWp _ _ _ _ _
      refine wblock ?_
      refine wloop (fun x : Nat × Nat × List Qtm × Nat => ⟨ofL [(3, .al (3, 0) [] 0 l.length), (4, .int size), (5, .al (5, 0) [] 0 x.2.2.2), (6, .int at_), (7, .int x.1), (8, .int mid), (9, .int x.2.1), (10, .int en)], ofRO [((3, 0), some (.ow 3 l.length (rows qtS out))), ((5, 0), some (.ow 3 x.2.2.2 (rows qtS x.2.2.1)))]⟩) (fun x => x.1 ≤ mid ∧ x.2.1 ≤ en ∧ mid ≤ x.2.1 ∧ x.2.2.2 = x.2.2.1.length ∧ x.2.2.2 ≤ 3000000 - ((mid - x.1) + (en - x.2.1)) ∧ ∃ M, x.2.2.1 = next ++ M ∧ M ++ List.merge (sgt out x.1 mid) (sgt out x.2.1 en) qle = List.merge (sgt out at_ mid) (sgt out mid en) qle) (fun x => (mid - x.1) + (en - x.2.1)) (at_, mid, next, m) (by simp [C.spec_l8Gather]) ⟨by dsimp only; omega, by dsimp only; omega, by dsimp only; omega, hm, by dsimp only; omega, [], by simp, by simp⟩ ?_
      intro x3 hx3 R3 hR3
      obtain ⟨i, j, nx, mm⟩ := x3
      obtain ⟨h1, h2, h3, h4, h5, M, h6, h7⟩ := hx3
      dsimp only at h1 h2 h3 h4 h5 h6 h7 ⊢
      refine wseq ?_
      refine wseq ?_
      refine wreg fun K hK => ?_
      have hJ : K ⟨ofL [(3, .al (3, 0) [] 0 l.length), (4, .int size), (5, .al (5, 0) [] 0 mm), (6, .int at_), (7, .int i), (8, .int mid), (9, .int j), (10, .int en), (58, .bool (decide (i < mid ∨ j < en)))], ofRO [((3, 0), some (.ow 3 l.length (rows qtS out))), ((5, 0), some (.ow 3 mm (rows qtS nx)))]⟩ := by
        refine hK _ ?_; clear hK K
        show AWp _ _ _ _ _
        refine wcond _ rfl (fun hc3 => ?_) (fun hc3 => ?_)
        · have hij := d_t hc3
          refine wskip ?_
          show AWp _ _ _ _ _
          refine wblock ?_
          refine wseq ?_
          refine wdrawI [(true, 0), (true, 1), (true, 2), (true, 3), (true, 4), (true, 5), (true, 6), (true, 7), (true, 8), (true, 9), (true, 10), (true, 11), (true, 12), (true, 13), (true, 14), (true, 15), (false, 16), (true, 17), (true, 18), (true, 19)] ⟨by kernel_rfl, by kernel_rfl⟩ ([0, 1, 2, 3, 4, 5, 6, 7, 8, 9, 10, 11, 12, 13, 14, 15, 16] ++ ([17, 18, 19])) rfl fun K hK => ?_
          have hJ : K ⟨ofL [(3, .al (3, 0) [] 0 l.length), (4, .int size), (5, .al (5, 0) [] 0 mm), (6, .int at_), (7, .int i), (8, .int mid), (9, .int j), (10, .int en), (78, .bool (decide (en ≤ j ∨ (i < mid ∧ qle (out.getD i q0) (out.getD j q0) = true))))], ofRO [((3, 0), some (.ow 3 l.length (rows qtS out))), ((5, 0), some (.ow 3 mm (rows qtS nx)))]⟩ := by
            refine hK _ ?_; clear hK K
            show AWp _ _ _ _ _
            refine wcond _ rfl (fun hc4 => ?_) (fun hc4 => ?_)
            · have hcc := d_t hc4
              have him : i < mid := by omega
              have hi : i < out.length := by omega
              have hi' : i < l.length := by omega
              refine wseq ?_
              refine wreg fun K hK => ?_
              simp [C.spec_l8Gather, hi', qtS_0 hi, qtS_1 hi, qtS_2 hi, qtS_snoc, show (mm + 1) * 40 ≤ 140737488355328 by omega]
              refine hK _ ?_; clear hK K
              show AWp _ _ _ _ _
              refine wreg fun K hK => ?_
              simp [C.spec_l8Gather, wrap_succ (show i < 4611686018427387904 by omega)]
              refine hK _ ?_; clear hK K
              simp [C.spec_l8Gather]
              refine hR3 (i + 1, j, _, mm + 1) ⟨him, h2, h3, by dsimp only; rw [h4]; simp, by dsimp only; omega, M ++ [out[i]], by dsimp only; rw [h6, List.append_assoc], ?_⟩ (by dsimp only; omega)
              dsimp only
              rw [← h7, List.append_assoc, sgt_cons him hi]
              rcases Nat.lt_or_ge j en with hje | hje
              · have hj : j < out.length := by omega
                rw [sgt_cons hje hj, mrg_cons]
                have hk' : qle out[i] out[j] = true := by
                  rcases hcc with hcc | ⟨_, hcc⟩
                  · omega
                  · rw [getQ_at hi, getQ_at hj] at hcc
                    exact hcc
                rw [if_pos hk']
                rfl
              · rw [sgt_nil hje, mrg_nil_right, mrg_nil_right]
                rfl
            · have hcc := d_f hc4
              have hje : j < en := by omega
              have hj : j < out.length := by omega
              have hj' : j < l.length := by omega
              refine wseq ?_
              refine wreg fun K hK => ?_
              simp [C.spec_l8Gather, hj', qtS_0 hj, qtS_1 hj, qtS_2 hj, qtS_snoc, show (mm + 1) * 40 ≤ 140737488355328 by omega]
              refine hK _ ?_; clear hK K
              show AWp _ _ _ _ _
              refine wreg fun K hK => ?_
              simp [C.spec_l8Gather, wrap_succ (show j < 4611686018427387904 by omega)]
              refine hK _ ?_; clear hK K
              simp [C.spec_l8Gather]
              refine hR3 (i, j + 1, _, mm + 1) ⟨h1, hje, by dsimp only; omega, by dsimp only; rw [h4]; simp, by dsimp only; omega, M ++ [out[j]], by dsimp only; rw [h6, List.append_assoc], ?_⟩ (by dsimp only; omega)
              dsimp only
              rw [← h7, List.append_assoc, sgt_cons hje hj]
              rcases Nat.lt_or_ge i mid with him | him
              · have hi : i < out.length := by omega
                rw [sgt_cons him hi, mrg_cons]
                have hk' : ¬ qle out[i] out[j] = true := by
                  intro hk'
                  refine hcc (.inr ⟨him, ?_⟩)
                  rw [getQ_at hi, getQ_at hj]
                  exact hk'
                rw [if_neg hk']
                rfl
              · rw [sgt_nil him, mrg_nil_left, mrg_nil_left]
                rfl
          clear hK
          by_cases ha : en ≤ j
          · refine opsI_seg fun L hL => ?_
            simp [C.spec_l8Gather, ha]
            refine hL _ ?_; clear hL L
            refine opsI_end fun L hL => ?_
            simp [C.spec_l8Gather, ha]
            refine hL _ ?_; clear hL L
            simp [C.spec_l8Gather, ha]
            refine cast (congrArg K ?_) hJ
            simp [ha]
          · by_cases hb : i < mid
            · have hi : i < out.length := by omega
              have hj : j < out.length := by omega
              have hi' : i < l.length := by omega
              have hj' : j < l.length := by omega
              refine opsI_seg fun L hL => ?_
              simp [C.spec_l8Gather, hi', hj', qtS_0 hi, qtS_0 hj, qtS_1 hi, qtS_1 hj, qtS_2 hi, qtS_2 hj, ha, hb]
              refine wcall1 (spec_l8Less_calls out[j] out[i] (by have := hel _ (List.getElem_mem hj); omega) (by have := hel _ (List.getElem_mem hi); omega)) (by simp) (by simp) ?_
              simp [C.spec_l8Gather, hi', hj', qtS_0 hi, qtS_0 hj, qtS_1 hi, qtS_1 hj, qtS_2 hi, qtS_2 hj, ha, hb]
              refine hL _ ?_; clear hL L
              refine opsI_end fun L hL => ?_
              simp [C.spec_l8Gather, hi', hj', qtS_0 hi, qtS_0 hj, qtS_1 hi, qtS_1 hj, qtS_2 hi, qtS_2 hj, ha, hb]
              refine hL _ ?_; clear hL L
              simp [C.spec_l8Gather, hi', hj', qtS_0 hi, qtS_0 hj, qtS_1 hi, qtS_1 hj, qtS_2 hi, qtS_2 hj, ha, hb]
              refine cast (congrArg K ?_) hJ
              simp [List.getD_eq_getElem?_getD, hi, hj, qle, ha, hb]
            · refine opsI_seg fun L hL => ?_
              simp [C.spec_l8Gather, ha, hb]
              refine hL _ ?_; clear hL L
              refine opsI_end fun L hL => ?_
              simp [C.spec_l8Gather, ha, hb]
              refine hL _ ?_; clear hL L
              simp [C.spec_l8Gather, ha, hb]
              refine cast (congrArg K ?_) hJ
              simp [ha, hb]
        · have hij := d_f hc3
          have ei : mid ≤ i := by omega
          have ej : en ≤ j := by omega
          rw [sgt_nil ei, sgt_nil ej, mrg_nil_left, List.append_nil] at h7
          refine wexit ?_
          show AWp _ _ _ _ _
          refine wreg fun K hK => ?_
          simp [C.spec_l8Gather]
          rw [wrapOk (x := 2 * (size : Int)) (by omega) (by omega), wrapOk (x := (at_ : Int) + 2 * size) (by omega) (by omega)]
          refine hK _ ?_; clear hK K
          have hA : (sgt out at_ mid).Pairwise fun a b => qle a b = true := sgt_runs (k := 2 * k) hruns (by rw [hk]; rw [Nat.mul_comm 2 size, Nat.mul_assoc]) (by rw [hmid, hol])
          have hB : (sgt out mid en).Pairwise fun a b => qle a b = true := by
            rcases Nat.le_total (at_ + size) l.length with hq | hq
            · have e1 : mid = at_ + size := by omega
              exact sgt_runs (k := 2 * k + 1) hruns (by rw [e1, hk, Nat.mul_succ, Nat.mul_comm 2 size, Nat.mul_assoc]) (by rw [hol, hen, e1]; congr 1; omega)
            · rw [sgt_nil (by omega)]
              exact List.Pairwise.nil
          have hM := mrq_sorted hA hB
          have hMp := mrq_perm (sgt out at_ mid) (sgt out mid en)
          rw [← h7] at hM hMp
          have hMl : M.length = en - at_ := by
            have := hMp.length_eq
            have e2 := congrArg List.length (sgt_take (out := out) (a := at_) (b := mid) (c := en) (by omega) (by omega))
            simp only [List.length_append, List.length_take] at this e2
            omega
          simp [C.spec_l8Gather]
          rw [show (at_ : Int) + 2 * size = ((at_ + 2 * size : Nat) : Int) by omega]
          refine hR2 (at_ + 2 * size, nx, mm) ⟨⟨k + 1, by dsimp only; rw [hk, Nat.mul_succ]⟩, h4, ?_, ?_, ?_, by dsimp only; omega⟩ (by dsimp only; omega)
          · dsimp only
            rw [h6, List.length_append, hMl]
            omega
          · dsimp only
            rw [h6]
            have e3 : out.take (at_ + 2 * size) = out.take en := by
              rw [hen]
              rcases Nat.le_total (at_ + 2 * size) l.length with hq | hq
              · rw [Nat.min_eq_left hq]
              · rw [Nat.min_eq_right hq, List.take_of_length_le (by omega), List.take_of_length_le (by omega)]
            rw [e3, ← sgt_take (out := out) (a := at_) (b := mid) (c := en) (by omega) (by omega)]
            exact hnp.append hMp
          · dsimp only
            rw [h6]
            exact runs_snoc hnr (by rw [hnl2, hk]) hM (by omega)
      clear hK
      by_cases ha : i < mid
      · simp [C.spec_l8Gather, ha]
        refine cast (congrArg K ?_) hJ
        simp [ha]
      · simp [C.spec_l8Gather, ha]
        refine cast (congrArg K ?_) hJ
        simp [ha]
    · have hat : l.length ≤ at_ := by have := d_f hc2; omega
      have hml : m = l.length := by omega
      refine wexit ?_
      show AWp _ _ _ _ _
      refine wreg fun K hK => ?_
      simp [C.spec_l8Gather]
      refine hK _ ?_; clear hK K
      show AWp _ _ _ _ _
      refine wreg fun K hK => ?_
      simp [C.spec_l8Gather]
      rw [wrapOk (x := (size : Int) * 2) (by omega) (by omega)]
      refine hK _ ?_; clear hK K
      simp [C.spec_l8Gather]
      rw [show (size : Int) * 2 = ((2 * size : Nat) : Int) by omega, hml]
      refine hR1 (2 * size, next) ⟨?_, hnr, by dsimp only; omega, by dsimp only; omega⟩ (by dsimp only; omega)
      dsimp only
      rw [List.take_of_length_le (by omega)] at hnp
      exact hnp.trans hperm
  · have hlt : l.length ≤ size := by have := d_f hc1; omega
    have hsort := runs_all hruns (by omega)
    have hga := combS_gaQ hperm hsort
    have habs := absQ_perm hperm
    obtain ⟨T, hT⟩ : ∃ T, T = combS [] (out.map qp) := ⟨_, rfl⟩
    rw [← hT] at hga
    refine wexit ?_
    show AWp _ _ _ _ _
    refine wseq ?_
    refine wreg fun K hK => ?_
    simp [C.spec_l8Gather]
    refine hK _ ?_; clear hK K
    show AWp _ _ _ _ _
    refine wseq ?_
    refine wseq ?_
    refine wreg fun K hK => ?_
    simp [C.spec_l8Gather]
    refine hK _ ?_; clear hK K
    show AWp _ _ _ _ _
    refine wblock ?_
    refine wloop (fun x : Nat × List Qtm => ⟨ofL [(3, .al (3, 0) [] 0 l.length), (11, .al (11, 0) [] 0 x.2.length), (12, .int x.1)], ofRO [((3, 0), some (.ow 3 l.length (rows qtS out))), ((11, 0), some (.ow 3 x.2.length (rows qtO x.2)))]⟩) (fun x => x.1 ≤ l.length ∧ x.2.length ≤ x.1 ∧ combS (x.2.map qp) ((out.drop x.1).map qp) = T ∧ absQ x.2 ≤ absQ (out.take x.1) ∧ ∀ t ∈ x.2, t.e.length ≤ 8) (fun x => l.length - x.1) (0, []) (by simp [C.spec_l8Gather, rows]) ⟨by simp, by simp, by simp [hT], by simp, by simp⟩ ?_
    intro x4 hx4 R4 hR4
    obtain ⟨k, G⟩ := x4
    obtain ⟨g1, g2, g3, g4, g5⟩ := hx4
    dsimp only at g1 g2 g3 g4 g5 ⊢
    refine wseq ?_
    refine wseq ?_
    refine wreg fun K hK => ?_
    simp [C.spec_l8Gather]
    refine hK _ ?_; clear hK K
    show AWp _ _ _ _ _
    refine wcond _ rfl (fun hc5 => ?_) (fun hc5 => ?_)
    · have hk : k < l.length := by have := d_t hc5; omega
      have hko : k < out.length := by omega
      have hokb : (out.take k) ++ [out[k]] = out.take (k + 1) := (List.take_succ_eq_append_getElem hko).symm
      have hab1 : absQ (out.take (k + 1)) = absQ (out.take k) + out[k].c.natAbs := by rw [← hokb, absQ_append]; simp [absQ]
      have hab2 : absQ (out.take (k + 1)) ≤ absQ l := by
        rw [← habs]
        conv => rhs; rw [← List.take_append_drop (k + 1) out, absQ_append]
        omega
      have hg3 : combS ((addQ G out[k]).map qp) ((out.drop (k + 1)).map qp) = T := by
        rw [addQ_qp, ← g3, List.drop_eq_getElem_cons hko]
        rfl
      have hg4 : absQ (addQ G out[k]) ≤ absQ (out.take (k + 1)) := by
        have := absQ_addQ G out[k]
        omega
      have hek := hel _ (List.getElem_mem hko)
      refine wskip ?_
      show AWp _ _ _ _ _
      refine wseq ?_
      refine wblock ?_
      refine wseq ?_
      refine wreg fun K hK => ?_
      simp [C.spec_l8Gather]
      refine hK _ ?_; clear hK K
      show AWp _ _ _ _ _
      refine wseq ?_
      refine wseq ?_
      refine wdrawI [(true, 0), (true, 1), (true, 2), (true, 3), (true, 4), (true, 5), (true, 6), (true, 7), (true, 8), (true, 9), (true, 10), (true, 11), (true, 12), (true, 13), (true, 14), (true, 15), (true, 16), (true, 17), (true, 18), (true, 19), (true, 20), (true, 21), (true, 22), (true, 23), (true, 24), (true, 25), (true, 26), (true, 27), (false, 28), (true, 29)] ⟨by kernel_rfl, by kernel_rfl⟩ ([0, 1, 2, 3, 4, 5, 6, 7, 8, 9, 10, 11, 12, 13, 14, 15, 16, 17, 18, 19, 20, 21, 22, 23, 24, 25, 26, 27, 28] ++ ([29])) rfl fun K hK => ?_
      have hJ : K ⟨ofL [(3, .al (3, 0) [] 0 l.length), (11, .al (11, 0) [] 0 G.length), (12, .int k), (13, .int G.length), (136, .bool (decide (0 < G.length ∧ (G.getD (G.length - 1) q0).h = out[k].h ∧ (G.getD (G.length - 1) q0).e = out[k].e)))], ofRO [((3, 0), some (.ow 3 l.length (rows qtS out))), ((11, 0), some (.ow 3 G.length (rows qtO G)))]⟩ := by
        refine hK _ ?_; clear hK K
        show AWp _ _ _ _ _
        refine wcond _ rfl (fun hc6 => ?_) (fun hc6 => ?_)
        · have hcc := d_t hc6
          obtain ⟨q, hqe⟩ : ∃ q, G.length = q + 1 := ⟨G.length - 1, by omega⟩
          have hq : q < G.length := by omega
          rw [show G.length - 1 = q by omega, getQ_at hq] at hcc
          have hkk : qk G[q] = qk out[k] := by simp [qk, hcc.2.1, hcc.2.2]
          have hGq := absQ_mem (List.getElem_mem hq)
          have hsm := addQ_same hqe hkk
          refine wseq ?_
          refine wdrawI [(true, 0), (true, 1), (true, 2), (true, 3), (true, 4), (true, 5), (true, 6), (true, 7), (true, 8), (true, 9), (true, 10), (true, 11), (true, 12), (true, 13), (true, 14), (true, 15), (true, 16), (false, 17)] ⟨by kernel_rfl, by kernel_rfl⟩ ([0, 1, 2, 3, 4, 5, 6, 7, 8, 9, 10, 11, 12, 13, 14, 15, 16, 17]) rfl fun K hK => ?_
          refine opsI_end fun L hL => ?_
          simp [C.spec_l8Gather, hqe, hk, show ((q : Int) < (q : Int) + 1) by omega, qtO_2 hq, qtS_2 hko, qtO_set2 hq, wrap_nat (show q < 4611686018427387904 by omega), wrapOk (x := G[q].c + out[k].c) (by omega) (by omega)]
          refine hL _ ?_; clear hL L
          simp [C.spec_l8Gather, hqe, hk, show ((q : Int) < (q : Int) + 1) by omega, qtO_2 hq, qtS_2 hko, qtO_set2 hq, wrap_nat (show q < 4611686018427387904 by omega), wrapOk (x := G[q].c + out[k].c) (by omega) (by omega)]
          refine hK _ ?_; clear hK K
          show AWp _ _ _ _ _
          refine wexit ?_
          show AWp _ _ _ _ _
          refine wreg fun K hK => ?_
          simp [C.spec_l8Gather, wrap_succ (show k < 4611686018427387904 by omega)]
          refine hK _ ?_; clear hK K
          simp [C.spec_l8Gather]
          rw [show q + 1 = (addQ G out[k]).length by rw [hsm]; simp [hqe], ← hsm]
          refine hR4 (k + 1, addQ G out[k]) ⟨hk, by dsimp only; rw [hsm]; simp; omega, hg3, hg4, ?_⟩ (by dsimp only; omega)
          dsimp only
          rw [hsm]
          intro t ht
          rcases List.mem_or_eq_of_mem_set ht with ht | ht
          · exact g5 t ht
          · have := g5 _ (List.getElem_mem hq)
            rw [ht]
            exact this
        · have hcc := d_f hc6
          have hnw : addQ G out[k] = G ++ [out[k]] := addQ_new fun z hz e => by
            rw [List.getLast?_eq_getElem?] at hz
            obtain ⟨hq, hz⟩ := List.getElem?_eq_some_iff.1 hz
            refine hcc ⟨by omega, ?_⟩
            rw [getQ_at hq, hz]
            simp only [qk, Prod.mk.injEq] at e
            exact ⟨e.2, e.1⟩
          refine wskip ?_
          show AWp _ _ _ _ _
          refine wdrawI [(true, 0), (true, 1), (true, 2), (true, 3), (true, 4), (true, 5), (true, 7), (true, 8), (true, 9), (true, 10), (true, 11), (true, 12), (true, 13), (true, 14), (true, 15), (true, 16), (false, 6), (true, 17), (false, 18), (false, 19), (true, 20)] ⟨by kernel_rfl, by kernel_rfl⟩ ([0, 1, 2, 3, 4, 5, 7, 8, 9, 10, 11, 12, 13, 14, 15, 16, 6] ++ ([17, 18, 19, 20])) rfl fun K hK => ?_
          refine opsI_seg fun L hL => ?_
          simp [C.spec_l8Gather, hk, qtS_0 hko, qtS_1 hko, qtS_2 hko, qtO_snoc, show (G.length + 1) * 40 ≤ 140737488355328 by omega]
          refine wcall1 (spec_l1Ints_calls out[k].e (by omega)) (by simp) (by simp) ?_
          simp [C.spec_l8Gather, hk, qtS_0 hko, qtS_1 hko, qtS_2 hko, qtO_snoc, show (G.length + 1) * 40 ≤ 140737488355328 by omega]
          refine hL _ ?_; clear hL L
          refine opsI_end fun L hL => ?_
          simp [C.spec_l8Gather, hk, qtS_0 hko, qtS_1 hko, qtS_2 hko, qtO_snoc, show (G.length + 1) * 40 ≤ 140737488355328 by omega]
          refine hL _ ?_; clear hL L
          simp [C.spec_l8Gather, hk, qtS_0 hko, qtS_1 hko, qtS_2 hko, qtO_snoc, show (G.length + 1) * 40 ≤ 140737488355328 by omega]
          refine hK _ ?_; clear hK K
          show AWp _ _ _ _ _
          refine wreg fun K hK => ?_
          simp [C.spec_l8Gather, wrap_succ (show k < 4611686018427387904 by omega)]
          refine hK _ ?_; clear hK K
          simp [C.spec_l8Gather]
          rw [show G.length + 1 = (addQ G out[k]).length by rw [hnw]; simp, ← hnw]
          refine hR4 (k + 1, addQ G out[k]) ⟨hk, by dsimp only; rw [hnw]; simp; omega, hg3, hg4, ?_⟩ (by dsimp only; omega)
          dsimp only
          rw [hnw]
          intro t ht
          rcases List.mem_append.1 ht with ht | ht
          · exact g5 t ht
          · simp only [List.mem_singleton] at ht
            rw [ht]
            exact hek
      clear hK
      by_cases ha : 0 < G.length
      · by_cases hb : (G.getD (G.length - 1) q0).h = out[k].h
        · obtain ⟨q, hqe⟩ : ∃ q, G.length = q + 1 := ⟨G.length - 1, by omega⟩
          have hq : q < G.length := by omega
          rw [hqe, show q + 1 - 1 = q by omega, getQ_at hq] at hb
          refine opsI_seg fun L hL => ?_
          simp [C.spec_l8Gather, hk, qtS_0 hko, qtS_1 hko, qtS_2 hko, hqe, show ((0 : Int) < (q : Int) + 1) by omega, show ((q : Int) < (q : Int) + 1) by omega, qtO_0 hq, qtO_1 hq, wrap_nat (show q < 4611686018427387904 by omega), ha, hb]
          refine wcall1 (spec_l1Same_calls G[q].e out[k].e (by have := g5 _ (List.getElem_mem hq); omega)) (by simp) (by simp) ?_
          simp [C.spec_l8Gather, hk, qtS_0 hko, qtS_1 hko, qtS_2 hko, hqe, show ((0 : Int) < (q : Int) + 1) by omega, show ((q : Int) < (q : Int) + 1) by omega, qtO_0 hq, qtO_1 hq, wrap_nat (show q < 4611686018427387904 by omega), ha, hb]
          refine hL _ ?_; clear hL L
          refine opsI_end fun L hL => ?_
          simp [C.spec_l8Gather, hk, qtS_0 hko, qtS_1 hko, qtS_2 hko, hqe, show ((0 : Int) < (q : Int) + 1) by omega, show ((q : Int) < (q : Int) + 1) by omega, qtO_0 hq, qtO_1 hq, wrap_nat (show q < 4611686018427387904 by omega), ha, hb]
          refine hL _ ?_; clear hL L
          simp [C.spec_l8Gather, hk, qtS_0 hko, qtS_1 hko, qtS_2 hko, hqe, show ((0 : Int) < (q : Int) + 1) by omega, show ((q : Int) < (q : Int) + 1) by omega, qtO_0 hq, qtO_1 hq, wrap_nat (show q < 4611686018427387904 by omega), ha, hb]
          refine cast (congrArg K ?_) hJ
          simp [List.getD_eq_getElem?_getD, hqe, List.getElem?_eq_getElem hq, hb, ha, hb]
        · obtain ⟨q, hqe⟩ : ∃ q, G.length = q + 1 := ⟨G.length - 1, by omega⟩
          have hq : q < G.length := by omega
          rw [hqe, show q + 1 - 1 = q by omega, getQ_at hq] at hb
          refine opsI_seg fun L hL => ?_
          simp [C.spec_l8Gather, hk, qtS_0 hko, qtS_1 hko, qtS_2 hko, hqe, show ((0 : Int) < (q : Int) + 1) by omega, show ((q : Int) < (q : Int) + 1) by omega, qtO_1 hq, wrap_nat (show q < 4611686018427387904 by omega), ha, hb]
          refine hL _ ?_; clear hL L
          refine opsI_end fun L hL => ?_
          simp [C.spec_l8Gather, hk, qtS_0 hko, qtS_1 hko, qtS_2 hko, hqe, show ((0 : Int) < (q : Int) + 1) by omega, show ((q : Int) < (q : Int) + 1) by omega, qtO_1 hq, wrap_nat (show q < 4611686018427387904 by omega), ha, hb]
          refine hL _ ?_; clear hL L
          simp [C.spec_l8Gather, hk, qtS_0 hko, qtS_1 hko, qtS_2 hko, hqe, show ((0 : Int) < (q : Int) + 1) by omega, show ((q : Int) < (q : Int) + 1) by omega, qtO_1 hq, wrap_nat (show q < 4611686018427387904 by omega), ha, hb]
          refine cast (congrArg K ?_) hJ
          simp [List.getD_eq_getElem?_getD, hqe, List.getElem?_eq_getElem hq, hb, ha, hb]
      · refine opsI_seg fun L hL => ?_
        simp [C.spec_l8Gather, hk, qtS_0 hko, qtS_1 hko, qtS_2 hko, ha]
        refine hL _ ?_; clear hL L
        refine opsI_end fun L hL => ?_
        simp [C.spec_l8Gather, hk, qtS_0 hko, qtS_1 hko, qtS_2 hko, ha]
        refine hL _ ?_; clear hL L
        simp [C.spec_l8Gather, hk, qtS_0 hko, qtS_1 hko, qtS_2 hko, ha]
        refine cast (congrArg K ?_) hJ
        simp [ha]
    · have hk : k = l.length := by have := d_f hc5; omega
      have hGT : G.map qp = T := by
        rw [← g3, hk, ← hol, List.drop_length]
        rfl
      have hfin : G.filter (fun t => t.c ≠ 0) = gaQ l := by
        rw [← hga, ← hGT, List.filter_map, map_qt]
        rfl
      refine wexit ?_
      show AWp _ _ _ _ _
      refine wseq ?_
      refine wreg fun K hK => ?_
      simp [C.spec_l8Gather]
      refine hK _ ?_; clear hK K
      show AWp _ _ _ _ _
      refine wseq ?_
      refine wseq ?_
      refine wreg fun K hK => ?_
      simp [C.spec_l8Gather]
      refine hK _ ?_; clear hK K
      show AWp _ _ _ _ _
      refine wblock ?_
      refine wloop (fun x : Nat × List Qtm => ⟨ofL [(11, .al (11, 0) [] 0 G.length), (14, .al (14, 0) [] 0 x.2.length), (15, .int x.1)], ofRO [((11, 0), some (.ow 3 G.length (mvS G x.1))), ((14, 0), some (.ow 3 x.2.length (rows qtO x.2)))]⟩) (fun x => x.1 ≤ G.length ∧ x.2.length ≤ x.1 ∧ x.2 = (G.take x.1).filter (fun t => t.c ≠ 0)) (fun x => G.length - x.1) (0, []) (by simp [C.spec_l8Gather, rows, mvS_zero]) ⟨by simp, by simp, by simp⟩ ?_
      intro x5 hx5 R5 hR5
      obtain ⟨k, L⟩ := x5
      obtain ⟨e1, e2, e3⟩ := hx5
      dsimp only at e1 e2 e3 ⊢
      refine wseq ?_
      refine wseq ?_
      refine wreg fun K hK => ?_
      simp [C.spec_l8Gather]
      refine hK _ ?_; clear hK K
      show AWp _ _ _ _ _
      refine wcond _ rfl (fun hc7 => ?_) (fun hc7 => ?_)
      · have hk2 : k < G.length := by have := d_t hc7; omega
        refine wskip ?_
        show AWp _ _ _ _ _
        refine wseq ?_
        refine wblock ?_
        refine wseq ?_
        refine wreg fun K hK => ?_
        simp [C.spec_l8Gather, hk2, mvS_2 hk2]
        refine hK _ ?_; clear hK K
        show AWp _ _ _ _ _
        refine wcond _ rfl (fun hc8 => ?_) (fun hc8 => ?_)
        · have hz : ¬ G[k].c = 0 := by simpa using hc8
          refine wreg fun K hK => ?_
          simp [C.spec_l8Gather, hk2, mvS_0 hk2, mvS_1 hk2, mvS_2 hk2, modify_const, mvS_move hk2 hz, qtO_snoc, show (L.length + 1) * 40 ≤ 140737488355328 by omega]
          refine hK _ ?_; clear hK K
          show AWp _ _ _ _ _
          refine wreg fun K hK => ?_
          simp [C.spec_l8Gather, wrap_succ (show k < 4611686018427387904 by omega)]
          refine hK _ ?_; clear hK K
          simp [C.spec_l8Gather]
          rw [show L.length + 1 = (L ++ [G[k]]).length by simp]
          refine hR5 (k + 1, L ++ [G[k]]) ⟨hk2, by dsimp only; simp; omega, ?_⟩ (by dsimp only; omega)
          dsimp only
          rw [List.take_succ_eq_append_getElem hk2, List.filter_append, ← e3]
          simp [hz]
        · have hz : G[k].c = 0 := by simpa using hc8
          refine wskip ?_
          show AWp _ _ _ _ _
          refine wreg fun K hK => ?_
          simp [C.spec_l8Gather, wrap_succ (show k < 4611686018427387904 by omega)]
          refine hK _ ?_; clear hK K
          simp [C.spec_l8Gather]
          rw [← mvS_stay hk2 hz]
          refine hR5 (k + 1, L) ⟨hk2, by dsimp only; omega, ?_⟩ (by dsimp only; omega)
          dsimp only
          rw [List.take_succ_eq_append_getElem hk2, List.filter_append, ← e3]
          simp [hz]
      · have hk2 : k = G.length := by have := d_f hc7; omega
        have hL : L = gaQ l := by rw [e3, hk2, List.take_length]; exact hfin
        refine wexit ?_
        show AWp _ _ _ _ _
        refine wseq ?_
        refine wreg fun K hK => ?_
        simp [C.spec_l8Gather]
        refine hK _ ?_; clear hK K
        show AWp _ _ _ _ _
        refine wret ?_
        simp [C.spec_l8Gather, hL]

end Go.Proofs.Ytdgeponcnlkaiaa.Ab
namespace Go.Proofs.Ytdgeponcnlkaiaa.Ab
open Go
set_option linter.unusedSimpArgs false
set_option linter.unusedVariables false
set_option maxRecDepth 10000
set_option maxHeartbeats 2000000
theorem spec_QSumOk_calls (f : Qsm) (hx : f.ts.length < 4611686018427387904) (hxe : ∀ t ∈ f.ts, t.e.length < 4611686018427387904) : ACalls Try.prog F.spec_QSumOk [aQ f] [] true (fun outs res => outs = [] ∧ res = [.one (D.bool (decide (QRight f)))]) := by
  refine ACalls.of_body (C := C.spec_QSumOk) (n := Try.f120.ntmps) tabT folT Try.func120 rfl (by kernel_rfl) rfl (Nat.le_of_ble_eq_true rfl) (by decide) (by kernel_rfl) (by kernel_rfl) rfl (by simp) (by simp) ?_
  simp only [Try.f120]
  refine wseq ?_
  refine wreg fun K hK => ?_
  simp [C.spec_QSumOk, qS, qtS]
  refine hK _ ?_; clear hK K
  show AWp _ _ _ _ _
  refine wseq ?_
  refine wseq ?_
  refine wregI ([0, 1, 2] ++ ([3, 4, 5, 6, 7, 8, 9])) rfl fun K hK => ?_
  have hJ : K ⟨ofL [(1, .pt (1, 0) [] 0), (15, .bool (decide (¬ (1 ≤ f.v ∧ f.v ≤ 8) ∨ 600 < (f.ts.length : Int))))], ofRO [((1, 0), some (.bx (qS f)))]⟩ := by
    refine hK _ ?_; clear hK K
    show AWp _ _ _ _ _
    refine wcond _ rfl (fun hc1 => ?_) (fun hc1 => ?_)
    · have hh := d_t hc1
      refine wseq ?_
      refine wreg fun K hK => ?_
      simp [C.spec_QSumOk, qS, qtS]
      refine hK _ ?_; clear hK K
      show AWp _ _ _ _ _
      refine wret ?_
      simp [C.spec_QSumOk, qS, qtS]
      intro hr; have := hr.1; have := hr.2.1; omega
    · have hh0 := d_f hc1
      have hh : (1 ≤ f.v ∧ f.v ≤ 8) ∧ f.ts.length ≤ 600 := by omega
      refine wskip ?_
      show AWp _ _ _ _ _
      refine wseq ?_
      refine wseq ?_
      refine wreg fun K hK => ?_
      simp [C.spec_QSumOk, qS, qtS]
      refine hK _ ?_; clear hK K
      show AWp _ _ _ _ _
      refine wblock ?_
      refine wloop (fun k : Nat => ⟨ofL [(1, .pt (1, 0) [] 0), (3, .int k)], ofRO [((1, 0), some (.bx (qS f)))]⟩) (fun k => k ≤ f.ts.length ∧ (∀ t ∈ f.ts.take k, QGood f.v t) ∧ DescQ (f.ts.take k)) (fun k => f.ts.length - k) 0 (by simp [C.spec_QSumOk, qS]) (by simp [DescQ]) ?_
      intro x1 hx1 R1 hR1
      obtain ⟨hk, hgood, hdesc⟩ := hx1
      refine wseq ?_
      refine wseq ?_
      refine wreg fun K hK => ?_
      simp [C.spec_QSumOk, qS, qtS]
      refine hK _ ?_; clear hK K
      show AWp _ _ _ _ _
      refine wcond _ rfl (fun hc2 => ?_) (fun hc2 => ?_)
      · have h1 : x1 < f.ts.length := by simpa using hc2
        refine wskip ?_
        show AWp _ _ _ _ _
        refine wseq ?_
        refine wblock ?_
        refine wseq ?_
        refine wreg fun K hK => ?_
        simp [C.spec_QSumOk, qS, qtS, h1, qtS_0 h1, qtS_1 h1, qtS_2 h1]
        refine hK _ ?_; clear hK K
        show AWp _ _ _ _ _
        refine wseq ?_
        refine wseq ?_
        have hp : 0 < x1 → x1 - 1 < f.ts.length := by omega
        refine wdrawI [(true, 0), (true, 1), (true, 2), (true, 3), (true, 4), (true, 5), (true, 6), (true, 7), (true, 8), (true, 9), (true, 10), (true, 11), (true, 12), (true, 13), (false, 14), (true, 15), (true, 16), (true, 17), (true, 18), (true, 19), (false, 20), (true, 21), (true, 22), (true, 23), (true, 24), (true, 25), (true, 26), (true, 27), (true, 28), (true, 29), (true, 30), (true, 31), (true, 32), (true, 33), (false, 34), (true, 35), (true, 36), (true, 37)] ⟨by kernel_rfl, by kernel_rfl⟩ ([0, 1, 2, 3, 4, 5, 6, 7, 8, 9, 10, 11, 12, 13, 14] ++ ([15, 16, 17, 18, 19, 20] ++ ([21, 22, 23, 24, 25, 26, 27, 28, 29, 30, 31, 32, 33, 34] ++ ([35, 36, 37])))) rfl fun K hK => ?_
        have hJ : K ⟨ofL [(1, .pt (1, 0) [] 0), (3, .int x1), (4, .pt (4, 0) [] 0), (65, .bool (!decide ((f.ts[x1].e.length : Int) = f.v ∧ f.ts[x1].c ≠ 0 ∧ (-1000000 ≤ f.ts[x1].c ∧ f.ts[x1].c ≤ 1000000) ∧ (-200 ≤ f.ts[x1].h ∧ f.ts[x1].h ≤ 200) ∧ (x1 = 0 ∨ qlt (qk f.ts[x1]) (qk f.ts[x1 - 1]) = true))))], ofRO [((1, 0), some (.bx (qS f))), ((4, 0), some (.bx (qtS f.ts[x1])))]⟩ := by
          refine hK _ ?_; clear hK K
          show AWp _ _ _ _ _
          refine wcond _ rfl (fun hc3 => ?_) (fun hc3 => ?_)
          · have hb := nd_t hc3
            refine wseq ?_
            refine wreg fun K hK => ?_
            simp [C.spec_QSumOk, qS, qtS]
            refine hK _ ?_; clear hK K
            show AWp _ _ _ _ _
            refine wret ?_
            simp [C.spec_QSumOk, qS, qtS]
            intro hr
            have hg := hr.2.2.1 _ (List.getElem_mem h1)
            exact hb ⟨hg.1, hg.2.1, hg.2.2.1, hg.2.2.2.1, descQ_next h1 hr.2.2.2⟩
          · have hb := nd_f hc3
            refine wskip ?_
            show AWp _ _ _ _ _
            refine wseq ?_
            refine wreg fun K hK => ?_
            simp [C.spec_QSumOk, qS, qtS]
            refine hK _ ?_; clear hK K
            show AWp _ _ _ _ _
            refine wblock ?_
            refine wloop (fun i : Nat => ⟨ofL [(1, .pt (1, 0) [] 0), (3, .int x1), (4, .pt (4, 0) [] 0), (5, .int i)], ofRO [((1, 0), some (.bx (qS f))), ((4, 0), some (.bx (qtS f.ts[x1])))]⟩) (fun i => i ≤ f.ts[x1].e.length ∧ ∀ x ∈ f.ts[x1].e.take i, -20 ≤ x ∧ x ≤ 20) (fun i => f.ts[x1].e.length - i) 0 (by simp [C.spec_QSumOk, qS, qtS]) (by simp) ?_
            intro x2 hx2 R2 hR2
            obtain ⟨hi, hin⟩ := hx2
            refine wseq ?_
            refine wseq ?_
            refine wreg fun K hK => ?_
            simp [C.spec_QSumOk, qS, qtS]
            refine hK _ ?_; clear hK K
            show AWp _ _ _ _ _
            refine wcond _ rfl (fun hc4 => ?_) (fun hc4 => ?_)
            · have h2 : x2 < f.ts[x1].e.length := by have := d_t hc4; omega
              refine wskip ?_
              show AWp _ _ _ _ _
              refine wseq ?_
              refine wblock ?_
              refine wseq ?_
              refine wregI ([0, 1, 2, 3, 4, 5] ++ ([6])) rfl fun K hK => ?_
              refine opsI_seg fun L hL => ?_
              simp [C.spec_QSumOk, qS, qtS, h1, h2, get_ints]
              refine wcall1 (spec_l1In_calls f.ts[x1].e[x2] (-20) 20) (by simp) (by simp) ?_
              simp [C.spec_QSumOk, qS, qtS, h1, h2, get_ints]
              refine hL _ ?_; clear hL L
              refine opsI_end fun L hL => ?_
              simp [C.spec_QSumOk, qS, qtS, h1, h2, get_ints]
              refine hL _ ?_; clear hL L
              simp [C.spec_QSumOk, qS, qtS, h1, h2, get_ints]
              refine hK _ ?_; clear hK K
              show AWp _ _ _ _ _
              refine wcond _ rfl (fun hc5 => ?_) (fun hc5 => ?_)
              · have hb2 : ¬ (-20 ≤ f.ts[x1].e[x2] ∧ f.ts[x1].e[x2] ≤ 20) := by simp at hc5; omega
                refine wseq ?_
                refine wreg fun K hK => ?_
                simp [C.spec_QSumOk, qS, qtS]
                refine hK _ ?_; clear hK K
                show AWp _ _ _ _ _
                refine wret ?_
                simp [C.spec_QSumOk, qS, qtS]
                intro hr
                exact hb2 ((hr.2.2.1 _ (List.getElem_mem h1)).2.2.2.2 _ (List.getElem_mem h2))
              · have hb2 : -20 ≤ f.ts[x1].e[x2] ∧ f.ts[x1].e[x2] ≤ 20 := by simpa using hc5
                refine wskip ?_
                show AWp _ _ _ _ _
                refine wreg fun K hK => ?_
                simp [C.spec_QSumOk, qS, qtS, wrap_succ (show x2 < 4611686018427387904 by have := hxe _ (List.getElem_mem h1); omega)]
                refine hK _ ?_; clear hK K
                simp [C.spec_QSumOk, qS, qtS]
                refine hR2 (x2 + 1) ⟨h2, ?_⟩ (by omega)
                rw [List.take_succ_eq_append_getElem h2]
                intro x hx
                rcases List.mem_append.1 hx with hx | hx
                · exact hin x hx
                · simp only [List.mem_singleton] at hx
                  rw [hx]
                  exact hb2
            · have h2 : x2 = f.ts[x1].e.length := by have := d_f hc4; omega
              refine wexit ?_
              show AWp _ _ _ _ _
              refine wreg fun K hK => ?_
              simp [C.spec_QSumOk, qS, qtS, wrap_succ (show x1 < 4611686018427387904 by omega)]
              refine hK _ ?_; clear hK K
              simp [C.spec_QSumOk, qS, qtS]
              refine hR1 (x1 + 1) ⟨h1, ?_, descQ_step h1 hdesc hb.2.2.2.2⟩ (by omega)
              rw [List.take_succ_eq_append_getElem h1]
              intro t ht
              rcases List.mem_append.1 ht with ht | ht
              · exact hgood t ht
              · simp only [List.mem_singleton] at ht
                rw [ht]
                refine ⟨hb.1, hb.2.1, hb.2.2.1, hb.2.2.2.1, ?_⟩
                rw [h2, List.take_length] at hin
                exact hin
        clear hK
        by_cases ha : (f.ts[x1].e.length : Int) = f.v
        · by_cases hb : f.ts[x1].c = 0
          · refine opsI_seg fun L hL => ?_
            simp [C.spec_QSumOk, qS, qtS, ha, hb]
            refine hL _ ?_; clear hL L
            refine opsI_seg fun L hL => ?_
            simp [C.spec_QSumOk, qS, qtS, ha, hb]
            refine hL _ ?_; clear hL L
            refine opsI_seg fun L hL => ?_
            simp [C.spec_QSumOk, qS, qtS, ha, hb]
            refine hL _ ?_; clear hL L
            refine opsI_end fun L hL => ?_
            simp [C.spec_QSumOk, qS, qtS, ha, hb]
            refine hL _ ?_; clear hL L
            simp [C.spec_QSumOk, qS, qtS, ha, hb]
            refine cast (congrArg K ?_) hJ
            simp [qS, qtS, ha, hb]
          · by_cases hc : -1000000 ≤ f.ts[x1].c ∧ f.ts[x1].c ≤ 1000000
            · by_cases he : -200 ≤ f.ts[x1].h ∧ f.ts[x1].h ≤ 200
              · by_cases hd : 0 < x1
                · obtain ⟨m, rfl⟩ : ∃ m, x1 = m + 1 := ⟨x1 - 1, by omega⟩
                  have hm : m < f.ts.length := by omega
                  refine opsI_seg fun L hL => ?_
                  simp [C.spec_QSumOk, qS, qtS, hm, qtS_0 hm, qtS_1 hm, qtS_2 hm, wrap_nat (show m < 4611686018427387904 by omega), ha, hb, hc, he, hd]
                  refine wcall1 (spec_l1In_calls f.ts[m + 1].c (-1000000) 1000000) (by simp) (by simp) ?_
                  simp [C.spec_QSumOk, qS, qtS, hm, qtS_0 hm, qtS_1 hm, qtS_2 hm, wrap_nat (show m < 4611686018427387904 by omega), ha, hb, hc, he, hd]
                  refine hL _ ?_; clear hL L
                  refine opsI_seg fun L hL => ?_
                  simp [C.spec_QSumOk, qS, qtS, hm, qtS_0 hm, qtS_1 hm, qtS_2 hm, wrap_nat (show m < 4611686018427387904 by omega), ha, hb, hc, he, hd]
                  refine wcall1 (spec_l1In_calls f.ts[m + 1].h (-200) 200) (by simp) (by simp) ?_
                  simp [C.spec_QSumOk, qS, qtS, hm, qtS_0 hm, qtS_1 hm, qtS_2 hm, wrap_nat (show m < 4611686018427387904 by omega), ha, hb, hc, he, hd]
                  refine hL _ ?_; clear hL L
                  refine opsI_seg fun L hL => ?_
                  simp [C.spec_QSumOk, qS, qtS, hm, qtS_0 hm, qtS_1 hm, qtS_2 hm, wrap_nat (show m < 4611686018427387904 by omega), ha, hb, hc, he, hd]
                  refine wcall1 (spec_l8Less_calls f.ts[m] f.ts[m + 1] (hxe _ (List.getElem_mem hm)) (hxe _ (List.getElem_mem h1))) (by simp) (by simp) ?_
                  simp [C.spec_QSumOk, qS, qtS, hm, qtS_0 hm, qtS_1 hm, qtS_2 hm, wrap_nat (show m < 4611686018427387904 by omega), ha, hb, hc, he, hd]
                  refine hL _ ?_; clear hL L
                  refine opsI_end fun L hL => ?_
                  simp [C.spec_QSumOk, qS, qtS, hm, qtS_0 hm, qtS_1 hm, qtS_2 hm, wrap_nat (show m < 4611686018427387904 by omega), ha, hb, hc, he, hd]
                  refine hL _ ?_; clear hL L
                  simp [C.spec_QSumOk, qS, qtS, hm, qtS_0 hm, qtS_1 hm, qtS_2 hm, wrap_nat (show m < 4611686018427387904 by omega), ha, hb, hc, he, hd]
                  refine cast (congrArg K ?_) hJ
                  simp [qS, qtS, ha, hb, hc, he, hd]
                · obtain rfl : x1 = 0 := by omega
                  refine opsI_seg fun L hL => ?_
                  simp [C.spec_QSumOk, qS, qtS, ha, hb, hc, he, hd]
                  refine wcall1 (spec_l1In_calls f.ts[0].c (-1000000) 1000000) (by simp) (by simp) ?_
                  simp [C.spec_QSumOk, qS, qtS, ha, hb, hc, he, hd]
                  refine hL _ ?_; clear hL L
                  refine opsI_seg fun L hL => ?_
                  simp [C.spec_QSumOk, qS, qtS, ha, hb, hc, he, hd]
                  refine wcall1 (spec_l1In_calls f.ts[0].h (-200) 200) (by simp) (by simp) ?_
                  simp [C.spec_QSumOk, qS, qtS, ha, hb, hc, he, hd]
                  refine hL _ ?_; clear hL L
                  refine opsI_seg fun L hL => ?_
                  simp [C.spec_QSumOk, qS, qtS, ha, hb, hc, he, hd]
                  refine hL _ ?_; clear hL L
                  refine opsI_end fun L hL => ?_
                  simp [C.spec_QSumOk, qS, qtS, ha, hb, hc, he, hd]
                  refine hL _ ?_; clear hL L
                  simp [C.spec_QSumOk, qS, qtS, ha, hb, hc, he, hd]
                  refine cast (congrArg K ?_) hJ
                  simp [qS, qtS, ha, hb, hc, he, hd]
              · refine opsI_seg fun L hL => ?_
                simp [C.spec_QSumOk, qS, qtS, ha, hb, hc, he]
                refine wcall1 (spec_l1In_calls f.ts[x1].c (-1000000) 1000000) (by simp) (by simp) ?_
                simp [C.spec_QSumOk, qS, qtS, ha, hb, hc, he]
                refine hL _ ?_; clear hL L
                refine opsI_seg fun L hL => ?_
                simp [C.spec_QSumOk, qS, qtS, ha, hb, hc, he]
                refine wcall1 (spec_l1In_calls f.ts[x1].h (-200) 200) (by simp) (by simp) ?_
                simp [C.spec_QSumOk, qS, qtS, ha, hb, hc, he]
                refine hL _ ?_; clear hL L
                refine opsI_seg fun L hL => ?_
                simp [C.spec_QSumOk, qS, qtS, ha, hb, hc, he]
                refine hL _ ?_; clear hL L
                refine opsI_end fun L hL => ?_
                simp [C.spec_QSumOk, qS, qtS, ha, hb, hc, he]
                refine hL _ ?_; clear hL L
                simp [C.spec_QSumOk, qS, qtS, ha, hb, hc, he]
                refine cast (congrArg K ?_) hJ
                simp [qS, qtS, ha, hb, hc, he]
            · refine opsI_seg fun L hL => ?_
              simp [C.spec_QSumOk, qS, qtS, ha, hb, hc]
              refine wcall1 (spec_l1In_calls f.ts[x1].c (-1000000) 1000000) (by simp) (by simp) ?_
              simp [C.spec_QSumOk, qS, qtS, ha, hb, hc]
              refine hL _ ?_; clear hL L
              refine opsI_seg fun L hL => ?_
              simp [C.spec_QSumOk, qS, qtS, ha, hb, hc]
              refine hL _ ?_; clear hL L
              refine opsI_seg fun L hL => ?_
              simp [C.spec_QSumOk, qS, qtS, ha, hb, hc]
              refine hL _ ?_; clear hL L
              refine opsI_end fun L hL => ?_
              simp [C.spec_QSumOk, qS, qtS, ha, hb, hc]
              refine hL _ ?_; clear hL L
              simp [C.spec_QSumOk, qS, qtS, ha, hb, hc]
              refine cast (congrArg K ?_) hJ
              simp [qS, qtS, ha, hb, hc]
        · refine opsI_seg fun L hL => ?_
          simp [C.spec_QSumOk, qS, qtS, ha]
          refine hL _ ?_; clear hL L
          refine opsI_seg fun L hL => ?_
          simp [C.spec_QSumOk, qS, qtS, ha]
          refine hL _ ?_; clear hL L
          refine opsI_seg fun L hL => ?_
          simp [C.spec_QSumOk, qS, qtS, ha]
          refine hL _ ?_; clear hL L
          refine opsI_end fun L hL => ?_
          simp [C.spec_QSumOk, qS, qtS, ha]
          refine hL _ ?_; clear hL L
          simp [C.spec_QSumOk, qS, qtS, ha]
          refine cast (congrArg K ?_) hJ
          simp [qS, qtS, ha]
      · have h2 : x1 = f.ts.length := by have := d_f hc2; omega
        refine wexit ?_
        show AWp _ _ _ _ _
        refine wseq ?_
        refine wreg fun K hK => ?_
        simp [C.spec_QSumOk, qS, qtS]
        refine hK _ ?_; clear hK K
        show AWp _ _ _ _ _
        refine wret ?_
        simp [C.spec_QSumOk, qS, qtS]
        rw [h2, List.take_length] at hgood hdesc
        exact ⟨hh.1, hh.2, hgood, hdesc⟩
  clear hK
  by_cases ha : 1 ≤ f.v ∧ f.v ≤ 8
  · refine opsI_seg fun L hL => ?_
    simp [C.spec_QSumOk, qS, qtS, ha]
    refine wcall1 (spec_l1In_calls f.v 1 8) (by simp) (by simp) ?_
    simp [C.spec_QSumOk, qS, qtS, ha]
    refine hL _ ?_; clear hL L
    refine opsI_end fun L hL => ?_
    simp [C.spec_QSumOk, qS, qtS, ha]
    refine hL _ ?_; clear hL L
    simp [C.spec_QSumOk, qS, qtS, ha]
    refine cast (congrArg K ?_) hJ
    simp [qS, qtS, ha]
  · refine opsI_seg fun L hL => ?_
    simp [C.spec_QSumOk, qS, qtS, ha]
    refine wcall1 (spec_l1In_calls f.v 1 8) (by simp) (by simp) ?_
    simp [C.spec_QSumOk, qS, qtS, ha]
    refine hL _ ?_; clear hL L
    refine opsI_end fun L hL => ?_
    simp [C.spec_QSumOk, qS, qtS, ha]
    refine hL _ ?_; clear hL L
    simp [C.spec_QSumOk, qS, qtS, ha]
    refine cast (congrArg K ?_) hJ
    simp [qS, qtS, ha]

theorem impl_QSumOk_calls (f : Qsm) (hx : f.ts.length < 4611686018427387904) (hxe : ∀ t ∈ f.ts, t.e.length < 4611686018427387904) : ACalls Try.prog F.impl_QSumOk [aQ f] [] true (fun outs res => outs = [] ∧ res = [.one (D.bool (decide (QRight f)))]) := by
  refine ACalls.of_body (C := C.impl_QSumOk) (n := Try.f124.ntmps) tabT folT Try.func124 rfl (by kernel_rfl) rfl (Nat.le_of_ble_eq_true rfl) (by decide) (by kernel_rfl) (by kernel_rfl) rfl (by simp) (by simp) ?_
  simp only [Try.f124]
  refine wseq ?_
  refine wreg fun K hK => ?_
  simp [C.impl_QSumOk, qS, qtS]
  refine hK _ ?_; clear hK K
  show AWp _ _ _ _ _
  refine wseq ?_
  refine wseq ?_
  refine wregI ([0, 1, 2] ++ ([3, 4, 5, 6, 7, 8, 9])) rfl fun K hK => ?_
  have hJ : K ⟨ofL [(1, .pt (1, 0) [] 0), (14, .bool (decide (¬ (1 ≤ f.v ∧ f.v ≤ 8) ∨ 600 < (f.ts.length : Int))))], ofRO [((1, 0), some (.bx (qS f)))]⟩ := by
    refine hK _ ?_; clear hK K
    show AWp _ _ _ _ _
    refine wcond _ rfl (fun hc1 => ?_) (fun hc1 => ?_)
    · have hh := d_t hc1
      refine wseq ?_
      refine wreg fun K hK => ?_
      simp [C.impl_QSumOk, qS, qtS]
      refine hK _ ?_; clear hK K
      show AWp _ _ _ _ _
      refine wret ?_
      simp [C.impl_QSumOk, qS, qtS]
      intro hr; have := hr.1; have := hr.2.1; omega
    · have hh0 := d_f hc1
      have hh : (1 ≤ f.v ∧ f.v ≤ 8) ∧ f.ts.length ≤ 600 := by omega
      refine wskip ?_
      show AWp _ _ _ _ _
      refine wseq ?_
      refine wseq ?_
      refine wreg fun K hK => ?_
      simp [C.impl_QSumOk, qS, qtS]
      refine hK _ ?_; clear hK K
      show AWp _ _ _ _ _
      refine wblock ?_
      refine wloop (fun k : Nat => ⟨ofL [(1, .pt (1, 0) [] 0), (16, .d (.sh 3 f.ts.length (rows qtS f.ts))), (17, .int f.ts.length), (18, .int k)], ofRO [((1, 0), some (.bx (qS f)))]⟩) (fun k => k ≤ f.ts.length ∧ (∀ t ∈ f.ts.take k, QGood f.v t) ∧ DescQ (f.ts.take k)) (fun k => f.ts.length - k) 0 (by simp [C.impl_QSumOk, qS]) (by simp [DescQ]) ?_
      intro x1 hx1 R1 hR1
      obtain ⟨hk, hgood, hdesc⟩ := hx1
      refine wseq ?_
      refine wreg fun K hK => ?_
      simp [C.impl_QSumOk, qS, qtS]
      refine hK _ ?_; clear hK K
      show AWp _ _ _ _ _
      refine wseq ?_
      refine wcond _ rfl (fun hc2 => ?_) (fun hc2 => ?_)
      · have h1 : x1 < f.ts.length := by have := d_t hc2; omega
        refine wskip ?_
        show AWp _ _ _ _ _
        refine wseq ?_
        refine wblock ?_
        refine wseq ?_
        refine wreg fun K hK => ?_
        simp [C.impl_QSumOk, qS, qtS, h1, qtS_0 h1, qtS_1 h1, qtS_2 h1]
        refine hK _ ?_; clear hK K
        show AWp _ _ _ _ _
        refine wseq ?_
        refine wseq ?_
        refine wregI ([0, 1, 2, 3, 4] ++ ([5, 6, 7, 8, 9] ++ ([10, 11, 12, 13, 14, 15] ++ ([16, 17])))) rfl fun K hK => ?_
        have hJ : K ⟨ofL [(1, .pt (1, 0) [] 0), (3, .int x1), (4, .pt (4, 0) [] 0), (16, .d (.sh 3 f.ts.length (rows qtS f.ts))), (17, .int f.ts.length), (18, .int x1), (40, .bool (!decide (okE f.ts[x1].e f.v = true ∧ (-200 ≤ f.ts[x1].h ∧ f.ts[x1].h ≤ 200) ∧ (f.ts[x1].c ≠ 0 ∧ -1000000 ≤ f.ts[x1].c ∧ f.ts[x1].c ≤ 1000000))))], ofRO [((1, 0), some (.bx (qS f))), ((4, 0), some (.bx (qtS f.ts[x1])))]⟩ := by
          refine hK _ ?_; clear hK K
          show AWp _ _ _ _ _
          refine wcond _ rfl (fun hc3 => ?_) (fun hc3 => ?_)
          · have hb := nd_t hc3
            refine wseq ?_
            refine wreg fun K hK => ?_
            simp [C.impl_QSumOk, qS, qtS]
            refine hK _ ?_; clear hK K
            show AWp _ _ _ _ _
            refine wret ?_
            simp [C.impl_QSumOk, qS, qtS]
            intro hr
            have hg := hr.2.2.1 _ (List.getElem_mem h1)
            exact hb ⟨okE_iff.2 ⟨hg.1, hg.2.2.2.2⟩, hg.2.2.2.1, hg.2.1, hg.2.2.1⟩
          · have hb := nd_f hc3
            refine wskip ?_
            show AWp _ _ _ _ _
            refine wseq ?_
            have hp : 0 < x1 → x1 - 1 < f.ts.length := by omega
            refine wdrawI [(true, 0), (true, 1), (true, 2), (true, 3), (true, 4), (true, 5), (true, 6), (true, 7), (true, 8), (true, 9), (true, 10), (true, 11), (true, 12), (true, 13), (true, 14), (true, 15), (true, 16), (true, 17), (true, 18), (true, 19), (true, 20), (false, 21), (true, 22), (true, 23)] ⟨by kernel_rfl, by kernel_rfl⟩ ([0, 1, 2, 3, 4, 5, 6, 7, 8, 9, 10, 11, 12, 13, 14, 15, 16, 17, 18, 19, 20, 21] ++ ([22, 23])) rfl fun K hK => ?_
            have hJ : K ⟨ofL [(1, .pt (1, 0) [] 0), (16, .d (.sh 3 f.ts.length (rows qtS f.ts))), (17, .int f.ts.length), (18, .int x1), (64, .bool (!decide (x1 = 0 ∨ qlt (qk f.ts[x1]) (qk f.ts[x1 - 1]) = true)))], ofRO [((1, 0), some (.bx (qS f)))]⟩ := by
              refine hK _ ?_; clear hK K
              show AWp _ _ _ _ _
              refine wcond _ rfl (fun hc4 => ?_) (fun hc4 => ?_)
              · have hb2 := nd_t hc4
                refine wseq ?_
                refine wreg fun K hK => ?_
                simp [C.impl_QSumOk, qS, qtS]
                refine hK _ ?_; clear hK K
                show AWp _ _ _ _ _
                refine wret ?_
                simp [C.impl_QSumOk, qS, qtS]
                intro hr
                exact hb2 (descQ_next h1 hr.2.2.2)
              · have hb2 := nd_f hc4
                refine wskip ?_
                show AWp _ _ _ _ _
                refine wreg fun K hK => ?_
                simp [C.impl_QSumOk, qS, qtS, wrap_succ (show x1 < 4611686018427387904 by omega)]
                refine hK _ ?_; clear hK K
                simp [C.impl_QSumOk, qS, qtS]
                refine hR1 (x1 + 1) ⟨h1, ?_, descQ_step h1 hdesc hb2⟩ (by omega)
                rw [List.take_succ_eq_append_getElem h1]
                intro t ht
                rcases List.mem_append.1 ht with ht | ht
                · exact hgood t ht
                · simp only [List.mem_singleton] at ht
                  rw [ht]
                  have ho := okE_iff.1 hb.1
                  exact ⟨ho.1, hb.2.2.1, hb.2.2.2, hb.2.1, ho.2⟩
            clear hK
            by_cases hd : 0 < x1
            · obtain ⟨m, rfl⟩ : ∃ m, x1 = m + 1 := ⟨x1 - 1, by omega⟩
              have hm : m < f.ts.length := by omega
              refine opsI_seg fun L hL => ?_
              simp [C.impl_QSumOk, qS, qtS, hm, qtS_0 hm, qtS_1 hm, qtS_2 hm, wrap_nat (show m < 4611686018427387904 by omega), hd]
              refine wcall1 (impl_descending_calls f.ts[m].e f.ts[m].h f.ts[m + 1].e f.ts[m + 1].h (hxe _ (List.getElem_mem h1))) (by simp) (by simp) ?_
              simp [C.impl_QSumOk, qS, qtS, hm, qtS_0 hm, qtS_1 hm, qtS_2 hm, wrap_nat (show m < 4611686018427387904 by omega), hd]
              refine hL _ ?_; clear hL L
              refine opsI_end fun L hL => ?_
              simp [C.impl_QSumOk, qS, qtS, hm, qtS_0 hm, qtS_1 hm, qtS_2 hm, wrap_nat (show m < 4611686018427387904 by omega), hd]
              refine hL _ ?_; clear hL L
              simp [C.impl_QSumOk, qS, qtS, hm, qtS_0 hm, qtS_1 hm, qtS_2 hm, wrap_nat (show m < 4611686018427387904 by omega), hd]
              refine cast (congrArg K ?_) hJ
              simp [cmpQ_pos, qk, qS, qtS, hd]
            · obtain rfl : x1 = 0 := by omega
              refine opsI_seg fun L hL => ?_
              simp [C.impl_QSumOk, qS, qtS, hd]
              refine hL _ ?_; clear hL L
              refine opsI_end fun L hL => ?_
              simp [C.impl_QSumOk, qS, qtS, hd]
              refine hL _ ?_; clear hL L
              simp [C.impl_QSumOk, qS, qtS, hd]
              refine cast (congrArg K ?_) hJ
              simp [qS, qtS, hd]
        clear hK
        by_cases ha : okE f.ts[x1].e f.v = true
        · by_cases he : -200 ≤ f.ts[x1].h ∧ f.ts[x1].h ≤ 200
          · refine opsI_seg fun L hL => ?_
            simp [C.impl_QSumOk, qS, qtS, ha, he]
            refine wcall1 (impl_expOk_calls f.ts[x1].e f.v (hxe _ (List.getElem_mem h1))) (by simp) (by simp) ?_
            simp [C.impl_QSumOk, qS, qtS, ha, he]
            refine hL _ ?_; clear hL L
            refine opsI_seg fun L hL => ?_
            simp [C.impl_QSumOk, qS, qtS, ha, he]
            refine wcall1 (impl_within_calls f.ts[x1].h (-200) 200) (by simp) (by simp) ?_
            simp [C.impl_QSumOk, qS, qtS, ha, he]
            refine hL _ ?_; clear hL L
            refine opsI_seg fun L hL => ?_
            simp [C.impl_QSumOk, qS, qtS, ha, he]
            refine wcall1 (impl_coefOk_calls f.ts[x1].c) (by simp) (by simp) ?_
            simp [C.impl_QSumOk, qS, qtS, ha, he]
            refine hL _ ?_; clear hL L
            refine opsI_end fun L hL => ?_
            simp [C.impl_QSumOk, qS, qtS, ha, he]
            refine hL _ ?_; clear hL L
            simp [C.impl_QSumOk, qS, qtS, ha, he]
            refine cast (congrArg K ?_) hJ
            simp [qS, qtS, ha, he]
          · refine opsI_seg fun L hL => ?_
            simp [C.impl_QSumOk, qS, qtS, ha, he]
            refine wcall1 (impl_expOk_calls f.ts[x1].e f.v (hxe _ (List.getElem_mem h1))) (by simp) (by simp) ?_
            simp [C.impl_QSumOk, qS, qtS, ha, he]
            refine hL _ ?_; clear hL L
            refine opsI_seg fun L hL => ?_
            simp [C.impl_QSumOk, qS, qtS, ha, he]
            refine wcall1 (impl_within_calls f.ts[x1].h (-200) 200) (by simp) (by simp) ?_
            simp [C.impl_QSumOk, qS, qtS, ha, he]
            refine hL _ ?_; clear hL L
            refine opsI_seg fun L hL => ?_
            simp [C.impl_QSumOk, qS, qtS, ha, he]
            refine hL _ ?_; clear hL L
            refine opsI_end fun L hL => ?_
            simp [C.impl_QSumOk, qS, qtS, ha, he]
            refine hL _ ?_; clear hL L
            simp [C.impl_QSumOk, qS, qtS, ha, he]
            refine cast (congrArg K ?_) hJ
            simp [qS, qtS, ha, he]
        · refine opsI_seg fun L hL => ?_
          simp [C.impl_QSumOk, qS, qtS, ha]
          refine wcall1 (impl_expOk_calls f.ts[x1].e f.v (hxe _ (List.getElem_mem h1))) (by simp) (by simp) ?_
          simp [C.impl_QSumOk, qS, qtS, ha]
          refine hL _ ?_; clear hL L
          refine opsI_seg fun L hL => ?_
          simp [C.impl_QSumOk, qS, qtS, ha]
          refine hL _ ?_; clear hL L
          refine opsI_seg fun L hL => ?_
          simp [C.impl_QSumOk, qS, qtS, ha]
          refine hL _ ?_; clear hL L
          refine opsI_end fun L hL => ?_
          simp [C.impl_QSumOk, qS, qtS, ha]
          refine hL _ ?_; clear hL L
          simp [C.impl_QSumOk, qS, qtS, ha]
          refine cast (congrArg K ?_) hJ
          simp [qS, qtS, ha]
      · have h2 : x1 = f.ts.length := by have := d_f hc2; omega
        refine wexit ?_
        show AWp _ _ _ _ _
        refine wseq ?_
        refine wreg fun K hK => ?_
        simp [C.impl_QSumOk, qS, qtS]
        refine hK _ ?_; clear hK K
        show AWp _ _ _ _ _
        refine wret ?_
        simp [C.impl_QSumOk, qS, qtS]
        rw [h2, List.take_length] at hgood hdesc
        exact ⟨hh.1, hh.2, hgood, hdesc⟩
  clear hK
  by_cases ha : 1 ≤ f.v ∧ f.v ≤ 8
  · refine opsI_seg fun L hL => ?_
    simp [C.impl_QSumOk, qS, qtS, ha]
    refine wcall1 (impl_within_calls f.v 1 8) (by simp) (by simp) ?_
    simp [C.impl_QSumOk, qS, qtS, ha]
    refine hL _ ?_; clear hL L
    refine opsI_end fun L hL => ?_
    simp [C.impl_QSumOk, qS, qtS, ha]
    refine hL _ ?_; clear hL L
    simp [C.impl_QSumOk, qS, qtS, ha]
    refine cast (congrArg K ?_) hJ
    simp [qS, qtS, ha]
  · refine opsI_seg fun L hL => ?_
    simp [C.impl_QSumOk, qS, qtS, ha]
    refine wcall1 (impl_within_calls f.v 1 8) (by simp) (by simp) ?_
    simp [C.impl_QSumOk, qS, qtS, ha]
    refine hL _ ?_; clear hL L
    refine opsI_end fun L hL => ?_
    simp [C.impl_QSumOk, qS, qtS, ha]
    refine hL _ ?_; clear hL L
    simp [C.impl_QSumOk, qS, qtS, ha]
    refine cast (congrArg K ?_) hJ
    simp [qS, qtS, ha]

end Go.Proofs.Ytdgeponcnlkaiaa.Ab
namespace Go.Proofs.Ytdgeponcnlkaiaa.Ab
open Go
set_option linter.unusedSimpArgs false
set_option linter.unusedVariables false
set_option maxRecDepth 10000
set_option maxHeartbeats 2000000
@[simp] theorem qtS_share2 (l : List Qtm) : shareL (rows qtS l) = rows qtS l := by
  rw [rows_share]
  congr 1
noncomputable def enQ (v : Int) (ts : List Qtm) : Qsm × Bool := if QRight ⟨v, ts⟩ then (⟨v, ts⟩, true) else (zeroQ, false)
/-- What is left of the terms that were handed in. -/
noncomputable def oQ (v : Int) (ts : List Qtm) : D := if QRight ⟨v, ts⟩ then .gone else .ow 3 ts.length (rows qtO ts)
noncomputable def addQF (f g : Qsm) : Qsm × Bool := if QRight f ∧ QRight g ∧ f.v = g.v then enQ f.v (gaQ (f.ts ++ g.ts)) else (zeroQ, false)
theorem gaQ_len (l : List Qtm) : (gaQ l).length ≤ l.length := by
  unfold gaQ
  have := nf_len (lt := qlt) (l.map qp)
  simpa using this
theorem gaQ_e {l : List Qtm} {p : List Int → Prop} (h : ∀ t ∈ l, p t.e) : ∀ t ∈ gaQ l, p t.e := fun t ht => by
  unfold gaQ at ht
  obtain ⟨y, hy, rfl⟩ := List.mem_map.1 ht
  obtain ⟨x, hx, e⟩ := nf_mem hy
  obtain ⟨u, hu, rfl⟩ := List.mem_map.1 hx
  have := h u hu
  have e2 : u.e = (qt y).e := congrArg (·.1) e
  rw [← e2]
  exact this
theorem spec_l8Shut_calls (ts : List Qtm) (v : Int) (hx : ts.length < 4611686018427387904) (hxe : ∀ t ∈ ts, t.e.length < 4611686018427387904) : ACalls Try.prog F.spec_l8Shut [.al (0, 0) [] 0 ts.length, .int v] [((0, 0), .ow 3 ts.length (rows qtO ts))] true (fun outs res => outs = [oQ v ts] ∧ WkRs res [.ag (qO (enQ v ts).1), .one (D.bool (enQ v ts).2)]) := by
  refine ACalls.of_body (C := C.spec_l8Shut) (n := Try.f121.ntmps) tabT folT Try.func121 rfl (by kernel_rfl) rfl (Nat.le_of_ble_eq_true rfl) (by decide) (by kernel_rfl) (by kernel_rfl) rfl (by simp) (by simp) ?_
  simp only [Try.f121]
  refine wseq ?_
  refine wreg fun K hK => ?_
  simp [C.spec_l8Shut]
  refine hK _ ?_; clear hK K
  show AWp _ _ _ _ _
  refine wseq ?_
  refine wreg fun K hK => ?_
  simp [C.spec_l8Shut]
  refine hK _ ?_; clear hK K
  show AWp _ _ _ _ _
  refine wseq ?_
  refine wseq ?_
  refine wregI ([0, 1] ++ ([2])) rfl fun K hK => ?_
  refine opsI_seg fun L hL => ?_
  simp [C.spec_l8Shut]
  refine wcall1 (spec_QSumOk_calls ⟨v, ts⟩ hx hxe) (by simp) (by simp) ?_
  simp [C.spec_l8Shut]
  refine hL _ ?_; clear hL L
  refine opsI_end fun L hL => ?_
  simp [C.spec_l8Shut]
  refine hL _ ?_; clear hL L
  simp [C.spec_l8Shut]
  refine hK _ ?_; clear hK K
  show AWp _ _ _ _ _
  refine wcond _ rfl (fun hc1 => ?_) (fun hc1 => ?_)
  · have hr := nd_t hc1
    have hm : enQ v ts = (zeroQ, false) := if_neg hr
    have ho : oQ v ts = .ow 3 ts.length (rows qtO ts) := if_neg hr
    refine wseq ?_
    refine wreg fun K hK => ?_
    simp [C.spec_l8Shut]
    refine hK _ ?_; clear hK K
    show AWp _ _ _ _ _
    refine wret ?_
    simp [C.spec_l8Shut, hm, ho, qO, zeroQ, rows]
  · have hr := nd_f hc1
    have hm : enQ v ts = (⟨v, ts⟩, true) := if_pos hr
    have ho : oQ v ts = .gone := if_pos hr
    refine wskip ?_
    show AWp _ _ _ _ _
    refine wseq ?_
    refine wreg fun K hK => ?_
    simp [C.spec_l8Shut]
    refine hK _ ?_; clear hK K
    show AWp _ _ _ _ _
    refine wret ?_
    simp [C.spec_l8Shut, hm, ho, qO]
theorem l8Shut_calls (ts : List Qtm) (v : Int) (hx : ts.length < 4611686018427387904) (hxe : ∀ t ∈ ts, t.e.length < 4611686018427387904) : ACalls Try.prog F.spec_l8Shut [.al (0, 0) [] 0 ts.length, .int v] [((0, 0), .ow 3 ts.length (rows qtO ts))] true (fun outs res => outs = [.gone] ∧ res = [.ag (qO (enQ v ts).1), .one (D.bool (enQ v ts).2)]) := ACalls.goneOut (spec_l8Shut_calls ts v hx hxe).weak1

theorem spec_AddQSums_calls (f g : Qsm) (hx : f.ts.length < 4611686018427387904) (hxe : ∀ t ∈ f.ts, t.e.length < 4611686018427387904) (hy : g.ts.length < 4611686018427387904) (hye : ∀ t ∈ g.ts, t.e.length < 4611686018427387904) : ACalls Try.prog F.spec_AddQSums [aQ f, aQ g] [] true (fun outs res => outs = [] ∧ WkRs res [.ag (qO (addQF f g).1), .one (D.bool (addQF f g).2)]) := by
  refine ACalls.of_body (C := C.spec_AddQSums) (n := Try.f41.ntmps) tabT folT Try.func41 rfl (by kernel_rfl) rfl (Nat.le_of_ble_eq_true rfl) (by decide) (by kernel_rfl) (by kernel_rfl) rfl (by simp) (by simp) ?_
  simp only [Try.f41]
  refine wseq ?_
  refine wreg fun K hK => ?_
  simp [C.spec_AddQSums, qS]
  refine hK _ ?_; clear hK K
  show AWp _ _ _ _ _
  refine wseq ?_
  refine wseq ?_
  refine wregI ([0, 1] ++ ([2, 3, 4, 5] ++ ([6, 7, 8, 9, 10, 11, 12, 13, 14]))) rfl fun K hK => ?_
  have hJ : K ⟨ofL [(2, .pt (2, 0) [] 0), (3, .pt (3, 0) [] 0), (4, .pt (4, 0) [] 0), (20, .bool (!decide (QRight f ∧ QRight g ∧ f.v = g.v)))], ofRO [((2, 0), some (.bx (qS f))), ((3, 0), some (.bx (qS g))), ((4, 0), some (.bx [D.int 0, .v (.slice none 0 0)]))]⟩ := by
    refine hK _ ?_; clear hK K
    show AWp _ _ _ _ _
    refine wcond _ rfl (fun hc1 => ?_) (fun hc1 => ?_)
    · have hr := nd_t hc1
      have hm : addQF f g = (zeroQ, false) := if_neg hr
      refine wseq ?_
      refine wreg fun K hK => ?_
      simp [C.spec_AddQSums, qS]
      refine hK _ ?_; clear hK K
      show AWp _ _ _ _ _
      refine wret ?_
      simp [C.spec_AddQSums, qS, hm, qO, zeroQ, rows]
    · have hr := nd_f hc1
      obtain ⟨hf, hg, hfg⟩ := hr
      have hv := hf.1
      have hfl := hf.2.1
      have hgl := hg.2.1
      have hm : addQF f g = enQ f.v (gaQ (f.ts ++ g.ts)) := if_pos ⟨hf, hg, hfg⟩
      have he : ∀ t ∈ f.ts ++ g.ts, t.e.length ≤ 8 := fun t ht => by
        rcases List.mem_append.1 ht with ht | ht
        · have := (hf.2.2.1 t ht).1; omega
        · have := (hg.2.2.1 t ht).1; omega
      have hc : ∀ t ∈ f.ts ++ g.ts, t.c.natAbs ≤ 1000000 := fun t ht => by
        rcases List.mem_append.1 ht with ht | ht
        · have := (hf.2.2.1 t ht).2.2.1; omega
        · have := (hg.2.2.1 t ht).2.2.1; omega
      have hab := absQ_le hc
      have hlen : (f.ts ++ g.ts).length = f.ts.length + g.ts.length := by simp
      have hgal := gaQ_len (f.ts ++ g.ts)
      have hG := spec_l8Gather_calls (f.ts ++ g.ts) (by omega) (by omega) he
      have hS := l8Shut_calls (gaQ (f.ts ++ g.ts)) f.v (by omega) (gaQ_e (p := fun e => e.length < 4611686018427387904) fun t ht => by have := he t ht; omega)
      rw [hlen] at hG
      refine wskip ?_
      show AWp _ _ _ _ _
      refine wseq ?_
      refine wdraw (.take 1 (.take 2 (.take 4 (.take 8 (.all [(0, .all [(3, .take 5 (.all [(6, .take 9 (.all [(7, .all [(10, .take 11 (.take 12 (.all [(13, .take 14 (.done))])))])])), (9, .all [(6, .all [(7, .all [(10, .take 11 (.take 12 (.all [(13, .take 14 (.done))])))])])])])), (5, .all [(3, .all [(6, .take 9 (.all [(7, .all [(10, .take 11 (.take 12 (.all [(13, .take 14 (.done))])))])])), (9, .all [(6, .all [(7, .all [(10, .take 11 (.take 12 (.all [(13, .take 14 (.done))])))])])])]), (9, .all [(3, .all [(6, .all [(7, .all [(10, .take 11 (.take 12 (.all [(13, .take 14 (.done))])))])])])])]), (9, .all [(3, .take 5 (.all [(6, .all [(7, .all [(10, .take 11 (.take 12 (.all [(13, .take 14 (.done))])))])])])), (5, .all [(3, .all [(6, .all [(7, .all [(10, .take 11 (.take 12 (.all [(13, .take 14 (.done))])))])])])])])]), (5, .all [(0, .all [(3, .all [(6, .take 9 (.all [(7, .all [(10, .take 11 (.take 12 (.all [(13, .take 14 (.done))])))])])), (9, .all [(6, .all [(7, .all [(10, .take 11 (.take 12 (.all [(13, .take 14 (.done))])))])])])]), (9, .all [(3, .all [(6, .all [(7, .all [(10, .take 11 (.take 12 (.all [(13, .take 14 (.done))])))])])])])]), (9, .all [(0, .all [(3, .all [(6, .all [(7, .all [(10, .take 11 (.take 12 (.all [(13, .take 14 (.done))])))])])])])])]), (9, .all [(0, .all [(3, .take 5 (.all [(6, .all [(7, .all [(10, .take 11 (.take 12 (.all [(13, .take 14 (.done))])))])])])), (5, .all [(3, .all [(6, .all [(7, .all [(10, .take 11 (.take 12 (.all [(13, .take 14 (.done))])))])])])])]), (5, .all [(0, .all [(3, .all [(6, .all [(7, .all [(10, .take 11 (.take 12 (.all [(13, .take 14 (.done))])))])])])])])])]))))) ⟨by kernel_rfl, by kernel_rfl⟩ fun K hK => ?_
      have hJ : K ⟨ofL [(4, .pt (4, 0) [] 0), (5, .bool (enQ f.v (gaQ (f.ts ++ g.ts))).2)], ofRO [((4, 0), some (.bx (qO (enQ f.v (gaQ (f.ts ++ g.ts))).1)))]⟩ := by
        refine hK _ ?_; clear hK K
        show AWp _ _ _ _ _
        refine wret ?_
        simp [C.spec_AddQSums, qS, hm, qO]
      clear hK
      simp [C.spec_AddQSums, qS, qO, ← rows_append, show f.ts.length * 40 ≤ 140737488355328 by omega, show (f.ts.length + g.ts.length) * 40 ≤ 140737488355328 by omega]
      repeat' first
        | (refine wcall1 hG ?_ (by simp) ?_; (focus (simp; done)); simp [C.spec_AddQSums, qS, qO, ← rows_append, show f.ts.length * 40 ≤ 140737488355328 by omega, show (f.ts.length + g.ts.length) * 40 ≤ 140737488355328 by omega])
        | (refine wcall1 hS ?_ (by simp) ?_; (focus (simp; done)); simp [C.spec_AddQSums, qS, qO, ← rows_append, show f.ts.length * 40 ≤ 140737488355328 by omega, show (f.ts.length + g.ts.length) * 40 ≤ 140737488355328 by omega])
        | (refine cast (congrArg K ?_) hJ; simp [qO]; done)
        | refine And.intro ?_ ?_
  clear hK
  by_cases ha : QRight f
  · by_cases hb : QRight g
    · refine opsI_seg fun L hL => ?_
      simp [C.spec_AddQSums, qS, ha, hb]
      refine wcall1 (spec_QSumOk_calls f hx hxe) (by simp) (by simp) ?_
      simp [C.spec_AddQSums, qS, ha, hb]
      refine hL _ ?_; clear hL L
      refine opsI_seg fun L hL => ?_
      simp [C.spec_AddQSums, qS, ha, hb]
      refine wcall1 (spec_QSumOk_calls g hy hye) (by simp) (by simp) ?_
      simp [C.spec_AddQSums, qS, ha, hb]
      refine hL _ ?_; clear hL L
      refine opsI_end fun L hL => ?_
      simp [C.spec_AddQSums, qS, ha, hb]
      refine hL _ ?_; clear hL L
      simp [C.spec_AddQSums, qS, ha, hb]
      refine cast (congrArg K ?_) hJ
      simp [ibne, qS, ha, hb]
    · refine opsI_seg fun L hL => ?_
      simp [C.spec_AddQSums, qS, ha, hb]
      refine wcall1 (spec_QSumOk_calls f hx hxe) (by simp) (by simp) ?_
      simp [C.spec_AddQSums, qS, ha, hb]
      refine hL _ ?_; clear hL L
      refine opsI_seg fun L hL => ?_
      simp [C.spec_AddQSums, qS, ha, hb]
      refine wcall1 (spec_QSumOk_calls g hy hye) (by simp) (by simp) ?_
      simp [C.spec_AddQSums, qS, ha, hb]
      refine hL _ ?_; clear hL L
      refine opsI_end fun L hL => ?_
      simp [C.spec_AddQSums, qS, ha, hb]
      refine hL _ ?_; clear hL L
      simp [C.spec_AddQSums, qS, ha, hb]
      refine cast (congrArg K ?_) hJ
      simp [ibne, qS, ha, hb]
  · refine opsI_seg fun L hL => ?_
    simp [C.spec_AddQSums, qS, ha]
    refine wcall1 (spec_QSumOk_calls f hx hxe) (by simp) (by simp) ?_
    simp [C.spec_AddQSums, qS, ha]
    refine hL _ ?_; clear hL L
    refine opsI_seg fun L hL => ?_
    simp [C.spec_AddQSums, qS, ha]
    refine hL _ ?_; clear hL L
    refine opsI_end fun L hL => ?_
    simp [C.spec_AddQSums, qS, ha]
    refine hL _ ?_; clear hL L
    simp [C.spec_AddQSums, qS, ha]
    refine cast (congrArg K ?_) hJ
    simp [ibne, qS, ha]

end Go.Proofs.Ytdgeponcnlkaiaa.Ab
namespace Go.Proofs.Ytdgeponcnlkaiaa.Ab
open Go
set_option linter.unusedSimpArgs false
set_option linter.unusedVariables false
set_option maxRecDepth 10000
set_option maxHeartbeats 2000000
attribute [local simp] mapKV flatInt tileB
theorem nine {l : List Int} (h : l.length = 9) : ∃ a b c d e f g k m, l = [a, b, c, d, e, f, g, k, m] := by
  match l, h with
  | [a, b, c, d, e, f, g, k, m], _ => exact ⟨a, b, c, d, e, f, g, k, m, rfl⟩
def SortOkQ : Prop := ∀ (ts : List Qtm), (∀ t ∈ ts, t.e.length < 4611686018427387904) → (ts.map qk).Nodup → ts.length < 4611686018427387904 →
  ACalls Try.prog F.slices_SortFunc_impl_QTerm_impl_QTerm [.al (0, 0) [] 0 ts.length, .d (.fn F.impl_qbuilding_done_1 [])] [((0, 0), .ow 3 ts.length (rows qtO ts))] true (fun outs res => ∃ r : List Qtm, r.Perm ts ∧ DescQ r ∧ outs = [.ow 3 ts.length (rows qtO r)] ∧ res = [])
theorem enQ_many {n : Nat} {es : List (List Int × Int)} {l : List (QK × Int)} (h : MapQ n es l) (h8 : n ≤ 8) (hl : ∀ x ∈ l, x.1.1.length = n) (hm : 600 < es.length) : enQ n ((nf qlt l).map qt) = (zeroQ, false) := by
  unfold enQ
  rw [if_neg]
  intro hr
  have := hr.2.1
  simp only [List.length_map] at this
  rw [unpadQ_len h h8 hl] at this
  omega
theorem sh9 (n : Nat) (k0 k1 k2 k3 k4 k5 k6 k7 k8 : Int) : shareL (List.take n [D.v (.int .i64 k0), D.v (.int .i64 k1), D.v (.int .i64 k2), D.v (.int .i64 k3), D.v (.int .i64 k4), D.v (.int .i64 k5), D.v (.int .i64 k6), D.v (.int .i64 k7), D.v (.int .i64 k8)]) = ints (List.take n [k0, k1, k2, k3, k4, k5, k6, k7, k8]) := by
  rw [show ([D.v (.int .i64 k0), D.v (.int .i64 k1), D.v (.int .i64 k2), D.v (.int .i64 k3), D.v (.int .i64 k4), D.v (.int .i64 k5), D.v (.int .i64 k6), D.v (.int .i64 k7), D.v (.int .i64 k8)] : List D) = ints [k0, k1, k2, k3, k4, k5, k6, k7, k8] from rfl, ints_take, shareL_ints]
theorem impl_newQBuilding_calls (v : Int) : ACalls Try.prog F.impl_newQBuilding [.int v] [] true (fun outs res => outs = [] ∧ res = [.one (.bx [D.int v, .mp []])]) := by
  refine ACalls.of_body (C := C.impl_newQBuilding) (n := Try.f125.ntmps) tabT folT Try.func125 rfl (by kernel_rfl) rfl (Nat.le_of_ble_eq_true rfl) (by decide) (by kernel_rfl) (by kernel_rfl) rfl (by simp) (by simp) ?_
  simp only [Try.f125]
  refine wseq ?_
  refine wreg fun K hK => ?_
  simp [C.impl_newQBuilding]
  refine hK _ ?_; clear hK K
  show AWp _ _ _ _ _
  refine wseq ?_
  refine wreg fun K hK => ?_
  simp [C.impl_newQBuilding]
  refine hK _ ?_; clear hK K
  show AWp _ _ _ _ _
  refine wret ?_
  simp [C.impl_newQBuilding]

theorem impl_qbuilding_add_calls (v c : Int) (es : List (List Int × Int)) (k0 k1 k2 k3 k4 k5 k6 k7 k8 : Int) (hes : mapLen 9 es) (hw : -9223372036854775808 ≤ c + (mget [k0, k1, k2, k3, k4, k5, k6, k7, k8] es).getD 0 ∧ c + (mget [k0, k1, k2, k3, k4, k5, k6, k7, k8] es).getD 0 < 9223372036854775808) : ACalls Try.prog F.impl_qbuilding_add [.pt (0, 0) [] 0, .ag [.int k0, .int k1, .int k2, .int k3, .int k4, .int k5, .int k6, .int k7, .int k8], .int c] [((0, 0), .bx [D.int v, .mp es])] true (fun outs res => outs = [.bx [D.int v, .mp (madd es [k0, k1, k2, k3, k4, k5, k6, k7, k8] c)]] ∧ res = []) := by
  refine ACalls.of_body (C := C.impl_qbuilding_add) (n := Try.f127.ntmps) tabT folT Try.func127 rfl (by kernel_rfl) rfl (Nat.le_of_ble_eq_true rfl) (by decide) (by kernel_rfl) (by kernel_rfl) rfl (by simp) (by simp) ?_
  simp only [Try.f127]
  refine wseq ?_
  refine wreg fun K hK => ?_
  simp [C.impl_qbuilding_add]
  refine hK _ ?_; clear hK K
  show AWp _ _ _ _ _
  refine wseq ?_
  refine wdraw (.take 0 (.take 1 (.take 2 (.take 3 (.take 4 (.take 5 (.take 6 (.take 7 (.take 8 (.done)))))))))) ⟨by kernel_rfl, by kernel_rfl⟩ fun K hK => ?_
  simp [C.impl_qbuilding_add, hes]
  rw [wrapOk (x := c + (mget [k0, k1, k2, k3, k4, k5, k6, k7, k8] es).getD 0) hw.1 hw.2]
  refine hK _ ?_; clear hK K
  show AWp _ _ _ _ _
  refine wseq ?_
  refine wreg fun K hK => ?_
  simp [C.impl_qbuilding_add]
  refine hK _ ?_; clear hK K
  show AWp _ _ _ _ _
  refine wcond _ rfl (fun hc1 => ?_) (fun hc1 => ?_)
  · have hz : c + (mget [k0, k1, k2, k3, k4, k5, k6, k7, k8] es).getD 0 = 0 := by simpa using hc1
    refine wdraw (.take 0 (.take 1 (.take 2 (.take 3 (.take 4 (.all [(5, .done)])))))) ⟨by kernel_rfl, by kernel_rfl⟩ fun K hK => ?_
    simp [C.impl_qbuilding_add, hes]
    refine hK _ ?_; clear hK K
    simp [C.impl_qbuilding_add, madd, hz]
  · have hz : ¬ c + (mget [k0, k1, k2, k3, k4, k5, k6, k7, k8] es).getD 0 = 0 := by simpa using hc1
    refine wdraw (.take 0 (.take 1 (.take 2 (.take 3 (.take 4 (.take 5 (.all [(6, .done)]))))))) ⟨by kernel_rfl, by kernel_rfl⟩ fun K hK => ?_
    simp [C.impl_qbuilding_add, hes]
    refine hK _ ?_; clear hK K
    simp [C.impl_qbuilding_add, madd, hz]

theorem impl_qbuilding_done_1_calls (x y : Qtm) (hx : x.e.length < 4611686018427387904) (hy : y.e.length < 4611686018427387904) : ACalls Try.prog F.impl_qbuilding_done_1 [aQT x, aQT y] [] true (fun outs res => outs = [] ∧ res = [.one (D.int (cmpQ x.e x.h y.e y.h))]) := by
  refine ACalls.of_body (C := C.impl_qbuilding_done_1) (n := Try.f207.ntmps) tabT folT Try.func207 rfl (by kernel_rfl) rfl (Nat.le_of_ble_eq_true rfl) (by decide) (by kernel_rfl) (by kernel_rfl) rfl (by simp) (by simp) ?_
  simp only [Try.f207]
  refine wseq ?_
  refine wreg fun K hK => ?_
  simp [C.impl_qbuilding_done_1]
  refine hK _ ?_; clear hK K
  show AWp _ _ _ _ _
  refine wseq ?_
  refine wregI ([0, 1, 2, 3, 4, 5, 6, 7, 8] ++ ([9])) rfl fun K hK => ?_
  refine opsI_seg fun L hL => ?_
  simp [C.impl_qbuilding_done_1]
  refine wcall1 (impl_descending_calls x.e x.h y.e y.h hy) (by simp) (by simp) ?_
  simp [C.impl_qbuilding_done_1]
  refine hL _ ?_; clear hL L
  refine opsI_end fun L hL => ?_
  simp [C.impl_qbuilding_done_1]
  refine hL _ ?_; clear hL L
  simp [C.impl_qbuilding_done_1]
  refine hK _ ?_; clear hK K
  show AWp _ _ _ _ _
  refine wret ?_
  simp [C.impl_qbuilding_done_1]

theorem impl_qbuilding_done_calls (hSort : SortOkQ) (n : Nat) (es : List (List Int × Int)) (l : List (QK × Int)) (hM : MapQ n es l) (hl : ∀ x ∈ l, x.1.1.length = n) (h1 : 1 ≤ n) (h8 : n ≤ 8) (hL : l.length ≤ 1000000) : ACalls Try.prog F.impl_qbuilding_done [.pt (0, 0) [] 0] [((0, 0), .bx [D.int n, .mp es])] true (fun outs res => outs = [.bx [D.int n, .mp es]] ∧ WkRs res [.ag (qO (enQ n ((nf qlt l).map qt)).1), .one (D.bool (enQ n ((nf qlt l).map qt)).2)]) := by
  refine ACalls.of_body (C := C.impl_qbuilding_done) (n := Try.f128.ntmps) tabT folT Try.func128 rfl (by kernel_rfl) rfl (Nat.le_of_ble_eq_true rfl) (by decide) (by kernel_rfl) (by kernel_rfl) rfl (by simp) (by simp) ?_
  simp only [Try.f128]
  refine wseq ?_
  refine wreg fun K hK => ?_
  simp [C.impl_qbuilding_done]
  refine hK _ ?_; clear hK K
  show AWp _ _ _ _ _
  refine wseq ?_
  refine wseq ?_
  refine wreg fun K hK => ?_
  simp [C.impl_qbuilding_done]
  refine hK _ ?_; clear hK K
  show AWp _ _ _ _ _
  refine wcond _ rfl (fun hc1 => ?_) (fun hc1 => ?_)
  · have hm := enQ_many hM h8 hl (by have := d_t hc1; omega)
    refine wseq ?_
    refine wreg fun K hK => ?_
    simp [C.impl_qbuilding_done]
    refine hK _ ?_; clear hK K
    show AWp _ _ _ _ _
    refine wret ?_
    simp [C.impl_qbuilding_done, hm, qO, zeroQ, rows]
  · have h600 : es.length ≤ 600 := by have := d_f hc1; omega
    refine wskip ?_
    show AWp _ _ _ _ _
    refine wseq ?_
    refine wreg fun K hK => ?_
    simp [C.impl_qbuilding_done]
    refine hK _ ?_; clear hK K
    show AWp _ _ _ _ _
    refine wseq ?_
    refine wseq ?_
    refine wreg fun K hK => ?_
    simp [C.impl_qbuilding_done]
    refine hK _ ?_; clear hK K
    show AWp _ _ _ _ _
    refine wblock ?_
    refine wloopW (fun x : List Qtm × List (List Int × Int) × Option (List Int × Int) => ⟨ofL [(0, .pt (0, 0) [] 0), (2, .pt (2, 0) [] 0), (4, .pt (4, 0) [] 0), (23, .it (23, 0) (0, 0) [1] x.2.1 x.2.2), (1000, .pt (0, 0) [] 0)], ofRO [((0, 0), some (.bx [D.int n, .mp es])), ((2, 0), some (.bx [D.int 0, .v (.slice none 0 0)])), ((4, 0), some (.bx [D.int n, .ow 3 x.1.length (rows qtO x.1)])), ((23, 0), some .itr)]⟩) (fun x => (x.1.map qp ++ x.2.1.map (unpadQ n)).Perm (es.map (unpadQ n)) ∧ ∀ y ∈ x.2.1, y ∈ es) (fun x => x.2.1.length) ([], es, none) [.cell (4, 0) [] 1 3] (by simp [C.impl_qbuilding_done, rows]; funext q; by_cases e4 : q = (4, 0); (subst e4; rfl); by_cases e9 : q = (9999, 0); (subst e9; rfl); simp [ofRO, e4, e9, Ne.symm e4]) ⟨by simp, fun y hy => hy⟩ ?_
    intro x1 hx1 R1 hR1
    obtain ⟨q, rest, cur⟩ := x1
    obtain ⟨hq, hin⟩ := hx1
    dsimp only at hq hin ⊢
    refine wseq ?_
    refine wreg fun K hK => ?_
    simp [C.impl_qbuilding_done]
    refine ⟨fun hrest => ?_, fun i xk xc hx => ?_⟩
    · refine hK _ ?_; clear hK K
      show AWp _ _ _ _ _
      refine wseq ?_
      refine wcond _ rfl (fun hc2 => ?_) (fun hc2 => ?_)
      · simp at hc2
      · subst hrest
        have hq2 : (q.map qp).Perm (es.map (unpadQ n)) := by simpa using hq
        have hqe : ∀ t ∈ q, t.e.length = n := fun t ht => by
          have h3 := hq2.subset (List.mem_map.2 ⟨t, ht, rfl⟩)
          obtain ⟨y, hy, e⟩ := List.mem_map.1 h3
          have e2 : t.e = y.1.take n := by
            have := congrArg (fun z : QK × Int => z.1.1) e
            simpa [qp, qk, unpadQ, uq] using this.symm
          rw [e2, List.length_take, hM.len9 h8 y hy]
          omega
        have hqn : (q.map qk).Nodup := by
          have h3 := (hq2.map (·.1)).nodup_iff.2 (unpadQ_inj hM h8)
          rw [List.map_map] at h3
          exact h3
        have hql : q.length = es.length := by simpa using hq2.length_eq
        refine wexit ?_
        show AWp _ _ _ _ _
        refine wseq ?_
        refine wregI ([0, 1, 2] ++ ([])) rfl fun K hK => ?_
        refine opsI_seg fun L hL => ?_
        simp [C.impl_qbuilding_done]
        refine wcall (hSort q (fun t ht => by have := hqe t ht; omega) hqn (by omega)) (by simp) (by simp) (by simp) ?_
        rintro outs res ⟨r, hr, hd, rfl, rfl⟩
        simp [C.impl_qbuilding_done]
        refine hL _ ?_; clear hL L
        refine opsI_end fun L hL => ?_
        simp only [AOpsI]
        refine hL _ ?_; clear hL L
        simp [C.impl_qbuilding_done]
        refine hK _ ?_; clear hK K
        show AWp _ _ _ _ _
        refine wseq ?_
        refine wseq ?_
        have hrl : r.length = q.length := hr.length_eq
        have hrn : r.map qp = nf qlt l := unpadQ_nf hM h8 hl ((hr.map qp).trans hq2) (by
          unfold Desc
          rw [List.pairwise_map]
          exact hd)
        have hrt : (nf qlt l).map qt = r := by
          rw [← hrn, map_qt]
        refine wregI ([0, 1] ++ ([2])) rfl fun K hK => ?_
        refine opsI_seg fun L hL => ?_
        simp [C.impl_qbuilding_done, hrl]
        refine wcall1 (impl_QSumOk_calls ⟨n, r⟩ (by dsimp only; omega) (fun t ht => by have := hqe t (hr.subset ht); omega)) (by simp [hrl]) (by simp) ?_
        simp [C.impl_qbuilding_done, hrl]
        refine hL _ ?_; clear hL L
        refine opsI_end fun L hL => ?_
        simp [C.impl_qbuilding_done, hrl]
        refine hL _ ?_; clear hL L
        simp [C.impl_qbuilding_done, hrl]
        refine hK _ ?_; clear hK K
        show AWp _ _ _ _ _
        refine wcond _ rfl (fun hc3 => ?_) (fun hc3 => ?_)
        · have hR : ¬ QRight ⟨n, r⟩ := by simpa using hc3
          have hm : enQ n ((nf qlt l).map qt) = (zeroQ, false) := by rw [hrt]; exact if_neg hR
          refine wseq ?_
          refine wreg fun K hK => ?_
          simp [C.impl_qbuilding_done]
          refine hK _ ?_; clear hK K
          show AWp _ _ _ _ _
          refine wret ?_
          simp [C.impl_qbuilding_done, hm, qO, zeroQ, rows]
        · have hR : QRight ⟨n, r⟩ := by simpa using hc3
          have hm : enQ n ((nf qlt l).map qt) = (⟨n, r⟩, true) := by rw [hrt]; exact if_pos hR
          refine wskip ?_
          show AWp _ _ _ _ _
          refine wseq ?_
          refine wreg fun K hK => ?_
          simp [C.impl_qbuilding_done]
          refine hK _ ?_; clear hK K
          show AWp _ _ _ _ _
          refine wret ?_
          simp [C.impl_qbuilding_done, hm, qO, hrl]
    · refine hK _ ?_; clear hK K
      show AWp _ _ _ _ _
      refine wseq ?_
      refine wcond _ rfl (fun hc4 => ?_) (fun hc4 => ?_)
      · have hxm : (xk, xc) ∈ rest := List.mem_of_getElem? hx
        have hxl := hM.len9 h8 _ (hin _ hxm)
        dsimp only at hxl
        obtain ⟨k0, k1, k2, k3, k4, k5, k6, k7, k8, rfl⟩ := nine hxl
        have hql : q.length + rest.length = es.length := by simpa using hq.length_eq
        have hil : i < rest.length := by
          rcases Nat.lt_or_ge i rest.length with h | h
          · exact h
          · rw [List.getElem?_eq_none h] at hx; simp at hx
        refine wskip ?_
        show AWp _ _ _ _ _
        refine wblock ?_
        refine wseq ?_
        refine wreg fun K hK => ?_
        simp [C.impl_qbuilding_done]
        refine hK _ ?_; clear hK K
        show AWp _ _ _ _ _
        refine wdrawI [(true, 0), (true, 1), (true, 2), (true, 3), (true, 4), (true, 5), (true, 6), (true, 7), (true, 9), (true, 10), (true, 11), (false, 8), (true, 12), (false, 13), (false, 14), (true, 15), (false, 16)] ⟨by kernel_rfl, by kernel_rfl⟩ ([0, 1, 2, 3, 4, 5, 6, 7, 9, 10, 11, 8] ++ ([12, 13, 14, 15, 16])) rfl fun K hK => ?_
        refine opsI_seg fun L hL => ?_
        simp [C.impl_qbuilding_done, qtO_snoc, show ((n : Int) ≤ 8) by omega, h8, Nat.min_eq_left h8, Nat.min_eq_left (show n ≤ 9 by omega), sh9, show (q.length + 1) * 40 ≤ 140737488355328 by omega]
        refine wcall1 (clone_calls ([k0, k1, k2, k3, k4, k5, k6, k7, k8].take n) (by simp; omega)) (by simp [qtO_snoc, show ((n : Int) ≤ 8) by omega, h8, Nat.min_eq_left h8, Nat.min_eq_left (show n ≤ 9 by omega), sh9, show (q.length + 1) * 40 ≤ 140737488355328 by omega]) (by simp) ?_
        simp [C.impl_qbuilding_done, qtO_snoc, show ((n : Int) ≤ 8) by omega, h8, Nat.min_eq_left h8, Nat.min_eq_left (show n ≤ 9 by omega), sh9, show (q.length + 1) * 40 ≤ 140737488355328 by omega]
        refine hL _ ?_; clear hL L
        refine opsI_end fun L hL => ?_
        simp [C.impl_qbuilding_done, qtO_snoc, show ((n : Int) ≤ 8) by omega, h8, Nat.min_eq_left h8, Nat.min_eq_left (show n ≤ 9 by omega), sh9, show (q.length + 1) * 40 ≤ 140737488355328 by omega]
        refine hL _ ?_; clear hL L
        simp [C.impl_qbuilding_done, qtO_snoc, show ((n : Int) ≤ 8) by omega, h8, Nat.min_eq_left h8, Nat.min_eq_left (show n ≤ 9 by omega), sh9, show (q.length + 1) * 40 ≤ 140737488355328 by omega]
        refine hK _ ?_; clear hK K
        simp [C.impl_qbuilding_done]
        have htl : ([k0, k1, k2, k3, k4, k5, k6, k7, k8].take n).length = n := by simp; omega
        have hrow : rows qtO q ++ [D.ow 1 n (ints (List.take n [k0, k1, k2, k3, k4, k5, k6, k7, k8])), D.v (.int .i64 k8), D.v (.int .i64 xc)] = rows qtO (q ++ [⟨List.take n [k0, k1, k2, k3, k4, k5, k6, k7, k8], k8, xc⟩]) := by
          rw [← qtO_snoc]
          simp only [htl]
        refine cast (congrArg R1 ?_) (hR1 (q ++ [⟨List.take n [k0, k1, k2, k3, k4, k5, k6, k7, k8], k8, xc⟩], rest.eraseIdx i, some ([k0, k1, k2, k3, k4, k5, k6, k7, k8], xc)) ⟨?_, ?_⟩ ?_)
        · simp [hrow]
        · dsimp only
          have hget : rest[i] = ([k0, k1, k2, k3, k4, k5, k6, k7, k8], xc) := by
            rw [List.getElem?_eq_getElem hil] at hx
            injection hx
          have hper := erase_perm rest i hil
          rw [hget] at hper
          refine List.Perm.trans ?_ hq
          rw [List.map_append, List.append_assoc]
          exact List.Perm.append_left _ (hper.map (unpadQ n))
        · exact fun y hy => hin y (List.mem_of_mem_eraseIdx hy)
        · dsimp only
          rw [List.length_eraseIdx_of_lt hil]
          omega
      · simp at hc4

end Go.Proofs.Ytdgeponcnlkaiaa.Ab
namespace Go.Proofs.Ytdgeponcnlkaiaa.Ab
open Go
set_option linter.unusedSimpArgs false
set_option linter.unusedVariables false
theorem sfQ : SfOk Try.prog F.slices_SortFunc_impl_QTerm_impl_QTerm 3 := by
  refine ⟨fun p cap fv w => ?_, fun α _ enc hk h1 cf hO g blk off cap d w eg hcmp hH hblk hsz => ?_⟩
  · have h := AnyF.slices_SortFunc_none sortQTerm p cap fv w
    rw [sortQTerm_f6] at h
    exact h
  · have h := AnyQ.slices_SortFunc sortQTerm 3 sortQTerm_agg sortQTerm_size enc hk h1 cf hO g #[] blk off cap d w eg hcmp hH hblk hsz
    rw [sortQTerm_f6] at h
    exact h
theorem qlt_ntrans (a b c : QK) (h1 : qlt a b = false) (h2 : qlt b c = false) : qlt a c = false := by
  cases h : qlt a c with
  | false => rfl
  | true =>
    exfalso
    rcases qOrd.tot a b with h3 | h3 | h3
    · rw [h1] at h3; simp at h3
    · subst h3
      rw [h2] at h; simp at h
    · have := qOrd.tr b a c h3 h
      rw [h2] at this; simp at this
theorem cmpQ_neg (a : List Int) (ah : Int) (b : List Int) (bh : Int) : decide (cmpQ a ah b bh < 0) = qlt (b, bh) (a, ah) := by
  have h := cmpQ_pos a ah b bh
  by_cases q : cmpQ a ah b bh < 0
  · have : ¬ 0 ≤ cmpQ a ah b bh := by omega
    rw [decide_eq_false this] at h
    rw [decide_eq_true q]
    simpa using h
  · have : 0 ≤ cmpQ a ah b bh := by omega
    rw [decide_eq_true this] at h
    rw [decide_eq_false q]
    simpa using h
theorem swoQ : Go.Sort.SWO (ltOf fun x y : Qtm => cmpQ x.e x.h y.e y.h) where
  irrefl x := by unfold ltOf; rw [cmpQ_neg]; exact qOrd.irr _
  trans x y z h1 h2 := by
    unfold ltOf at *
    rw [cmpQ_neg] at *
    exact qOrd.tr _ _ _ h2 h1
  ntrans x y z h1 h2 := by
    unfold ltOf at *
    rw [cmpQ_neg] at *
    exact qlt_ntrans _ _ _ h2 h1
theorem sortOkQ : SortOkQ := by
  intro ts hts hnd hlen
  have h := sort_calls (P := Try.prog) (g := F.impl_qbuilding_done_1) ⟨Try.f206, _, Try.func206, rfl, by kernel_rfl⟩ sfQ qtO_three (by omega) (fun t => by simp [qtO, noShL, noSh]) (fun l => by
    induction l with
    | nil => trivial
    | cons x l ih =>
      simp only [rows, qtO, List.cons_append, List.nil_append, solidL]
      exact ⟨rfl, rfl, rfl, ih⟩) (fun x y : Qtm => cmpQ x.e x.h y.e y.h) swoQ ts hlen (fun x hx y hy => by
    have := impl_qbuilding_done_1_calls x y (hts x hx) (hts y hy)
    simpa [qtO, shareL, share, shareL_ints] using this)
  refine ACalls.mono h ?_
  rintro outs res ⟨r, h1, h2, h3, h4⟩
  refine ⟨r, h1, ?_, h3, h4⟩
  have hnr : (r.map qk).Nodup := (h1.map qk).nodup_iff.2 hnd
  unfold DescQ
  rw [List.Nodup, List.pairwise_map] at hnr
  refine (h2.and hnr).imp ?_
  rintro a b ⟨h5, h6⟩
  have h7 : qlt (qk a) (qk b) = false := by
    have := cmpQ_neg b.e b.h a.e a.h
    show qlt (a.e, a.h) (b.e, b.h) = false
    rw [← this]
    simpa using h5
  rcases qOrd.tot (qk a) (qk b) with h8 | h8 | h8
  · rw [h7] at h8; simp at h8
  · exact absurd h8 h6
  · exact h8
def DoneOkQ : Prop := ∀ (n : Nat) (es : List (List Int × Int)) (l : List (QK × Int)), MapQ n es l → (∀ x ∈ l, x.1.1.length = n) → 1 ≤ n → n ≤ 8 → l.length ≤ 1000000 →
  ACalls Try.prog F.impl_qbuilding_done [.pt (0, 0) [] 0] [((0, 0), .bx [D.int n, .mp es])] true (fun outs res => outs = [.bx [D.int n, .mp es]] ∧ res = [.ag (qO (enQ n ((nf qlt l).map qt)).1), .one (D.bool (enQ n ((nf qlt l).map qt)).2)])
theorem doneOkQ : DoneOkQ := fun n es l hM hl h1 h8 hL => (impl_qbuilding_done_calls sortOkQ n es l hM hl h1 h8 hL).weak1
end Go.Proofs.Ytdgeponcnlkaiaa.Ab
namespace Go.Proofs.Ytdgeponcnlkaiaa.Ab
open Go
set_option linter.unusedSimpArgs false
set_option linter.unusedVariables false
set_option linter.unusedSectionVars false

section
variable {K : Type} [DecidableEq K]
structure Act (lt : K → K → Bool) (mul dv : K → K → K) (D : K → Prop) : Prop where
  mul_dv : ∀ a b, D a → D b → mul (dv a b) b = a
  dv_lt : ∀ x y b, D x → D y → D b → lt x y = true → lt (dv x b) (dv y b) = true
  mul_lt : ∀ e x y, D e → D x → D y → lt x y = true → lt (mul e x) (mul e y) = true
  dmul : ∀ a b, D a → D b → D (mul a b)
  ddv : ∀ a b, D a → D b → D (dv a b)
/-- A term times a sum. -/
def mulT (mul : K → K → K) (e : K) (q : Int) (g : List (K × Int)) : List (K × Int) := g.map fun y => (mul e y.1, q * y.2)
variable {lt : K → K → Bool} {mul dv : K → K → K} {D : K → Prop} {chk chk' : K → Int → Bool} {g : List (K × Int)} {b : K} {d : Int}
/-! ### How great numbers become -/
@[simp] theorem mulT_length (e : K) (q : Int) (g : List (K × Int)) : (mulT mul e q g).length = g.length := by simp [mulT]
end
end Go.Proofs.Ytdgeponcnlkaiaa.Ab
namespace Go.Proofs.Ytdgeponcnlkaiaa.Ab
open Go
set_option linter.unusedSimpArgs false
set_option linter.unusedVariables false
set_option maxRecDepth 10000
set_option maxHeartbeats 1000000
end Go.Proofs.Ytdgeponcnlkaiaa.Ab
namespace Go.Proofs.Ytdgeponcnlkaiaa.Ab
open Go
set_option linter.unusedSimpArgs false
set_option linter.unusedVariables false
set_option maxRecDepth 10000
set_option maxHeartbeats 2000000
def unitL (n i : Nat) : List Int := (List.replicate n 0).set i 1
noncomputable def monoF (e : List Int) : Lau := if Right ⟨e.length, [⟨e, 1⟩]⟩ then ⟨e.length, [⟨e, 1⟩]⟩ else zeroF
noncomputable def varsL (r : Nat) : List Lau := (List.range r).map fun i => monoF (unitL r i)
abbrev m0 : Mat := ⟨2, 2, [0, 1, -1, 0]⟩
noncomputable abbrev z0 : Ses := ⟨m0, [], ⟨m0, varsL 2⟩⟩
end Go.Proofs.Ytdgeponcnlkaiaa.Ab
namespace Go.Proofs.Ytdgeponcnlkaiaa.Ab
open Go
set_option linter.unusedSimpArgs false
set_option linter.unusedVariables false
set_option maxRecDepth 10000
set_option maxHeartbeats 2000000
def minF (x : Int) (ts : List Trm) (i : Nat) : Int := ts.foldl (fun m t => min m (t.e.getD i 0)) x
def lowA (x : Nat → Int) (ts : List Trm) (n : Nat) : List Int := (List.range n).map fun i => minF (x i) ts i
@[simp] theorem lowA_length (x : Nat → Int) (ts : List Trm) (n : Nat) : (lowA x ts n).length = n := by simp [lowA]
def headE (ts : List Trm) (i : Nat) : Int := match ts with | [] => 0 | t :: _ => t.e.getD i 0
def lowL (ts : List Trm) (n : Nat) : List Int := lowA (headE ts) ts n
def denL (f : Lau) : List Int := (lowL f.ts f.v.toNat).map fun x => -x
@[simp] theorem denL_length (f : Lau) : (denL f).length = f.v.toNat := by simp [denL, lowL]
end Go.Proofs.Ytdgeponcnlkaiaa.Ab
namespace Go.Proofs.Ytdgeponcnlkaiaa.Ab
open Go
set_option linter.unusedSimpArgs false
set_option linter.unusedVariables false
/-! ### Greatest and least exponents -/
/-! ### Greatest exponents of terms -/
def maxF (x : Int) (ts : List Trm) (i : Nat) : Int := ts.foldl (fun m t => max m (t.e.getD i 0)) x
def highA (x : Nat → Int) (ts : List Trm) (n : Nat) : List Int := (List.range n).map fun i => maxF (x i) ts i
@[simp] theorem highA_length (x : Nat → Int) (ts : List Trm) (n : Nat) : (highA x ts n).length = n := by simp [highA]
def highL (ts : List Trm) (n : Nat) : List Int := highA (headE ts) ts n
/-! ### The two divisions -/
def inBox (f g : Lau) (n : Nat) (e : List Int) : Prop := ∀ i, i < n → (lowL f.ts n).getD i 0 - (lowL g.ts n).getD i 0 ≤ e.getD i 0 ∧ e.getD i 0 ≤ (highL f.ts n).getD i 0 - (highL g.ts n).getD i 0
instance (f g : Lau) (n : Nat) (e : List Int) : Decidable (inBox f g n e) := Nat.decidableBallLT n _
end Go.Proofs.Ytdgeponcnlkaiaa.Ab
namespace Go.Proofs.Ytdgeponcnlkaiaa.Ab
open Go
set_option linter.unusedSimpArgs false
set_option linter.unusedVariables false
end Go.Proofs.Ytdgeponcnlkaiaa.Ab
namespace Go.Proofs.Ytdgeponcnlkaiaa.Ab
open Go
set_option linter.unusedSimpArgs false
set_option linter.unusedVariables false
set_option maxRecDepth 10000
set_option maxHeartbeats 2000000
@[simp] theorem lowL_length (ts : List Trm) (n : Nat) : (lowL ts n).length = n := by simp [lowL]
@[simp] theorem highL_length (ts : List Trm) (n : Nat) : (highL ts n).length = n := by simp [highL]
end Go.Proofs.Ytdgeponcnlkaiaa.Ab
namespace Go.Proofs.Ytdgeponcnlkaiaa.Ab
open Go
set_option linter.unusedSimpArgs false
set_option linter.unusedVariables false
set_option maxRecDepth 10000
set_option maxHeartbeats 2000000
theorem qright_dig {f : Qsm} (h : QRight f) {n : Nat} (hn : f.v = n) : ∀ t ∈ f.ts, t.e.length = n ∧ Dig t.e ∧ (∀ x ∈ t.e, -20 ≤ x ∧ x ≤ 20) ∧ (-1000000 ≤ t.c ∧ t.c ≤ 1000000) := fun t ht => by
  obtain ⟨h1, _, h2, _, h3⟩ := h.2.2.1 t ht
  exact ⟨by omega, fun x hx => by have := h3 x hx; omega, h3, h2⟩
end Go.Proofs.Ytdgeponcnlkaiaa.Ab
namespace Go.Proofs.Ytdgeponcnlkaiaa.Ab
open Go
set_option linter.unusedSimpArgs false
set_option linter.unusedVariables false
set_option maxRecDepth 10000
set_option maxHeartbeats 2000000
def catQ (ls : List (List Qtm)) : List Qtm := ls.flatten
theorem catQ_nil : catQ [] = [] := rfl
def gQ (l : List Qtm) : List D := [.sh 3 l.length (rows qtS l)]
theorem gQ_one (l : List Qtm) : (gQ l).length = 1 := rfl
@[simp] theorem gQ_length (l : List (List Qtm)) : (rows gQ l).length = l.length := by rw [rows_length gQ_one l, Nat.one_mul]
theorem gQ_0 {l : List (List Qtm)} {i : Nat} (h : i < l.length) : (rows gQ l)[i]? = some (.sh 3 l[i].length (rows qtS l[i])) ∧ ∀ h', (rows gQ l)[i]'h' = .sh 3 l[i].length (rows qtS l[i]) := twice (by
  have := rows_get gQ_one l i 0 h (by omega)
  simpa [gQ] using this)
theorem growQ (n : Nat) (hn : n ≤ 1000000) : ACalls Try.prog F.slices_Grow_impl_QTerm_impl_QTerm [.d (.v (.slice none 0 0)), .int n] [] true (fun outs res => outs = [] ∧ res = [.one (.ow 3 0 [])]) := by
  have hr : ∃ i, tget C.slices_Concat_impl_QTerm_impl_QTerm.T (growQTerm_ren.t 25) = some i ∧ i.size = 3 ∧ i.bytes = 40 := by
    rw [growQTerm_t25]
    exact ⟨_, rfl, rfl, rfl⟩
  obtain ⟨i, h1, h2, h3⟩ := hr
  have h := grow_calls (P := Try.prog) growQTerm ⟨Try.f205, _, by rw [growQTerm_f4]; exact Try.func205, rfl, by kernel_rfl⟩ (tab_ok tabT h1) (by omega) n (by rw [h3]; omega) hn
  rw [h2, growQTerm_f4] at h
  exact h
theorem slices_Concat_impl_QTerm_impl_QTerm_calls (ls : List (List Qtm)) (hn : ls.length ≤ 1000000) (hl : (catQ ls).length ≤ 1000000) : ACalls Try.prog F.slices_Concat_impl_QTerm_impl_QTerm [.d (.sh 1 ls.length (rows gQ ls))] [] false (fun outs res => outs = [] ∧ res = [.one (.ow 3 (catQ ls).length (rows qtS (catQ ls)))]) := by
  have hstep : ∀ k (h : k < ls.length), catQ (ls.take (k + 1)) = catQ (ls.take k) ++ ls[k] := fun k h => by unfold catQ; rw [List.take_succ_eq_append_getElem h, List.flatten_append]; simp
  have hmono : ∀ k, (catQ (ls.take k)).length ≤ (catQ ls).length := fun k => by
    unfold catQ
    conv => rhs; rw [← List.take_append_drop k ls, List.flatten_append, List.length_append]
    omega
  refine ACalls.of_body (C := C.slices_Concat_impl_QTerm_impl_QTerm) (n := Try.f126.ntmps) tabT folT Try.func126 rfl (by kernel_rfl) rfl (Nat.le_of_ble_eq_true rfl) (by decide) (by kernel_rfl) (by kernel_rfl) rfl (by simp) (by simp) ?_
  simp only [Try.f126]
  refine wseq ?_
  refine wreg fun K hK => ?_
  simp [C.slices_Concat_impl_QTerm_impl_QTerm]
  refine hK _ ?_; clear hK K
  show AWp _ _ _ _ _
  refine wseq ?_
  refine wreg fun K hK => ?_
  simp [C.slices_Concat_impl_QTerm_impl_QTerm]
  refine hK _ ?_; clear hK K
  show AWp _ _ _ _ _
  refine wseq ?_
  refine wseq ?_
  refine wreg fun K hK => ?_
  simp [C.slices_Concat_impl_QTerm_impl_QTerm]
  refine hK _ ?_; clear hK K
  show AWp _ _ _ _ _
  refine wblock ?_
  refine wloop (fun x : Nat => ⟨ofL [(0, .d (.sh 1 ls.length (rows gQ ls))), (3, .int (catQ (ls.take x)).length), (9, .d (.sh 1 ls.length (rows gQ ls))), (10, .int ls.length), (11, .int x)], ofRO []⟩) (fun x => x ≤ ls.length) (fun x => ls.length - x) 0 (by simp [C.slices_Concat_impl_QTerm_impl_QTerm, catQ_nil]) (by simp) ?_
  intro x1 hx1 R1 hR1
  refine wseq ?_
  refine wreg fun K hK => ?_
  simp [C.slices_Concat_impl_QTerm_impl_QTerm]
  refine hK _ ?_; clear hK K
  show AWp _ _ _ _ _
  refine wseq ?_
  refine wcond _ rfl (fun hc1 => ?_) (fun hc1 => ?_)
  · have h1 : x1 < ls.length := by have := d_t hc1; omega
    have hs := hstep x1 h1
    have hm1 := hmono (x1 + 1)
    have hls : (catQ (ls.take (x1 + 1))).length = (catQ (ls.take x1)).length + ls[x1].length := by rw [hs, List.length_append]
    refine wskip ?_
    show AWp _ _ _ _ _
    refine wseq ?_
    refine wblock ?_
    refine wseq ?_
    refine wreg fun K hK => ?_
    simp [C.slices_Concat_impl_QTerm_impl_QTerm, h1, gQ_0 h1]
    refine hK _ ?_; clear hK K
    show AWp _ _ _ _ _
    refine wseq ?_
    refine wreg fun K hK => ?_
    simp [C.slices_Concat_impl_QTerm_impl_QTerm]
    rw [wrapOk (x := ((catQ (ls.take x1)).length : Int) + ls[x1].length) (by omega) (by omega), show ((catQ (ls.take x1)).length : Int) + ls[x1].length = ((catQ (ls.take (x1 + 1))).length : Int) by omega]
    refine hK _ ?_; clear hK K
    show AWp _ _ _ _ _
    refine wseq ?_
    refine wreg fun K hK => ?_
    simp [C.slices_Concat_impl_QTerm_impl_QTerm]
    refine hK _ ?_; clear hK K
    show AWp _ _ _ _ _
    refine wcond _ rfl (fun hc2 => ?_) (fun hc2 => ?_)
    · simp at hc2; omega
    · refine wskip ?_
      show AWp _ _ _ _ _
      refine wreg fun K hK => ?_
      simp [C.slices_Concat_impl_QTerm_impl_QTerm, wrap_succ (show x1 < 4611686018427387904 by omega)]
      refine hK _ ?_; clear hK K
      simp [C.slices_Concat_impl_QTerm_impl_QTerm]
      exact hR1 (x1 + 1) h1 (by omega)
  · have h1 : x1 = ls.length := by have := d_f hc1; omega
    have htk : catQ (ls.take x1) = catQ ls := by rw [h1, List.take_length]
    refine wexit ?_
    show AWp _ _ _ _ _
    refine wseq ?_
    refine wregI ([0, 1] ++ ([2])) rfl fun K hK => ?_
    refine opsI_seg fun L hL => ?_
    simp [C.slices_Concat_impl_QTerm_impl_QTerm, htk]
    refine wcall1 (growQ (catQ ls).length hl) (by simp) (by simp) ?_
    simp [C.slices_Concat_impl_QTerm_impl_QTerm, htk]
    refine hL _ ?_; clear hL L
    refine opsI_end fun L hL => ?_
    simp [C.slices_Concat_impl_QTerm_impl_QTerm, htk]
    refine hL _ ?_; clear hL L
    simp [C.slices_Concat_impl_QTerm_impl_QTerm, htk]
    refine hK _ ?_; clear hK K
    show AWp _ _ _ _ _
    refine wseq ?_
    refine wseq ?_
    refine wreg fun K hK => ?_
    simp [C.slices_Concat_impl_QTerm_impl_QTerm]
    refine hK _ ?_; clear hK K
    show AWp _ _ _ _ _
    refine wblock ?_
    refine wloop (fun x : Nat => ⟨ofL [(6, .al (6, 0) [] 0 (catQ (ls.take x)).length), (25, .d (.sh 1 ls.length (rows gQ ls))), (26, .int ls.length), (27, .int x)], ofRO [((6, 0), some (.ow 3 (catQ (ls.take x)).length (rows qtS (catQ (ls.take x)))))]⟩) (fun x => x ≤ ls.length) (fun x => ls.length - x) 0 (by simp [C.slices_Concat_impl_QTerm_impl_QTerm, rows, catQ_nil]) (by simp) ?_
    intro x2 hx2 R2 hR2
    refine wseq ?_
    refine wreg fun K hK => ?_
    simp [C.slices_Concat_impl_QTerm_impl_QTerm]
    refine hK _ ?_; clear hK K
    show AWp _ _ _ _ _
    refine wseq ?_
    refine wcond _ rfl (fun hc3 => ?_) (fun hc3 => ?_)
    · have h2 : x2 < ls.length := by have := d_t hc3; omega
      have hs := hstep x2 h2
      have hm1 := hmono (x2 + 1)
      have hls : (catQ (ls.take (x2 + 1))).length = (catQ (ls.take x2)).length + ls[x2].length := by rw [hs, List.length_append]
      refine wskip ?_
      show AWp _ _ _ _ _
      refine wseq ?_
      refine wblock ?_
      refine wseq ?_
      refine wreg fun K hK => ?_
      simp [C.slices_Concat_impl_QTerm_impl_QTerm, h2, gQ_0 h2]
      refine hK _ ?_; clear hK K
      show AWp _ _ _ _ _
      refine wreg fun K hK => ?_
      simp [C.slices_Concat_impl_QTerm_impl_QTerm, ← rows_append, ← hs, ← hls, show (catQ (ls.take (x2 + 1))).length * 40 ≤ 140737488355328 by omega]
      refine hK _ ?_; clear hK K
      show AWp _ _ _ _ _
      refine wreg fun K hK => ?_
      simp [C.slices_Concat_impl_QTerm_impl_QTerm, wrap_succ (show x2 < 4611686018427387904 by omega)]
      refine hK _ ?_; clear hK K
      simp [C.slices_Concat_impl_QTerm_impl_QTerm]
      exact hR2 (x2 + 1) h2 (by omega)
    · have h2 : x2 = ls.length := by have := d_f hc3; omega
      refine wexit ?_
      show AWp _ _ _ _ _
      refine wseq ?_
      refine wreg fun K hK => ?_
      simp [C.slices_Concat_impl_QTerm_impl_QTerm]
      refine hK _ ?_; clear hK K
      show AWp _ _ _ _ _
      refine wret ?_
      simp [C.slices_Concat_impl_QTerm_impl_QTerm, h2]
theorem concat2 (xs ys : List Qtm) (h : xs.length + ys.length ≤ 1000000) : ACalls Try.prog F.slices_Concat_impl_QTerm_impl_QTerm [.d (.sh 1 2 [.sh 3 xs.length (rows qtS xs), .sh 3 ys.length (rows qtS ys)])] [] false (fun outs res => outs = [] ∧ res = [.one (.ow 3 (xs ++ ys).length (rows qtS (xs ++ ys)))]) := by
  have := slices_Concat_impl_QTerm_impl_QTerm_calls [xs, ys] (by simp) (by simpa [catQ] using h)
  simpa [gQ, rows, catQ] using this
def absKK (l : List (QK × Int)) : Nat := (l.map fun x => x.2.natAbs).sum
theorem coKK_abs (k : QK) : ∀ l : List (QK × Int), (co k l).natAbs ≤ absKK l
  | [] => by simp [co]
  | x :: l => by
    have := coKK_abs k l
    simp only [co, absKK, List.map_cons, List.sum_cons] at this ⊢
    split <;> omega
theorem nfKK_perm {l r : List (QK × Int)} (h : l.Perm r) : nf qlt l = nf qlt r :=
  nf_unique qOrd (nf_desc qOrd l) (nf_nz l) fun k => by rw [nf_co, co_perm k h]

theorem impl_AddQSums_calls (hDone : DoneOkQ) (f g : Qsm) (hx : f.ts.length < 4611686018427387904) (hxe : ∀ t ∈ f.ts, t.e.length < 4611686018427387904) (hy : g.ts.length < 4611686018427387904) (hye : ∀ t ∈ g.ts, t.e.length < 4611686018427387904) : ACalls Try.prog F.impl_AddQSums [aQ f, aQ g] [] true (fun outs res => outs = [] ∧ WkRs res [.ag (qO (addQF f g).1), .one (D.bool (addQF f g).2)]) := by
  refine ACalls.of_body (C := C.impl_AddQSums) (n := Try.f43.ntmps) tabT folT Try.func43 rfl (by kernel_rfl) rfl (Nat.le_of_ble_eq_true rfl) (by decide) (by kernel_rfl) (by kernel_rfl) rfl (by simp) (by simp) ?_
  simp only [Try.f43]
  refine wseq ?_
  refine wreg fun K hK => ?_
  simp [C.impl_AddQSums, qS]
  refine hK _ ?_; clear hK K
  show AWp _ _ _ _ _
  refine wseq ?_
  refine wseq ?_
  refine wregI ([0, 1] ++ ([2, 3, 4, 5] ++ ([6, 7, 8, 9, 10, 11, 12, 13, 14]))) rfl fun K hK => ?_
  have hJ : K ⟨ofL [(2, .pt (2, 0) [] 0), (3, .pt (3, 0) [] 0), (4, .pt (4, 0) [] 0), (23, .bool (!decide (QRight f ∧ QRight g ∧ f.v = g.v)))], ofRO [((2, 0), some (.bx (qS f))), ((3, 0), some (.bx (qS g))), ((4, 0), some (.bx [D.int 0, .v (.slice none 0 0)]))]⟩ := by
    refine hK _ ?_; clear hK K
    show AWp _ _ _ _ _
    refine wcond _ rfl (fun hc1 => ?_) (fun hc1 => ?_)
    · have hr := nd_t hc1
      have hm : addQF f g = (zeroQ, false) := if_neg hr
      refine wseq ?_
      refine wreg fun K hK => ?_
      simp [C.impl_AddQSums, qS]
      refine hK _ ?_; clear hK K
      show AWp _ _ _ _ _
      refine wret ?_
      simp [C.impl_AddQSums, qS, hm, qO, zeroQ, rows]
    · have hr := nd_f hc1
      obtain ⟨hf, hg, hfg⟩ := hr
      have hv := hf.1
      have hfl := hf.2.1
      have hgl := hg.2.1
      obtain ⟨n, hn⟩ : ∃ n : Nat, f.v = n := ⟨f.v.toNat, by omega⟩
      have hn2 : g.v = n := by omega
      have hn8 : n ≤ 8 := by omega
      have hm : addQF f g = enQ n (gaQ (f.ts ++ g.ts)) := by
        rw [← hn]
        exact if_pos ⟨hf, hg, hfg⟩
      have hD : ∀ t ∈ f.ts ++ g.ts, t.e.length = n ∧ (-1000000 ≤ t.c ∧ t.c ≤ 1000000) := fun t ht => by
        rcases List.mem_append.1 ht with ht | ht
        · have := qright_dig hf hn t ht; exact ⟨this.1, this.2.2.2⟩
        · have := qright_dig hg hn2 t ht; exact ⟨this.1, this.2.2.2⟩
      have hlen : (f.ts ++ g.ts).length = f.ts.length + g.ts.length := by simp
      refine wskip ?_
      show AWp _ _ _ _ _
      refine wseq ?_
      refine wregI ([0, 1, 2] ++ ([3])) rfl fun K hK => ?_
      refine opsI_seg fun L hL => ?_
      simp [C.impl_AddQSums, qS, hn]
      refine wcall1 (impl_newQBuilding_calls n) (by simp) (by simp) ?_
      simp [C.impl_AddQSums, qS, hn]
      refine hL _ ?_; clear hL L
      refine opsI_end fun L hL => ?_
      simp [C.impl_AddQSums, qS, hn]
      refine hL _ ?_; clear hL L
      simp [C.impl_AddQSums, qS, hn]
      refine hK _ ?_; clear hK K
      show AWp _ _ _ _ _
      refine wseq ?_
      refine wseq ?_
      refine wregI ([0, 1, 2, 3, 4, 5] ++ ([6, 7])) rfl fun K hK => ?_
      refine opsI_seg fun L hL => ?_
      simp [C.impl_AddQSums, qS]
      refine wcall (concat2 f.ts g.ts (by omega)) (by simp) (by simp) (by simp) ?_
      rintro outs res ⟨rfl, rfl⟩
      simp [C.impl_AddQSums, qS]
      refine hL _ ?_; clear hL L
      refine opsI_end fun L hL => ?_
      simp [C.impl_AddQSums, qS]
      refine hL _ ?_; clear hL L
      simp [C.impl_AddQSums, qS]
      generalize hT : f.ts ++ g.ts = ts at hD hlen hm ⊢
      refine hK _ ?_; clear hK K
      show AWp _ _ _ _ _
      refine wblock ?_
      refine wloop (fun x : Nat × List (List Int × Int) × List (QK × Int) => ⟨ofL [(4, .pt (4, 0) [] 0), (6, .pt (6, 0) [] 0), (33, .al (33, 0) [] 0 ts.length), (34, .int ts.length), (35, .int x.1)], ofRO [((4, 0), some (.bx [D.int 0, .v (.slice none 0 0)])), ((6, 0), some (.bx [D.int n, .mp x.2.1])), ((33, 0), some (.ow 3 ts.length (rows qtS ts)))]⟩) (fun x => x.1 ≤ ts.length ∧ MapQ n x.2.1 x.2.2 ∧ x.2.2.Perm ((ts.take x.1).map qp) ∧ absKK x.2.2 ≤ x.1 * 1000000) (fun x => ts.length - x.1) (0, [], []) (by simp [C.impl_AddQSums, qS, hlen]) ⟨by simp, MapQ.nil n, by simp, by simp [absKK]⟩ ?_
      intro x1 hx1 R1 hR1
      obtain ⟨j, es, l⟩ := x1
      obtain ⟨hj, hM, hP, hA⟩ := hx1
      dsimp only at hj hM hP hA ⊢
      refine wseq ?_
      refine wreg fun K hK => ?_
      simp [C.impl_AddQSums, qS]
      refine hK _ ?_; clear hK K
      show AWp _ _ _ _ _
      refine wseq ?_
      refine wcond _ rfl (fun hc2 => ?_) (fun hc2 => ?_)
      · have h1 : j < ts.length := by have := d_t hc2; omega
        have hT1 := hD _ (List.getElem_mem h1)
        refine wskip ?_
        show AWp _ _ _ _ _
        refine wseq ?_
        refine wblock ?_
        refine wseq ?_
        refine wreg fun K hK => ?_
        simp [C.impl_AddQSums, qS, h1, qtS_0 h1, qtS_1 h1, qtS_2 h1]
        refine hK _ ?_; clear hK K
        show AWp _ _ _ _ _
        obtain ⟨a0, a1, a2, a3, a4, a5, a6, a7, hpa⟩ := eight (pad_length (e := ts[j].e) (by omega))
        have hk : [a0, a1, a2, a3, a4, a5, a6, a7, ts[j].h] = kq (qk ts[j]) := by
          simp only [kq, qk, hpa]
          rfl
        have hval := hM.val (qk ts[j]) hT1.1
        have hco := coKK_abs (qk ts[j]) l
        refine wdrawI [(true, 0), (true, 1), (true, 2), (true, 4), (true, 5), (true, 7), (true, 8), (false, 3), (true, 6), (false, 9)] ⟨by kernel_rfl, by kernel_rfl⟩ ([0, 1, 2, 4, 5, 7, 8, 3] ++ ([6, 9] ++ ([]))) rfl fun K hK => ?_
        refine opsI_seg fun L hL => ?_
        simp [C.impl_AddQSums, qS, qtS]
        refine wcall1 (impl_keyOf_calls ts[j].e (by omega) a0 a1 a2 a3 a4 a5 a6 a7 hpa) (by simp) (by simp) ?_
        simp [C.impl_AddQSums, qS, qtS]
        refine hL _ ?_; clear hL L
        refine opsI_seg fun L hL => ?_
        simp [C.impl_AddQSums, qS, qtS]
        refine wcall1 (impl_qbuilding_add_calls n ts[j].c es a0 a1 a2 a3 a4 a5 a6 a7 ts[j].h (hM.len9 hn8) (by rw [hk, hval]; omega)) (by simp) (by simp) ?_
        simp [C.impl_AddQSums, qS, qtS]
        refine hL _ ?_; clear hL L
        refine opsI_end fun L hL => ?_
        simp only [AOpsI]
        refine hL _ ?_; clear hL L
        simp [C.impl_AddQSums, qS, qtS]
        rw [hk]
        refine hK _ ?_; clear hK K
        show AWp _ _ _ _ _
        refine wreg fun K hK => ?_
        simp [C.impl_AddQSums, qS, wrap_succ (show j < 4611686018427387904 by omega)]
        refine hK _ ?_; clear hK K
        simp [C.impl_AddQSums, qS]
        refine hR1 (j + 1, _, (qk ts[j], ts[j].c) :: l) ⟨h1, hM.add hT1.1 _, ?_, ?_⟩ (by dsimp only; omega)
        · dsimp only
          rw [List.take_succ_eq_append_getElem h1, List.map_append]
          refine (List.Perm.cons _ hP).trans ?_
          exact (List.perm_append_singleton _ _).symm
        · have h3 : ts[j].c.natAbs ≤ 1000000 := by omega
          simp only [absKK, List.map_cons, List.sum_cons] at hA ⊢
          omega
      · have h1 : j = ts.length := by have := d_f hc2; omega
        have hall : l.Perm (ts.map qp) := by
          rw [h1, List.take_length] at hP
          exact hP
        have hle : ∀ x ∈ l, x.1.1.length = n := fun x hx => by
          have := hall.subset hx
          obtain ⟨t, ht, rfl⟩ := List.mem_map.1 this
          exact (hD t ht).1
        have hll : l.length ≤ 1000000 := by rw [hall.length_eq, List.length_map]; omega
        have hs : (nf qlt l).map qt = gaQ ts := by
          unfold gaQ
          rw [nfKK_perm hall]
        refine wexit ?_
        show AWp _ _ _ _ _
        refine wseq ?_
        refine wregI ([0, 1] ++ ([2, 3, 4, 5])) rfl fun K hK => ?_
        refine opsI_seg fun L hL => ?_
        simp [C.impl_AddQSums, qS]
        refine wcall1 (hDone n es l hM hle (by omega) hn8 hll) (by simp) (by simp) ?_
        simp [C.impl_AddQSums, qS]
        refine hL _ ?_; clear hL L
        refine opsI_end fun L hL => ?_
        simp [C.impl_AddQSums, qS]
        refine hL _ ?_; clear hL L
        simp [C.impl_AddQSums, qS]
        refine hK _ ?_; clear hK K
        show AWp _ _ _ _ _
        refine wret ?_
        simp [C.impl_AddQSums, qS, hm, ← hs, qO]
  clear hK
  by_cases ha : QRight f
  · by_cases hb : QRight g
    · refine opsI_seg fun L hL => ?_
      simp [C.impl_AddQSums, qS, ha, hb]
      refine wcall1 (impl_QSumOk_calls f hx hxe) (by simp) (by simp) ?_
      simp [C.impl_AddQSums, qS, ha, hb]
      refine hL _ ?_; clear hL L
      refine opsI_seg fun L hL => ?_
      simp [C.impl_AddQSums, qS, ha, hb]
      refine wcall1 (impl_QSumOk_calls g hy hye) (by simp) (by simp) ?_
      simp [C.impl_AddQSums, qS, ha, hb]
      refine hL _ ?_; clear hL L
      refine opsI_end fun L hL => ?_
      simp [C.impl_AddQSums, qS, ha, hb]
      refine hL _ ?_; clear hL L
      simp [C.impl_AddQSums, qS, ha, hb]
      refine cast (congrArg K ?_) hJ
      simp [ibne, qS, ha, hb]
    · refine opsI_seg fun L hL => ?_
      simp [C.impl_AddQSums, qS, ha, hb]
      refine wcall1 (impl_QSumOk_calls f hx hxe) (by simp) (by simp) ?_
      simp [C.impl_AddQSums, qS, ha, hb]
      refine hL _ ?_; clear hL L
      refine opsI_seg fun L hL => ?_
      simp [C.impl_AddQSums, qS, ha, hb]
      refine wcall1 (impl_QSumOk_calls g hy hye) (by simp) (by simp) ?_
      simp [C.impl_AddQSums, qS, ha, hb]
      refine hL _ ?_; clear hL L
      refine opsI_end fun L hL => ?_
      simp [C.impl_AddQSums, qS, ha, hb]
      refine hL _ ?_; clear hL L
      simp [C.impl_AddQSums, qS, ha, hb]
      refine cast (congrArg K ?_) hJ
      simp [ibne, qS, ha, hb]
  · refine opsI_seg fun L hL => ?_
    simp [C.impl_AddQSums, qS, ha]
    refine wcall1 (impl_QSumOk_calls f hx hxe) (by simp) (by simp) ?_
    simp [C.impl_AddQSums, qS, ha]
    refine hL _ ?_; clear hL L
    refine opsI_seg fun L hL => ?_
    simp [C.impl_AddQSums, qS, ha]
    refine hL _ ?_; clear hL L
    refine opsI_end fun L hL => ?_
    simp [C.impl_AddQSums, qS, ha]
    refine hL _ ?_; clear hL L
    simp [C.impl_AddQSums, qS, ha]
    refine cast (congrArg K ?_) hJ
    simp [ibne, qS, ha]

end Go.Proofs.Ytdgeponcnlkaiaa.Ab
namespace Go.Proofs.Ytdgeponcnlkaiaa.Ab
open Go
set_option linter.unusedSimpArgs false
set_option linter.unusedVariables false
set_option linter.unusedSectionVars false
def lS (l : List Int) : List D := [shI l]
def lO (l : List Int) : List D := [owI l]
theorem lS_one (l : List Int) : (lS l).length = 1 := rfl
theorem lO_one (l : List Int) : (lO l).length = 1 := rfl
@[simp] theorem lS_length (l : List (List Int)) : (rows lS l).length = l.length := by rw [rows_length lS_one l, Nat.one_mul]
@[simp] theorem lO_length (l : List (List Int)) : (rows lO l).length = l.length := by rw [rows_length lO_one l, Nat.one_mul]
@[simp] theorem lS_share (l : List (List Int)) : shareL (rows lO l) = rows lS l := by
  rw [rows_share]
  congr 1
  funext t
  simp [lO, lS, shareL, share, shareL_ints]
section
variable {l : List (List Int)} {i : Nat}
end
def lZ : Option (List Int) → List D
  | none => [.v (.slice none 0 0)]
  | some t => lO t
theorem lZ_one (t : Option (List Int)) : (lZ t).length = 1 := by cases t <;> rfl
@[simp] theorem lZ_length (l : List (Option (List Int))) : (rows lZ l).length = l.length := by rw [rows_length lZ_one l, Nat.one_mul]
@[simp] theorem lO_noSh (l : List (List Int)) : noShL (rows lO l) := rows_noSh (fun t => by simp [lO, noShL, noSh, noShL_ints]) l
end Go.Proofs.Ytdgeponcnlkaiaa.Ab
namespace Go.Proofs.Ytdgeponcnlkaiaa.Ab
open Go
set_option linter.unusedSimpArgs false
set_option linter.unusedVariables false
set_option maxRecDepth 10000
end Go.Proofs.Ytdgeponcnlkaiaa.Ab
namespace Go.Proofs.Ytdgeponcnlkaiaa.Ab
open Go
set_option linter.unusedSimpArgs false
set_option linter.unusedVariables false
set_option maxRecDepth 10000
set_option maxHeartbeats 2000000
def at2 (fm : List (List Int)) (i j : Nat) : Int := (fm.getD i []).getD j 0
def Skp (fm : List (List Int)) (i j : Nat) : Prop := (-99 ≤ at2 fm i j ∧ at2 fm i j ≤ 99) ∧ at2 fm i j + at2 fm j i = 0
def FormOk (fm : List (List Int)) : Prop := (1 ≤ (fm.length : Int) ∧ (fm.length : Int) ≤ 8) ∧ (∀ i, i < fm.length → (fm.getD i []).length = fm.length) ∧ ∀ i, i < fm.length → ∀ j, j < fm.length → Skp fm i j
noncomputable instance (fm : List (List Int)) : Decidable (FormOk fm) := Classical.propDecidable _
end Go.Proofs.Ytdgeponcnlkaiaa.Ab
namespace Go.Proofs.Ytdgeponcnlkaiaa.Ab
open Go
set_option linter.unusedSimpArgs false
set_option linter.unusedVariables false
set_option maxRecDepth 10000
set_option maxHeartbeats 2000000
section
variable {fm : List (List Int)} {a b : List Int}
end
end Go.Proofs.Ytdgeponcnlkaiaa.Ab
namespace Go.Proofs.Ytdgeponcnlkaiaa.Ab
open Go
set_option linter.unusedSimpArgs false
set_option linter.unusedVariables false
set_option maxRecDepth 10000
set_option maxHeartbeats 2000000
end Go.Proofs.Ytdgeponcnlkaiaa.Ab
namespace Go.Proofs.Ytdgeponcnlkaiaa.Ab
open Go
set_option linter.unusedSimpArgs false
set_option linter.unusedVariables false
set_option maxRecDepth 10000
set_option maxHeartbeats 2000000
def SmallQ (g : Qsm) : Prop := g.ts.length ≤ 600 ∧ (∀ t ∈ g.ts, t.e.length ≤ 8) ∧ cntL cntQT g.ts ≤ 6000
theorem smallQ_right {g : Qsm} (h : QRight g) : SmallQ g := by
  have he : ∀ t ∈ g.ts, t.e.length ≤ 8 := fun t ht => by have := (h.2.2.1 t ht).1; have := h.1; omega
  refine ⟨h.2.1, he, ?_⟩
  have : ∀ ts : List Qtm, (∀ t ∈ ts, t.e.length ≤ 8) → cntL cntQT ts ≤ ts.length * 10 := fun ts => by
    induction ts with
    | nil => intro _; simp [cntL]
    | cons x ts ih =>
      intro h
      have h1 := h x (by simp)
      have h2 := ih fun t ht => h t (by simp [ht])
      simp only [cntL, cntQT, List.length_cons] at h2 ⊢
      omega
  have := this g.ts he
  have := h.2.1
  omega
theorem enQ_small (v : Int) (ts : List Qtm) : SmallQ (enQ v ts).1 := by
  unfold enQ
  split
  · exact smallQ_right (by assumption)
  · exact ⟨by simp [zeroQ], by simp [zeroQ], by simp [zeroQ, cntL]⟩
end Go.Proofs.Ytdgeponcnlkaiaa.Ab
namespace Go.Proofs.Ytdgeponcnlkaiaa.Ab
open Go
theorem addQF_small (f g : Qsm) : SmallQ (addQF f g).1 := by
  unfold addQF
  split
  · exact enQ_small _ _
  · exact ⟨by simp [zeroQ], by simp [zeroQ], by simp [zeroQ, cntL]⟩
theorem sAddQ_calls (f g : Qsm) (hx : f.ts.length < 4611686018427387904) (hxe : ∀ t ∈ f.ts, t.e.length < 4611686018427387904) (hy : g.ts.length < 4611686018427387904) (hye : ∀ t ∈ g.ts, t.e.length < 4611686018427387904) : ACalls Try.prog F.spec_AddQSums [aQ f, aQ g] [] true (fun outs res => outs = [] ∧ res = [.ag (qO (addQF f g).1), .one (D.bool (addQF f g).2)]) := (spec_AddQSums_calls f g hx hxe hy hye).weak1
theorem iAddQ_calls (f g : Qsm) (hx : f.ts.length < 4611686018427387904) (hxe : ∀ t ∈ f.ts, t.e.length < 4611686018427387904) (hy : g.ts.length < 4611686018427387904) (hye : ∀ t ∈ g.ts, t.e.length < 4611686018427387904) : ACalls Try.prog F.impl_AddQSums [aQ f, aQ g] [] true (fun outs res => outs = [] ∧ res = [.ag (qO (addQF f g).1), .one (D.bool (addQF f g).2)]) := (impl_AddQSums_calls doneOkQ f g hx hxe hy hye).weak1
end Go.Proofs.Ytdgeponcnlkaiaa.Ab
namespace Go.Proofs.Ytdgeponcnlkaiaa.Ab
open Go
set_option linter.unusedSimpArgs false
set_option linter.unusedVariables false
set_option maxRecDepth 10000
set_option maxHeartbeats 2000000
theorem laws_FnExactAddQSums_calls (f : Qsm) (f1 : f.ts.length < 4611686018427387904) (f2 : ∀ t ∈ f.ts, t.e.length < 4611686018427387904) (h : Qsm) (h1 : h.ts.length < 4611686018427387904) (h2 : ∀ t ∈ h.ts, t.e.length < 4611686018427387904) : ACalls Try.prog F.laws_FnExactAddQSums [aQ f, aQ h] [] true (fun outs res => outs = [] ∧ res = [.one (D.bool true)]) := by
  have hgs := addQF_small f h
  have hw := sAddQ_calls f h f1 f2 h1 h2
  have hg := iAddQ_calls f h f1 f2 h1 h2
  generalize addQF f h = g at hgs hw hg
  obtain ⟨g, b⟩ := g
  obtain ⟨hg1, hg2, hg3⟩ := hgs
  dsimp only at hg1 hg2 hg3
  dsimp only at hw hg
  refine ACalls.of_body (C := C.laws_FnExactAddQSums) (n := Try.f6.ntmps) tabT folT Try.func6 rfl (by kernel_rfl) rfl (Nat.le_of_ble_eq_true rfl) (by decide) (by kernel_rfl) (by kernel_rfl) rfl (by simp) (by simp) ?_
  simp only [Try.f6]
  refine wseq ?_
  refine wreg fun K hK => ?_
  simp [C.laws_FnExactAddQSums, qO, qS]
  refine hK _ ?_; clear hK K
  show AWp _ _ _ _ _
  refine wseq ?_
  refine wreg fun K hK => ?_
  simp [C.laws_FnExactAddQSums, qO, qS]
  refine hK _ ?_; clear hK K
  show AWp _ _ _ _ _
  refine wseq ?_
  refine wregI ([0, 1, 2] ++ ([3])) rfl fun K hK => ?_
  refine opsI_seg fun L hL => ?_
  simp [C.laws_FnExactAddQSums, qO, qS]
  refine wcall (laws_szQSum_calls f 1048576 (by omega) (by omega) f1 f2) (by simp) (by simp) (by simp) ?_
  rintro outs res ⟨rfl, r1, rfl, hr1⟩
  simp [C.laws_FnExactAddQSums, qO, qS]
  refine hL _ ?_; clear hL L
  refine opsI_end fun L hL => ?_
  simp [C.laws_FnExactAddQSums, qO, qS]
  refine hL _ ?_; clear hL L
  simp [C.laws_FnExactAddQSums, qO, qS]
  refine hK _ ?_; clear hK K
  show AWp _ _ _ _ _
  refine wseq ?_
  refine wseq ?_
  refine wreg fun K hK => ?_
  simp [C.laws_FnExactAddQSums, qO, qS]
  refine hK _ ?_; clear hK K
  show AWp _ _ _ _ _
  refine wcond _ rfl (fun hc1 => ?_) (fun hc1 => ?_)
  · refine wseq ?_
    refine wreg fun K hK => ?_
    simp [C.laws_FnExactAddQSums, qO, qS]
    refine hK _ ?_; clear hK K
    show AWp _ _ _ _ _
    refine wret ?_
    simp [C.laws_FnExactAddQSums, qO, qS]
  · have q1 : 0 ≤ r1 := by have := d_f hc1; omega
    refine wskip ?_
    show AWp _ _ _ _ _
    refine wseq ?_
    refine wregI ([0, 1, 2] ++ ([3])) rfl fun K hK => ?_
    refine opsI_seg fun L hL => ?_
    simp [C.laws_FnExactAddQSums, qO, qS]
    refine wcall (laws_szQSum_calls h r1 (by omega) (by omega) h1 h2) (by simp) (by simp) (by simp) ?_
    rintro outs res ⟨rfl, r2, rfl, hr2⟩
    simp [C.laws_FnExactAddQSums, qO, qS]
    refine hL _ ?_; clear hL L
    refine opsI_end fun L hL => ?_
    simp [C.laws_FnExactAddQSums, qO, qS]
    refine hL _ ?_; clear hL L
    simp [C.laws_FnExactAddQSums, qO, qS]
    refine hK _ ?_; clear hK K
    show AWp _ _ _ _ _
    refine wseq ?_
    refine wseq ?_
    refine wreg fun K hK => ?_
    simp [C.laws_FnExactAddQSums, qO, qS]
    refine hK _ ?_; clear hK K
    show AWp _ _ _ _ _
    refine wcond _ rfl (fun hc2 => ?_) (fun hc2 => ?_)
    · refine wseq ?_
      refine wreg fun K hK => ?_
      simp [C.laws_FnExactAddQSums, qO, qS]
      refine hK _ ?_; clear hK K
      show AWp _ _ _ _ _
      refine wret ?_
      simp [C.laws_FnExactAddQSums, qO, qS]
    · have q2 : 0 ≤ r2 := by have := d_f hc2; omega
      obtain ⟨fl, fe⟩ := szQ_small2 (ts := f.ts) q1 (by omega)
      have fk : cntL cntQT f.ts ≤ 3145728 := szQ_cnt2 q1 (by omega)
      obtain ⟨hl, he⟩ := szQ_small2 (ts := h.ts) q2 (by omega)
      have hk : cntL cntQT h.ts ≤ 3145728 := szQ_cnt2 q2 (by omega)
      refine wskip ?_
      show AWp _ _ _ _ _
      refine wseq ?_
      refine wdraw (.take 0 (.take 2 (.all [(1, .all [(3, .all [(4, .take 5 (.take 6 (.take 7 (.all [(8, .all [(9, .take 10 (.done))])])))), (8, .all [(4, .take 5 (.take 6 (.take 7 (.all [(9, .take 10 (.done))]))))])]), (8, .all [(3, .all [(4, .take 5 (.take 6 (.take 7 (.all [(9, .take 10 (.done))]))))])])]), (8, .all [(1, .all [(3, .all [(4, .take 5 (.take 6 (.take 7 (.all [(9, .take 10 (.done))]))))])])])]))) ⟨by kernel_rfl, by kernel_rfl⟩ fun K hK => ?_
      have hJ : K ⟨ofL [(2, .pt (2, 0) [] 0), (3, .pt (3, 0) [] 0), (6, .pt (6, 0) [] 0), (7, .bool b)], ofRO [((2, 0), some (.bx (qS f))), ((3, 0), some (.bx (qS h))), ((6, 0), some (.bx (qO g)))]⟩ := by
        refine hK _ ?_; clear hK K
        show AWp _ _ _ _ _
        refine wseq ?_
        refine wregI ([0, 1] ++ ([2, 3])) rfl fun K hK => ?_
        refine opsI_seg fun L hL => ?_
        simp [C.laws_FnExactAddQSums, qO, qS]
        refine wcall1 (laws_toQSum_calls f fl fe) (by simp) (by simp) ?_
        simp [C.laws_FnExactAddQSums, qO, qS]
        refine hL _ ?_; clear hL L
        refine opsI_end fun L hL => ?_
        simp [C.laws_FnExactAddQSums, qO, qS]
        refine hL _ ?_; clear hL L
        simp [C.laws_FnExactAddQSums, qO, qS]
        refine hK _ ?_; clear hK K
        show AWp _ _ _ _ _
        refine wseq ?_
        refine wregI ([0, 1] ++ ([2, 3])) rfl fun K hK => ?_
        refine opsI_seg fun L hL => ?_
        simp [C.laws_FnExactAddQSums, qO, qS]
        refine wcall1 (laws_toQSum_calls h hl he) (by simp) (by simp) ?_
        simp [C.laws_FnExactAddQSums, qO, qS]
        refine hL _ ?_; clear hL L
        refine opsI_end fun L hL => ?_
        simp [C.laws_FnExactAddQSums, qO, qS]
        refine hL _ ?_; clear hL L
        simp [C.laws_FnExactAddQSums, qO, qS]
        refine hK _ ?_; clear hK K
        show AWp _ _ _ _ _
        refine wseq ?_
        refine wregI ([0, 1, 2] ++ ([3, 4, 5, 6, 7, 8])) rfl fun K hK => ?_
        refine opsI_seg fun L hL => ?_
        simp [C.laws_FnExactAddQSums, qO, qS]
        refine wcall1 (hg) (by simp) (by simp) ?_
        simp [C.laws_FnExactAddQSums, qO, qS]
        refine hL _ ?_; clear hL L
        refine opsI_end fun L hL => ?_
        simp [C.laws_FnExactAddQSums, qO, qS]
        refine hL _ ?_; clear hL L
        simp [C.laws_FnExactAddQSums, qO, qS]
        refine hK _ ?_; clear hK K
        show AWp _ _ _ _ _
        refine wseq ?_
        refine wseq ?_
        refine wregI ([0, 1, 2] ++ ([3, 4, 5, 6, 7, 8])) rfl fun K hK => ?_
        refine opsI_seg fun L hL => ?_
        simp [C.laws_FnExactAddQSums, qO, qS]
        refine wcall1 (laws_eqQSum_calls g g (by omega) (fun t ht => by have := hg2 t ht; omega)) (by simp) (by simp) ?_
        simp [C.laws_FnExactAddQSums, qO, qS]
        refine hL _ ?_; clear hL L
        refine opsI_end fun L hL => ?_
        simp [C.laws_FnExactAddQSums, qO, qS]
        refine hL _ ?_; clear hL L
        simp [C.laws_FnExactAddQSums, qO, qS]
        refine hK _ ?_; clear hK K
        show AWp _ _ _ _ _
        refine wcond _ rfl (fun hc3 => ?_) (fun hc3 => ?_)
        · simp at hc3
        · refine wskip ?_
          show AWp _ _ _ _ _
          refine wseq ?_
          refine wseq ?_
          refine wdrawI [(true, 0), (true, 1), (false, 2), (false, 3), (true, 4)] ⟨by kernel_rfl, by kernel_rfl⟩ ([0, 1, 2] ++ ([3] ++ ([4]))) rfl fun K hK => ?_
          refine opsI_seg fun L hL => ?_
          simp [C.laws_FnExactAddQSums, qO, qS]
          refine wcall1 (laws_toQSum_calls f fl fe) (by simp) (by simp) ?_
          simp [C.laws_FnExactAddQSums, qO, qS]
          refine hL _ ?_; clear hL L
          refine opsI_seg fun L hL => ?_
          simp [C.laws_FnExactAddQSums, qO, qS]
          refine wcall1 (laws_eqQSum_calls f f f1 f2) (by simp) (by simp) ?_
          simp [C.laws_FnExactAddQSums, qO, qS]
          refine hL _ ?_; clear hL L
          refine opsI_end fun L hL => ?_
          simp [C.laws_FnExactAddQSums, qO, qS]
          refine hL _ ?_; clear hL L
          simp [C.laws_FnExactAddQSums, qO, qS]
          refine hK _ ?_; clear hK K
          show AWp _ _ _ _ _
          refine wcond _ rfl (fun hc4 => ?_) (fun hc4 => ?_)
          · simp at hc4
          · refine wskip ?_
            show AWp _ _ _ _ _
            refine wseq ?_
            refine wseq ?_
            refine wdrawI [(true, 0), (true, 1), (false, 2), (false, 3), (true, 4)] ⟨by kernel_rfl, by kernel_rfl⟩ ([0, 1, 2] ++ ([3] ++ ([4]))) rfl fun K hK => ?_
            refine opsI_seg fun L hL => ?_
            simp [C.laws_FnExactAddQSums, qO, qS]
            refine wcall1 (laws_toQSum_calls h hl he) (by simp) (by simp) ?_
            simp [C.laws_FnExactAddQSums, qO, qS]
            refine hL _ ?_; clear hL L
            refine opsI_seg fun L hL => ?_
            simp [C.laws_FnExactAddQSums, qO, qS]
            refine wcall1 (laws_eqQSum_calls h h h1 h2) (by simp) (by simp) ?_
            simp [C.laws_FnExactAddQSums, qO, qS]
            refine hL _ ?_; clear hL L
            refine opsI_end fun L hL => ?_
            simp [C.laws_FnExactAddQSums, qO, qS]
            refine hL _ ?_; clear hL L
            simp [C.laws_FnExactAddQSums, qO, qS]
            refine hK _ ?_; clear hK K
            show AWp _ _ _ _ _
            refine wcond _ rfl (fun hc5 => ?_) (fun hc5 => ?_)
            · simp at hc5
            · refine wskip ?_
              show AWp _ _ _ _ _
              refine wseq ?_
              refine wreg fun K hK => ?_
              simp [C.laws_FnExactAddQSums, qO, qS]
              refine hK _ ?_; clear hK K
              show AWp _ _ _ _ _
              refine wseq ?_
              refine wregI ([0, 1, 2] ++ ([3])) rfl fun K hK => ?_
              refine opsI_seg fun L hL => ?_
              simp [C.laws_FnExactAddQSums, qO, qS]
              refine wcall1 (laws_markQSum_calls f 1 (by omega) (by omega) f1) (by simp) (by simp) ?_
              simp [C.laws_FnExactAddQSums, qO, qS]
              refine hL _ ?_; clear hL L
              refine opsI_end fun L hL => ?_
              simp [C.laws_FnExactAddQSums, qO, qS]
              refine hL _ ?_; clear hL L
              simp [C.laws_FnExactAddQSums, qO, qS]
              refine hK _ ?_; clear hK K
              show AWp _ _ _ _ _
              refine wseq ?_
              refine wregI ([0, 1, 2] ++ ([3])) rfl fun K hK => ?_
              refine opsI_seg fun L hL => ?_
              simp [C.laws_FnExactAddQSums, qO, qS]
              refine wcall1 (laws_markQSum_calls h ((1 : Int) + (cntL cntQT f.ts : Nat)) (by omega) (by omega) h1) (by simp) (by simp) ?_
              simp [C.laws_FnExactAddQSums, qO, qS]
              refine hL _ ?_; clear hL L
              refine opsI_end fun L hL => ?_
              simp [C.laws_FnExactAddQSums, qO, qS]
              refine hL _ ?_; clear hL L
              simp [C.laws_FnExactAddQSums, qO, qS]
              refine hK _ ?_; clear hK K
              show AWp _ _ _ _ _
              refine wseq ?_
              refine wseq ?_
              refine wregI ([0, 1, 2, 3, 4, 5] ++ ([6, 7, 8, 9, 10, 11, 12])) rfl fun K hK => ?_
              refine opsI_seg fun L hL => ?_
              simp [C.laws_FnExactAddQSums, qO, qS, show (0 : Int) ≤ (1 : Int) + (cntL cntQT f.ts : Nat) + (cntL cntQT h.ts : Nat) by omega, show ¬ ((1 : Int) + (cntL cntQT f.ts : Nat) + (cntL cntQT h.ts : Nat) < 0) by omega]
              refine wcall1 (laws_eqQSum_calls g g (by omega) (fun t ht => by have := hg2 t ht; omega)) (by simp) (by simp) ?_
              simp [C.laws_FnExactAddQSums, qO, qS, show (0 : Int) ≤ (1 : Int) + (cntL cntQT f.ts : Nat) + (cntL cntQT h.ts : Nat) by omega, show ¬ ((1 : Int) + (cntL cntQT f.ts : Nat) + (cntL cntQT h.ts : Nat) < 0) by omega]
              refine hL _ ?_; clear hL L
              refine opsI_end fun L hL => ?_
              simp [C.laws_FnExactAddQSums, qO, qS, show (0 : Int) ≤ (1 : Int) + (cntL cntQT f.ts : Nat) + (cntL cntQT h.ts : Nat) by omega, show ¬ ((1 : Int) + (cntL cntQT f.ts : Nat) + (cntL cntQT h.ts : Nat) < 0) by omega]
              refine hL _ ?_; clear hL L
              simp [C.laws_FnExactAddQSums, qO, qS, show (0 : Int) ≤ (1 : Int) + (cntL cntQT f.ts : Nat) + (cntL cntQT h.ts : Nat) by omega, show ¬ ((1 : Int) + (cntL cntQT f.ts : Nat) + (cntL cntQT h.ts : Nat) < 0) by omega]
              refine hK _ ?_; clear hK K
              show AWp _ _ _ _ _
              refine wcond _ rfl (fun hc6 => ?_) (fun hc6 => ?_)
              · simp at hc6
              · refine wskip ?_
                show AWp _ _ _ _ _
                refine wseq ?_
                refine wreg fun K hK => ?_
                simp [C.laws_FnExactAddQSums, qO, qS]
                refine hK _ ?_; clear hK K
                show AWp _ _ _ _ _
                refine wseq ?_
                refine wregI ([0, 1, 2] ++ ([3])) rfl fun K hK => ?_
                refine opsI_seg fun L hL => ?_
                simp [C.laws_FnExactAddQSums, qO, qS]
                refine wcall1 (laws_markQSum_calls g 1 (by omega) (by omega) (by omega)) (by simp) (by simp) ?_
                simp [C.laws_FnExactAddQSums, qO, qS]
                refine hL _ ?_; clear hL L
                refine opsI_end fun L hL => ?_
                simp [C.laws_FnExactAddQSums, qO, qS]
                refine hL _ ?_; clear hL L
                simp [C.laws_FnExactAddQSums, qO, qS]
                refine hK _ ?_; clear hK K
                show AWp _ _ _ _ _
                refine wseq ?_
                refine wreg fun K hK => ?_
                simp [C.laws_FnExactAddQSums, qO, qS]
                refine hK _ ?_; clear hK K
                show AWp _ _ _ _ _
                refine wseq ?_
                refine wregI ([0, 1, 2] ++ ([3])) rfl fun K hK => ?_
                refine opsI_seg fun L hL => ?_
                simp [C.laws_FnExactAddQSums, qO, qS]
                refine wcall1 (laws_heldQSum_calls g.v g.ts 1 (by omega) (by omega) (by omega)) (by simp) (by simp) ?_
                simp [C.laws_FnExactAddQSums, qO, qS]
                refine hL _ ?_; clear hL L
                refine opsI_end fun L hL => ?_
                simp [C.laws_FnExactAddQSums, qO, qS]
                refine hL _ ?_; clear hL L
                simp [C.laws_FnExactAddQSums, qO, qS]
                refine hK _ ?_; clear hK K
                show AWp _ _ _ _ _
                refine wseq ?_
                refine wseq ?_
                refine wreg fun K hK => ?_
                simp [C.laws_FnExactAddQSums, qO, qS]
                refine hK _ ?_; clear hK K
                show AWp _ _ _ _ _
                refine wcond _ rfl (fun hc7 => ?_) (fun hc7 => ?_)
                · have := d_t hc7; omega
                · refine wskip ?_
                  show AWp _ _ _ _ _
                  refine wseq ?_
                  refine wseq ?_
                  refine wreg fun K hK => ?_
                  simp [C.laws_FnExactAddQSums, qO, qS]
                  refine hK _ ?_; clear hK K
                  show AWp _ _ _ _ _
                  refine wcond _ rfl (fun hc8 => ?_) (fun hc8 => ?_)
                  · simp at hc8
                  · refine wskip ?_
                    show AWp _ _ _ _ _
                    refine wseq ?_
                    refine wdraw (.take 0 (.take 2 (.all [(1, .all [(3, .all [(4, .take 5 (.take 6 (.take 7 (.all [(8, .all [(9, .take 10 (.done))])])))), (8, .all [(4, .take 5 (.take 6 (.take 7 (.all [(9, .take 10 (.done))]))))])]), (8, .all [(3, .all [(4, .take 5 (.take 6 (.take 7 (.all [(9, .take 10 (.done))]))))])])]), (8, .all [(1, .all [(3, .all [(4, .take 5 (.take 6 (.take 7 (.all [(9, .take 10 (.done))]))))])])])]))) ⟨by kernel_rfl, by kernel_rfl⟩ fun K hK => ?_
                    have hJ : K ⟨ofL [(6, .pt (6, 0) [] 0), (7, .bool b), (10, .pt (10, 0) [] 0), (13, .int (1 + (cntL cntQT g.ts : Nat))), (15, .pt (15, 0) [] 0), (16, .bool b)], ofRO [((6, 0), some (.bx (qO g))), ((10, 0), some (.bx [D.int g.v, .ow 3 g.ts.length (rows qtO (mkL cntQT mkQT g.ts 1))])), ((15, 0), some (.bx (qO g)))]⟩ := by
                      refine hK _ ?_; clear hK K
                      show AWp _ _ _ _ _
                      refine wseq ?_
                      refine wseq ?_
                      refine wregI ([0, 1, 2] ++ ([3, 4, 5, 6, 7, 8])) rfl fun K hK => ?_
                      refine opsI_seg fun L hL => ?_
                      simp [C.laws_FnExactAddQSums, qO, qS]
                      refine wcall1 (laws_eqQSum_calls g g (by omega) (fun t ht => by have := hg2 t ht; omega)) (by simp) (by simp) ?_
                      simp [C.laws_FnExactAddQSums, qO, qS]
                      refine hL _ ?_; clear hL L
                      refine opsI_end fun L hL => ?_
                      simp [C.laws_FnExactAddQSums, qO, qS]
                      refine hL _ ?_; clear hL L
                      simp [C.laws_FnExactAddQSums, qO, qS]
                      refine hK _ ?_; clear hK K
                      show AWp _ _ _ _ _
                      refine wcond _ rfl (fun hc9 => ?_) (fun hc9 => ?_)
                      · simp at hc9
                      · refine wskip ?_
                        show AWp _ _ _ _ _
                        refine wseq ?_
                        refine wreg fun K hK => ?_
                        simp [C.laws_FnExactAddQSums, qO, qS]
                        refine hK _ ?_; clear hK K
                        show AWp _ _ _ _ _
                        refine wseq ?_
                        refine wregI ([0, 1, 2] ++ ([3])) rfl fun K hK => ?_
                        refine opsI_seg fun L hL => ?_
                        simp [C.laws_FnExactAddQSums, qO, qS]
                        refine wcall1 (laws_heldQSum_calls g.v g.ts 1 (by omega) (by omega) (by omega)) (by simp) (by simp) ?_
                        simp [C.laws_FnExactAddQSums, qO, qS]
                        refine hL _ ?_; clear hL L
                        refine opsI_end fun L hL => ?_
                        simp [C.laws_FnExactAddQSums, qO, qS]
                        refine hL _ ?_; clear hL L
                        simp [C.laws_FnExactAddQSums, qO, qS]
                        refine hK _ ?_; clear hK K
                        show AWp _ _ _ _ _
                        refine wseq ?_
                        refine wseq ?_
                        refine wreg fun K hK => ?_
                        simp [C.laws_FnExactAddQSums, qO, qS]
                        refine hK _ ?_; clear hK K
                        show AWp _ _ _ _ _
                        refine wcond _ rfl (fun hc10 => ?_) (fun hc10 => ?_)
                        · have := d_t hc10; omega
                        · refine wskip ?_
                          show AWp _ _ _ _ _
                          refine wseq ?_
                          refine wseq ?_
                          refine wreg fun K hK => ?_
                          simp [C.laws_FnExactAddQSums, qO, qS]
                          refine hK _ ?_; clear hK K
                          show AWp _ _ _ _ _
                          refine wcond _ rfl (fun hc11 => ?_) (fun hc11 => ?_)
                          · simp at hc11
                          · refine wskip ?_
                            show AWp _ _ _ _ _
                            refine wseq ?_
                            refine wreg fun K hK => ?_
                            simp [C.laws_FnExactAddQSums, qO, qS]
                            refine hK _ ?_; clear hK K
                            show AWp _ _ _ _ _
                            refine wret ?_
                            simp [C.laws_FnExactAddQSums, qO, qS]
                    clear hK
                    simp [C.laws_FnExactAddQSums, qO, qS]
                    repeat' first
                      | (refine wcall1 (laws_toQSum_calls f fl fe) ?_ (by simp) ?_; (focus (simp; done)); simp [C.laws_FnExactAddQSums, qO, qS])
                      | (refine wcall1 (laws_toQSum_calls h hl he) ?_ (by simp) ?_; (focus (simp; done)); simp [C.laws_FnExactAddQSums, qO, qS])
                      | (refine wcall1 (hg) ?_ (by simp) ?_; (focus (simp; done)); simp [C.laws_FnExactAddQSums, qO, qS])
                      | (refine cast (congrArg K ?_) hJ; simp [qO, qS]; done)
                      | refine And.intro ?_ ?_
      clear hK
      simp [C.laws_FnExactAddQSums, qO, qS]
      repeat' first
        | (refine wcall1 (laws_toQSum_calls f fl fe) ?_ (by simp) ?_; (focus (simp; done)); simp [C.laws_FnExactAddQSums, qO, qS])
        | (refine wcall1 (laws_toQSum_calls h hl he) ?_ (by simp) ?_; (focus (simp; done)); simp [C.laws_FnExactAddQSums, qO, qS])
        | (refine wcall1 (hw) ?_ (by simp) ?_; (focus (simp; done)); simp [C.laws_FnExactAddQSums, qO, qS])
        | (refine cast (congrArg K ?_) hJ; simp [qO, qS]; done)
        | refine And.intro ?_ ?_

end Go.Proofs.Ytdgeponcnlkaiaa.Ab
namespace Go.Proofs.Ytdgeponcnlkaiaa.Ab
open Go Go.ChangeShapes Go.WideShapes Go.ChangeAt Go.RowKit
set_option linter.unusedSimpArgs false
set_option linter.unusedVariables false
set_option maxRecDepth 100000
section
variable {H : Type} {enc : TypeId × Value → H} {W : World}
def QtmB (t : Qtm) : Prop := IntsB t.e ∧ i64b t.h ∧ i64b t.c
theorem opQtm : Opens enc Try.prog W 209 3 Qtm qtS QtmB :=
  (Opens.struct3 opInts opInt opInt Try.underlying209 ⟨rfl, rfl⟩ ⟨rfl, rfl⟩ ⟨rfl, rfl⟩ (by kernel_rfl)).to (fun a => ⟨a.1, a.2.1, a.2.2⟩) (fun a => rfl) (fun _ => rfl) (fun _ h => ⟨h.1, h.2.1, h.2.2⟩)
def QtmsB (l : List Qtm) : Prop := (∀ x ∈ l, QtmB x) ∧ l.length * 40 ≤ 140737488351232
theorem opQtms : Opens enc Try.prog W 60 1 (List Qtm) (fun l => [.sh 3 l.length (rows qtS l)]) QtmsB :=
  Opens.slice opQtm (by omega) Try.underlying60 (by kernel_rfl) (by kernel_rfl)
def QsmB (f : Qsm) : Prop := i64b f.v ∧ QtmsB f.ts
theorem opQ : Opens enc Try.prog W 62 2 Qsm qS QsmB :=
  (Opens.struct2 opInt opQtms Try.underlying62 ⟨rfl, rfl⟩ ⟨rfl, rfl⟩ (by kernel_rfl)).to (fun a => ⟨a.1, a.2⟩) (fun a => rfl) (fun _ => rfl) (fun _ h => ⟨h.1, h.2⟩)
theorem argQ : Arg enc Try.prog W 62 Qsm (fun f => .ag ((qS f).map .d)) QsmB := Arg.agg opQ (by kernel_rfl) (of_decide_eq_true (by kernel_rfl)) Try.underlying62
theorem QsmB.small {f : Qsm} (h : QsmB f) : f.ts.length < 4611686018427387904 ∧ ∀ t ∈ f.ts, t.e.length < 4611686018427387904 := by
  refine ⟨by have := h.2.2; omega, fun t ht => ?_⟩
  have := (h.2.1 t ht).1.2
  omega
end
end Go.Proofs.Ytdgeponcnlkaiaa.Ab
namespace Go.Proofs.Ytdgeponcnlkaiaa.Ab
open Go
theorem lawAddQ (f : Qsm) (f1 : f.ts.length < 4611686018427387904) (f2 : ∀ t ∈ f.ts, t.e.length < 4611686018427387904) (h : Qsm) (h1 : h.ts.length < 4611686018427387904) (h2 : ∀ t ∈ h.ts, t.e.length < 4611686018427387904) : ACalls Try.prog F.laws_FnExactAddQSums [aQ f, aQ h] [] true (fun outs res => outs = [] ∧ res = [.one (D.bool true)]) := laws_FnExactAddQSums_calls f f1 f2 h h1 h2
end Go.Proofs.Ytdgeponcnlkaiaa.Ab
