/- Lengths of a triangulation: what they are, and the step from triangle to triangle. Three drawn sums; what the laws compare. Division by maps: the greatest key, and what a step does. Division: both sides. Division of the program's sums. What a matrix of small entries is: its shape and its factors, at the first session's matrix. Factors of a matrix by fractions: what holds along the search. Factors of a matrix by pieces: what holds along the search. Matrices that are right, their least factors, mutation. The factors of a matrix, by the program. Matrices that are right, mutation of a matrix, by the program. The reference's sums of sums. Division: the law over both sides. Seeds that are right; what mutation of a seed is; the program's side. The exchange at a seed and mutation of a seed, by the program. Lengths of a triangulation: the program's recursion. The length of a diagonal, the program's side. All triangulations: what the choice of diagonals makes. Drawing a triangulation: all diagonals, all choices. Drawing a triangulation: the choices. Sizes, pieces and factors of a matrix, by the reference. The reference's factors of a matrix. Matrices that are right, mutation of a matrix, by the reference. Mutation of a seed along a list, by the program. Values of Laurent sums modulo a prime: they go with sums and products. What was multiplied is found again by division: the law. Drawn sums are a ring; values go with sums and products. A seed that is mutated twice at one place. Principal matrices along steps; what the polynomials are. Principal matrices and their walks, on both sides. Lists of lists of numbers as trees. Lists of lists of numbers: their size, copies, what is equal, marks. Quantum sums as trees. Quantum sums: their size, copies, what is equal, marks. Quantum sums: the order of terms, which sums are right. Quantum sums: which are right, for the reference and for the program. Skew forms: which are right; what a form makes of two lists of exponents. What a form makes of two lists of exponents; what fits a form. Sums of numbers. Forms that belong to matrices: how both mutate. Forms as lists; forms along steps. The first form of a matrix. Drawing a triangulation: the choices from none. Mutation of seeds, by the reference. Mutation of a seed and along a list, by the reference. The first form of a matrix, spec; the next form. The next form. Forms along steps. Drawing numbers to be put in place of variables. Drawing matrices: names, empty ones, joins. Sequences of rank two: both sides make the same. Sums that are computed: what is checked of them; their values at ones. Sequences of two variables are made by mutations in turn. Sequences of Somos in variables: both sides make the same. Sequences of Somos: what is computed of them. Factors of trees and of matrices under other names. Drawing a matrix that is a tree. Seeds as arguments of laws: their sizes, copies. Seeds of laws: how great they are. Mutation of a seed along a list: the program's is the reference's, fresh at each call. The first seed of any matrix; what is the same; whether a session is one. What the law of Somos' sequences calls. A matrix under other names, by the program. Drawing matrices: names, other names, mutations. An entry of a matrix. Drawing a matrix and steps. Sequences of two variables are made by mutations in turn, and come back: the law. Values of sums: the program's, and the reference's where there is none. Values of sums: the program's, and the reference's where there is none. Drawing a triangulation, flips and a diagonal. Ptolemy: the law. The least exponents of a length tell what it crosses. What a diagonal crosses; the law of denominators. No condition. -/
import Derived.Test.YtfcgcgmleogamaaKCrd
import Derived.Test.YtfcgcgmleogamaaKCrc
set_option linter.unusedVariables false
set_option linter.unusedSimpArgs false
set_option linter.unusedSectionVars false
namespace Go.Proofs.Ytfcgcgmleogamaa.Ab
open Go
set_option linter.unusedSimpArgs false
set_option linter.unusedVariables false
def toN (d : DI) : Dg := (d.1.toNat, d.2.toNat)
theorem allD_mem {v a b : Nat} : (a, b) ∈ allD v ↔ (a < v ∧ b < v) ∧ a + 2 ≤ b ∧ (0 < a ∨ b < v - 1) := by
  simp only [allD, List.mem_flatMap, List.mem_range, List.mem_map, List.mem_filter, Bool.and_eq_true, Bool.or_eq_true, Nat.blt_eq, Nat.ble_eq]
  constructor
  · rintro ⟨x, hx, y, ⟨hy, h1, h2⟩, h3⟩
    injection h3 with h4 h5
    subst h4 h5
    exact ⟨⟨hx, hy⟩, h1, h2⟩
  · rintro ⟨⟨h1, h2⟩, h3, h4⟩
    exact ⟨a, h1, b, ⟨h2, h3, h4⟩, rfl⟩
theorem crs_iff {d e : Dg} : crs d e = true ↔ (d.1 < e.1 ∧ e.1 < d.2 ∧ d.2 < e.2) ∨ (e.1 < d.1 ∧ d.1 < e.2 ∧ e.2 < d.2) := by
  simp only [crs, Bool.or_eq_true, Bool.and_eq_true, Nat.blt_eq]
theorem crI_toN {v : Int} {d e : DI} (hd : IsDg v d) (he : IsDg v e) : CrI d e ↔ crs (toN d) (toN e) = true := by
  rw [crs_iff]
  unfold CrI toN
  have h1 := hd.2
  have h2 := he.2
  dsimp only
  omega
theorem tri_of {v : Int} {l : List DI} (h : TriI v l) : Tri v.toNat (l.map toN) := by
  have hv := h.1
  refine ⟨by omega, by rw [List.length_map]; have := h.2.1; omega, fun d hd => ?_, ?_⟩
  · obtain ⟨x, hx, rfl⟩ := List.mem_map.1 hd
    have := h.2.2.1 x hx
    refine allD_mem.2 ?_
    have h2 := this.2
    omega
  · rw [List.pairwise_map]
    refine (List.Pairwise.and_mem.1 h.2.2.2).imp fun {a b} hh => ?_
    obtain ⟨ha, hb, hh⟩ := hh
    have g1 := h.2.2.1 a ha
    have g2 := h.2.2.1 b hb
    have q1 := g1.2
    have q2 := g2.2
    refine ⟨fun e => hh (.inl ?_), ?_⟩
    · unfold toN at e
      injection e with e1 e2
      omega
    · rw [Bool.eq_false_iff]
      intro e
      rw [crs_sym] at e
      exact hh (.inr ((crI_toN g2 g1).2 e))
def expD (v : Nat) (l : List Dg) (d : Dg) : List Int := if sd v d then List.replicate (v - 3) 0 else match l.findIdx? (dgq d) with
  | some k => unitL (v - 3) k
  | none => List.replicate (v - 3) 0
def lnT (v : Nat) (l : List Dg) (T : Nat) (d : Dg) : Rat := vT T (v - 3) [(expD v l d, 1)]
def LenT (v : Nat) (l : List Dg) (T a c : Nat) : Rat := lenV (vecV v l (lnT v l T)) a c
structure LenP (v : Nat) (l : List Dg) (a c : Nat) (f : Lau) : Prop where
  lb : LB (v - 3) (2 ^ cntD l a c) (2 * cntD l a c + 1) f
  val : ∀ T, 2 ≤ T → vT T (v - 3) (plist f) = LenT v l T a c
  pos : PosL (plist f)
theorem cntD_le {v : Nat} {l : List Dg} (h : Tri v l) (a c : Nat) : cntD l a c ≤ 5 := by
  have := List.countP_le_length (p := crs (srt a c)) (l := l)
  have h1 := h.len
  have h2 := h.vb
  unfold cntD
  omega
theorem LenP.uniq {v : Nat} {l : List Dg} (h : Tri v l) {a c : Nat} {f g : Lau} (hf : LenP v l a c f) (hg : LenP v l a c g) : f = g := by
  have := cntD_le h a c
  exact lb_sep hf.lb hg.lb (by omega) (by omega) fun T hT => by rw [hf.val T hT, hg.val T hT]
theorem len_known {v : Nat} {l : List Dg} (h : Tri v l) {T : Nat} (hT : 2 ≤ T) {a c : Nat} (hac : a ≠ c) (ha : a < v) (hc : c < v) (hk : kn v l a c = true) : LenT v l T a c = lnT v l T (srt a c) := by
  unfold LenT lenV
  unfold kn at hk
  have hln : ∀ d, lnT v l T d ≠ 0 := fun d => vT_one hT _
  rcases Nat.lt_or_gt_of_ne hac with g | g
  · rw [srt_lt g] at hk ⊢
    exact vec_known h hln g hc hk
  · rw [srt_gt g] at hk ⊢
    exact vec_known h hln g ha hk
theorem n_bd {v : Nat} {l : List Dg} (h : Tri v l) : 1 ≤ v - 3 ∧ v - 3 ≤ 8 := by have := h.vb; omega
theorem len_side {v : Nat} {l : List Dg} (h : Tri v l) {a c : Nat} (hac : a ≠ c) (ha : a < v) (hc : c < v) (hs : sd v (srt a c) = true) : LenP v l a c (oneF (v - 3)) := by
  refine ⟨(lb_one (n_bd h)).mono (Nat.pow_pos (by omega)) (by omega), fun T hT => ?_, by simp [PosL, plist, oneF, pr]⟩
  rw [len_known h hT hac ha hc (by unfold kn knD; rw [hs, Bool.true_or]), vT_oneF hT]
  unfold lnT expD
  rw [if_pos hs]
  exact (vT_oneF hT).symm
theorem diag_not_side {v : Nat} {l : List Dg} (h : Tri v l) {d : Dg} (hd : d ∈ l) : sd v d = false := by
  obtain ⟨a, b⟩ := d
  have h1 := allD_mem.1 (h.mem _ hd)
  have h2 := h.vb
  rw [Bool.eq_false_iff]
  intro hs
  simp only [sd, Bool.or_eq_true, Bool.and_eq_true] at hs
  rcases hs with hs | ⟨hs1, hs2⟩
  · have := Nat.eq_of_beq_eq_true hs
    omega
  · have e1 := Nat.eq_of_beq_eq_true hs1
    have e2 := Nat.eq_of_beq_eq_true hs2
    omega
theorem find_at {l : List Dg} (hn : l.Nodup) {k : Nat} {d : Dg} (hk : l[k]? = some d) : l.findIdx? (dgq d) = some k := by
  obtain ⟨hkl, hkd⟩ := List.getElem?_eq_some_iff.1 hk
  rw [List.findIdx?_eq_some_iff_getElem]
  refine ⟨hkl, dgq_eq.2 hkd.symm, fun j hj => ?_⟩
  intro e
  rw [dgq_eq] at e
  have := (List.nodup_iff_pairwise_ne.1 hn)
  rw [List.pairwise_iff_getElem] at this
  exact this j k (by omega) hkl hj (by rw [hkd, e])
theorem lnT_diag {v : Nat} {l : List Dg} (h : Tri v l) {T k : Nat} {d : Dg} (hk : l[k]? = some d) : lnT v l T d = vT T (v - 3) (plist (unitF (v - 3) k)) := by
  unfold lnT expD
  rw [diag_not_side h (List.mem_of_getElem? hk), find_at h.nodup hk]
  rfl
theorem kn_diag {v : Nat} {l : List Dg} {a c : Nat} (hd : srt a c ∈ l) : kn v l a c = true := by
  unfold kn knD
  rw [Bool.or_eq_true]
  exact .inr (List.any_eq_true.2 ⟨_, hd, dgq_eq.2 rfl⟩)
theorem len_diag {v : Nat} {l : List Dg} (h : Tri v l) {a c k : Nat} (hac : a ≠ c) (ha : a < v) (hc : c < v) (hk : l[k]? = some (srt a c)) : LenP v l a c (unitF (v - 3) k) := by
  refine ⟨(lb_unit (n_bd h)).mono (Nat.pow_pos (by omega)) (by omega), fun T hT => ?_, by simp [PosL, plist, unitF, pr]⟩
  rw [len_known h hT hac ha hc (kn_diag (List.mem_of_getElem? hk)), lnT_diag h hk]
theorem tri_mem {v : Nat} {l : List Dg} (h : Tri v l) {e : Dg} (he : e ∈ l) : e.1 < e.2 ∧ e.2 < v := by
  obtain ⟨a, b⟩ := e
  have h1 := allD_mem.1 (h.mem _ he)
  dsimp only
  omega
theorem len_step {v : Nat} {l : List Dg} (h : Tri v l) {a c k : Nat} {e : Dg} (hac : a ≠ c) (ha : a < v) (hc : c < v) (hkn : kn v l a c = false) (hk : l[k]? = some e) (hg : good v l a c e = true) {f1 f2 f3 f4 : Lau}
    (h1 : LenP v l a e.1 f1) (h2 : LenP v l c e.2 f2) (h3 : LenP v l a e.2 f3) (h4 : LenP v l c e.1 f4) :
    ∃ P R S Q, mulF f1 f2 = (P, true) ∧ mulF f3 f4 = (R, true) ∧ addF P 1 R = (S, true) ∧ divF S (unitF (v - 3) k) = (Q, true) ∧ LenP v l a c Q ∧ Right P ∧ Right R ∧ Right S := by
  have he := List.mem_of_getElem? hk
  obtain ⟨⟨c1, c3⟩, c4, c2⟩ := (tri_good h ha hc hac hkn).2 e he hg
  have b1 := h1.lb
  have b2 := h2.lb
  have b3 := h3.lb
  have b4 := h4.lb
  rw [c1] at b1
  rw [c3] at b3
  obtain ⟨q, hq⟩ : ∃ q, cntD l a c = q + 1 := ⟨cntD l a c - 1, by omega⟩
  have hq4 : q ≤ 4 := by have := cntD_le h a c; omega
  have hp16 : 2 ^ q ≤ 16 := Nat.pow_le_pow_right (n := 2) (by omega) hq4
  have b2' : LB (v - 3) (2 ^ q) (2 * q + 1) f2 := b2.mono (Nat.pow_le_pow_right (by omega) (by omega)) (by omega)
  have b4' : LB (v - 3) (2 ^ q) (2 * q + 1) f4 := b4.mono (Nat.pow_le_pow_right (by omega) (by omega)) (by omega)
  have hn := n_bd h
  obtain ⟨P, p1, p2, p3, p4⟩ := lb_mul hn b1 b2' (by omega) (by omega)
  obtain ⟨R, r1, r2, r3, r4⟩ := lb_mul hn b3 b4' (by omega) (by omega)
  obtain ⟨S, s1, s2, s3, s4⟩ := lb_add hn p2 r2 (by omega) (by omega)
  obtain ⟨Q, q1, q2, q3, q4⟩ := lb_div (k := k) hn s2 (by omega) (by omega)
  refine ⟨P, R, S, Q, p1, r1, s1, q1, ⟨q2.mono ?_ (by omega), fun T hT => ?_, q4 (s4 (p4 h1.pos h2.pos) (r4 h3.pos h4.pos))⟩, p2.right, r2.right, s2.right⟩
  · rw [hq, Nat.pow_succ]
    omega
  · have hx := vT_one (n := v - 3) hT (unitL (v - 3) k)
    have hx2 : plist (unitF (v - 3) k) = [(unitL (v - 3) k, 1)] := rfl
    have e1 := q3 T hT
    rw [s3, p3 T hT, r3 T hT, h1.val T hT, h2.val T hT, h3.val T hT, h4.val T hT] at e1
    have hcr : crs (srt a c) e = true := by
      simp only [good, Bool.and_eq_true] at hg
      exact hg.1
    have e2 := lenV_cross (vecV v l (lnT v l T)) hcr
    have hm := tri_mem h he
    have e3 := len_known h hT (a := e.1) (c := e.2) (by omega) (by omega) (by omega) (kn_diag (by rw [srt_lt hm.1]; exact he))
    rw [srt_lt hm.1, lnT_diag h hk] at e3
    unfold LenT at e1 e3 ⊢
    rw [e3, ← e1, hx2] at e2
    generalize vT T (v - 3) [(unitL (v - 3) k, 1)] = X at *
    generalize vT T (v - 3) (plist Q) = Y at *
    generalize lenV (vecV v l (lnT v l T)) a c = Z at *
    grind
theorem len_ex {v : Nat} {l : List Dg} (h : Tri v l) : ∀ (n a c : Nat), cntD l a c ≤ n → a ≠ c → a < v → c < v → ∃ f, LenP v l a c f
  | n, a, c, hn, hac, ha, hc => by
    cases hk : kn v l a c with
    | true =>
      unfold kn knD at hk
      rw [Bool.or_eq_true] at hk
      rcases hk with hk | hk
      · exact ⟨_, len_side h hac ha hc hk⟩
      · rw [List.any_eq_true] at hk
        obtain ⟨e, he, hq⟩ := hk
        rw [dgq_eq] at hq
        subst hq
        obtain ⟨k, hk⟩ := List.getElem?_of_mem he
        exact ⟨_, len_diag h hac ha hc hk⟩
    | false =>
      obtain ⟨⟨e, he, hg⟩, hall⟩ := tri_good h ha hc hac hk
      obtain ⟨⟨c1, c3⟩, c4, c2⟩ := hall e he hg
      have g1 : crs (srt a c) e = true := by
        simp only [good, Bool.and_eq_true] at hg
        exact hg.1
      have hm := tri_mem h he
      have hne : a ≠ e.1 ∧ a ≠ e.2 ∧ c ≠ e.1 ∧ c ≠ e.2 := by
        rw [crs_iff] at g1
        rcases Nat.lt_or_gt_of_ne hac with g | g <;> simp only [srt_lt, srt_gt, g] at g1 <;> omega
      match n with
      | 0 => omega
      | n + 1 =>
        obtain ⟨f1, h1⟩ := len_ex h n a e.1 (by omega) hne.1 ha (by omega)
        obtain ⟨f2, h2⟩ := len_ex h n c e.2 (by omega) hne.2.2.2 hc (by omega)
        obtain ⟨f3, h3⟩ := len_ex h n a e.2 (by omega) hne.2.1 ha (by omega)
        obtain ⟨f4, h4⟩ := len_ex h n c e.1 (by omega) hne.2.2.1 hc (by omega)
        obtain ⟨k, hk2⟩ := List.getElem?_of_mem he
        obtain ⟨P, R, S, Q, -, -, -, -, hQ, -⟩ := len_step h hac ha hc hk hk2 hg h1 h2 h3 h4
        exact ⟨Q, hQ⟩
end Go.Proofs.Ytfcgcgmleogamaa.Ab
namespace Go.Proofs.Ytfcgcgmleogamaa.Ab
open Go
set_option linter.unusedSimpArgs false
set_option linter.unusedVariables false
set_option maxRecDepth 10000
set_option maxHeartbeats 2000000
attribute [local simp] cur
theorem laws_ints_calls (a b : List Int) (hx : a.length < 4611686018427387904) : ACalls Try.prog F.laws_ints [.d (shI a), .d (shI b)] [] true (fun outs res => outs = [] ∧ res = [.one (D.bool (decide (a = b)))]) := by
  refine ACalls.of_body (C := C.laws_ints) (n := Try.f33.ntmps) tabT folT Try.func33 rfl (by kernel_rfl) rfl (Nat.le_of_ble_eq_true rfl) (by decide) (by kernel_rfl) (by kernel_rfl) rfl (by simp) (by simp) ?_
  simp only [Try.f33]
  refine wseq ?_
  refine wreg fun K hK => ?_
  simp [C.laws_ints]
  refine hK _ ?_; clear hK K
  show AWp _ _ _ _ _
  refine wseq ?_
  refine wseq ?_
  refine wreg fun K hK => ?_
  simp [C.laws_ints]
  refine hK _ ?_; clear hK K
  show AWp _ _ _ _ _
  refine wcond _ rfl (fun hc1 => ?_) (fun hc1 => ?_)
  · refine wseq ?_
    refine wreg fun K hK => ?_
    simp [C.laws_ints]
    refine hK _ ?_; clear hK K
    show AWp _ _ _ _ _
    refine wret ?_
    have hc : ¬ a.length = b.length := by simp at hc1; omega
    simp [C.laws_ints]
    intro e; simp [e] at hc
  · refine wskip ?_
    show AWp _ _ _ _ _
    refine wseq ?_
    refine wseq ?_
    refine wreg fun K hK => ?_
    simp [C.laws_ints]
    refine hK _ ?_; clear hK K
    show AWp _ _ _ _ _
    refine wblock ?_
    have e : a.length = b.length := by simp at hc1; omega
    refine wloop (fun k : Nat => ⟨ofL [(0, .d (shI a)), (1, .d (shI b)), (5, FV.int k)], ofRO []⟩) (fun k => k ≤ a.length ∧ a.take k = b.take k) (fun k => a.length - k) 0 (by simp [C.laws_ints]) (by simp) ?_
    intro x1 hx1 R1 hR1
    obtain ⟨hk, ht⟩ := hx1
    refine wseq ?_
    refine wseq ?_
    refine wreg fun K hK => ?_
    simp [C.laws_ints]
    refine hK _ ?_; clear hK K
    show AWp _ _ _ _ _
    refine wcond _ rfl (fun hc2 => ?_) (fun hc2 => ?_)
    · refine wskip ?_
      show AWp _ _ _ _ _
      refine wseq ?_
      refine wblock ?_
      refine wseq ?_
      have h1 : x1 < a.length := by simpa using hc2
      have h2 : x1 < b.length := by omega
      refine wdraw (.take 0 (.take 1 (.take 2 (.take 3 (.take 4 (.take 5 (.take 6 (.take 7 (.take 8 (.done)))))))))) ⟨by kernel_rfl, by kernel_rfl⟩ fun K hK => ?_
      simp [C.laws_ints, h1, h2, get_ints]
      refine hK _ ?_; clear hK K
      show AWp _ _ _ _ _
      refine wcond _ rfl (fun hc3 => ?_) (fun hc3 => ?_)
      · refine wseq ?_
        refine wreg fun K hK => ?_
        simp [C.laws_ints]
        refine hK _ ?_; clear hK K
        show AWp _ _ _ _ _
        refine wret ?_
        have hc : ¬ a[x1] = b[x1] := by simpa using hc3
        simp [C.laws_ints]
        intro e2
        subst e2
        exact hc rfl
      · refine wskip ?_
        show AWp _ _ _ _ _
        refine wreg fun K hK => ?_
        simp [C.laws_ints, wrap_succ (show x1 < 4611686018427387904 by omega)]
        refine hK _ ?_; clear hK K
        simp [C.laws_ints]
        have hc : a[x1] = b[x1] := by simpa using hc3
        refine hR1 (x1 + 1) ⟨h1, ?_⟩ (by omega)
        rw [List.take_succ_eq_append_getElem h1, List.take_succ_eq_append_getElem h2, ht, hc]
    · refine wexit ?_
      show AWp _ _ _ _ _
      refine wseq ?_
      refine wreg fun K hK => ?_
      simp [C.laws_ints]
      refine hK _ ?_; clear hK K
      show AWp _ _ _ _ _
      refine wret ?_
      have hk2 : x1 = a.length := by simp at hc2; omega
      simp [C.laws_ints]
      rw [hk2, List.take_length, e, List.take_length] at ht
      exact ht

theorem laws_laurents_calls (f g : Lau) (hx : f.ts.length < 4611686018427387904) (hxe : ∀ t ∈ f.ts, t.e.length < 4611686018427387904) : ACalls Try.prog F.laws_laurents [aF f, aF g] [] true (fun outs res => outs = [] ∧ res = [.one (D.bool (decide (f = g)))]) := by
  refine ACalls.of_body (C := C.laws_laurents) (n := Try.f27.ntmps) tabT folT Try.func27 rfl (by kernel_rfl) rfl (Nat.le_of_ble_eq_true rfl) (by decide) (by kernel_rfl) (by kernel_rfl) rfl (by simp) (by simp) ?_
  simp only [Try.f27]
  refine wseq ?_
  refine wreg fun K hK => ?_
  simp [C.laws_laurents, fS]
  refine hK _ ?_; clear hK K
  show AWp _ _ _ _ _
  refine wseq ?_
  refine wseq ?_
  refine wregI ([0, 1, 2, 3, 4, 5, 6, 7, 8, 9, 10, 11, 12, 13]) rfl fun K hK => ?_
  have hJ : K ⟨ofL [(2, .pt (2, 0) [] 0), (3, .pt (3, 0) [] 0), (19, .bool (!decide (f.v = g.v ∧ (f.ts.length : Int) = g.ts.length)))], ofRO [((2, 0), some (.bx (fS f))), ((3, 0), some (.bx (fS g)))]⟩ := by
    refine hK _ ?_; clear hK K
    show AWp _ _ _ _ _
    refine wcond _ rfl (fun hc1 => ?_) (fun hc1 => ?_)
    · have hc := nd_t hc1
      refine wseq ?_
      refine wreg fun K hK => ?_
      simp [C.laws_laurents, fS]
      refine hK _ ?_; clear hK K
      show AWp _ _ _ _ _
      refine wret ?_
      simp [C.laws_laurents, fS]
      intro e
      subst e
      exact hc ⟨rfl, rfl⟩
    · have hc0 := nd_f hc1
      have hc : f.v = g.v ∧ f.ts.length = g.ts.length := ⟨hc0.1, by have := hc0.2; omega⟩
      refine wskip ?_
      show AWp _ _ _ _ _
      refine wseq ?_
      refine wseq ?_
      refine wreg fun K hK => ?_
      simp [C.laws_laurents, fS]
      refine hK _ ?_; clear hK K
      show AWp _ _ _ _ _
      refine wblock ?_
      refine wloop (fun k : Nat => ⟨ofL [(2, .pt (2, 0) [] 0), (3, .pt (3, 0) [] 0), (5, FV.int k)], ofRO [((2, 0), some (.bx (fS f))), ((3, 0), some (.bx (fS g)))]⟩) (fun k => k ≤ f.ts.length ∧ f.ts.take k = g.ts.take k) (fun k => f.ts.length - k) 0 (by simp [C.laws_laurents, fS]) (by simp) ?_
      intro x1 hx1 R1 hR1
      obtain ⟨hk, ht⟩ := hx1
      refine wseq ?_
      refine wseq ?_
      refine wreg fun K hK => ?_
      simp [C.laws_laurents, fS]
      refine hK _ ?_; clear hK K
      show AWp _ _ _ _ _
      refine wcond _ rfl (fun hc2 => ?_) (fun hc2 => ?_)
      · have h1 : x1 < f.ts.length := by have := d_t hc2; omega
        have h2 : x1 < g.ts.length := by omega
        refine wskip ?_
        show AWp _ _ _ _ _
        refine wseq ?_
        refine wblock ?_
        refine wseq ?_
        refine wdrawI [(true, 0), (true, 1), (true, 2), (true, 3), (true, 4), (true, 5), (true, 6), (true, 7), (true, 8), (true, 9), (true, 10), (true, 11), (true, 12), (true, 13), (true, 14), (true, 15), (true, 16), (true, 17), (true, 18), (true, 19), (true, 20), (true, 21), (true, 22), (true, 23), (true, 24), (true, 25), (false, 26), (true, 27), (true, 28)] ⟨by kernel_rfl, by kernel_rfl⟩ ([0, 1, 2, 3, 4, 5, 6, 7, 8, 9, 10, 11, 12, 13, 14, 15, 16, 17, 18, 19, 20, 21, 22, 23, 24, 25, 26] ++ ([27, 28])) rfl fun K hK => ?_
        have hJ : K ⟨ofL [(2, .pt (2, 0) [] 0), (3, .pt (3, 0) [] 0), (5, FV.int x1), (55, .bool (!decide (f.ts[x1].c = g.ts[x1].c ∧ f.ts[x1].e = g.ts[x1].e)))], ofRO [((2, 0), some (.bx (fS f))), ((3, 0), some (.bx (fS g)))]⟩ := by
          refine hK _ ?_; clear hK K
          show AWp _ _ _ _ _
          refine wcond _ rfl (fun hc3 => ?_) (fun hc3 => ?_)
          · have hb := nd_t hc3
            refine wseq ?_
            refine wreg fun K hK => ?_
            simp [C.laws_laurents, fS]
            refine hK _ ?_; clear hK K
            show AWp _ _ _ _ _
            refine wret ?_
            simp [C.laws_laurents, fS]
            intro e
            subst e
            exact hb ⟨rfl, rfl⟩
          · have hb := nd_f hc3
            refine wskip ?_
            show AWp _ _ _ _ _
            refine wreg fun K hK => ?_
            simp [C.laws_laurents, fS, wrap_succ (show x1 < 4611686018427387904 by omega)]
            refine hK _ ?_; clear hK K
            simp [C.laws_laurents, fS]
            refine hR1 (x1 + 1) ⟨h1, ?_⟩ (by omega)
            have he : f.ts[x1] = g.ts[x1] := by
              cases hf : f.ts[x1]
              cases hg : g.ts[x1]
              simp only [hf, hg] at hb
              simp [hb.1, hb.2]
            rw [List.take_succ_eq_append_getElem h1, List.take_succ_eq_append_getElem h2, ht, he]
        clear hK
        by_cases ha : f.ts[x1].c = g.ts[x1].c
        · refine opsI_seg fun L hL => ?_
          simp [C.laws_laurents, fS, h1, h2, tS_0 h1, tS_1 h1, tS_0 h2, tS_1 h2, ha]
          refine wcall1 (laws_ints_calls f.ts[x1].e g.ts[x1].e (hxe _ (List.getElem_mem h1))) (by simp) (by simp) ?_
          simp [C.laws_laurents, fS, h1, h2, tS_0 h1, tS_1 h1, tS_0 h2, tS_1 h2, ha]
          refine hL _ ?_; clear hL L
          refine opsI_end fun L hL => ?_
          simp [C.laws_laurents, fS, h1, h2, tS_0 h1, tS_1 h1, tS_0 h2, tS_1 h2, ha]
          refine hL _ ?_; clear hL L
          simp [C.laws_laurents, fS, h1, h2, tS_0 h1, tS_1 h1, tS_0 h2, tS_1 h2, ha]
          refine cast (congrArg K ?_) hJ
          simp [ibne, fS, ha]
        · refine opsI_seg fun L hL => ?_
          simp [C.laws_laurents, fS, h1, h2, tS_0 h1, tS_1 h1, tS_0 h2, tS_1 h2, ha]
          refine hL _ ?_; clear hL L
          refine opsI_end fun L hL => ?_
          simp [C.laws_laurents, fS, h1, h2, tS_0 h1, tS_1 h1, tS_0 h2, tS_1 h2, ha]
          refine hL _ ?_; clear hL L
          simp [C.laws_laurents, fS, h1, h2, tS_0 h1, tS_1 h1, tS_0 h2, tS_1 h2, ha]
          refine cast (congrArg K ?_) hJ
          simp [ibne, fS, ha]
      · have h1 : x1 = f.ts.length := by have := d_f hc2; omega
        refine wexit ?_
        show AWp _ _ _ _ _
        refine wseq ?_
        refine wreg fun K hK => ?_
        simp [C.laws_laurents, fS]
        refine hK _ ?_; clear hK K
        show AWp _ _ _ _ _
        refine wret ?_
        simp [C.laws_laurents, fS]
        rw [h1, List.take_length, hc.2, List.take_length] at ht
        cases f
        cases g
        simp only at hc ht
        simp [hc.1, ht]
  clear hK
  by_cases ha : f.v = g.v
  · refine opsI_end fun L hL => ?_
    simp [C.laws_laurents, fS, ha]
    refine hL _ ?_; clear hL L
    simp [C.laws_laurents, fS, ha]
    refine cast (congrArg K ?_) hJ
    simp [ibne, fS, ha]
  · refine opsI_end fun L hL => ?_
    simp [C.laws_laurents, fS, ha]
    refine hL _ ?_; clear hL L
    simp [C.laws_laurents, fS, ha]
    refine cast (congrArg K ?_) hJ
    simp [ibne, fS, ha]

end Go.Proofs.Ytfcgcgmleogamaa.Ab
namespace Go.Proofs.Ytfcgcgmleogamaa.Ab
open Go
set_option linter.unusedSimpArgs false
set_option linter.unusedVariables false
theorem lexlt_app : ∀ (a b z : List Int), a.length = b.length → lexlt (a ++ z) (b ++ z) = lexlt a b
  | [], [], z, _ => by simp [lexlt_irr, lexlt]
  | x :: a, y :: b, z, h => by simp [lexlt, lexlt_app a b z (by simpa using h)]
  | [], _ :: _, _, h => by simp at h
  | _ :: _, [], _, h => by simp at h
theorem lexlt_pad {a b : List Int} (h : a.length = b.length) : lexlt (pad a) (pad b) = lexlt a b := by
  unfold pad
  rw [← h]
  exact lexlt_app a b _ h
theorem mget_some {k : List Int} {v : Int} : ∀ {es : List (List Int × Int)}, mget k es = some v → (k, v) ∈ es
  | [], h => by simp [mget] at h
  | x :: es, h => by
    simp only [mget] at h
    split at h
    · rename_i e
      simp only [Option.some.injEq] at h
      subst h
      have : x = (k, x.2) := Prod.ext e rfl
      rw [← this]; simp
    · exact List.mem_cons_of_mem _ (mget_some h)
theorem mget_mem {k : List Int} {v : Int} : ∀ {es : List (List Int × Int)}, (es.map (·.1)).Nodup → (k, v) ∈ es → mget k es = some v
  | [], _, h => by simp at h
  | x :: es, hn, h => by
    simp only [List.map_cons, List.nodup_cons] at hn
    simp only [mget]
    rcases List.mem_cons.1 h with e | h
    · rw [← e]; simp
    · rw [if_neg]
      · exact mget_mem hn.2 h
      · rintro e
        exact hn.1 (List.mem_map.2 ⟨(k, v), h, e.symm⟩)
/-- The greatest key of what has come by. -/
structure TopJ (P : List (List Int × Int)) (top : List Int) : Prop where
  len : top.length = 8
  mem : P ≠ [] → ∃ c, (top, c) ∈ P
  max : ∀ y ∈ P, lexlt top y.1 = false
theorem TopJ.keep {P : List (List Int × Int)} {top : List Int} (h : TopJ P top) {y : List Int × Int} (hne : P ≠ []) (hy : lexlt top y.1 = false) : TopJ (P ++ [y]) top := by
  obtain ⟨c, hc⟩ := h.mem hne
  refine ⟨h.len, fun _ => ⟨c, by simp [hc]⟩, fun z hz => ?_⟩
  rcases List.mem_append.1 hz with hz | hz
  · exact h.max z hz
  · simp only [List.mem_singleton] at hz
    subst hz; exact hy
theorem TopJ.next {P : List (List Int × Int)} {top : List Int} (h : TopJ P top) {y : List Int × Int} (hl : y.1.length = 8) (hy : P = [] ∨ lexlt top y.1 = true) : TopJ (P ++ [y]) y.1 := by
  refine ⟨hl, fun _ => ⟨y.2, by simp⟩, fun z hz => ?_⟩
  rcases List.mem_append.1 hz with hz | hz
  · rcases hy with rfl | hy
    · simp at hz
    · cases hq : lexlt y.1 z.1 with
      | false => rfl
      | true =>
        have h1 := h.max z hz
        have h2 := lexlt_tr _ _ _ hy hq
        rw [h1] at h2; simp at h2
  · simp only [List.mem_singleton] at hz
    subst hz; exact lexlt_irr _
/-- The greatest key is that of the first term. -/
theorem top_head {n : Nat} {es l P : List (List Int × Int)} {top : List Int} {a : List Int} {c : Int} {R : List (List Int × Int)} (h : MapR n es l) (hl : ∀ x ∈ l, x.1.length = n) (hP : P.Perm es) (hT : TopJ P top) (hR : nf lexlt l = (a, c) :: R) :
    top = pad a ∧ mget top es = some c := by
  have hal : a.length = n := by
    obtain ⟨x, hx, e⟩ := nf_mem (y := (a, c)) (by rw [hR]; simp)
    have h9 := hl x hx
    rw [e] at h9
    exact h9
  have hd := nf_desc lexOrd l
  have hc := co_single lexOrd hd (x := (a, c)) (by rw [hR]; simp)
  rw [nf_co] at hc
  have hcz : c ≠ 0 := nf_nz l (a, c) (by rw [hR]; simp)
  have hva := h.val a hal
  have hga : mget (pad a) es = some c := by
    rw [hc] at hva
    cases hg : mget (pad a) es with
    | none => rw [hg] at hva; simp at hva; exact absurd hva.symm hcz
    | some v => rw [hg] at hva; simp at hva; rw [hva]
  have hmem := mget_some hga
  have hmP := hP.mem_iff.2 hmem
  obtain ⟨v, hv⟩ := hT.mem (by intro e; rw [e] at hmP; simp at hmP)
  have hvE := hP.mem_iff.1 hv
  obtain ⟨hvz, e, hel, he⟩ := h.nz _ hvE
  simp only at he hvz
  have hlt := hT.max _ hmP
  simp only at hlt
  rw [he, lexlt_pad (hel.trans hal.symm)] at hlt
  have hget := mget_mem h.nod hvE
  have hve := h.val e hel
  rw [← he, hget] at hve
  simp only [Option.getD_some] at hve
  have hco : co e (nf lexlt l) ≠ 0 := by rw [nf_co, ← hve]; exact hvz
  obtain ⟨z, hz, ez⟩ := co_mem hco
  have hea : e = a := by
    rw [hR] at hz hd
    rcases List.mem_cons.1 hz with rfl | hz
    · exact ez.symm
    · have h1 := List.rel_of_pairwise_cons hd hz
      simp only at h1
      rw [ez, hlt] at h1
      simp at h1
  subst hea
  exact ⟨he, by rw [he]; exact hga⟩
theorem pad_bd60 {e : List Int} {B : Int} (hB : 0 ≤ B) (hB2 : B ≤ 1000000) (h : ∀ x ∈ e, -B ≤ x ∧ x ≤ B) : ∀ x ∈ pad e, -1000000 ≤ x ∧ x ≤ 1000000 := fun x hx => by
  unfold pad at hx
  rcases List.mem_append.1 hx with hx | hx
  · have := h x hx; omega
  · have := List.eq_of_mem_replicate hx; omega
/-- What a step of division has put behind the rest so far. -/
def negT (e : List Int) (q : Int) (g : List Trm) : List (List Int × Int) := g.map fun t => (addE 1 e t.e, -q * t.c)
theorem negT_step {e : List Int} {q : Int} {g : List Trm} {i : Nat} (h : i < g.length) : negT e q (g.take (i + 1)) = negT e q (g.take i) ++ [(addE 1 e g[i].e, -q * g[i].c)] := by
  unfold negT
  rw [List.take_succ_eq_append_getElem h, List.map_append]
  rfl
theorem step_nf {g : Lau} {x : List Int × Int} {R l l2 : List (List Int × Int)} (hR : nf lexlt l = x :: R) (hl2 : l2.Perm (l ++ negT (addE (-1) x.1 (leadE g)) (x.2.tdiv (leadC g)) g.ts)) : nf lexlt l2 = nf lexlt (stepL g x R) := by
  refine nf_unique lexOrd (nf_desc lexOrd _) (nf_nz _) fun k => ?_
  rw [nf_co, co_perm k hl2, stepL, co_append, co_append, ← hR, nf_co]
  congr 1
  unfold negT mulT
  rw [List.map_map]
  rfl
end Go.Proofs.Ytfcgcgmleogamaa.Ab
namespace Go.Proofs.Ytfcgcgmleogamaa.Ab
open Go
theorem addE_dv2 : ∀ (a b : List Int), a.length = b.length → addE (-1) (addE 1 a b) b = a
  | [], [], _ => rfl
  | x :: a, y :: b, h => by
    simp only [addE, addE_dv2 a b (by simpa using h)]
    congr 1
    omega
  | [], _ :: _, h => by simp at h
  | _ :: _, [], h => by simp at h
structure DivO (g : Lau) (n : Nat) (R O : List (List Int × Int)) : Prop where
  od : Desc lexlt O
  oz : Nz O
  ol : ∀ x ∈ O, x.1.length = n
  sep : ∀ x ∈ O, ∀ y ∈ R, lexlt y.1 (addE 1 x.1 (leadE g)) = true
theorem DivO.step {g : Lau} {n : Nat} {x : List Int × Int} {R O : List (List Int × Int)} (h : DivO g n (x :: R) O) (hR : Desc lexlt (x :: R)) (hRl : ∀ y ∈ x :: R, y.1.length = n) (hg : Right g) (hgn : g.v = n) (hne : g.ts ≠ []) (hm : x.2.tmod (leadC g) = 0) (hq : x.2.tdiv (leadC g) ≠ 0) :
    DivO g n (nf lexlt (stepL g x R)) (O ++ [(addE (-1) x.1 (leadE g), x.2.tdiv (leadC g))]) := by
  have hgm : g.ts.map pr = (leadE g, leadC g) :: (g.ts.tail.map pr) := by
    unfold leadE leadC
    match hh : g.ts, hne with
    | t :: ts, _ => rfl
  have hgd := pr_desc hg
  have hgD := pr_dig hg hgn
  rw [hgm] at hgd hgD
  have hbl : (leadE g).length = n := (hgD (leadE g, leadC g) (by simp)).1
  have hxl := hRl x (by simp)
  have hless := step_less lexOrd (lauAct n) hR hRl hgd (fun y hy => (hgD y hy).1) hm
  rw [← hgm] at hless
  have hel : (addE (-1) x.1 (leadE g)).length = n := by rw [addE_length _ _ _ (hxl.trans hbl.symm)]; exact hxl
  have hback : addE 1 (addE (-1) x.1 (leadE g)) (leadE g) = x.1 := addE_dv _ _ (hxl.trans hbl.symm)
  refine ⟨?_, fun y hy => ?_, fun y hy => ?_, fun y hy z hz => ?_⟩
  · refine List.pairwise_append.2 ⟨h.od, List.pairwise_singleton .., fun y hy z hz => ?_⟩
    simp only [List.mem_singleton] at hz
    subst hz
    have h1 := h.sep y hy x (by simp)
    have hyl := h.ol y hy
    have h2 := lexlt_addE (-1) x.1 (addE 1 y.1 (leadE g)) (leadE g) (hxl.trans hbl.symm) (by rw [addE_length _ _ _ (hyl.trans hbl.symm)]; exact hyl.trans hbl.symm)
    rw [addE_dv2 _ _ (hyl.trans hbl.symm)] at h2
    show lexlt (addE (-1) x.1 (leadE g)) y.1 = true
    rw [h2]
    exact h1
  · rcases List.mem_append.1 hy with hy | hy
    · exact h.oz y hy
    · simp only [List.mem_singleton] at hy
      subst hy; exact hq
  · rcases List.mem_append.1 hy with hy | hy
    · exact h.ol y hy
    · simp only [List.mem_singleton] at hy
      subst hy; exact hel
  · have h1 := (hless z hz).1
    rcases List.mem_append.1 hy with hy | hy
    · exact lexlt_tr _ _ _ h1 (h.sep y hy x (by simp))
    · simp only [List.mem_singleton] at hy
      subst hy
      show lexlt z.1 (addE 1 (addE (-1) x.1 (leadE g)) (leadE g)) = true
      rw [hback]
      exact h1
theorem DivO.nf {g : Lau} {n : Nat} {R O : List (List Int × Int)} (h : DivO g n R O) : Ab.nf lexlt O = O := (nf_unique lexOrd h.od h.oz fun k => rfl).symm
theorem DivO.shut {g : Lau} {n : Nat} {R O : List (List Int × Int)} (h : DivO g n R O) (v : Int) : shutF v O = endF v (some O) := by
  unfold shutF endF
  rw [h.nf]
theorem cmpL_gt (a b : List Int) : decide (0 < cmpL a b) = lexlt b a := by
  have := cmpL_pos a b
  by_cases h : cmpL a b ≤ 0
  · rw [decide_eq_true h] at this
    rw [decide_eq_false (by omega)]
    cases hh : lexlt b a with
    | false => rfl
    | true => rw [hh] at this; simp at this
  · rw [decide_eq_false h] at this
    rw [decide_eq_true (by omega)]
    cases hh : lexlt b a with
    | true => rfl
    | false => rw [hh] at this; simp at this
end Go.Proofs.Ytfcgcgmleogamaa.Ab
namespace Go.Proofs.Ytfcgcgmleogamaa.Ab
open Go
set_option linter.unusedSimpArgs false
set_option linter.unusedVariables false
set_option maxRecDepth 10000
set_option maxHeartbeats 2000000


end Go.Proofs.Ytfcgcgmleogamaa.Ab
namespace Go.Proofs.Ytfcgcgmleogamaa.Ab
open Go
set_option linter.unusedSimpArgs false
set_option linter.unusedVariables false
set_option maxRecDepth 10000
set_option maxHeartbeats 2000000
attribute [local simp] mapKV flatInt tileB
structure LJ (n : Nat) (es l : List (List Int × Int)) (B : Nat) : Prop where
  map : MapR n es l
  len : ∀ x ∈ l, x.1.length = n
  abs : absE l ≤ B
theorem LJ.add {n : Nat} {es l : List (List Int × Int)} {B : Nat} (h : LJ n es l B) {e : List Int} (he : e.length = n) {c : Int} {X : Nat} (hc : c.natAbs ≤ X) : LJ n (madd es (pad e) c) ((e, c) :: l) (B + X) := by
  refine ⟨h.map.add he c, fun x hx => ?_, ?_⟩
  · rcases List.mem_cons.1 hx with rfl | hx
    · exact he
    · exact h.len x hx
  · have := h.abs
    simp only [absE, List.map_cons, List.sum_cons] at *
    omega
theorem LJ.val {n : Nat} {es l : List (List Int × Int)} {B : Nat} (h : LJ n es l B) {e : List Int} (he : e.length = n) {c : Int} {X : Nat} (hc : c.natAbs ≤ X) (hB : B + X ≤ 4000000000000000000) : -9223372036854775808 ≤ c + (mget (pad e) es).getD 0 ∧ c + (mget (pad e) es).getD 0 < 9223372036854775808 := by
  have h1 := h.map.val e he
  have h2 := co_abs e l
  have h3 := h.abs
  rw [h1]
  omega
theorem LJ.mono {n : Nat} {es l : List (List Int × Int)} {B C : Nat} (h : LJ n es l B) (hB : B ≤ C) : LJ n es l C := ⟨h.map, h.len, Nat.le_trans h.abs hB⟩
theorem divF_some {f g : Lau} {n : Nat} (hf : Right f) (hg : Right g) (hn : f.v = n) (hgn : g.v = n) (hne : g.ts ≠ []) : divF f g = endF n (divL chkI g 600 (f.ts.map pr)) := by
  unfold divF
  rw [if_pos ⟨⟨hf, hg, by omega⟩, hne⟩, hn]
theorem impl_DivideLaurents_l1 (f g : Lau) (n : Nat) (hn : f.v = n) (hv : n ≤ 8) (hf : Right f) (hfl : f.ts.length ≤ 600) (Q0 : AEx → St → Prop) (hX0 : ∀ es l, LJ n es l 600000000 → l.Perm (f.ts.map pr) → Q0 (.exit 0) ⟨ofL [(2, .pt (2, 0) [] 0), (3, .pt (3, 0) [] 0), (4, .pt (4, 0) [] 0), (6, .pt (6, 0) [] 0), (34, .d (.sh 2 f.ts.length (rows tS f.ts))), (35, .int f.ts.length), (36, .int f.ts.length), (37, .bool false)], ofRO [((2, 0), some (.bx (fS f))), ((3, 0), some (.bx (fS g))), ((4, 0), some (.bx [D.int 0, .v (.slice none 0 0)])), ((6, 0), some (.bx [D.int n, .mp es]))]⟩) : AWp C.impl_DivideLaurents (codeAt Try.f139 [1, 1, 1, 0, 1, 0]) 0 Q0 ⟨ofL [(2, .pt (2, 0) [] 0), (3, .pt (3, 0) [] 0), (4, .pt (4, 0) [] 0), (6, .pt (6, 0) [] 0), (34, .d (.sh 2 f.ts.length (rows tS f.ts))), (35, .int f.ts.length), (36, .int 0)], ofRO [((2, 0), some (.bx (fS f))), ((3, 0), some (.bx (fS g))), ((4, 0), some (.bx [D.int 0, .v (.slice none 0 0)])), ((6, 0), some (.bx [D.int n, .mp []]))]⟩ := by
  simp only [codeAt, Try.f139, walkCode]
  refine wloop (fun x : Nat × List (List Int × Int) × List (List Int × Int) => ⟨ofL [(2, .pt (2, 0) [] 0), (3, .pt (3, 0) [] 0), (4, .pt (4, 0) [] 0), (6, .pt (6, 0) [] 0), (34, .d (.sh 2 f.ts.length (rows tS f.ts))), (35, .int f.ts.length), (36, .int x.1)], ofRO [((2, 0), some (.bx (fS f))), ((3, 0), some (.bx (fS g))), ((4, 0), some (.bx [D.int 0, .v (.slice none 0 0)])), ((6, 0), some (.bx [D.int n, .mp x.2.1]))]⟩) (fun x => x.1 ≤ f.ts.length ∧ LJ n x.2.1 x.2.2 (x.1 * 1000000) ∧ x.2.2.Perm ((f.ts.map pr).take x.1)) (fun x => f.ts.length - x.1) (0, [], []) (by simp [C.impl_DivideLaurents, fS, hn]) ⟨by simp, ⟨MapR.nil n, by simp, by simp [absE]⟩, by simp⟩ ?_
  intro x1 hx1 R1 hR1
  obtain ⟨i, es, l⟩ := x1
  obtain ⟨hi, hLJ, hP⟩ := hx1
  dsimp only at hi hLJ hP ⊢
  refine wseq ?_
  refine wreg fun K hK => ?_
  simp [C.impl_DivideLaurents, fS]
  refine hK _ ?_; clear hK K
  show AWp _ _ _ _ _
  refine wseq ?_
  refine wcond _ rfl (fun hc2 => ?_) (fun hc2 => ?_)
  · have hif : i < f.ts.length := by have := d_t hc2; omega
    have hT := right_dig hf hn _ (List.getElem_mem hif)
    refine wskip ?_
    show AWp _ _ _ _ _
    refine wseq ?_
    refine wblock ?_
    refine wseq ?_
    refine wreg fun K hK => ?_
    simp [C.impl_DivideLaurents, fS, hif, tS_0 hif, tS_1 hif]
    refine hK _ ?_; clear hK K
    show AWp _ _ _ _ _
    obtain ⟨a0, a1, a2, a3, a4, a5, a6, a7, hpa⟩ := eight (pad_length (e := f.ts[i].e) (by omega))
    have hval := hLJ.val hT.1 (c := f.ts[i].c) (X := 1000000) (by omega) (by omega)
    rw [hpa] at hval
    refine wdrawI [(true, 0), (true, 1), (true, 2), (true, 4), (true, 5), (false, 3), (false, 6)] ⟨by kernel_rfl, by kernel_rfl⟩ ([0, 1, 2, 4, 5, 3] ++ ([6] ++ ([]))) rfl fun K hK => ?_
    refine opsI_seg fun L hL => ?_
    simp [C.impl_DivideLaurents, fS, tS]
    refine wcall1 (impl_keyOf_calls f.ts[i].e (by omega) a0 a1 a2 a3 a4 a5 a6 a7 hpa) (by simp) (by simp) ?_
    simp [C.impl_DivideLaurents, fS, tS]
    refine hL _ ?_; clear hL L
    refine opsI_seg fun L hL => ?_
    simp [C.impl_DivideLaurents, fS, tS]
    refine wcall1 (impl_building_add_calls n f.ts[i].c es a0 a1 a2 a3 a4 a5 a6 a7 (hLJ.map.len8 hv) hval) (by simp) (by simp) ?_
    simp [C.impl_DivideLaurents, fS, tS]
    refine hL _ ?_; clear hL L
    refine opsI_end fun L hL => ?_
    simp only [AOpsI]
    refine hL _ ?_; clear hL L
    simp [C.impl_DivideLaurents, fS, tS]
    rw [← hpa]
    refine hK _ ?_; clear hK K
    show AWp _ _ _ _ _
    refine wreg fun K hK => ?_
    simp [C.impl_DivideLaurents, fS, wrap_succ (show i < 4611686018427387904 by omega)]
    refine hK _ ?_; clear hK K
    simp [C.impl_DivideLaurents, fS]
    refine cast (congrArg R1 ?_) (hR1 (i + 1, madd es (pad f.ts[i].e) f.ts[i].c, (f.ts[i].e, f.ts[i].c) :: l) ⟨hif, ?_, ?_⟩ (by dsimp only; omega))
    · simp [fS, hn]
    · have := hLJ.add hT.1 (c := f.ts[i].c) (X := 1000000) (by omega)
      dsimp only
      rwa [Nat.add_mul, Nat.one_mul]
    · dsimp only
      rw [List.take_succ_eq_append_getElem (by simpa using hif)]
      refine (List.Perm.cons _ hP).trans ?_
      simp only [List.getElem_map, pr]
      exact (List.perm_append_singleton _ _).symm
  · have hif : i = f.ts.length := by have := d_f hc2; omega
    have hall : l.Perm (f.ts.map pr) := by
      rw [List.take_of_length_le (by simp; omega)] at hP
      exact hP
    refine wexit ?_
    refine cast (congrArg (Q0 (.exit 0)) ?_) (hX0 es l (hLJ.mono (by rw [hif]; omega)) hall)
    simp [fS, hn, hif]

theorem impl_DivideLaurents_r21 (f g : Lau) (n : Nat) (hn : f.v = n) (es eo P rest : List (List Int × Int)) (k0 k1 k2 k3 k4 k5 k6 k7 t0 t1 t2 t3 t4 t5 t6 t7 xc : Int) (i : Nat) (i0 : Nat) (Q0 : AEx → St → Prop) (hJ0 : Q0 .normal ⟨ofL [(2, .pt (2, 0) [] 0), (3, .pt (3, 0) [] 0), (4, .pt (4, 0) [] 0), (6, .pt (6, 0) [] 0), (9, .pt (9, 0) [] 0), (10, .pt (10, 0) [] 0), (11, .pt (11, 0) [] 0), (12, .bool (decide (P = []))), (13, .pt (13, 0) [] 0), (65, .it (65, 0) (6, 0) [1] (rest.eraseIdx i) (some ([k0, k1, k2, k3, k4, k5, k6, k7], xc))), (76, .bool (decide (P = [] ∨ lexlt [t0, t1, t2, t3, t4, t5, t6, t7] [k0, k1, k2, k3, k4, k5, k6, k7] = true)))], ofRO [((2, 0), some (.bx (fS f))), ((3, 0), some (.bx (fS g))), ((4, 0), some (.bx [D.int 0, .v (.slice none 0 0)])), ((6, 0), some (.bx [D.int n, .mp es])), ((9, 0), some (.bx [D.int n, .mp eo])), ((10, 0), some (.bx [shI (leadE g), D.int (leadC g)])), ((11, 0), some (.bx [D.int t0, D.int t1, D.int t2, D.int t3, D.int t4, D.int t5, D.int t6, D.int t7])), ((13, 0), some (.bx [D.int k0, D.int k1, D.int k2, D.int k3, D.int k4, D.int k5, D.int k6, D.int k7])), ((65, 0), some .itr)]⟩) : AWp C.impl_DivideLaurents (codeAt Try.f139 [1, 1, 1, 1, 1, 1, 0, 0, 0, 1, 0, 1, 1, 0, 1, 0, 0, 1, 1, 0, 1, 0]) i0 Q0 ⟨ofL [(2, .pt (2, 0) [] 0), (3, .pt (3, 0) [] 0), (4, .pt (4, 0) [] 0), (6, .pt (6, 0) [] 0), (9, .pt (9, 0) [] 0), (10, .pt (10, 0) [] 0), (11, .pt (11, 0) [] 0), (12, .bool (decide (P = []))), (13, .pt (13, 0) [] 0), (65, .it (65, 0) (6, 0) [1] (rest.eraseIdx i) (some ([k0, k1, k2, k3, k4, k5, k6, k7], xc)))], ofRO [((2, 0), some (.bx (fS f))), ((3, 0), some (.bx (fS g))), ((4, 0), some (.bx [D.int 0, .v (.slice none 0 0)])), ((6, 0), some (.bx [D.int n, .mp es])), ((9, 0), some (.bx [D.int n, .mp eo])), ((10, 0), some (.bx [shI (leadE g), D.int (leadC g)])), ((11, 0), some (.bx [D.int t0, D.int t1, D.int t2, D.int t3, D.int t4, D.int t5, D.int t6, D.int t7])), ((13, 0), some (.bx [D.int k0, D.int k1, D.int k2, D.int k3, D.int k4, D.int k5, D.int k6, D.int k7])), ((65, 0), some .itr)]⟩ := by
  simp only [codeAt, Try.f139, walkCode]
  refine wdrawI [(true, 0), (true, 1), (true, 2), (true, 3), (false, 4), (true, 5), (true, 6)] ⟨by kernel_rfl, by kernel_rfl⟩ ([0, 1, 2, 3, 4] ++ ([5, 6])) rfl fun K hK => ?_
  have hJ : K ⟨ofL [(2, .pt (2, 0) [] 0), (3, .pt (3, 0) [] 0), (4, .pt (4, 0) [] 0), (6, .pt (6, 0) [] 0), (9, .pt (9, 0) [] 0), (10, .pt (10, 0) [] 0), (11, .pt (11, 0) [] 0), (12, .bool (decide (P = []))), (13, .pt (13, 0) [] 0), (65, .it (65, 0) (6, 0) [1] (rest.eraseIdx i) (some ([k0, k1, k2, k3, k4, k5, k6, k7], xc))), (76, .bool (decide (P = [] ∨ lexlt [t0, t1, t2, t3, t4, t5, t6, t7] [k0, k1, k2, k3, k4, k5, k6, k7] = true)))], ofRO [((2, 0), some (.bx (fS f))), ((3, 0), some (.bx (fS g))), ((4, 0), some (.bx [D.int 0, .v (.slice none 0 0)])), ((6, 0), some (.bx [D.int n, .mp es])), ((9, 0), some (.bx [D.int n, .mp eo])), ((10, 0), some (.bx [shI (leadE g), D.int (leadC g)])), ((11, 0), some (.bx [D.int t0, D.int t1, D.int t2, D.int t3, D.int t4, D.int t5, D.int t6, D.int t7])), ((13, 0), some (.bx [D.int k0, D.int k1, D.int k2, D.int k3, D.int k4, D.int k5, D.int k6, D.int k7])), ((65, 0), some .itr)]⟩ := by
    refine hK _ ?_; clear hK K
    exact hJ0
  clear hK
  by_cases hp : P = []
  · refine opsI_seg fun L hL => ?_
    simp [C.impl_DivideLaurents, fS, ints, sh8, hp]
    refine hL _ ?_; clear hL L
    refine opsI_end fun L hL => ?_
    simp [C.impl_DivideLaurents, fS, ints, sh8, hp]
    refine hL _ ?_; clear hL L
    simp [C.impl_DivideLaurents, fS, ints, sh8, hp]
    refine cast (congrArg K ?_) hJ
    simp [cmpL_gt, hn, fS, hp]
  · refine opsI_seg fun L hL => ?_
    simp [C.impl_DivideLaurents, fS, ints, sh8, hp]
    refine wcall1 (slices_Compare_int_int_calls [k0, k1, k2, k3, k4, k5, k6, k7] [t0, t1, t2, t3, t4, t5, t6, t7] (by simp)) (by simp [fS, ints, sh8]) (by simp) ?_
    simp [C.impl_DivideLaurents, fS, ints, sh8, hp]
    refine hL _ ?_; clear hL L
    refine opsI_end fun L hL => ?_
    simp [C.impl_DivideLaurents, fS, ints, sh8, hp]
    refine hL _ ?_; clear hL L
    simp [C.impl_DivideLaurents, fS, ints, sh8, hp]
    refine cast (congrArg K ?_) hJ
    simp [cmpL_gt, hn, fS, hp]

theorem impl_DivideLaurents_l3 (f g : Lau) (n : Nat) (hn : f.v = n) (es eo : List (List Int × Int)) (hm8 : mapLen 8 es) (Q0 : AEx → St → Prop) (hX0 : ∀ P top cur, P.Perm es → TopJ P top → Q0 (.exit 4) ⟨ofL [(2, .pt (2, 0) [] 0), (3, .pt (3, 0) [] 0), (4, .pt (4, 0) [] 0), (6, .pt (6, 0) [] 0), (9, .pt (9, 0) [] 0), (10, .pt (10, 0) [] 0), (11, .pt (11, 0) [] 0), (12, .bool (decide (P = []))), (65, .it (65, 0) (6, 0) [1] [] cur), (67, .bool false)], ofRO [((2, 0), some (.bx (fS f))), ((3, 0), some (.bx (fS g))), ((4, 0), some (.bx [D.int 0, .v (.slice none 0 0)])), ((6, 0), some (.bx [D.int n, .mp es])), ((9, 0), some (.bx [D.int n, .mp eo])), ((10, 0), some (.bx [shI (leadE g), D.int (leadC g)])), ((11, 0), some (.bx (ints top))), ((65, 0), some .itr)]⟩) : AWp C.impl_DivideLaurents (codeAt Try.f139 [1, 1, 1, 1, 1, 1, 0, 0, 0, 1, 0, 1, 1, 0, 1, 0]) 4 Q0 ⟨ofL [(2, .pt (2, 0) [] 0), (3, .pt (3, 0) [] 0), (4, .pt (4, 0) [] 0), (6, .pt (6, 0) [] 0), (9, .pt (9, 0) [] 0), (10, .pt (10, 0) [] 0), (11, .pt (11, 0) [] 0), (12, .bool (decide (([] : List (List Int × Int)) = []))), (65, .it (65, 0) (6, 0) [1] es none)], ofRO [((2, 0), some (.bx (fS f))), ((3, 0), some (.bx (fS g))), ((4, 0), some (.bx [D.int 0, .v (.slice none 0 0)])), ((6, 0), some (.bx [D.int n, .mp es])), ((9, 0), some (.bx [D.int n, .mp eo])), ((10, 0), some (.bx [shI (leadE g), D.int (leadC g)])), ((11, 0), some (.bx (ints [0, 0, 0, 0, 0, 0, 0, 0]))), ((65, 0), some .itr)]⟩ := by
  simp only [codeAt, Try.f139, walkCode]
  refine wloop (fun x : List (List Int × Int) × List Int × List (List Int × Int) × Option (List Int × Int) => ⟨ofL [(2, .pt (2, 0) [] 0), (3, .pt (3, 0) [] 0), (4, .pt (4, 0) [] 0), (6, .pt (6, 0) [] 0), (9, .pt (9, 0) [] 0), (10, .pt (10, 0) [] 0), (11, .pt (11, 0) [] 0), (12, .bool (decide (x.1 = []))), (65, .it (65, 0) (6, 0) [1] x.2.2.1 x.2.2.2)], ofRO [((2, 0), some (.bx (fS f))), ((3, 0), some (.bx (fS g))), ((4, 0), some (.bx [D.int 0, .v (.slice none 0 0)])), ((6, 0), some (.bx [D.int n, .mp es])), ((9, 0), some (.bx [D.int n, .mp eo])), ((10, 0), some (.bx [shI (leadE g), D.int (leadC g)])), ((11, 0), some (.bx (ints x.2.1))), ((65, 0), some .itr)]⟩) (fun x => (x.1 ++ x.2.2.1).Perm es ∧ TopJ x.1 x.2.1) (fun x => x.2.2.1.length) ([], [0, 0, 0, 0, 0, 0, 0, 0], es, none) (by simp [C.impl_DivideLaurents, fS, hn, ints]) ⟨by simp, ⟨rfl, by simp, by simp⟩⟩ ?_
  intro x3 hx3 R3 hR3
  obtain ⟨P, top, rest, cur⟩ := x3
  obtain ⟨hq, hT⟩ := hx3
  dsimp only at hq hT ⊢
  refine wseq ?_
  refine wreg fun K hK => ?_
  simp [C.impl_DivideLaurents, fS]
  refine ⟨fun hrest => ?_, fun i xk xc hxi => ?_⟩
  · refine hK _ ?_; clear hK K
    show AWp _ _ _ _ _
    refine wseq ?_
    refine wcond _ rfl (fun hc4 => ?_) (fun hc4 => ?_)
    · simp at hc4
    · subst hrest
      have hqe : P.Perm es := by simpa using hq
      refine wexit ?_
      refine cast (congrArg (Q0 (.exit 4)) ?_) (hX0 P top cur hqe hT)
      simp [fS, hn]
  · refine hK _ ?_; clear hK K
    show AWp _ _ _ _ _
    refine wseq ?_
    refine wcond _ rfl (fun hc6 => ?_) (fun hc6 => ?_)
    · have hxm : (xk, xc) ∈ rest := List.mem_of_getElem? hxi
      have hxl := hm8 _ (hq.subset (List.mem_append_right P hxm))
      dsimp only at hxl
      obtain ⟨k0, k1, k2, k3, k4, k5, k6, k7, rfl⟩ := eight hxl
      obtain ⟨t0, t1, t2, t3, t4, t5, t6, t7, rfl⟩ := eight hT.len
      have hil : i < rest.length := by
        rcases Nat.lt_or_ge i rest.length with h | h
        · exact h
        · rw [List.getElem?_eq_none h] at hxi; simp at hxi
      have hper : (P ++ [([k0, k1, k2, k3, k4, k5, k6, k7], xc)] ++ rest.eraseIdx i).Perm es := by
        have hget : rest[i] = ([k0, k1, k2, k3, k4, k5, k6, k7], xc) := by
          rw [List.getElem?_eq_getElem hil] at hxi
          injection hxi
        have h9 := erase_perm rest i hil
        rw [hget] at h9
        refine List.Perm.trans ?_ hq
        rw [List.append_assoc]
        exact List.Perm.append_left _ h9
      refine wskip ?_
      show AWp _ _ _ _ _
      refine wblock ?_
      refine wseq ?_
      refine wreg fun K hK => ?_
      simp [C.impl_DivideLaurents, fS, ints]
      refine hK _ ?_; clear hK K
      show AWp _ _ _ _ _
      refine wseq ?_
      refine wcode (c' := codeAt Try.f139 [1, 1, 1, 1, 1, 1, 0, 0, 0, 1, 0, 1, 1, 0, 1, 0, 0, 1, 1, 0, 1, 0]) (by kernel_rfl) ?_
      refine impl_DivideLaurents_r21 f g n hn es eo P rest k0 k1 k2 k3 k4 k5 k6 k7 t0 t1 t2 t3 t4 t5 t6 t7 xc i _ _ ?_
      show AWp _ _ _ _ _
      refine wcond _ rfl (fun hc7 => ?_) (fun hc7 => ?_)
      · have hcm := d_t hc7
        refine wreg fun K hK => ?_
        simp [C.impl_DivideLaurents, fS]
        refine hK _ ?_; clear hK K
        simp [C.impl_DivideLaurents, fS]
        refine cast (congrArg R3 ?_) (hR3 (P ++ [([k0, k1, k2, k3, k4, k5, k6, k7], xc)], [k0, k1, k2, k3, k4, k5, k6, k7], rest.eraseIdx i, some ([k0, k1, k2, k3, k4, k5, k6, k7], xc)) ⟨hper, hT.next rfl hcm⟩ (by dsimp only; rw [List.length_eraseIdx_of_lt hil]; omega))
        simp [fS, hn, ints]
      · have hcm := d_f hc7
        have hPn : P ≠ [] := fun e => hcm (.inl e)
        have hlt : lexlt [t0, t1, t2, t3, t4, t5, t6, t7] [k0, k1, k2, k3, k4, k5, k6, k7] = false := by
          cases hh : lexlt [t0, t1, t2, t3, t4, t5, t6, t7] [k0, k1, k2, k3, k4, k5, k6, k7] with
          | false => rfl
          | true => exact absurd (.inr hh) hcm
        refine wskip ?_
        simp [C.impl_DivideLaurents, fS]
        refine cast (congrArg R3 ?_) (hR3 (P ++ [([k0, k1, k2, k3, k4, k5, k6, k7], xc)], [t0, t1, t2, t3, t4, t5, t6, t7], rest.eraseIdx i, some ([k0, k1, k2, k3, k4, k5, k6, k7], xc)) ⟨hper, hT.keep hPn hlt⟩ (by dsimp only; rw [List.length_eraseIdx_of_lt hil]; omega))
        simp [fS, hn, ints, hPn]
    · simp at hc6

theorem impl_DivideLaurents_r24 (f g : Lau) (n : Nat) (es eo : List (List Int × Int)) (a0 a1 a2 a3 a4 a5 a6 a7 b0 b1 b2 b3 b4 b5 b6 b7 c : Int) (hgl8 : (leadE g).length ≤ 8) (hpb : pad (leadE g) = [b0, b1, b2, b3, b4, b5, b6, b7]) (hba : ∀ x ∈ [a0, a1, a2, a3, a4, a5, a6, a7], -1000000 ≤ x ∧ x ≤ 1000000) (hbb : ∀ x ∈ [b0, b1, b2, b3, b4, b5, b6, b7], -1000000 ≤ x ∧ x ≤ 1000000) (i0 : Nat) (Q0 : AEx → St → Prop) (hJ0 : Q0 .normal ⟨ofL [(2, .pt (2, 0) [] 0), (3, .pt (3, 0) [] 0), (4, .pt (4, 0) [] 0), (6, .pt (6, 0) [] 0), (9, .pt (9, 0) [] 0), (10, .pt (10, 0) [] 0), (14, .int c), (15, .pt (15, 0) [] 0)], ofRO [((2, 0), some (.bx (fS f))), ((3, 0), some (.bx (fS g))), ((4, 0), some (.bx [D.int 0, .v (.slice none 0 0)])), ((6, 0), some (.bx [D.int n, .mp es])), ((9, 0), some (.bx [D.int n, .mp eo])), ((10, 0), some (.bx [shI (leadE g), D.int (leadC g)])), ((15, 0), some (.bx [D.int (a0 + -1 * b0), D.int (a1 + -1 * b1), D.int (a2 + -1 * b2), D.int (a3 + -1 * b3), D.int (a4 + -1 * b4), D.int (a5 + -1 * b5), D.int (a6 + -1 * b6), D.int (a7 + -1 * b7)]))]⟩) : AWp C.impl_DivideLaurents (codeAt Try.f139 [1, 1, 1, 1, 1, 1, 0, 0, 0, 1, 0, 1, 1, 1, 1, 0]) i0 Q0 ⟨ofL [(2, .pt (2, 0) [] 0), (3, .pt (3, 0) [] 0), (4, .pt (4, 0) [] 0), (6, .pt (6, 0) [] 0), (9, .pt (9, 0) [] 0), (10, .pt (10, 0) [] 0), (11, .pt (11, 0) [] 0), (14, .int c)], ofRO [((2, 0), some (.bx (fS f))), ((3, 0), some (.bx (fS g))), ((4, 0), some (.bx [D.int 0, .v (.slice none 0 0)])), ((6, 0), some (.bx [D.int n, .mp es])), ((9, 0), some (.bx [D.int n, .mp eo])), ((10, 0), some (.bx [shI (leadE g), D.int (leadC g)])), ((11, 0), some (.bx (ints [a0, a1, a2, a3, a4, a5, a6, a7])))]⟩ := by
  simp only [codeAt, Try.f139, walkCode]
  refine wdraw (.take 0 (.take 1 (.take 2 (.all [(3, .all [(4, .all [(5, .all [(6, .done)])]), (5, .all [(4, .all [(6, .done)])])]), (5, .all [(3, .all [(4, .all [(6, .done)])])])])))) ⟨by kernel_rfl, by kernel_rfl⟩ fun K hK => ?_
  have hJ : K ⟨ofL [(2, .pt (2, 0) [] 0), (3, .pt (3, 0) [] 0), (4, .pt (4, 0) [] 0), (6, .pt (6, 0) [] 0), (9, .pt (9, 0) [] 0), (10, .pt (10, 0) [] 0), (14, .int c), (15, .pt (15, 0) [] 0)], ofRO [((2, 0), some (.bx (fS f))), ((3, 0), some (.bx (fS g))), ((4, 0), some (.bx [D.int 0, .v (.slice none 0 0)])), ((6, 0), some (.bx [D.int n, .mp es])), ((9, 0), some (.bx [D.int n, .mp eo])), ((10, 0), some (.bx [shI (leadE g), D.int (leadC g)])), ((15, 0), some (.bx [D.int (a0 + -1 * b0), D.int (a1 + -1 * b1), D.int (a2 + -1 * b2), D.int (a3 + -1 * b3), D.int (a4 + -1 * b4), D.int (a5 + -1 * b5), D.int (a6 + -1 * b6), D.int (a7 + -1 * b7)]))]⟩ := by
    refine hK _ ?_; clear hK K
    exact hJ0
  clear hK
  have hk1 := impl_keyOf_calls (leadE g) (by omega) b0 b1 b2 b3 b4 b5 b6 b7 hpb
  have hk2 := impl_plusExp_calls (-1) a0 a1 a2 a3 a4 a5 a6 a7 b0 b1 b2 b3 b4 b5 b6 b7 (by omega) hba hbb
  simp [C.impl_DivideLaurents, fS, ints]
  repeat' first
    | (refine wcall1 hk1 (by simp) (by simp) ?_; simp [C.impl_DivideLaurents, fS])
    | (refine wcall1 hk2 (by simp) (by simp) ?_; simp [C.impl_DivideLaurents, fS])
    | (refine cast (congrArg K ?_) hJ; simp [fS]; done)
    | refine ⟨?_, ?_⟩

theorem impl_DivideLaurents_r26 (f g : Lau) (n : Nat) (hn : f.v = n) (hv : n ≤ 8) (es eo O : List (List Int × Int)) (E : List Int) (e0 e1 e2 e3 e4 e5 e6 e7 c q : Int) (hgc0 : leadC g ≠ 0) (hsh : shareL (List.take n [D.v (.int .i64 e0), D.v (.int .i64 e1), D.v (.int .i64 e2), D.v (.int .i64 e3), D.v (.int .i64 e4), D.v (.int .i64 e5), D.v (.int .i64 e6), D.v (.int .i64 e7)]) = ints E) (hEl : E.length = n) (heol : eo.length = O.length) (i0 : Nat) (Q0 : AEx → St → Prop) (hJ0 : Q0 .normal ⟨ofL [(2, .pt (2, 0) [] 0), (3, .pt (3, 0) [] 0), (4, .pt (4, 0) [] 0), (6, .pt (6, 0) [] 0), (9, .pt (9, 0) [] 0), (10, .pt (10, 0) [] 0), (15, .pt (15, 0) [] 0), (16, .int q), (119, .bool (!decide (((c.tmod (leadC g) = 0 ∧ okE E n = true) ∧ (q ≠ 0 ∧ -1000000 ≤ q ∧ q ≤ 1000000)) ∧ ¬ O.length = 600)))], ofRO [((2, 0), some (.bx (fS f))), ((3, 0), some (.bx (fS g))), ((4, 0), some (.bx [D.int 0, .v (.slice none 0 0)])), ((6, 0), some (.bx [D.int n, .mp es])), ((9, 0), some (.bx [D.int n, .mp eo])), ((10, 0), some (.bx [shI (leadE g), D.int (leadC g)])), ((15, 0), some (.bx [D.int e0, D.int e1, D.int e2, D.int e3, D.int e4, D.int e5, D.int e6, D.int e7]))]⟩) : AWp C.impl_DivideLaurents (codeAt Try.f139 [1, 1, 1, 1, 1, 1, 0, 0, 0, 1, 0, 1, 1, 1, 1, 1, 1, 0, 0]) i0 Q0 ⟨ofL [(2, .pt (2, 0) [] 0), (3, .pt (3, 0) [] 0), (4, .pt (4, 0) [] 0), (6, .pt (6, 0) [] 0), (9, .pt (9, 0) [] 0), (10, .pt (10, 0) [] 0), (14, .int c), (15, .pt (15, 0) [] 0), (16, .int q)], ofRO [((2, 0), some (.bx (fS f))), ((3, 0), some (.bx (fS g))), ((4, 0), some (.bx [D.int 0, .v (.slice none 0 0)])), ((6, 0), some (.bx [D.int n, .mp es])), ((9, 0), some (.bx [D.int n, .mp eo])), ((10, 0), some (.bx [shI (leadE g), D.int (leadC g)])), ((15, 0), some (.bx [D.int e0, D.int e1, D.int e2, D.int e3, D.int e4, D.int e5, D.int e6, D.int e7]))]⟩ := by
  simp only [codeAt, Try.f139, walkCode]
  refine wdrawI [(true, 0), (true, 1), (true, 2), (true, 3), (true, 4), (true, 5), (true, 6), (true, 7), (true, 8), (true, 9), (true, 10), (false, 11), (true, 12), (true, 13), (true, 14), (true, 15), (false, 16), (true, 17), (true, 18), (true, 19), (true, 20), (true, 21), (true, 22), (true, 23), (true, 24), (true, 25), (true, 26)] ⟨by kernel_rfl, by kernel_rfl⟩ ([0, 1, 2, 3, 4, 5, 6, 7, 8, 9, 10, 11] ++ ([12, 13, 14, 15, 16] ++ ([17, 18, 19, 20, 21, 22, 23, 24, 25, 26]))) rfl fun K hK => ?_
  have hJ : K ⟨ofL [(2, .pt (2, 0) [] 0), (3, .pt (3, 0) [] 0), (4, .pt (4, 0) [] 0), (6, .pt (6, 0) [] 0), (9, .pt (9, 0) [] 0), (10, .pt (10, 0) [] 0), (15, .pt (15, 0) [] 0), (16, .int q), (119, .bool (!decide (((c.tmod (leadC g) = 0 ∧ okE E n = true) ∧ (q ≠ 0 ∧ -1000000 ≤ q ∧ q ≤ 1000000)) ∧ ¬ O.length = 600)))], ofRO [((2, 0), some (.bx (fS f))), ((3, 0), some (.bx (fS g))), ((4, 0), some (.bx [D.int 0, .v (.slice none 0 0)])), ((6, 0), some (.bx [D.int n, .mp es])), ((9, 0), some (.bx [D.int n, .mp eo])), ((10, 0), some (.bx [shI (leadE g), D.int (leadC g)])), ((15, 0), some (.bx [D.int e0, D.int e1, D.int e2, D.int e3, D.int e4, D.int e5, D.int e6, D.int e7]))]⟩ := by
    refine hK _ ?_; clear hK K
    exact hJ0
  clear hK
  by_cases g1 : c.tmod (leadC g) = 0
  · by_cases g2 : okE E n = true
    · by_cases g3 : (q ≠ 0 ∧ -1000000 ≤ q ∧ q ≤ 1000000)
      · refine opsI_seg fun L hL => ?_
        simp [C.impl_DivideLaurents, fS, hgc0, hn, show ((n : Int) ≤ 8) by omega, hv, Nat.min_eq_left hv, hsh, hEl, heol, g1, g2, g3]
        refine wcall1 (impl_expOk_calls E n (by omega)) (by simp [fS, hgc0, hn, show ((n : Int) ≤ 8) by omega, hv, Nat.min_eq_left hv, hsh, hEl, heol]) (by simp) ?_
        simp [C.impl_DivideLaurents, fS, hgc0, hn, show ((n : Int) ≤ 8) by omega, hv, Nat.min_eq_left hv, hsh, hEl, heol, g1, g2, g3]
        refine hL _ ?_; clear hL L
        refine opsI_seg fun L hL => ?_
        simp [C.impl_DivideLaurents, fS, hgc0, hn, show ((n : Int) ≤ 8) by omega, hv, Nat.min_eq_left hv, hsh, hEl, heol, g1, g2, g3]
        refine wcall1 (impl_coefOk_calls q) (by simp) (by simp) ?_
        simp [C.impl_DivideLaurents, fS, hgc0, hn, show ((n : Int) ≤ 8) by omega, hv, Nat.min_eq_left hv, hsh, hEl, heol, g1, g2, g3]
        refine hL _ ?_; clear hL L
        refine opsI_end fun L hL => ?_
        simp [C.impl_DivideLaurents, fS, hgc0, hn, show ((n : Int) ≤ 8) by omega, hv, Nat.min_eq_left hv, hsh, hEl, heol, g1, g2, g3]
        refine hL _ ?_; clear hL L
        simp [C.impl_DivideLaurents, fS, hgc0, hn, show ((n : Int) ≤ 8) by omega, hv, Nat.min_eq_left hv, hsh, hEl, heol, g1, g2, g3]
        refine cast (congrArg K ?_) hJ
        simp [ieq600, hn, fS, g1, g2, g3]
      · refine opsI_seg fun L hL => ?_
        simp [C.impl_DivideLaurents, fS, hgc0, hn, show ((n : Int) ≤ 8) by omega, hv, Nat.min_eq_left hv, hsh, hEl, heol, g1, g2, g3]
        refine wcall1 (impl_expOk_calls E n (by omega)) (by simp [fS, hgc0, hn, show ((n : Int) ≤ 8) by omega, hv, Nat.min_eq_left hv, hsh, hEl, heol]) (by simp) ?_
        simp [C.impl_DivideLaurents, fS, hgc0, hn, show ((n : Int) ≤ 8) by omega, hv, Nat.min_eq_left hv, hsh, hEl, heol, g1, g2, g3]
        refine hL _ ?_; clear hL L
        refine opsI_seg fun L hL => ?_
        simp [C.impl_DivideLaurents, fS, hgc0, hn, show ((n : Int) ≤ 8) by omega, hv, Nat.min_eq_left hv, hsh, hEl, heol, g1, g2, g3]
        refine wcall1 (impl_coefOk_calls q) (by simp) (by simp) ?_
        simp [C.impl_DivideLaurents, fS, hgc0, hn, show ((n : Int) ≤ 8) by omega, hv, Nat.min_eq_left hv, hsh, hEl, heol, g1, g2, g3]
        refine hL _ ?_; clear hL L
        refine opsI_end fun L hL => ?_
        simp [C.impl_DivideLaurents, fS, hgc0, hn, show ((n : Int) ≤ 8) by omega, hv, Nat.min_eq_left hv, hsh, hEl, heol, g1, g2, g3]
        refine hL _ ?_; clear hL L
        simp [C.impl_DivideLaurents, fS, hgc0, hn, show ((n : Int) ≤ 8) by omega, hv, Nat.min_eq_left hv, hsh, hEl, heol, g1, g2, g3]
        refine cast (congrArg K ?_) hJ
        simp [ieq600, hn, fS, g1, g2, g3]
    · refine opsI_seg fun L hL => ?_
      simp [C.impl_DivideLaurents, fS, hgc0, hn, show ((n : Int) ≤ 8) by omega, hv, Nat.min_eq_left hv, hsh, hEl, heol, g1, g2]
      refine wcall1 (impl_expOk_calls E n (by omega)) (by simp [fS, hgc0, hn, show ((n : Int) ≤ 8) by omega, hv, Nat.min_eq_left hv, hsh, hEl, heol]) (by simp) ?_
      simp [C.impl_DivideLaurents, fS, hgc0, hn, show ((n : Int) ≤ 8) by omega, hv, Nat.min_eq_left hv, hsh, hEl, heol, g1, g2]
      refine hL _ ?_; clear hL L
      refine opsI_seg fun L hL => ?_
      simp [C.impl_DivideLaurents, fS, hgc0, hn, show ((n : Int) ≤ 8) by omega, hv, Nat.min_eq_left hv, hsh, hEl, heol, g1, g2]
      refine hL _ ?_; clear hL L
      refine opsI_end fun L hL => ?_
      simp [C.impl_DivideLaurents, fS, hgc0, hn, show ((n : Int) ≤ 8) by omega, hv, Nat.min_eq_left hv, hsh, hEl, heol, g1, g2]
      refine hL _ ?_; clear hL L
      simp [C.impl_DivideLaurents, fS, hgc0, hn, show ((n : Int) ≤ 8) by omega, hv, Nat.min_eq_left hv, hsh, hEl, heol, g1, g2]
      refine cast (congrArg K ?_) hJ
      simp [ieq600, hn, fS, g1, g2]
  · refine opsI_seg fun L hL => ?_
    simp [C.impl_DivideLaurents, fS, hgc0, hn, show ((n : Int) ≤ 8) by omega, hv, Nat.min_eq_left hv, hsh, hEl, heol, g1]
    refine hL _ ?_; clear hL L
    refine opsI_seg fun L hL => ?_
    simp [C.impl_DivideLaurents, fS, hgc0, hn, show ((n : Int) ≤ 8) by omega, hv, Nat.min_eq_left hv, hsh, hEl, heol, g1]
    refine hL _ ?_; clear hL L
    refine opsI_end fun L hL => ?_
    simp [C.impl_DivideLaurents, fS, hgc0, hn, show ((n : Int) ≤ 8) by omega, hv, Nat.min_eq_left hv, hsh, hEl, heol, g1]
    refine hL _ ?_; clear hL L
    simp [C.impl_DivideLaurents, fS, hgc0, hn, show ((n : Int) ≤ 8) by omega, hv, Nat.min_eq_left hv, hsh, hEl, heol, g1]
    refine cast (congrArg K ?_) hJ
    simp [ieq600, hn, fS, g1]

theorem impl_DivideLaurents_l4 (f g : Lau) (n : Nat) (hn : f.v = n) (hgn : g.v = n) (hv : n ≤ 8) (hg : Right g) (hgl : g.ts.length ≤ 600) (es l eo2 O : List (List Int × Int)) (hOl : O.length ≤ 600) (hLr : LJ n es l (600000000 + O.length * 600000000000000)) (E : List Int) (hEl : E.length = n) (e0 e1 e2 e3 e4 e5 e6 e7 q : Int) (hpe : pad E = [e0, e1, e2, e3, e4, e5, e6, e7]) (hbe : ∀ x ∈ [e0, e1, e2, e3, e4, e5, e6, e7], -1000000 ≤ x ∧ x ≤ 1000000) (g3 : q ≠ 0 ∧ -1000000 ≤ q ∧ q ≤ 1000000) (Q0 : AEx → St → Prop) (hX0 : ∀ es2 l2, LJ n es2 l2 (600000000 + O.length * 600000000000000 + 600000000000000) → l2.Perm (l ++ negT E q g.ts) → Q0 (.exit 6) ⟨ofL [(2, .pt (2, 0) [] 0), (3, .pt (3, 0) [] 0), (4, .pt (4, 0) [] 0), (6, .pt (6, 0) [] 0), (9, .pt (9, 0) [] 0), (10, .pt (10, 0) [] 0), (15, .pt (15, 0) [] 0), (16, .int q), (126, .d (.sh 2 g.ts.length (rows tS g.ts))), (127, .int g.ts.length), (128, .int g.ts.length), (129, .bool false)], ofRO [((2, 0), some (.bx (fS f))), ((3, 0), some (.bx (fS g))), ((4, 0), some (.bx [D.int 0, .v (.slice none 0 0)])), ((6, 0), some (.bx [D.int n, .mp es2])), ((9, 0), some (.bx [D.int n, .mp eo2])), ((10, 0), some (.bx [shI (leadE g), D.int (leadC g)])), ((15, 0), some (.bx [D.int e0, D.int e1, D.int e2, D.int e3, D.int e4, D.int e5, D.int e6, D.int e7]))]⟩) : AWp C.impl_DivideLaurents (codeAt Try.f139 [1, 1, 1, 1, 1, 1, 0, 0, 0, 1, 0, 1, 1, 1, 1, 1, 1, 1, 1, 1, 0]) 6 Q0 ⟨ofL [(2, .pt (2, 0) [] 0), (3, .pt (3, 0) [] 0), (4, .pt (4, 0) [] 0), (6, .pt (6, 0) [] 0), (9, .pt (9, 0) [] 0), (10, .pt (10, 0) [] 0), (15, .pt (15, 0) [] 0), (16, .int q), (126, .d (.sh 2 g.ts.length (rows tS g.ts))), (127, .int g.ts.length), (128, .int 0)], ofRO [((2, 0), some (.bx (fS f))), ((3, 0), some (.bx (fS g))), ((4, 0), some (.bx [D.int 0, .v (.slice none 0 0)])), ((6, 0), some (.bx [D.int n, .mp es])), ((9, 0), some (.bx [D.int n, .mp eo2])), ((10, 0), some (.bx [shI (leadE g), D.int (leadC g)])), ((15, 0), some (.bx [D.int e0, D.int e1, D.int e2, D.int e3, D.int e4, D.int e5, D.int e6, D.int e7]))]⟩ := by
  simp only [codeAt, Try.f139, walkCode]
  refine wloop (fun x : Nat × List (List Int × Int) × List (List Int × Int) => ⟨ofL [(2, .pt (2, 0) [] 0), (3, .pt (3, 0) [] 0), (4, .pt (4, 0) [] 0), (6, .pt (6, 0) [] 0), (9, .pt (9, 0) [] 0), (10, .pt (10, 0) [] 0), (15, .pt (15, 0) [] 0), (16, .int q), (126, .d (.sh 2 g.ts.length (rows tS g.ts))), (127, .int g.ts.length), (128, .int x.1)], ofRO [((2, 0), some (.bx (fS f))), ((3, 0), some (.bx (fS g))), ((4, 0), some (.bx [D.int 0, .v (.slice none 0 0)])), ((6, 0), some (.bx [D.int n, .mp x.2.1])), ((9, 0), some (.bx [D.int n, .mp eo2])), ((10, 0), some (.bx [shI (leadE g), D.int (leadC g)])), ((15, 0), some (.bx [D.int e0, D.int e1, D.int e2, D.int e3, D.int e4, D.int e5, D.int e6, D.int e7]))]⟩) (fun x => x.1 ≤ g.ts.length ∧ LJ n x.2.1 x.2.2 (600000000 + O.length * 600000000000000 + x.1 * 1000000000000) ∧ x.2.2.Perm (l ++ negT E q (g.ts.take x.1))) (fun x => g.ts.length - x.1) (0, es, l) (by simp [C.impl_DivideLaurents, fS, hn, hgn, hpe]) ⟨by simp, hLr.mono (by dsimp only; omega), by simp [negT]⟩ ?_
  intro x4 hx4 R4 hR4
  obtain ⟨j, es2, l2⟩ := x4
  obtain ⟨hj, hL2, hP2⟩ := hx4
  dsimp only at hj hL2 hP2 ⊢
  refine wseq ?_
  refine wreg fun K hK => ?_
  simp [C.impl_DivideLaurents, fS]
  refine hK _ ?_; clear hK K
  show AWp _ _ _ _ _
  refine wseq ?_
  refine wcond _ rfl (fun hc9 => ?_) (fun hc9 => ?_)
  · have hjg : j < g.ts.length := by have := d_t hc9; omega
    have hU := right_dig hg hgn _ (List.getElem_mem hjg)
    refine wskip ?_
    show AWp _ _ _ _ _
    refine wseq ?_
    refine wblock ?_
    refine wseq ?_
    refine wreg fun K hK => ?_
    simp [C.impl_DivideLaurents, fS, hjg, tS_0 hjg, tS_1 hjg]
    refine hK _ ?_; clear hK K
    show AWp _ _ _ _ _
    obtain ⟨u0, u1, u2, u3, u4, u5, u6, u7, hpu⟩ := eight (pad_length (e := g.ts[j].e) (by omega))
    have hbu := pad_bd hU.2.2.1
    rw [hpu] at hbu
    have hadd : [e0 + 1 * u0, e1 + 1 * u1, e2 + 1 * u2, e3 + 1 * u3, e4 + 1 * u4, e5 + 1 * u5, e6 + 1 * u6, e7 + 1 * u7] = pad (addE 1 E g.ts[j].e) := by
      rw [← pad_add (by omega), hpe, hpu]
      simp [addE]
    have hnl : (addE 1 E g.ts[j].e).length = n := by rw [addE_length _ _ _ (by omega)]; exact hEl
    have hcc := mul_bd (x := -q) (y := g.ts[j].c) (by omega) hU.2.2.2
    have hvj := hL2.val hnl (c := -q * g.ts[j].c) (X := 1000000000000) (by omega) (by omega)
    rw [← hadd] at hvj
    refine wdrawI [(true, 0), (true, 1), (true, 2), (true, 3), (true, 6), (true, 7), (true, 8), (true, 9), (true, 10), (false, 4), (false, 5), (false, 11)] ⟨by kernel_rfl, by kernel_rfl⟩ ([0, 1, 2, 3, 6, 7, 8, 9, 10, 4] ++ ([5] ++ ([11] ++ ([])))) rfl fun K hK => ?_
    refine opsI_seg fun L hL => ?_
    simp [C.impl_DivideLaurents, fS, tS, wrapOk (x := -q) (by omega) (by omega), wrapOk (x := -q * g.ts[j].c) (by omega) (by omega)]
    refine wcall1 (impl_keyOf_calls g.ts[j].e (by omega) u0 u1 u2 u3 u4 u5 u6 u7 hpu) (by simp) (by simp) ?_
    simp [C.impl_DivideLaurents, fS, tS, wrapOk (x := -q) (by omega) (by omega), wrapOk (x := -q * g.ts[j].c) (by omega) (by omega)]
    refine hL _ ?_; clear hL L
    refine opsI_seg fun L hL => ?_
    simp [C.impl_DivideLaurents, fS, tS, wrapOk (x := -q) (by omega) (by omega), wrapOk (x := -q * g.ts[j].c) (by omega) (by omega)]
    refine wcall1 (impl_plusExp_calls 1 e0 e1 e2 e3 e4 e5 e6 e7 u0 u1 u2 u3 u4 u5 u6 u7 (by omega) hbe hbu) (by simp) (by simp) ?_
    simp [C.impl_DivideLaurents, fS, tS, wrapOk (x := -q) (by omega) (by omega), wrapOk (x := -q * g.ts[j].c) (by omega) (by omega)]
    refine hL _ ?_; clear hL L
    refine opsI_seg fun L hL => ?_
    simp [C.impl_DivideLaurents, fS, tS, wrapOk (x := -q) (by omega) (by omega), wrapOk (x := -q * g.ts[j].c) (by omega) (by omega)]
    refine wcall1 (impl_building_add_calls n (-q * g.ts[j].c) es2 (e0 + 1 * u0) (e1 + 1 * u1) (e2 + 1 * u2) (e3 + 1 * u3) (e4 + 1 * u4) (e5 + 1 * u5) (e6 + 1 * u6) (e7 + 1 * u7) (hL2.map.len8 hv) hvj) (by simp) (by simp) ?_
    simp [C.impl_DivideLaurents, fS, tS, wrapOk (x := -q) (by omega) (by omega), wrapOk (x := -q * g.ts[j].c) (by omega) (by omega)]
    refine hL _ ?_; clear hL L
    refine opsI_end fun L hL => ?_
    simp only [AOpsI]
    refine hL _ ?_; clear hL L
    simp [C.impl_DivideLaurents, fS, tS, wrapOk (x := -q) (by omega) (by omega), wrapOk (x := -q * g.ts[j].c) (by omega) (by omega)]
    simp only [Int.one_mul] at hadd
    rw [hadd]
    refine hK _ ?_; clear hK K
    show AWp _ _ _ _ _
    refine wreg fun K hK => ?_
    simp [C.impl_DivideLaurents, fS, wrap_succ (show j < 4611686018427387904 by omega)]
    refine hK _ ?_; clear hK K
    simp [C.impl_DivideLaurents, fS]
    refine cast (congrArg R4 ?_) (hR4 (j + 1, madd es2 (pad (addE 1 E g.ts[j].e)) (-q * g.ts[j].c), (addE 1 E g.ts[j].e, -q * g.ts[j].c) :: l2) ⟨hjg, ?_, ?_⟩ (by dsimp only; omega))
    · simp [fS, hn, hgn]
    · have := hL2.add hnl (c := -q * g.ts[j].c) (X := 1000000000000) (by omega)
      exact this.mono (by dsimp only; omega)
    · dsimp only
      rw [negT_step hjg, ← List.append_assoc]
      exact (List.Perm.cons _ hP2).trans (List.perm_append_singleton _ _).symm
  · have hjg : j = g.ts.length := by have := d_f hc9; omega
    rw [hjg, List.take_length] at hP2
    refine wexit ?_
    refine cast (congrArg (Q0 (.exit 6)) ?_) (hX0 es2 l2 (hL2.mono (by omega)) hP2)
    simp [fS, hn, hgn, hjg]

theorem impl_DivideLaurents_calls (hDone : DoneOk) (f g : Lau) (hx : f.ts.length < 4611686018427387904) (hxe : ∀ t ∈ f.ts, t.e.length < 4611686018427387904) (hy : g.ts.length < 4611686018427387904) (hye : ∀ t ∈ g.ts, t.e.length < 4611686018427387904) : ACalls Try.prog F.impl_DivideLaurents [aF f, aF g] [] true (fun outs res => outs = [] ∧ WkRs res [.ag (fO (divF f g).1), .one (D.bool (divF f g).2)]) := by
  have hcall := impl_bothOk_calls f g hx hxe hy hye
  generalize hB : decide (Right f ∧ Right g ∧ f.v = g.v) = B at hcall
  refine ACalls.of_body (C := C.impl_DivideLaurents) (n := Try.f139.ntmps) tabT folT Try.func139 rfl (by kernel_rfl) rfl (Nat.le_of_ble_eq_true rfl) (by decide) (by kernel_rfl) (by kernel_rfl) rfl (by simp) (by simp) ?_
  simp only [Try.f139]
  refine wseq ?_
  refine wreg fun K hK => ?_
  simp [C.impl_DivideLaurents, fS]
  refine hK _ ?_; clear hK K
  show AWp _ _ _ _ _
  refine wseq ?_
  refine wseq ?_
  refine wregI ([0, 1, 2] ++ ([3, 4, 5, 6, 7, 8, 9])) rfl fun K hK => ?_
  have hJ : K ⟨ofL [(2, .pt (2, 0) [] 0), (3, .pt (3, 0) [] 0), (4, .pt (4, 0) [] 0), (28, .bool (!(B && !decide (g.ts = []))))], ofRO [((2, 0), some (.bx (fS f))), ((3, 0), some (.bx (fS g))), ((4, 0), some (.bx [D.int 0, .v (.slice none 0 0)]))]⟩ := by
    refine hK _ ?_; clear hK K
    show AWp _ _ _ _ _
    refine wcond _ rfl (fun hc1 => ?_) (fun hc1 => ?_)
    · have hr : ¬ ((Right f ∧ Right g ∧ f.v = g.v) ∧ g.ts ≠ []) := by
        rintro ⟨h1, h2⟩
        rw [← hB, decide_eq_true h1] at hc1
        simp [h2] at hc1
      have hm : divF f g = (zeroF, false) := if_neg hr
      refine wseq ?_
      refine wreg fun K hK => ?_
      simp [C.impl_DivideLaurents, fS]
      refine hK _ ?_; clear hK K
      show AWp _ _ _ _ _
      refine wret ?_
      simp [C.impl_DivideLaurents, fS, hm, fO, zeroF, rows]
    · have hr : (Right f ∧ Right g ∧ f.v = g.v) ∧ g.ts ≠ [] := by
        rw [← hB] at hc1
        simpa using hc1
      obtain ⟨⟨hf, hg, hfg⟩, hgne⟩ := hr
      have hv0 := hf.1
      obtain ⟨n, hn⟩ : ∃ n : Nat, f.v = n := ⟨f.v.toNat, by omega⟩
      have hgn : g.v = n := by omega
      have hv : n ≤ 8 := by omega
      have hm := divF_some hf hg hn hgn hgne
      have hfl := hf.2.1
      have hgl := hg.2.1
      have he := right_he hf hn
      have heg := right_he hg hgn
      have hG0 : 0 < g.ts.length := List.length_pos_iff.2 hgne
      obtain ⟨hl1, hl2⟩ := lead_get hG0
      have hgood := hg.2.2.1 _ (List.getElem_mem hG0)
      have hgle := heg _ (List.getElem_mem hG0)
      rw [hl1] at hgle
      obtain ⟨hgle1, hgle2⟩ := hgle
      have hgc : leadC g ≠ 0 ∧ -1000000 ≤ leadC g ∧ leadC g ≤ 1000000 := by rw [← hl2]; exact ⟨hgood.2.1, hgood.2.2.1⟩
      obtain ⟨b0, b1, b2, b3, b4, b5, b6, b7, hpb⟩ := eight (pad_length (e := leadE g) (by omega))
      have hbb := pad_bd hgle2
      rw [hpb] at hbb
      refine wskip ?_
      show AWp _ _ _ _ _
      refine wseq ?_
      refine wregI ([0, 1, 2] ++ ([3])) rfl fun K hK => ?_
      refine opsI_seg fun L hL => ?_
      simp [C.impl_DivideLaurents, fS, hn]
      refine wcall1 (impl_newBuilding_calls n) (by simp) (by simp) ?_
      simp [C.impl_DivideLaurents, fS, hn]
      refine hL _ ?_; clear hL L
      refine opsI_end fun L hL => ?_
      simp [C.impl_DivideLaurents, fS, hn]
      refine hL _ ?_; clear hL L
      simp [C.impl_DivideLaurents, fS, hn]
      refine hK _ ?_; clear hK K
      show AWp _ _ _ _ _
      refine wseq ?_
      refine wseq ?_
      refine wreg fun K hK => ?_
      simp [C.impl_DivideLaurents, fS]
      refine hK _ ?_; clear hK K
      show AWp _ _ _ _ _
      refine wblock ?_
      refine wcode (c' := codeAt Try.f139 [1, 1, 1, 0, 1, 0]) (by kernel_rfl) ?_
      refine wst (σ2 := ⟨ofL [(2, .pt (2, 0) [] 0), (3, .pt (3, 0) [] 0), (4, .pt (4, 0) [] 0), (6, .pt (6, 0) [] 0), (34, .d (.sh 2 f.ts.length (rows tS f.ts))), (35, .int f.ts.length), (36, .int 0)], ofRO [((2, 0), some (.bx (fS f))), ((3, 0), some (.bx (fS g))), ((4, 0), some (.bx [D.int 0, .v (.slice none 0 0)])), ((6, 0), some (.bx [D.int n, .mp []]))]⟩) (by simp [fS, hn]) ?_
      refine impl_DivideLaurents_l1 f g n hn hv hf hfl _ ?_
      intro es l hLJ hall
      have hnf0 : nf lexlt l = f.ts.map pr := by
        rw [nf_perm hall]
        exact (nf_unique lexOrd (pr_desc hf) (pr_nz hf) fun k => rfl).symm
      show AWp _ _ _ _ _
      refine wseq ?_
      refine wregI ([0, 1, 2] ++ ([3])) rfl fun K hK => ?_
      refine opsI_seg fun L hL => ?_
      simp [C.impl_DivideLaurents, fS, hn]
      refine wcall1 (impl_newBuilding_calls n) (by simp) (by simp) ?_
      simp [C.impl_DivideLaurents, fS, hn]
      refine hL _ ?_; clear hL L
      refine opsI_end fun L hL => ?_
      simp [C.impl_DivideLaurents, fS, hn]
      refine hL _ ?_; clear hL L
      simp [C.impl_DivideLaurents, fS, hn]
      refine hK _ ?_; clear hK K
      show AWp _ _ _ _ _
      refine wseq ?_
      refine wreg fun K hK => ?_
      simp [C.impl_DivideLaurents, fS, hG0, tS_0 hG0, tS_1 hG0, hl1, hl2]
      refine hK _ ?_; clear hK K
      show AWp _ _ _ _ _
      refine wseq ?_
      refine wblock ?_
      refine wloop (fun x : (List (List Int × Int) × List (List Int × Int)) × (List (List Int × Int) × List (List Int × Int)) × List (List Int × Int) => ⟨ofL [(2, .pt (2, 0) [] 0), (3, .pt (3, 0) [] 0), (4, .pt (4, 0) [] 0), (6, .pt (6, 0) [] 0), (9, .pt (9, 0) [] 0), (10, .pt (10, 0) [] 0)], ofRO [((2, 0), some (.bx (fS f))), ((3, 0), some (.bx (fS g))), ((4, 0), some (.bx [D.int 0, .v (.slice none 0 0)])), ((6, 0), some (.bx [D.int n, .mp x.1.1])), ((9, 0), some (.bx [D.int n, .mp x.2.1.1])), ((10, 0), some (.bx [shI (leadE g), D.int (leadC g)]))]⟩) (fun x => LJ n x.1.1 x.1.2 (600000000 + x.2.2.length * 600000000000000) ∧ LJ n x.2.1.1 x.2.1.2 (x.2.2.length * 1000000) ∧ x.2.1.2.Perm x.2.2 ∧ DivJ chkI f g n (nf lexlt x.1.2) x.2.2 ∧ DivO g n (nf lexlt x.1.2) x.2.2) (fun x => 600 - x.2.2.length) ((es, l), ([], []), []) (by simp [C.impl_DivideLaurents, fS, hn]) ⟨hLJ.mono (by dsimp only [List.length_nil]; omega), ⟨MapR.nil n, by simp, by simp [absE]⟩, by simp, by dsimp only; rw [hnf0]; exact DivJ.start _ hf hn, ⟨List.Pairwise.nil, by simp [Nz], by simp, by simp⟩⟩ ?_
      intro x2 hx2 R2 hR2
      obtain ⟨⟨es, l⟩, ⟨eo, lo⟩, O⟩ := x2
      obtain ⟨hLr, hLo, hPo, hJ1, hJ2⟩ := hx2
      dsimp only at hLr hLo hPo hJ1 hJ2 ⊢
      have hOl := hJ1.ol
      have helen := unpad_len hLr.map hLr.len
      have heol : eo.length = O.length := by
        have h1 := unpad_len hLo.map hLo.len
        rw [nf_perm hPo, hJ2.nf] at h1
        exact h1.symm
      refine wseq ?_
      refine wseq ?_
      refine wreg fun K hK => ?_
      simp [C.impl_DivideLaurents, fS]
      refine hK _ ?_; clear hK K
      show AWp _ _ _ _ _
      refine wcond _ rfl (fun hc3 => ?_) (fun hc3 => ?_)
      · have hes : 0 < es.length := by have := d_t hc3; omega
        obtain ⟨⟨a, c⟩, R', hR⟩ : ∃ y R', nf lexlt l = y :: R' := by
          cases hh : nf lexlt l with
          | nil => rw [hh] at helen; simp at helen; omega
          | cons y R' => exact ⟨y, R', rfl⟩
        rw [hR] at hJ1 hJ2
        refine wskip ?_
        show AWp _ _ _ _ _
        refine wblock ?_
        refine wseq ?_
        refine wreg fun K hK => ?_
        simp [C.impl_DivideLaurents, fS]
        refine hK _ ?_; clear hK K
        show AWp _ _ _ _ _
        refine wseq ?_
        refine wreg fun K hK => ?_
        simp [C.impl_DivideLaurents, fS]
        refine hK _ ?_; clear hK K
        show AWp _ _ _ _ _
        refine wseq ?_
        refine wseq ?_
        refine wreg fun K hK => ?_
        simp [C.impl_DivideLaurents, fS]
        refine hK _ ?_; clear hK K
        show AWp _ _ _ _ _
        refine wblock ?_
        refine wcode (c' := codeAt Try.f139 [1, 1, 1, 1, 1, 1, 0, 0, 0, 1, 0, 1, 1, 0, 1, 0]) (by kernel_rfl) ?_
        refine impl_DivideLaurents_l3 f g n hn es eo (hLr.map.len8 hv) _ ?_
        intro P top cur hqe hT
        have hPne : P ≠ [] := by intro e; rw [e] at hqe; have := hqe.length_eq; simp at this; omega
        obtain ⟨htop, hget⟩ := top_head hLr.map hLr.len hqe hT hR
        have ha := hJ1.rl (a, c) (by simp)
        obtain ⟨hal, ha60⟩ := ha
        dsimp only at hal ha60
        obtain ⟨a0, a1, a2, a3, a4, a5, a6, a7, hpa⟩ := eight (pad_length (e := a) (by omega))
        have hba := pad_bd60 (B := 60) (by omega) (by omega) ha60
        rw [hpa] at hba htop
        subst htop
        have hcb : -1000000000000000000 ≤ c ∧ c ≤ 1000000000000000000 := by
          have h1 := hJ1.ra
          simp only [absK, List.map_cons, List.sum_cons] at h1
          omega
        have hEl : (addE (-1) a (leadE g)).length = n := by rw [addE_length _ _ _ (by omega)]; exact hal
        have hE80 := addE_bd (B := 60) (C := 20) (k := -1) (.inr rfl) (hal.trans hgle1.symm) ha60 hgle2
        have hpe0 : [a0 + -1 * b0, a1 + -1 * b1, a2 + -1 * b2, a3 + -1 * b3, a4 + -1 * b4, a5 + -1 * b5, a6 + -1 * b6, a7 + -1 * b7] = pad (addE (-1) a (leadE g)) := by
          rw [← pad_add (by omega), hpa, hpb]
          simp [addE]
        show AWp _ _ _ _ _
        refine wseq ?_
        refine wdraw (.take 0 (.take 1 (.take 2 (.take 3 (.take 4 (.take 5 (.take 6 (.done)))))))) ⟨by kernel_rfl, by kernel_rfl⟩ fun K hK => ?_
        simp [C.impl_DivideLaurents, fS, hget, hLr.map.len8 hv]
        refine hK _ ?_; clear hK K
        show AWp _ _ _ _ _
        refine wseq ?_
        refine wcode (c' := codeAt Try.f139 [1, 1, 1, 1, 1, 1, 0, 0, 0, 1, 0, 1, 1, 1, 1, 0]) (by kernel_rfl) ?_
        refine impl_DivideLaurents_r24 f g n es eo a0 a1 a2 a3 a4 a5 a6 a7 b0 b1 b2 b3 b4 b5 b6 b7 c (by omega) hpb hba hbb _ _ ?_
        show AWp _ _ _ _ _
        refine wseq ?_
        obtain ⟨e0, e1, e2, e3, e4, e5, e6, e7, hpe⟩ := eight (pad_length (e := addE (-1) a (leadE g)) (by omega))
        rw [hpe] at hpe0
        simp only [List.cons.injEq, and_true] at hpe0
        obtain ⟨k0, k1, k2, k3, k4, k5, k6, k7⟩ := hpe0
        simp only [k0, k1, k2, k3, k4, k5, k6, k7]
        have hqb : -1000000000000000000 ≤ c.tdiv (leadC g) ∧ c.tdiv (leadC g) ≤ 1000000000000000000 := by
          have h1 : (c.tdiv (leadC g)).natAbs ≤ c.natAbs := by
            rw [Int.natAbs_tdiv]
            exact Nat.div_le_self _ _
          omega
        generalize hQ : c.tdiv (leadC g) = q at hqb
        have htkE : List.take n [e0, e1, e2, e3, e4, e5, e6, e7] = addE (-1) a (leadE g) := by
          rw [← hpe]
          have := pad_take (e := addE (-1) a (leadE g))
          rwa [hEl] at this
        have hsh := sh8 n e0 e1 e2 e3 e4 e5 e6 e7
        rw [htkE] at hsh
        refine wreg fun K hK => ?_
        simp [C.impl_DivideLaurents, fS, hgc.1, hQ, wrapOk (x := q) (by omega) (by omega)]
        refine hK _ ?_; clear hK K
        show AWp _ _ _ _ _
        refine wseq ?_
        refine wseq ?_
        refine wcode (c' := codeAt Try.f139 [1, 1, 1, 1, 1, 1, 0, 0, 0, 1, 0, 1, 1, 1, 1, 1, 1, 0, 0]) (by kernel_rfl) ?_
        refine impl_DivideLaurents_r26 f g n hn hv es eo O (addE (-1) a (leadE g)) e0 e1 e2 e3 e4 e5 e6 e7 c q hgc.1 hsh hEl heol _ _ ?_
        show AWp _ _ _ _ _
        refine wcond _ rfl (fun hc8 => ?_) (fun hc8 => ?_)
        · have hr := nd_t hc8
          have hfail := hJ1.fail (by
            rcases Classical.em (O.length = 600) with h | h
            · exact .inr h
            · refine .inl fun h2 => hr ⟨?_, h⟩
              dsimp only at h2
              rw [hQ] at h2
              simp only [chkI, decide_eq_true_eq] at h2
              exact ⟨⟨h2.1, okE_iff.2 ⟨by omega, h2.2.1⟩⟩, h2.2.2⟩)
          refine wseq ?_
          refine wreg fun K hK => ?_
          simp [C.impl_DivideLaurents, fS]
          refine hK _ ?_; clear hK K
          show AWp _ _ _ _ _
          refine wret ?_
          simp [C.impl_DivideLaurents, fS, hm, hfail, endF, zeroF, fO, rows]
        · obtain ⟨⟨⟨g1, g2⟩, g3⟩, g4⟩ := nd_f hc8
          have hE20 := (okE_iff.1 g2).2
          have hchk : chkI (addE (-1) a (leadE g)) q = true := by simp only [chkI, decide_eq_true_eq]; exact ⟨hE20, g3⟩
          have hJ1s := hJ1.step hg hgn g1 (by dsimp only; rw [hQ]; exact hchk) (by omega) hEl (fun z hz => by have := hE20 z hz; omega) (by dsimp only; rw [hQ]; exact g3.2)
          have hJ2s := hJ2.step hJ1.rd (fun y hy => (hJ1.rl y hy).1) hg hgn hgne g1 (by dsimp only; rw [hQ]; exact g3.1)
          dsimp only at hJ1s hJ2s
          rw [hQ] at hJ1s hJ2s
          have hvo := hLo.val hEl (c := q) (X := 1000000) (by omega) (by omega)
          rw [hpe] at hvo
          have hbe := pad_bd hE20
          rw [hpe] at hbe
          refine wskip ?_
          show AWp _ _ _ _ _
          refine wseq ?_
          refine wregI ([0, 1, 2, 3] ++ ([])) rfl fun K hK => ?_
          refine opsI_seg fun L hL => ?_
          simp [C.impl_DivideLaurents, fS]
          refine wcall1 (impl_building_add_calls n q eo e0 e1 e2 e3 e4 e5 e6 e7 (hLo.map.len8 hv) hvo) (by simp) (by simp) ?_
          simp [C.impl_DivideLaurents, fS]
          refine hL _ ?_; clear hL L
          refine opsI_end fun L hL => ?_
          simp only [AOpsI]
          refine hL _ ?_; clear hL L
          simp [C.impl_DivideLaurents, fS]
          rw [← hpe]
          refine hK _ ?_; clear hK K
          show AWp _ _ _ _ _
          refine wseq ?_
          refine wreg fun K hK => ?_
          simp [C.impl_DivideLaurents, fS]
          refine hK _ ?_; clear hK K
          show AWp _ _ _ _ _
          refine wblock ?_
          refine wcode (c' := codeAt Try.f139 [1, 1, 1, 1, 1, 1, 0, 0, 0, 1, 0, 1, 1, 1, 1, 1, 1, 1, 1, 1, 0]) (by kernel_rfl) ?_
          refine impl_DivideLaurents_l4 f g n hn hgn hv hg hgl es l (madd eo (pad (addE (-1) a (leadE g))) q) O hOl hLr (addE (-1) a (leadE g)) hEl e0 e1 e2 e3 e4 e5 e6 e7 q hpe hbe g3 _ ?_
          intro es2 l2 hL2 hP2
          have hnf2 : nf lexlt l2 = nf lexlt (stepL g (a, c) R') := step_nf hR (by dsimp only; rw [hQ]; exact hP2)
          simp [C.impl_DivideLaurents, fS]
          refine cast (congrArg R2 ?_) (hR2 ((es2, l2), (madd eo (pad (addE (-1) a (leadE g))) q, (addE (-1) a (leadE g), q) :: lo), O ++ [(addE (-1) a (leadE g), q)]) ⟨?_, ?_, ?_, ?_, ?_⟩ (by simp; omega))
          · simp [fS, hn, hgn]
          · exact hL2.mono (by simp; omega)
          · exact (hLo.add hEl (c := q) (X := 1000000) (by omega)).mono (by simp; omega)
          · exact (List.Perm.cons _ hPo).trans (List.perm_append_singleton _ _).symm
          · dsimp only
            rw [hnf2]
            exact hJ1s
          · dsimp only
            rw [hnf2]
            exact hJ2s
      · have hes : es.length = 0 := by have := d_f hc3; omega
        have hR0 : nf lexlt l = [] := List.eq_nil_of_length_eq_zero (by omega)
        rw [hR0] at hJ1 hJ2
        have hdone := hJ1.done
        have hsh0 := hJ2.shut n
        rw [← shutF_perm hPo] at hsh0
        refine wexit ?_
        show AWp _ _ _ _ _
        refine wseq ?_
        refine wregI ([0, 1] ++ ([2, 3, 4, 5])) rfl fun K hK => ?_
        refine opsI_seg fun L hL => ?_
        simp [C.impl_DivideLaurents, fS, hn]
        refine wcall1 (hDone n eo lo hLo.map hLo.len (by omega) hv (by have := hPo.length_eq; omega)) (by simp) (by simp) ?_
        simp [C.impl_DivideLaurents, fS, hn]
        refine hL _ ?_; clear hL L
        refine opsI_end fun L hL => ?_
        simp [C.impl_DivideLaurents, fS, hn]
        refine hL _ ?_; clear hL L
        simp [C.impl_DivideLaurents, fS, hn]
        refine hK _ ?_; clear hK K
        show AWp _ _ _ _ _
        refine wret ?_
        simp [C.impl_DivideLaurents, fS, hm, hdone, hsh0, fO]
  clear hK
  by_cases hb : B = true
  · refine opsI_seg fun L hL => ?_
    simp [C.impl_DivideLaurents, fS, hb]
    refine wcall1 (hcall) (by simp) (by simp) ?_
    simp [C.impl_DivideLaurents, fS, hb]
    refine hL _ ?_; clear hL L
    refine opsI_end fun L hL => ?_
    simp [C.impl_DivideLaurents, fS, hb]
    refine hL _ ?_; clear hL L
    simp [C.impl_DivideLaurents, fS, hb]
    refine cast (congrArg K ?_) hJ
    simp [ieq0, fS, hb]
  · refine opsI_seg fun L hL => ?_
    simp [C.impl_DivideLaurents, fS, hb]
    refine wcall1 (hcall) (by simp) (by simp) ?_
    simp [C.impl_DivideLaurents, fS, hb]
    refine hL _ ?_; clear hL L
    refine opsI_end fun L hL => ?_
    simp [C.impl_DivideLaurents, fS, hb]
    refine hL _ ?_; clear hL L
    simp [C.impl_DivideLaurents, fS, hb]
    refine cast (congrArg K ?_) hJ
    simp [ieq0, fS, hb]
theorem iDiv_calls (hDone : DoneOk) (f g : Lau) (hx : f.ts.length < 4611686018427387904) (hxe : ∀ t ∈ f.ts, t.e.length < 4611686018427387904) (hy : g.ts.length < 4611686018427387904) (hye : ∀ t ∈ g.ts, t.e.length < 4611686018427387904) : ACalls Try.prog F.impl_DivideLaurents [aF f, aF g] [] true (fun outs res => outs = [] ∧ res = [.ag (fO (divF f g).1), .one (D.bool (divF f g).2)]) := (impl_DivideLaurents_calls hDone f g hx hxe hy hye).weak1
end Go.Proofs.Ytfcgcgmleogamaa.Ab
namespace Go.Proofs.Ytfcgcgmleogamaa.Ab
open Go
set_option linter.unusedSimpArgs false
set_option linter.unusedVariables false
set_option maxRecDepth 10000
set_option maxHeartbeats 2000000
end Go.Proofs.Ytfcgcgmleogamaa.Ab
namespace Go.Proofs.Ytfcgcgmleogamaa.Ab
open Go
set_option linter.unusedSimpArgs false
set_option linter.unusedVariables false
def g0 (l : List Int) (i : Nat) : Int := l.getD i 0
def bM (m : Mat) (i j : Nat) : Int := g0 m.d (i * m.n.toNat + j)
structure Sol (n : Nat) (b : Nat → Nat → Int) (d : Nat → Int) : Prop where
  pos : ∀ i, i < n → 0 < d i
  rel : ∀ i j, i < n → j < n → d i * b i j = -(d j * b j i)
def Edge (b : Nat → Nat → Int) (num den : List Int) (P : List Nat) (i j : Nat) : Prop :=
  (b i j = 0 ∧ b j i = 0) ∨ (j ∈ P ∧ g0 num i * g0 den j * b i j = -(g0 num j * g0 den i * b j i))
section
variable {n : Nat} {b : Nat → Nat → Int} {old : List Nat} {s : Nat} {num den out : List Int} {P : List Nat} {a j : Nat}

/-! ### The common multiple, the numbers of a piece -/
end
end Go.Proofs.Ytfcgcgmleogamaa.Ab
namespace Go.Proofs.Ytfcgcgmleogamaa.Ab
open Go
set_option linter.unusedSimpArgs false
set_option linter.unusedVariables false
/-! ### The reference's pieces and factors -/
section
variable {n : Nat} {b : Nat → Nat → Int} {old : List Nat} {s : Nat} {d0 d : List Int} {L F : List Nat} {a j : Nat}
end
end Go.Proofs.Ytfcgcgmleogamaa.Ab
namespace Go.Proofs.Ytfcgcgmleogamaa.Ab
open Go
set_option linter.unusedSimpArgs false
set_option linter.unusedVariables false
/-! ### Matrices that are right; mutation -/
def ShM (m : Mat) : Prop := (1 ≤ m.n ∧ m.n ≤ 5) ∧ (m.n ≤ m.r ∧ m.r ≤ 8) ∧ (m.d.length : Int) = m.n * m.r ∧ ∀ x ∈ m.d, -99 ≤ x ∧ x ≤ 99
def MatOK (m : Mat) : Prop := ShM m ∧ ∃ d, Sol m.n.toNat (bM m) d
noncomputable instance (m : Mat) : Decidable (ShM m) := Classical.propDecidable _
noncomputable instance (m : Mat) : Decidable (MatOK m) := Classical.propDecidable _
def muE (b : Nat → Nat → Int) (k i j : Nat) : Int :=
  if i = k ∨ j = k then -b i j else if 0 < b i k ∧ 0 < b k j then b i j + b i k * b k j else if b i k < 0 ∧ b k j < 0 then b i j - b i k * b k j else b i j
def muD (m : Mat) (k : Nat) : List Int := (List.range m.d.length).map fun q => muE (bM m) k (q / m.n.toNat) (q % m.n.toNat)
@[simp] theorem muD_length (m : Mat) (k : Nat) : (muD m k).length = m.d.length := by simp [muD]
end Go.Proofs.Ytfcgcgmleogamaa.Ab
namespace Go.Proofs.Ytfcgcgmleogamaa.Ab
open Go
set_option linter.unusedSimpArgs false
set_option linter.unusedVariables false
set_option maxRecDepth 10000
set_option maxHeartbeats 2000000
def cN (P : List Nat) : List Int := P.map fun i => ((i : Nat) : Int)
@[simp] theorem cN_length (P : List Nat) : (cN P).length = P.length := by simp [cN]
end Go.Proofs.Ytfcgcgmleogamaa.Ab
namespace Go.Proofs.Ytfcgcgmleogamaa.Ab
open Go
set_option linter.unusedSimpArgs false
set_option linter.unusedVariables false
set_option maxRecDepth 10000
set_option maxHeartbeats 2000000
end Go.Proofs.Ytfcgcgmleogamaa.Ab
namespace Go.Proofs.Ytfcgcgmleogamaa.Ab
open Go
set_option linter.unusedSimpArgs false
set_option linter.unusedVariables false
set_option maxRecDepth 10000
set_option maxHeartbeats 2000000
end Go.Proofs.Ytfcgcgmleogamaa.Ab
namespace Go.Proofs.Ytfcgcgmleogamaa.Ab
open Go
set_option linter.unusedSimpArgs false
set_option linter.unusedVariables false
set_option maxRecDepth 10000
set_option maxHeartbeats 2000000


end Go.Proofs.Ytfcgcgmleogamaa.Ab
namespace Go.Proofs.Ytfcgcgmleogamaa.Ab
open Go
set_option linter.unusedSimpArgs false
set_option linter.unusedVariables false
set_option maxRecDepth 10000
set_option maxHeartbeats 2000000
def VarOk (r : Int) (f : Lau) : Prop := Right f ∧ f.ts ≠ [] ∧ f.v = r
def SeedOK (s : Sed) : Prop := MatOK s.m ∧ (s.f.length : Int) = s.m.r ∧ ∀ f ∈ s.f, VarOk s.m.r f
noncomputable instance (r : Int) (f : Lau) : Decidable (VarOk r f) := Classical.propDecidable _
noncomputable instance (s : Sed) : Decidable (SeedOK s) := Classical.propDecidable _
end Go.Proofs.Ytfcgcgmleogamaa.Ab
namespace Go.Proofs.Ytfcgcgmleogamaa.Ab
open Go
set_option linter.unusedSimpArgs false
set_option linter.unusedVariables false
set_option maxRecDepth 10000
set_option maxHeartbeats 2000000
noncomputable def itM (f : Lau) : Nat → Lau → Option Lau
  | 0, p => some p
  | n + 1, p => if (mulF p f).2 = true then itM f n (mulF p f).1 else none
noncomputable def prodE (sg : Int) : List Lau → List Int → Lau → Option Lau
  | f :: fs, c :: cs, p => (itM f (sg * c).toNat p).bind (prodE sg fs cs)
  | [], _, p => some p
  | _ :: _, [], p => some p
def colM (m : Mat) (r k : Nat) : List Int := (List.range r).map fun i => bM m i k
@[simp] theorem colM_length (m : Mat) (r k : Nat) : (colM m r k).length = r := by simp [colM]
noncomputable def exF (fs : List Lau) (cs : List Int) (r : Nat) (old : Lau) : Lau × Bool :=
  if ∀ c ∈ cs, -8 ≤ c ∧ c ≤ 8 then (match prodE 1 fs cs (oneF r), prodE (-1) fs cs (oneF r) with
    | some a, some b => if (addF a 1 b).2 = true then divF (addF a 1 b).1 old else (zeroF, false)
    | _, _ => (zeroF, false)) else (zeroF, false)
theorem SmallF.sm' {f : Lau} (h : SmallF f) : f.ts.length < 4611686018427387904 ∧ ∀ t ∈ f.ts, t.e.length < 4611686018427387904 := ⟨by have := h.1; omega, fun t ht => by have := h.2.1 t ht; omega⟩
end Go.Proofs.Ytfcgcgmleogamaa.Ab
namespace Go.Proofs.Ytfcgcgmleogamaa.Ab
open Go
set_option linter.unusedSimpArgs false
set_option linter.unusedVariables false
set_option maxRecDepth 10000
set_option maxHeartbeats 4000000
def agL (v : Nat) (l : List DI) : FV := .ag [.int v, .d (.sh 2 l.length (rows gM l))]
def dgI (d : Dg) : DI := (d.1, d.2)
theorem toN_dgI (d : Dg) : toN (dgI d) = d := rfl
theorem dgI_toN {v : Int} {d : DI} (h : IsDg v d) : dgI (toN d) = d := by
  have := h.2
  unfold dgI toN
  exact Prod.ext (by dsimp only; omega) (by dsimp only; omega)
theorem besI_sd {v a b : Nat} (hv : 4 ≤ v) (ha : a < v) (hb : b < v) (hab : a ≠ b) : besI v a b = sd v (srt a b) := by
  have key : ∀ a b : Nat, a < b → b < v → besI v a b = sd v (a, b) := fun a b h1 h2 => by
    rw [besI_lt (by omega) (by omega) (by omega) (by omega), Bool.eq_iff_iff]
    simp only [sd, decide_eq_true_eq, Bool.or_eq_true, Bool.and_eq_true]
    constructor
    · rintro (h | ⟨h3, h4⟩)
      · exact .inl (by rw [show a + 1 = b by omega]; exact Nat.beq_refl b)
      · exact .inr ⟨by rw [show a = 0 by omega]; rfl, by rw [show b + 1 = v by omega]; exact Nat.beq_refl v⟩
    · rintro (h | ⟨h3, h4⟩)
      · have := Nat.eq_of_beq_eq_true h
        omega
      · have := Nat.eq_of_beq_eq_true h3
        have := Nat.eq_of_beq_eq_true h4
        omega
  rcases Nat.lt_or_gt_of_ne hab with g | g
  · rw [srt_lt g]
    exact key a b g hb
  · rw [srt_gt g, besI_com]
    exact key b a g ha
theorem srt_min (a b : Nat) : dgI (srt a b) = (((min a b : Nat) : Int), ((max a b : Nat) : Int)) := by
  unfold dgI
  rcases Nat.lt_trichotomy a b with h | h | h
  · rw [srt_lt h, Nat.min_eq_left (by omega), Nat.max_eq_right (by omega)]
  · subst h
    rw [show srt a a = (a, a) by unfold srt; split <;> rfl, Nat.min_self, Nat.max_self]
  · rw [srt_gt h, Nat.min_eq_right (by omega), Nat.max_eq_left (by omega)]
theorem mem_toN {v : Int} {l : List DI} (h : ∀ d ∈ l, IsDg v d) (d : Dg) : dgI d ∈ l ↔ d ∈ l.map toN := by
  rw [List.mem_map]
  constructor
  · exact fun hm => ⟨_, hm, toN_dgI d⟩
  · rintro ⟨x, hx, rfl⟩
    rw [dgI_toN (h x hx)]
    exact hx
theorem kn_eq {v : Nat} {l : List DI} (h : ∀ d ∈ l, IsDg v d) (a b : Nat) : kn v (l.map toN) a b = (sd v (srt a b) || decide (dgI (srt a b) ∈ l)) := by
  unfold kn knD
  congr 1
  rw [Bool.eq_iff_iff, List.any_eq_true, decide_eq_true_eq, mem_toN h]
  constructor
  · rintro ⟨x, hx, hq⟩
    rw [dgq_eq] at hq
    rw [hq]
    exact hx
  · exact fun hm => ⟨_, hm, dgq_eq.2 rfl⟩
theorem impl_lengths_known_calls (v : Nat) (l : List DI) (hx : l.length < 4611686018427387904) (hv : 4 ≤ v ∧ v ≤ 8) (hl : ∀ d ∈ l, IsDg v d) (a b : Nat) (ha : a < v) (hb : b < v) (hab : a ≠ b) : ACalls Try.prog F.impl_lengths_known [agL v l, .int a, .int b] [] true (fun outs res => outs = [] ∧ res = [.one (D.bool (kn v (l.map toN) a b))]) := by
  have hbs := impl_beside_calls v a b (by omega) (by omega) (by omega)
  have hct := slices_Contains_impl_Diagonal_impl_Diagonal_calls l (dgI (srt a b)) hx
  rw [besI_sd hv.1 ha hb hab] at hbs
  rw [srt_min] at hct
  simp only [agD] at hct
  have hmin : min (a : Int) b = ((min a b : Nat) : Int) := by omega
  have hmax : max (a : Int) b = ((max a b : Nat) : Int) := by omega
  rw [kn_eq hl, srt_min]
  refine ACalls.of_body (C := C.impl_lengths_known) (n := Try.f138.ntmps) tabT folT Try.func138 rfl (by kernel_rfl) rfl (Nat.le_of_ble_eq_true rfl) (by decide) (by kernel_rfl) (by kernel_rfl) rfl (by simp) (by simp) ?_
  simp only [Try.f138]
  refine wseq ?_
  refine wreg fun K hK => ?_
  simp [C.impl_lengths_known, agL]
  refine hK _ ?_; clear hK K
  show AWp _ _ _ _ _
  refine wseq ?_
  refine wregI ([0, 1, 2, 3, 4] ++ ([5, 6, 7, 8, 9, 10, 11, 12, 13, 14, 15] ++ ([16, 17]))) rfl fun K hK => ?_
  have hJ : K ⟨ofL [(6, .bool (sd v (srt a b) || decide ((((min a b : Nat) : Int), ((max a b : Nat) : Int)) ∈ l)))], ofRO []⟩ := by
    refine hK _ ?_; clear hK K
    show AWp _ _ _ _ _
    refine wret ?_
    simp [C.impl_lengths_known, agL]
  clear hK
  by_cases h1 : sd v (srt a b) = true
  · refine opsI_seg fun L hL => ?_
    simp [C.impl_lengths_known, agL, hmin, hmax, h1]
    refine wcall1 (hbs) (by simp) (by simp) ?_
    simp [C.impl_lengths_known, agL, hmin, hmax, h1]
    refine hL _ ?_; clear hL L
    refine opsI_seg fun L hL => ?_
    simp [C.impl_lengths_known, agL, hmin, hmax, h1]
    refine hL _ ?_; clear hL L
    refine opsI_end fun L hL => ?_
    simp [C.impl_lengths_known, agL, hmin, hmax, h1]
    refine hL _ ?_; clear hL L
    simp [C.impl_lengths_known, agL, hmin, hmax, h1]
    refine cast (congrArg K ?_) hJ
    simp [h1, agL, h1]
  · refine opsI_seg fun L hL => ?_
    simp [C.impl_lengths_known, agL, hmin, hmax, h1]
    refine wcall1 (hbs) (by simp) (by simp) ?_
    simp [C.impl_lengths_known, agL, hmin, hmax, h1]
    refine hL _ ?_; clear hL L
    refine opsI_seg fun L hL => ?_
    simp [C.impl_lengths_known, agL, hmin, hmax, h1]
    refine wcall1 (hct) (by simp) (by simp) ?_
    simp [C.impl_lengths_known, agL, hmin, hmax, h1]
    refine hL _ ?_; clear hL L
    refine opsI_end fun L hL => ?_
    simp [C.impl_lengths_known, agL, hmin, hmax, h1]
    refine hL _ ?_; clear hL L
    simp [C.impl_lengths_known, agL, hmin, hmax, h1]
    refine cast (congrArg K ?_) hJ
    simp [h1, agL, h1]

theorem monoF_unit {n k : Nat} (hn : 1 ≤ n ∧ n ≤ 8) : monoF (unitL n k) = unitF n k := by
  have h := (lb_unit (k := k) hn).right
  have hl := (unitL_bd (n := n) (k := k)).1
  unfold monoF
  rw [hl]
  exact if_pos h
theorem LenP.sm {v : Nat} {l : List Dg} {a c : Nat} {f : Lau} (h : LenP v l a c f) : SmF f := (small_right h.lb.right).sm'
theorem isDg_srt {v a c : Nat} (hv : 4 ≤ v ∧ v ≤ 8) (hac : a ≠ c) (ha : a < v) (hc : c < v) (hs : sd v (srt a c) = false) : IsDg v (dgI (srt a c)) := by
  rw [← besI_sd hv.1 ha hc hac] at hs
  have key : ∀ a c : Nat, a < c → c < v → besI v a c = false → IsDg v (dgI (srt a c)) := fun a c h1 h2 h3 => by
    rw [besI_lt (by omega) (by omega) (by omega) (by omega)] at h3
    have := of_decide_eq_false h3
    rw [srt_lt h1]
    unfold IsDg dgI
    dsimp only
    omega
  rcases Nat.lt_or_gt_of_ne hac with g | g
  · exact key a c g hc hs
  · rw [srt_com]
    exact key c a g ha (by rw [besI_com]; exact hs)
def OfC (v : Nat) (l : List DI) (a c : Nat) : Prop := ACalls Try.prog F.impl_lengths_of [agL v l, .int a, .int c] [] true (fun outs res => outs = [] ∧ ∃ f, LenP v (l.map toN) a c f ∧ res = [.ag (fO f), .one (D.bool true)])
theorem impl_lengths_of_calls (v : Nat) (l : List DI) (hT : TriI v l) (a c : Nat) (ha : a < v) (hc : c < v) (hac : a ≠ c) (ih : ∀ a' c', a' < v → c' < v → a' ≠ c' → cntD (l.map toN) a' c' < cntD (l.map toN) a c → OfC v l a' c') : OfC v l a c := by
  have hv : 4 ≤ v ∧ v ≤ 8 := by have := hT.1; omega
  have hll : l.length = v - 3 := by have := hT.2.1; omega
  have hx : l.length < 4611686018427387904 := by omega
  have hTr := tri_of hT
  rw [Int.toNat_natCast] at hTr
  have hdg := hT.2.2.1
  have hn8 : 1 ≤ v - 3 ∧ v - 3 ≤ 8 := by omega
  have hw3 : IntKind.i64.wrap ((v : Int) - 3) = ((v - 3 : Nat) : Int) := by rw [wrapOk (by omega) (by omega)]; omega
  have hmin : min (a : Int) c = ((min a c : Nat) : Int) := by omega
  have hmax : max (a : Int) c = ((max a c : Nat) : Int) := by omega
  have hbs := impl_beside_calls v a c (by omega) (by omega) (by omega)
  rw [besI_sd hv.1 ha hc hac] at hbs
  have hIx := slices_Index_impl_Diagonal_impl_Diagonal_calls l (dgI (srt a c)) hx
  have hsm := srt_min a c
  rw [hsm] at hIx
  simp only [agD] at hIx
  unfold OfC
  refine ACalls.of_body (C := C.impl_lengths_of) (n := Try.f79.ntmps) tabT folT Try.func79 rfl (by kernel_rfl) rfl (Nat.le_of_ble_eq_true rfl) (by decide) (by kernel_rfl) (by kernel_rfl) rfl (by simp) (by simp) ?_
  simp only [Try.f79]
  refine wseq ?_
  refine wreg fun K hK => ?_
  simp [C.impl_lengths_of, agL]
  refine hK _ ?_; clear hK K
  show AWp _ _ _ _ _
  refine wseq ?_
  refine wreg fun K hK => ?_
  simp [C.impl_lengths_of, agL, hmin, hmax]
  refine hK _ ?_; clear hK K
  show AWp _ _ _ _ _
  refine wseq ?_
  refine wseq ?_
  refine wregI ([0, 1, 2, 3, 4] ++ ([])) rfl fun K hK => ?_
  refine opsI_seg fun L hL => ?_
  simp [C.impl_lengths_of, agL]
  refine wcall1 (hbs) (by simp) (by simp) ?_
  simp [C.impl_lengths_of, agL]
  refine hL _ ?_; clear hL L
  refine opsI_end fun L hL => ?_
  simp only [AOpsI]
  refine hL _ ?_; clear hL L
  simp [C.impl_lengths_of, agL]
  refine hK _ ?_; clear hK K
  show AWp _ _ _ _ _
  refine wcond _ rfl (fun hc1 => ?_) (fun hc1 => ?_)
  · have hsd : sd v (srt a c) = true := by simpa using hc1
    refine wseq ?_
    refine wregI ([0, 1, 2, 3] ++ ([4, 5])) rfl fun K hK => ?_
    refine opsI_seg fun L hL => ?_
    simp [C.impl_lengths_of, agL, hw3]
    refine wcall1 (impl_ConstantLaurent_calls (v - 3) hn8) (by simp) (by simp) ?_
    simp [C.impl_lengths_of, agL, hw3]
    refine hL _ ?_; clear hL L
    refine opsI_end fun L hL => ?_
    simp [C.impl_lengths_of, agL, hw3]
    refine hL _ ?_; clear hL L
    simp [C.impl_lengths_of, agL, hw3]
    refine hK _ ?_; clear hK K
    show AWp _ _ _ _ _
    refine wret ?_
    simp [C.impl_lengths_of, agL]
    exact ⟨oneF (v - 3), len_side hTr hac ha hc hsd, rfl⟩
  · have hsd : sd v (srt a c) = false := by simpa using hc1
    have hisd := isDg_srt hv hac ha hc hsd
    refine wskip ?_
    show AWp _ _ _ _ _
    refine wseq ?_
    refine wseq ?_
    refine wregI ([0, 1, 2, 3] ++ ([4])) rfl fun K hK => ?_
    refine opsI_seg fun L hL => ?_
    simp [C.impl_lengths_of, agL]
    refine wcall (hIx) (by simp) (by simp) (by simp) ?_
    rintro outs res ⟨rfl, r, rfl, hr⟩
    simp [C.impl_lengths_of, agL]
    refine hL _ ?_; clear hL L
    refine opsI_end fun L hL => ?_
    simp [C.impl_lengths_of, agL]
    refine hL _ ?_; clear hL L
    simp [C.impl_lengths_of, agL]
    refine hK _ ?_; clear hK K
    show AWp _ _ _ _ _
    refine wseq ?_
    refine wreg fun K hK => ?_
    simp [C.impl_lengths_of, agL]
    refine hK _ ?_; clear hK K
    show AWp _ _ _ _ _
    refine wcond _ rfl (fun hc2 => ?_) (fun hc2 => ?_)
    · obtain ⟨k, rfl, hk⟩ : ∃ k : Nat, r = k ∧ l[k]? = some (((min a c : Nat) : Int), ((max a c : Nat) : Int)) := by
        rcases hr with ⟨h1, h2⟩ | h
        · subst h1
          simp at hc2
        · exact h
      have hkl : k < l.length := (List.getElem?_eq_some_iff.1 hk).1
      have hkN : (l.map toN)[k]? = some (srt a c) := by rw [List.getElem?_map, hk, ← hsm]; rfl
      have hmo := iMono_calls (unitL (v - 3) k) (by rw [(unitL_bd (n := v - 3) (k := k)).1]; omega)
      rw [monoF_unit hn8] at hmo
      refine wseq ?_
      refine wregI ([0, 1, 2, 3, 4] ++ ([5] ++ ([6, 7]))) rfl fun K hK => ?_
      refine opsI_seg fun L hL => ?_
      simp [C.impl_lengths_of, agL, hw3]
      refine wcall1 (impl_unit_calls (v - 3) k (by omega) (by omega)) (by simp) (by simp) ?_
      simp [C.impl_lengths_of, agL, hw3]
      refine hL _ ?_; clear hL L
      refine opsI_seg fun L hL => ?_
      simp [C.impl_lengths_of, agL, hw3]
      refine wcall1 (hmo) (by simp [agL, hw3]) (by simp) ?_
      simp [C.impl_lengths_of, agL, hw3]
      refine hL _ ?_; clear hL L
      refine opsI_end fun L hL => ?_
      simp [C.impl_lengths_of, agL, hw3]
      refine hL _ ?_; clear hL L
      simp [C.impl_lengths_of, agL, hw3]
      refine hK _ ?_; clear hK K
      show AWp _ _ _ _ _
      refine wret ?_
      simp [C.impl_lengths_of, agL]
      exact ⟨unitF (v - 3) k, len_diag hTr hac ha hc hkN, rfl⟩
    · have hnm : dgI (srt a c) ∉ l := by
        rcases hr with ⟨h1, h2⟩ | ⟨k, h1, h2⟩
        · rw [hsm]
          exact h2
        · subst h1
          simp at hc2
      have hkn : kn v (l.map toN) a c = false := by
        rw [kn_eq hdg, hsd]
        simpa using hnm
      obtain ⟨⟨e0, he0, hg0⟩, hall⟩ := tri_good hTr ha hc hac hkn
      refine wskip ?_
      show AWp _ _ _ _ _
      refine wseq ?_
      refine wseq ?_
      refine wreg fun K hK => ?_
      simp [C.impl_lengths_of, agL]
      refine hK _ ?_; clear hK K
      show AWp _ _ _ _ _
      refine wblock ?_
      refine wloop (fun k : Nat => ⟨ofL [(1, .int a), (2, .int c), (3, .pt (3, 0) [] 0), (6, .pt (6, 0) [] 0), (8, .pt (8, 0) [] 0), (55, .d (.sh 2 l.length (rows gM l))), (56, .int l.length), (57, FV.int k)], ofRO [((3, 0), some (.bx [D.int v, .sh 2 l.length (rows gM l)])), ((6, 0), some (.bx [D.int 0, .v (.slice none 0 0)])), ((8, 0), some (.bx [D.int (min a c : Nat), D.int (max a c : Nat)]))]⟩) (fun k => k ≤ l.length ∧ ∀ e ∈ (l.map toN).take k, good v (l.map toN) a c e = false) (fun k => l.length - k) 0 (by simp [C.impl_lengths_of, agL]) (by simp) ?_
      intro x1 hx1 R1 hR1
      obtain ⟨hk, hno⟩ := hx1
      refine wseq ?_
      refine wreg fun K hK => ?_
      simp [C.impl_lengths_of, agL]
      refine hK _ ?_; clear hK K
      show AWp _ _ _ _ _
      refine wseq ?_
      refine wcond _ rfl (fun hc3 => ?_) (fun hc3 => ?_)
      · have h1 : x1 < l.length := by have := d_t hc3; omega
        obtain ⟨e, he⟩ : ∃ e, e = toN l[x1] := ⟨_, rfl⟩
        have hed : l[x1] = dgI e := by rw [he]; exact (dgI_toN (hdg _ (List.getElem_mem h1))).symm
        have he1 : l[x1].1 = (e.1 : Int) := by rw [hed]; rfl
        have he2 : l[x1].2 = (e.2 : Int) := by rw [hed]; rfl
        have hkN : (l.map toN)[x1]? = some e := by rw [List.getElem?_map, List.getElem?_eq_getElem h1, he]; rfl
        have heM := List.mem_of_getElem? hkN
        have hem := tri_mem hTr heM
        have hcx := cross_calls v (dgI (srt a c)) l[x1]
        have hcd : decide (IsDg v (dgI (srt a c)) ∧ IsDg v l[x1] ∧ CrI (dgI (srt a c)) l[x1]) = crs (srt a c) e := by
          rw [Bool.eq_iff_iff, decide_eq_true_eq]
          have h2 := crI_toN hisd (hdg _ (List.getElem_mem h1))
          rw [toN_dgI, ← he] at h2
          rw [← h2]
          exact ⟨fun h => h.2.2, fun h => ⟨hisd, hdg _ (List.getElem_mem h1), h⟩⟩
        rw [hcd, hsm] at hcx
        simp only [agD, he1, he2] at hcx
        refine wskip ?_
        show AWp _ _ _ _ _
        refine wseq ?_
        refine wblock ?_
        refine wseq ?_
        refine wreg fun K hK => ?_
        simp [C.impl_lengths_of, agL, gM_0 h1, gM_1 h1, h1, he1, he2]
        refine hK _ ?_; clear hK K
        show AWp _ _ _ _ _
        refine wseq ?_
        refine wseq ?_
        refine wregI ([0, 1, 2, 3, 4] ++ ([5, 6, 7, 8, 9, 10, 11] ++ ([12, 13, 14, 15, 16, 17, 18, 19] ++ ([20, 21])))) rfl fun K hK => ?_
        have hJ : K ⟨ofL [(1, .int a), (2, .int c), (3, .pt (3, 0) [] 0), (6, .pt (6, 0) [] 0), (8, .pt (8, 0) [] 0), (10, .int x1), (11, .pt (11, 0) [] 0), (55, .d (.sh 2 l.length (rows gM l))), (56, .int l.length), (57, FV.int x1), (83, .bool (!good v (l.map toN) a c e))], ofRO [((3, 0), some (.bx [D.int v, .sh 2 l.length (rows gM l)])), ((6, 0), some (.bx [D.int 0, .v (.slice none 0 0)])), ((8, 0), some (.bx [D.int (min a c : Nat), D.int (max a c : Nat)])), ((11, 0), some (.bx [D.int e.1, D.int e.2]))]⟩ := by
          refine hK _ ?_; clear hK K
          show AWp _ _ _ _ _
          refine wcond _ rfl (fun hc4 => ?_) (fun hc4 => ?_)
          · have hgf : good v (l.map toN) a c e = false := by simpa using hc4
            refine wexit ?_
            show AWp _ _ _ _ _
            refine wreg fun K hK => ?_
            simp [C.impl_lengths_of, agL, wrap_succ (show x1 < 4611686018427387904 by omega)]
            refine hK _ ?_; clear hK K
            simp [C.impl_lengths_of, agL]
            refine hR1 (x1 + 1) ⟨h1, fun y hy => ?_⟩ (by omega)
            rw [List.take_succ_eq_append_getElem (by simpa using h1)] at hy
            rcases List.mem_append.1 hy with hy | hy
            · exact hno y hy
            · rw [List.mem_singleton, List.getElem_map] at hy
              rw [hy, ← he]
              exact hgf
          · have hgt : good v (l.map toN) a c e = true := by simpa using hc4
            obtain ⟨⟨q1, q2⟩, q3, q4⟩ := hall e heM hgt
            have g1 : crs (srt a c) e = true := by
              simp only [good, Bool.and_eq_true] at hgt
              exact hgt.1
            have hne1 : a ≠ e.1 ∧ a ≠ e.2 ∧ c ≠ e.1 ∧ c ≠ e.2 := by rw [crs_iff] at g1; rcases Nat.lt_or_gt_of_ne hac with g | g <;> simp only [srt_lt, srt_gt, g] at g1 <;> omega
            have i1 := ih a e.1 ha (by omega) hne1.1 (by omega)
            have i2 := ih c e.2 hc (by omega) hne1.2.2.2 (by omega)
            have i3 := ih a e.2 ha (by omega) hne1.2.1 (by omega)
            have i4 := ih c e.1 hc (by omega) hne1.2.2.1 (by omega)
            unfold OfC at i1 i2 i3 i4
            simp only [agL] at i1 i2 i3 i4
            refine wskip ?_
            show AWp _ _ _ _ _
            refine wseq ?_
            refine wregI ([0, 1, 2, 3, 4] ++ ([5, 6, 7, 8, 9, 10])) rfl fun K hK => ?_
            refine opsI_seg fun L hL => ?_
            simp [C.impl_lengths_of, agL]
            refine wcall (i1) (by simp) (by simp) (by simp) ?_
            rintro outs res ⟨rfl, f1, p1, rfl⟩
            simp [C.impl_lengths_of, agL]
            refine hL _ ?_; clear hL L
            refine opsI_end fun L hL => ?_
            simp [C.impl_lengths_of, agL]
            refine hL _ ?_; clear hL L
            simp [C.impl_lengths_of, agL]
            refine hK _ ?_; clear hK K
            show AWp _ _ _ _ _
            refine wseq ?_
            refine wregI ([0, 1, 2, 3, 4] ++ ([5, 6, 7, 8, 9, 10])) rfl fun K hK => ?_
            refine opsI_seg fun L hL => ?_
            simp [C.impl_lengths_of, agL]
            refine wcall (i2) (by simp) (by simp) (by simp) ?_
            rintro outs res ⟨rfl, f2, p2, rfl⟩
            simp [C.impl_lengths_of, agL]
            refine hL _ ?_; clear hL L
            refine opsI_end fun L hL => ?_
            simp [C.impl_lengths_of, agL]
            refine hL _ ?_; clear hL L
            simp [C.impl_lengths_of, agL]
            refine hK _ ?_; clear hK K
            show AWp _ _ _ _ _
            refine wseq ?_
            refine wregI ([0, 1, 2, 3, 4] ++ ([5, 6, 7, 8, 9, 10])) rfl fun K hK => ?_
            refine opsI_seg fun L hL => ?_
            simp [C.impl_lengths_of, agL]
            refine wcall (i3) (by simp) (by simp) (by simp) ?_
            rintro outs res ⟨rfl, f3, p3, rfl⟩
            simp [C.impl_lengths_of, agL]
            refine hL _ ?_; clear hL L
            refine opsI_end fun L hL => ?_
            simp [C.impl_lengths_of, agL]
            refine hL _ ?_; clear hL L
            simp [C.impl_lengths_of, agL]
            refine hK _ ?_; clear hK K
            show AWp _ _ _ _ _
            refine wseq ?_
            refine wregI ([0, 1, 2, 3, 4] ++ ([5, 6, 7, 8, 9, 10])) rfl fun K hK => ?_
            refine opsI_seg fun L hL => ?_
            simp [C.impl_lengths_of, agL]
            refine wcall (i4) (by simp) (by simp) (by simp) ?_
            rintro outs res ⟨rfl, f4, p4, rfl⟩
            simp [C.impl_lengths_of, agL]
            refine hL _ ?_; clear hL L
            refine opsI_end fun L hL => ?_
            simp [C.impl_lengths_of, agL]
            refine hL _ ?_; clear hL L
            simp [C.impl_lengths_of, agL]
            refine hK _ ?_; clear hK K
            show AWp _ _ _ _ _
            refine wseq ?_
            obtain ⟨P, R, S, Q, w1, w2, w3, w4, w5, wP, wR, wS⟩ := len_step hTr hac ha hc hkn hkN hgt p1 p2 p3 p4
            have m1 := mulOk f1 f2 p1.sm.1 p1.sm.2 p2.sm.1 p2.sm.2
            have m2 := mulOk f3 f4 p3.sm.1 p3.sm.2 p4.sm.1 p4.sm.2
            have hsP := (small_right wP).sm'
            have hsR := (small_right wR).sm'
            have hsS := (small_right wS).sm'
            have hun := (lb_unit (k := x1) hn8).right
            have hsU := (small_right hun).sm'
            have m3 := iAdd_calls P 1 R hsP.1 hsP.2 hsR.1 hsR.2
            have m4 := iDiv_calls doneOk S (unitF (v - 3) x1) hsS.1 hsS.2 hsU.1 hsU.2
            rw [w1] at m1
            rw [w2] at m2
            rw [w3] at m3
            rw [w4] at m4
            have hmo := iMono_calls (unitL (v - 3) x1) (by rw [(unitL_bd (n := v - 3) (k := x1)).1]; omega)
            rw [monoF_unit hn8] at hmo
            have hut := impl_unit_calls (v - 3) x1 (by omega) (by omega)
            refine wregI ([0, 1, 2] ++ ([3, 4, 5, 6, 7, 8])) rfl fun K hK => ?_
            refine opsI_seg fun L hL => ?_
            simp [C.impl_lengths_of, agL, fO]
            refine wcall1 (m1) (by simp [agL, fO]) (by simp) ?_
            simp [C.impl_lengths_of, agL, fO]
            refine hL _ ?_; clear hL L
            refine opsI_end fun L hL => ?_
            simp [C.impl_lengths_of, agL, fO]
            refine hL _ ?_; clear hL L
            simp [C.impl_lengths_of, agL, fO]
            refine hK _ ?_; clear hK K
            show AWp _ _ _ _ _
            refine wseq ?_
            refine wregI ([0, 1, 2] ++ ([3, 4, 5, 6, 7, 8])) rfl fun K hK => ?_
            refine opsI_seg fun L hL => ?_
            simp [C.impl_lengths_of, agL, fO]
            refine wcall1 (m2) (by simp [agL, fO]) (by simp) ?_
            simp [C.impl_lengths_of, agL, fO]
            refine hL _ ?_; clear hL L
            refine opsI_end fun L hL => ?_
            simp [C.impl_lengths_of, agL, fO]
            refine hL _ ?_; clear hL L
            simp [C.impl_lengths_of, agL, fO]
            refine hK _ ?_; clear hK K
            show AWp _ _ _ _ _
            refine wseq ?_
            refine wregI ([0, 1, 2] ++ ([3, 4, 5, 6, 7, 8])) rfl fun K hK => ?_
            refine opsI_seg fun L hL => ?_
            simp [C.impl_lengths_of, agL, fO]
            refine wcall1 (m3) (by simp [agL, fO]) (by simp) ?_
            simp [C.impl_lengths_of, agL, fO]
            refine hL _ ?_; clear hL L
            refine opsI_end fun L hL => ?_
            simp [C.impl_lengths_of, agL, fO]
            refine hL _ ?_; clear hL L
            simp [C.impl_lengths_of, agL, fO]
            refine hK _ ?_; clear hK K
            show AWp _ _ _ _ _
            refine wseq ?_
            refine wseq ?_
            refine wregI ([0, 1, 2, 3, 4, 5, 6, 7, 8, 9, 10, 11, 12, 13, 14, 15, 16, 17, 18, 19, 20, 21, 22, 23, 24, 25]) rfl fun K hK => ?_
            refine opsI_end fun L hL => ?_
            simp [C.impl_lengths_of, agL]
            refine hL _ ?_; clear hL L
            simp [C.impl_lengths_of, agL]
            refine hK _ ?_; clear hK K
            show AWp _ _ _ _ _
            refine wcond _ rfl (fun hc5 => ?_) (fun hc5 => ?_)
            · simp at hc5
            · refine wskip ?_
              show AWp _ _ _ _ _
              refine wseq ?_
              refine wdrawI [(true, 0), (true, 1), (true, 2), (true, 3), (true, 4), (false, 5), (false, 6), (false, 7), (true, 8), (true, 9), (false, 10), (true, 11)] ⟨by kernel_rfl, by kernel_rfl⟩ ([0, 1, 2, 3, 4, 5] ++ ([6] ++ ([7] ++ ([8, 9, 10, 11])))) rfl fun K hK => ?_
              have hJ : K ⟨ofL [(6, .pt (6, 0) [] 0), (7, .bool true)], ofRO [((6, 0), some (.bx [D.int Q.v, .ow 2 Q.ts.length (rows tO Q.ts)]))]⟩ := by
                refine hK _ ?_; clear hK K
                show AWp _ _ _ _ _
                refine wret ?_
                simp [C.impl_lengths_of, agL]
                exact ⟨Q, w5, by simp [fO]⟩
              clear hK
              simp [C.impl_lengths_of, hw3]
              repeat' first
                | (refine wcall1 hut ?_ (by simp) ?_; (focus (simp; done)); simp [C.impl_lengths_of, hw3])
                | (refine wcall1 hmo ?_ (by simp) ?_; (focus (simp; done)); simp [C.impl_lengths_of, fO])
                | (refine wcall1 m4 ?_ (by simp) ?_; (focus (simp [fO]; done)); simp [C.impl_lengths_of, fO])
                | (refine cast (congrArg K ?_) hJ; simp [fO]; done)
                | refine And.intro ?_ ?_
        clear hK
        by_cases g1 : crs (srt a c) e = true
        · by_cases g2 : kn v (l.map toN) a e.1 = true
          · have hne1 : a ≠ e.1 := fun q => by rw [crs_iff] at g1; rcases Nat.lt_or_gt_of_ne hac with g | g <;> simp only [srt_lt, srt_gt, g] at g1 <;> omega
            have hne2 : a ≠ e.2 := fun q => by rw [crs_iff] at g1; rcases Nat.lt_or_gt_of_ne hac with g | g <;> simp only [srt_lt, srt_gt, g] at g1 <;> omega
            refine opsI_seg fun L hL => ?_
            simp [C.impl_lengths_of, agL, agL, g1, g2]
            refine wcall1 (hcx) (by simp) (by simp) ?_
            simp [C.impl_lengths_of, agL, agL, g1, g2]
            refine hL _ ?_; clear hL L
            refine opsI_seg fun L hL => ?_
            simp [C.impl_lengths_of, agL, agL, g1, g2]
            refine wcall1 (impl_lengths_known_calls v l hx hv hdg a e.1 ha (by omega) hne1) (by simp [agL, agL]) (by simp) ?_
            simp [C.impl_lengths_of, agL, agL, g1, g2]
            refine hL _ ?_; clear hL L
            refine opsI_seg fun L hL => ?_
            simp [C.impl_lengths_of, agL, agL, g1, g2]
            refine wcall1 (impl_lengths_known_calls v l hx hv hdg a e.2 ha (by omega) hne2) (by simp [agL, agL]) (by simp) ?_
            simp [C.impl_lengths_of, agL, agL, g1, g2]
            refine hL _ ?_; clear hL L
            refine opsI_end fun L hL => ?_
            simp [C.impl_lengths_of, agL, agL, g1, g2]
            refine hL _ ?_; clear hL L
            simp [C.impl_lengths_of, agL, agL, g1, g2]
            refine cast (congrArg K ?_) hJ
            simp [g1, g2, good, agL, g1, g2]
          · have hne1 : a ≠ e.1 := fun q => by rw [crs_iff] at g1; rcases Nat.lt_or_gt_of_ne hac with g | g <;> simp only [srt_lt, srt_gt, g] at g1 <;> omega
            refine opsI_seg fun L hL => ?_
            simp [C.impl_lengths_of, agL, agL, g1, g2]
            refine wcall1 (hcx) (by simp) (by simp) ?_
            simp [C.impl_lengths_of, agL, agL, g1, g2]
            refine hL _ ?_; clear hL L
            refine opsI_seg fun L hL => ?_
            simp [C.impl_lengths_of, agL, agL, g1, g2]
            refine wcall1 (impl_lengths_known_calls v l hx hv hdg a e.1 ha (by omega) hne1) (by simp [agL, agL]) (by simp) ?_
            simp [C.impl_lengths_of, agL, agL, g1, g2]
            refine hL _ ?_; clear hL L
            refine opsI_seg fun L hL => ?_
            simp [C.impl_lengths_of, agL, agL, g1, g2]
            refine hL _ ?_; clear hL L
            refine opsI_end fun L hL => ?_
            simp [C.impl_lengths_of, agL, agL, g1, g2]
            refine hL _ ?_; clear hL L
            simp [C.impl_lengths_of, agL, agL, g1, g2]
            refine cast (congrArg K ?_) hJ
            simp [g1, g2, good, agL, g1, g2]
        · refine opsI_seg fun L hL => ?_
          simp [C.impl_lengths_of, agL, agL, g1]
          refine wcall1 (hcx) (by simp) (by simp) ?_
          simp [C.impl_lengths_of, agL, agL, g1]
          refine hL _ ?_; clear hL L
          refine opsI_seg fun L hL => ?_
          simp [C.impl_lengths_of, agL, agL, g1]
          refine hL _ ?_; clear hL L
          refine opsI_seg fun L hL => ?_
          simp [C.impl_lengths_of, agL, agL, g1]
          refine hL _ ?_; clear hL L
          refine opsI_end fun L hL => ?_
          simp [C.impl_lengths_of, agL, agL, g1]
          refine hL _ ?_; clear hL L
          simp [C.impl_lengths_of, agL, agL, g1]
          refine cast (congrArg K ?_) hJ
          simp [g1, good, agL, g1]
      · have h1 : x1 = l.length := by have := d_f hc3; omega
        refine wexit ?_
        show AWp _ _ _ _ _
        refine wseq ?_
        refine wreg fun K hK => ?_
        rw [h1, List.take_of_length_le (by simp)] at hno
        rw [hno e0 he0] at hg0
        exact absurd hg0 (by simp)
theorem of_calls (v : Nat) (l : List DI) (hT : TriI v l) : ∀ (n a c : Nat), cntD (l.map toN) a c ≤ n → a < v → c < v → a ≠ c → OfC v l a c
  | n, a, c, hn, ha, hc, hac => by
    refine impl_lengths_of_calls v l hT a c ha hc hac fun a' c' h1 h2 h3 h4 => ?_
    match n with
    | 0 => omega
    | n + 1 => exact of_calls v l hT n a' c' (by omega) h1 h2 h3

end Go.Proofs.Ytfcgcgmleogamaa.Ab
namespace Go.Proofs.Ytfcgcgmleogamaa.Ab
open Go
set_option linter.unusedSimpArgs false
set_option linter.unusedVariables false
set_option maxRecDepth 10000
set_option maxHeartbeats 4000000
noncomputable def lnL (v : Nat) (l : List Dg) (a c : Nat) : Lau := open Classical in if h : ∃ f, LenP v l a c f then Classical.choose h else zeroF
theorem lnL_eq {v : Nat} {l : List Dg} (h : Tri v l) {a c : Nat} {f : Lau} (hf : LenP v l a c f) : lnL v l a c = f := by
  unfold lnL
  rw [dif_pos ⟨f, hf⟩]
  exact LenP.uniq h (Classical.choose_spec (⟨f, hf⟩ : ∃ f, LenP v l a c f)) hf
noncomputable def arcF (v : Int) (l : List DI) (d : DI) : Lau × Bool := open Classical in if TriI v l ∧ IsDg v d then (lnL v.toNat (l.map toN) d.1.toNat d.2.toNat, true) else (zeroF, false)
theorem impl_ArcLaurent_calls (v : Int) (l : List DI) (d : DI) (hx : l.length < 4611686018427387904) : ACalls Try.prog F.impl_ArcLaurent [.int v, .d (.sh 2 l.length (rows gM l)), agD d] [] true (fun outs res => outs = [] ∧ WkRs res [.ag (fO (arcF v l d).1), .one (D.bool (arcF v l d).2)] ∧ (TriI v l → IsDg v d → LenP v.toNat (l.map toN) d.1.toNat d.2.toNat (arcF v l d).1)) := by
  have hit := impl_IsTriangulation_calls v l hx
  have hid := impl_IsDiagonal_calls v d
  simp only [agD] at hid
  refine ACalls.of_body (C := C.impl_ArcLaurent) (n := Try.f28.ntmps) tabT folT Try.func28 rfl (by kernel_rfl) rfl (Nat.le_of_ble_eq_true rfl) (by decide) (by kernel_rfl) (by kernel_rfl) rfl (by simp) (by simp) ?_
  simp only [Try.f28]
  refine wseq ?_
  refine wreg fun K hK => ?_
  simp [C.impl_ArcLaurent, agD]
  refine hK _ ?_; clear hK K
  show AWp _ _ _ _ _
  refine wseq ?_
  refine wseq ?_
  refine wregI ([0, 1, 2] ++ ([3, 4, 5, 6, 7] ++ ([8, 9]))) rfl fun K hK => ?_
  have hJ : K ⟨ofL [(0, .int v), (1, .d (.sh 2 l.length (rows gM l))), (5, .pt (5, 0) [] 0), (6, .pt (6, 0) [] 0), (17, .bool (!decide (TriI v l ∧ IsDg v d)))], ofRO [((5, 0), some (.bx [D.int d.1, D.int d.2])), ((6, 0), some (.bx [D.int 0, .v (.slice none 0 0)]))]⟩ := by
    refine hK _ ?_; clear hK K
    show AWp _ _ _ _ _
    refine wcond _ rfl (fun hc1 => ?_) (fun hc1 => ?_)
    · have hno := nd_t hc1
      have hA : arcF v l d = (zeroF, false) := if_neg hno
      refine wseq ?_
      refine wreg fun K hK => ?_
      simp [C.impl_ArcLaurent, agD]
      refine hK _ ?_; clear hK K
      show AWp _ _ _ _ _
      refine wret ?_
      simp [C.impl_ArcLaurent, agD]
      rw [hA]
      simp [fO, zeroF, rows]
      exact fun h1 h2 => absurd ⟨h1, h2⟩ hno
    · have hy := nd_f hc1
      obtain ⟨hT, hD⟩ := hy
      have hDD := hD.2
      obtain ⟨V, rfl⟩ : ∃ V : Nat, v = V := ⟨v.toNat, by have := hT.1; omega⟩
      have hof := of_calls V l hT _ d.1.toNat d.2.toNat (Nat.le_refl _) (by omega) (by omega) (by omega)
      unfold OfC at hof
      simp only [agL] at hof
      rw [Int.toNat_of_nonneg (show 0 ≤ d.1 by omega), Int.toNat_of_nonneg (show 0 ≤ d.2 by omega)] at hof
      have hTr := tri_of hT
      refine wskip ?_
      show AWp _ _ _ _ _
      refine wseq ?_
      refine wregI ([0, 1, 2, 3, 4, 5, 6, 7] ++ ([8, 9, 10, 11])) rfl fun K hK => ?_
      refine opsI_seg fun L hL => ?_
      simp [C.impl_ArcLaurent, agD]
      refine wcall (hof) (by simp) (by simp) (by simp) ?_
      rintro outs res ⟨rfl, f, hf, rfl⟩
      simp [C.impl_ArcLaurent, agD]
      refine hL _ ?_; clear hL L
      refine opsI_end fun L hL => ?_
      simp [C.impl_ArcLaurent, agD]
      refine hL _ ?_; clear hL L
      simp [C.impl_ArcLaurent, agD]
      refine hK _ ?_; clear hK K
      show AWp _ _ _ _ _
      refine wret ?_
      rw [Int.toNat_natCast] at hTr
      have hA : arcF V l d = (f, true) := by
        unfold arcF
        rw [if_pos ⟨hT, hD⟩, Int.toNat_natCast, lnL_eq hTr hf]
      simp [C.impl_ArcLaurent, agD]
      rw [hA]
      exact ⟨by simp [fO], fun _ _ => hf⟩
  clear hK
  by_cases h1 : TriI v l
  · refine opsI_seg fun L hL => ?_
    simp [C.impl_ArcLaurent, agD, h1]
    refine wcall1 (hit) (by simp) (by simp) ?_
    simp [C.impl_ArcLaurent, agD, h1]
    refine hL _ ?_; clear hL L
    refine opsI_seg fun L hL => ?_
    simp [C.impl_ArcLaurent, agD, h1]
    refine wcall1 (hid) (by simp) (by simp) ?_
    simp [C.impl_ArcLaurent, agD, h1]
    refine hL _ ?_; clear hL L
    refine opsI_end fun L hL => ?_
    simp [C.impl_ArcLaurent, agD, h1]
    refine hL _ ?_; clear hL L
    simp [C.impl_ArcLaurent, agD, h1]
    refine cast (congrArg K ?_) hJ
    simp [h1, agD, h1]
  · refine opsI_seg fun L hL => ?_
    simp [C.impl_ArcLaurent, agD, h1]
    refine wcall1 (hit) (by simp) (by simp) ?_
    simp [C.impl_ArcLaurent, agD, h1]
    refine hL _ ?_; clear hL L
    refine opsI_seg fun L hL => ?_
    simp [C.impl_ArcLaurent, agD, h1]
    refine hL _ ?_; clear hL L
    refine opsI_end fun L hL => ?_
    simp [C.impl_ArcLaurent, agD, h1]
    refine hL _ ?_; clear hL L
    simp [C.impl_ArcLaurent, agD, h1]
    refine cast (congrArg K ?_) hJ
    simp [h1, agD, h1]

end Go.Proofs.Ytfcgcgmleogamaa.Ab
namespace Go.Proofs.Ytfcgcgmleogamaa.Ab
open Go
set_option linter.unusedSimpArgs false
set_option linter.unusedVariables false
set_option maxRecDepth 100000
def rowC (v a b : Nat) : Bool := Nat.ble (a + 2) b && (Nat.blt 0 a || Nat.blt b (v - 1))
def rowD (v a b : Nat) : List Dg := ((List.range b).filter (rowC v a)).map fun b' => (a, b')
def allP (v a : Nat) : List Dg := (List.range a).flatMap fun a' => rowD v a' v
theorem allP_all (v : Nat) : allP v v = allD v := rfl
theorem allP_succ (v a : Nat) : allP v (a + 1) = allP v a ++ rowD v a v := by
  unfold allP
  rw [List.range_succ, List.flatMap_append]
  simp
theorem rowD_succ (v a b : Nat) : rowD v a (b + 1) = if rowC v a b = true then rowD v a b ++ [(a, b)] else rowD v a b := by
  unfold rowD
  rw [List.range_succ, List.filter_append, List.map_append]
  by_cases h : rowC v a b = true
  · simp [h]
  · simp [h]
theorem rowD_start {v a b : Nat} (h : b ≤ a + 2) : rowD v a b = [] := by
  unfold rowD
  rw [List.map_eq_nil_iff, List.filter_eq_nil_iff]
  intro x hx
  rw [List.mem_range] at hx
  simp only [rowC, Bool.and_eq_true, Nat.ble_eq, not_and]
  omega
theorem rowC_eq (v a b : Nat) : rowC v a b = decide (a + 2 ≤ b ∧ (0 < a ∨ b < v - 1)) := by
  rw [Bool.eq_iff_iff]
  simp only [rowC, Bool.and_eq_true, Bool.or_eq_true, Nat.ble_eq, Nat.blt_eq, decide_eq_true_eq]
def fitB (F : List Dg) (d : Dg) : Bool := F.all fun e => !crs e d
def chF (n : Nat) : List Dg → List Dg → List (List Dg)
  | [], F => if F.length = n then [F] else []
  | d :: ds, F => if F.length = n then [F] else (if fitB F d = true then chF n ds (F ++ [d]) else []) ++ chF n ds F
theorem chF_full {n : Nat} {ds F : List Dg} (h : F.length = n) : chF n ds F = [F] := by cases ds <;> simp only [chF, if_pos h]
theorem chF_end {n : Nat} {F : List Dg} (h : F.length ≠ n) : chF n [] F = [] := by simp only [chF, if_neg h]
theorem chF_step {n i : Nat} {ds F : List Dg} (h : F.length ≠ n) (hi : i < ds.length) : chF n (ds.drop i) F = (if fitB F ds[i] = true then chF n (ds.drop (i + 1)) (F ++ [ds[i]]) else []) ++ chF n (ds.drop (i + 1)) F := by
  rw [List.drop_eq_getElem_cons hi]
  simp only [chF, if_neg h]
def Apart (F : List Dg) : Prop := F.Pairwise fun d e => crs d e = false
theorem apart_snoc {F : List Dg} {d : Dg} (h : Apart F) (hf : fitB F d = true) : Apart (F ++ [d]) := by
  unfold Apart at h ⊢
  rw [List.pairwise_append]
  refine ⟨h, List.pairwise_singleton _ _, fun x hx y hy => ?_⟩
  rw [List.mem_singleton] at hy
  subst hy
  have := List.all_eq_true.1 hf x hx
  simpa using this
theorem chF_mem {n : Nat} : ∀ {ds F t : List Dg}, t ∈ chF n ds F → ∃ S, t = F ++ S ∧ S.Sublist ds ∧ t.length = n ∧ (Apart F → Apart t)
  | [], F, t, h => by
    simp only [chF] at h
    split at h
    · rename_i hl
      rw [List.mem_singleton] at h
      subst h
      exact ⟨[], by simp, List.Sublist.refl _, hl, id⟩
    · simp at h
  | d :: ds, F, t, h => by
    simp only [chF] at h
    split at h
    · rename_i hl
      rw [List.mem_singleton] at h
      subst h
      exact ⟨[], by simp, List.nil_sublist _, hl, id⟩
    · rcases List.mem_append.1 h with h | h
      · split at h
        · rename_i hf
          obtain ⟨S, h1, h2, h3, h4⟩ := chF_mem h
          exact ⟨d :: S, by rw [h1, List.append_assoc]; rfl, h2.cons_cons d, h3, fun ha => h4 (apart_snoc ha hf)⟩
        · simp at h
      · obtain ⟨S, h1, h2, h3, h4⟩ := chF_mem h
        exact ⟨S, h1, h2.cons d, h3, h4⟩
def triL (v : Nat) : List (List Dg) := chF (v - 3) (allD v) []
theorem triL_len {v : Nat} (h : 4 ≤ v ∧ v ≤ 7) : 1 ≤ (triL v).length ∧ (triL v).length ≤ 42 := by
  obtain rfl | rfl | rfl | rfl : v = 4 ∨ v = 5 ∨ v = 6 ∨ v = 7 := by omega
  all_goals decide +kernel
theorem allD_len {v : Nat} (h : 4 ≤ v ∧ v ≤ 7) : 1 ≤ (allD v).length ∧ (allD v).length ≤ 42 := by
  obtain rfl | rfl | rfl | rfl : v = 4 ∨ v = 5 ∨ v = 6 ∨ v = 7 := by omega
  all_goals decide +kernel
theorem triL_tri {v : Nat} (h : 4 ≤ v ∧ v ≤ 8) {t : List Dg} (ht : t ∈ triL v) : Tri v t := by
  obtain ⟨S, h1, h2, h3, h4⟩ := chF_mem ht
  rw [List.nil_append] at h1
  subst h1
  have hn := h2.nodup (allD_nodup h.2)
  refine ⟨h, h3, fun d hd => h2.subset hd, ?_⟩
  exact (List.nodup_iff_pairwise_ne.1 hn).and (h4 List.Pairwise.nil)
theorem perm_full {α : Type} [DecidableEq α] : ∀ {l r : List α}, l.Nodup → (∀ x ∈ l, x ∈ r) → r.length ≤ l.length → l.Perm r
  | [], r, _, _, h => by
    have : r = [] := List.length_eq_zero_iff.1 (by simpa using h)
    rw [this]
  | a :: l, r, hn, hs, h => by
    have ha := hs a (by simp)
    obtain ⟨h1, h2⟩ := List.nodup_cons.1 hn
    have hp := List.perm_cons_erase ha
    have hl := List.length_erase_of_mem ha
    have hpos := List.length_pos_of_mem ha
    refine (List.Perm.cons a (perm_full h2 (fun x hx => ?_) ?_)).trans hp.symm
    · refine (List.mem_erase_of_ne ?_).2 (hs x (by simp [hx]))
      rintro rfl
      exact h1 hx
    · simp only [List.length_cons] at h
      omega
/-- Diagonals in another order. -/
theorem names_perm {t : List Dg} {e : List Int} (hl : e.length = t.length) (hb : ∀ x ∈ e, 0 ≤ x ∧ x < t.length) (hn : e.Nodup) : (e.map fun x => t.getD x.toNat (0, 0)).Perm t := by
  have h1 : (e.map Int.toNat).Perm (List.range t.length) := by
    refine perm_full ?_ ?_ (by simp [hl])
    · refine List.nodup_iff_pairwise_ne.2 ?_
      rw [List.pairwise_map]
      refine (List.Pairwise.and_mem.1 (List.nodup_iff_pairwise_ne.1 hn)).imp fun {a b} ⟨ha, hb', hab⟩ h => hab ?_
      have := hb a ha
      have := hb b hb'
      omega
    · intro x hx
      obtain ⟨y, hy, rfl⟩ := List.mem_map.1 hx
      have := hb y hy
      rw [List.mem_range]
      omega
  have h2 := h1.map fun i => t.getD i (0, 0)
  rw [List.map_map] at h2
  refine h2.trans (List.Perm.of_eq ?_)
  refine List.ext_getElem (by simp) fun i h3 h4 => ?_
  simp [List.getD_eq_getElem?_getD, h4]
end Go.Proofs.Ytfcgcgmleogamaa.Ab
namespace Go.Proofs.Ytfcgcgmleogamaa.Ab
open Go
set_option linter.unusedSimpArgs false
set_option linter.unusedVariables false
set_option maxRecDepth 10000
set_option maxHeartbeats 4000000
def lDD (t : List Dg) : List D := [.ow 2 t.length (rows gM (t.map dgI))]
theorem lDD_one (t : List Dg) : (lDD t).length = 1 := rfl
@[simp] theorem lDD_length (l : List (List Dg)) : (rows lDD l).length = l.length := by rw [rows_length lDD_one l, Nat.one_mul]
@[simp] theorem lDD_noSh (l : List (List Dg)) : noShL (rows lDD l) := rows_noSh (fun t => by simp [lDD, noShL, noSh, gM_noSh]) l
theorem lDD_snoc (L : List (List Dg)) (F : List Dg) : rows lDD L ++ [D.ow 2 F.length (rows gM (F.map dgI))] = rows lDD (L ++ [F]) := by
  rw [rows_append]
  simp [rows, lDD]
theorem dg_snoc (F : List Dg) (d : Dg) : rows gM (F.map dgI) ++ [D.v (.int .i64 (d.1 : Int)), D.v (.int .i64 (d.2 : Int))] = rows gM ((F ++ [d]).map dgI) := by
  rw [List.map_append, gM_snoc]
  rfl
def lsD (v a b : Nat) : List Dg := allP v a ++ rowD v a b
theorem lsD_succ (v a b : Nat) : lsD v a (b + 1) = if rowC v a b = true then lsD v a b ++ [(a, b)] else lsD v a b := by
  unfold lsD
  rw [rowD_succ]
  split
  · rw [List.append_assoc]
  · rfl
theorem lsD_start (v a : Nat) : lsD v a (a + 2) = allP v a := by
  unfold lsD
  rw [rowD_start (by omega), List.append_nil]
theorem allP_len (v a : Nat) : (allP v a).length ≤ a * v := by
  induction a with
  | zero => simp [allP]
  | succ a ih =>
    rw [allP_succ, List.length_append, Nat.succ_mul]
    have : (rowD v a v).length ≤ v := by
      unfold rowD
      rw [List.length_map]
      exact Nat.le_trans (List.length_filter_le _ _) (by simp)
    omega
theorem rowD_len (v a b : Nat) : (rowD v a b).length ≤ b := by
  unfold rowD
  rw [List.length_map]
  exact Nat.le_trans (List.length_filter_le _ _) (by simp)
theorem spec_l5Polygon_calls (v : Int) : ACalls Try.prog F.spec_l5Polygon [.int v] [] true (fun outs res => outs = [] ∧ res = [.one (D.bool (decide (4 ≤ v ∧ v ≤ 8)))]) := by
  refine ACalls.of_body (C := C.spec_l5Polygon) (n := Try.f154.ntmps) tabT folT Try.func154 rfl (by kernel_rfl) rfl (Nat.le_of_ble_eq_true rfl) (by decide) (by kernel_rfl) (by kernel_rfl) rfl (by simp) (by simp) ?_
  simp only [Try.f154]
  refine wseq ?_
  refine wreg fun K hK => ?_
  simp [C.spec_l5Polygon]
  refine hK _ ?_; clear hK K
  show AWp _ _ _ _ _
  refine wseq ?_
  refine wregI ([0, 1] ++ ([2])) rfl fun K hK => ?_
  refine opsI_seg fun L hL => ?_
  simp [C.spec_l5Polygon]
  refine wcall1 (spec_l1In_calls v 4 8) (by simp) (by simp) ?_
  simp [C.spec_l5Polygon]
  refine hL _ ?_; clear hL L
  refine opsI_end fun L hL => ?_
  simp [C.spec_l5Polygon]
  refine hL _ ?_; clear hL L
  simp [C.spec_l5Polygon]
  refine hK _ ?_; clear hK K
  show AWp _ _ _ _ _
  refine wret ?_
  simp [C.spec_l5Polygon]

theorem spec_l5Cross_calls (x y z w : Int) : ACalls Try.prog F.spec_l5Cross [.ag [.int x, .int y], .ag [.int z, .int w]] [] true (fun outs res => outs = [] ∧ res = [.one (D.bool (decide (CrI (x, y) (z, w))))]) := by
  refine ACalls.of_body (C := C.spec_l5Cross) (n := Try.f155.ntmps) tabT folT Try.func155 rfl (by kernel_rfl) rfl (Nat.le_of_ble_eq_true rfl) (by decide) (by kernel_rfl) (by kernel_rfl) rfl (by simp) (by simp) ?_
  simp only [Try.f155]
  refine wseq ?_
  refine wreg fun K hK => ?_
  simp [C.spec_l5Cross]
  refine hK _ ?_; clear hK K
  show AWp _ _ _ _ _
  refine wseq ?_
  refine wregI ([0, 1, 2, 3, 4, 5, 6, 7, 8, 9, 10, 11, 12, 13, 14, 15, 16, 17, 18, 19, 20, 21, 22, 23, 24, 25, 26, 27, 28, 29, 30, 31, 32, 33, 34, 35, 36, 37, 38, 39, 40]) rfl fun K hK => ?_
  have hJ : K ⟨ofL [(4, .bool (decide (CrI (x, y) (z, w))))], ofRO []⟩ := by
    refine hK _ ?_; clear hK K
    show AWp _ _ _ _ _
    refine wret ?_
    simp [C.spec_l5Cross]
  clear hK
  by_cases h1 : x < z <;> by_cases h2 : z < y <;> by_cases h3 : y < w <;> by_cases h4 : z < x <;> by_cases h5 : x < w <;> by_cases h6 : w < y <;> first
    | (exfalso; omega)
    | (simp [C.spec_l5Cross, h1, h2, h3, h4, h5, h6]; refine cast (congrArg K ?_) hJ; simp [CrI, h1, h2, h3, h4, h5, h6])

theorem spec_l5All_calls (v : Nat) (hv : 4 ≤ v ∧ v ≤ 8) : ACalls Try.prog F.spec_l5All [.int v] [] true (fun outs res => outs = [] ∧ res = [.one (.ow 2 (allD v).length (rows gM ((allD v).map dgI)))]) := by
  refine ACalls.of_body (C := C.spec_l5All) (n := Try.f127.ntmps) tabT folT Try.func127 rfl (by kernel_rfl) rfl (Nat.le_of_ble_eq_true rfl) (by decide) (by kernel_rfl) (by kernel_rfl) rfl (by simp) (by simp) ?_
  simp only [Try.f127]
  refine wseq ?_
  refine wreg fun K hK => ?_
  simp [C.spec_l5All]
  refine hK _ ?_; clear hK K
  show AWp _ _ _ _ _
  refine wseq ?_
  refine wreg fun K hK => ?_
  simp [C.spec_l5All]
  refine hK _ ?_; clear hK K
  show AWp _ _ _ _ _
  refine wseq ?_
  refine wseq ?_
  refine wreg fun K hK => ?_
  simp [C.spec_l5All]
  refine hK _ ?_; clear hK K
  show AWp _ _ _ _ _
  refine wblock ?_
  refine wloop (fun a : Nat => ⟨ofL [(0, .int v), (3, .al (3, 0) [] 0 (allP v a).length), (4, .int a)], ofRO [((3, 0), some (.ow 2 (allP v a).length (rows gM ((allP v a).map dgI))))]⟩) (fun a => a ≤ v) (fun a => v - a) 0 (by simp [C.spec_l5All, rows, allP]) (by simp) ?_
  intro x1 hx1 R1 hR1
  refine wseq ?_
  refine wseq ?_
  refine wreg fun K hK => ?_
  simp [C.spec_l5All]
  refine hK _ ?_; clear hK K
  show AWp _ _ _ _ _
  refine wcond _ rfl (fun hc1 => ?_) (fun hc1 => ?_)
  · have h1 : x1 < v := by have := d_t hc1; omega
    have hal := allP_len v x1
    have hal2 : x1 * v ≤ 8 * 8 := Nat.mul_le_mul (by omega) hv.2
    refine wskip ?_
    show AWp _ _ _ _ _
    refine wseq ?_
    refine wblock ?_
    refine wseq ?_
    refine wreg fun K hK => ?_
    simp [C.spec_l5All, wrapOk (x := (x1 : Int) + 2) (by omega) (by omega)]
    refine hK _ ?_; clear hK K
    show AWp _ _ _ _ _
    refine wblock ?_
    refine wloop (fun b : Nat => ⟨ofL [(0, .int v), (3, .al (3, 0) [] 0 (lsD v x1 b).length), (4, .int x1), (5, .int b)], ofRO [((3, 0), some (.ow 2 (lsD v x1 b).length (rows gM ((lsD v x1 b).map dgI))))]⟩) (fun b => x1 + 2 ≤ b ∧ b ≤ max v (x1 + 2)) (fun b => v + 2 - b) (x1 + 2) (by simp [C.spec_l5All, lsD_start]) ⟨by omega, by omega⟩ ?_
    intro x2 hx2 R2 hR2
    refine wseq ?_
    refine wseq ?_
    refine wreg fun K hK => ?_
    simp [C.spec_l5All]
    refine hK _ ?_; clear hK K
    show AWp _ _ _ _ _
    refine wcond _ rfl (fun hc2 => ?_) (fun hc2 => ?_)
    · have h2 : x2 < v := by have := d_t hc2; omega
      have hrl := rowD_len v x1 x2
      have hlen : (lsD v x1 x2).length ≤ 72 := by unfold lsD; rw [List.length_append]; omega
      have hsu := lsD_succ v x1 x2
      have hrc := rowC_eq v x1 x2
      obtain ⟨Q, hQ⟩ : ∃ Q, Q = lsD v x1 x2 := ⟨_, rfl⟩
      rw [← hQ] at hlen hsu
      rw [← hQ]
      refine wskip ?_
      show AWp _ _ _ _ _
      refine wseq ?_
      refine wblock ?_
      refine wseq ?_
      refine wreg fun K hK => ?_
      have hJ : K ⟨ofL [(0, .int v), (3, .al (3, 0) [] 0 Q.length), (4, .int x1), (5, .int x2), (26, .bool (decide (0 < x1 ∨ (x2 : Int) < (v : Int) - 1)))], ofRO [((3, 0), some (.ow 2 Q.length (rows gM (Q.map dgI))))]⟩ := by
        refine hK _ ?_; clear hK K
        show AWp _ _ _ _ _
        refine wcond _ rfl (fun hc3 => ?_) (fun hc3 => ?_)
        · have hcc := d_t hc3
          have hr1 : rowC v x1 x2 = true := by rw [hrc, decide_eq_true_eq]; omega
          rw [if_pos hr1] at hsu
          refine wreg fun K hK => ?_
          simp [C.spec_l5All, show (Q.length + 1) * 16 ≤ 140737488355328 by omega, dg_snoc Q (x1, x2)]
          refine hK _ ?_; clear hK K
          show AWp _ _ _ _ _
          refine wreg fun K hK => ?_
          simp [C.spec_l5All, wrap_succ (show x2 < 4611686018427387904 by omega)]
          refine hK _ ?_; clear hK K
          simp [C.spec_l5All]
          refine cast (congrArg R2 ?_) (hR2 (x2 + 1) ⟨by omega, by omega⟩ (by omega))
          rw [hsu]
          simp
        · have hcc := d_f hc3
          have hr1 : ¬ rowC v x1 x2 = true := by rw [hrc, decide_eq_true_eq]; omega
          rw [if_neg hr1] at hsu
          refine wskip ?_
          show AWp _ _ _ _ _
          refine wreg fun K hK => ?_
          simp [C.spec_l5All, wrap_succ (show x2 < 4611686018427387904 by omega)]
          refine hK _ ?_; clear hK K
          simp [C.spec_l5All]
          refine cast (congrArg R2 ?_) (hR2 (x2 + 1) ⟨by omega, by omega⟩ (by omega))
          rw [hsu]
          simp
      clear hK
      by_cases g1 : 0 < x1
      · simp [C.spec_l5All, g1]
        refine cast (congrArg K ?_) hJ
        simp [g1]
      · simp [C.spec_l5All, wrapOk (x := (v : Int) - 1) (by omega) (by omega), g1]
        refine cast (congrArg K ?_) hJ
        simp [g1]
    · have h2 : v ≤ x2 := by have := d_f hc2; omega
      have hend : lsD v x1 x2 = allP v (x1 + 1) := by
        rw [allP_succ]
        unfold lsD
        by_cases e : x2 = v
        · rw [e]
        · rw [rowD_start (b := x2) (by omega), rowD_start (b := v) (by omega)]
      refine wexit ?_
      show AWp _ _ _ _ _
      refine wreg fun K hK => ?_
      simp [C.spec_l5All, wrap_succ (show x1 < 4611686018427387904 by omega)]
      refine hK _ ?_; clear hK K
      simp [C.spec_l5All]
      refine cast (congrArg R1 ?_) (hR1 (x1 + 1) h1 (by omega))
      rw [hend]
      simp
  · have h1 : x1 = v := by have := d_f hc1; omega
    refine wexit ?_
    show AWp _ _ _ _ _
    refine wseq ?_
    refine wreg fun K hK => ?_
    simp [C.spec_l5All]
    refine hK _ ?_; clear hK K
    show AWp _ _ _ _ _
    refine wret ?_
    simp [C.spec_l5All]
    rw [h1, allP_all]
    exact ⟨rfl, rfl⟩

end Go.Proofs.Ytfcgcgmleogamaa.Ab
namespace Go.Proofs.Ytfcgcgmleogamaa.Ab
open Go
set_option linter.unusedSimpArgs false
set_option linter.unusedVariables false
set_option maxRecDepth 10000
set_option maxHeartbeats 4000000
def replE (t : Nat) (f : FV) : List (Nat × FV) → List (Nat × FV)
  | [] => [(t, f)]
  | (i, g) :: r => if i = t then (i, f) :: r else (i, g) :: replE t f r
theorem upd_ofL (t : Nat) (f : FV) : ∀ l : List (Nat × FV), upd (ofL l) t f = ofL (replE t f l)
  | [] => by
    funext s
    simp only [upd, replE, ofL]
    by_cases h : s = t
    · simp [h]
    · simp [h, Ne.symm h]
  | (i, g) :: r => by
    have ih := upd_ofL t f r
    funext s
    have h2 := congrFun ih s
    simp only [upd] at h2 ⊢
    by_cases h : i = t
    · subst h
      simp only [replE, if_pos, ofL]
      by_cases hs : s = i
      · simp [hs]
      · simp [hs, Ne.symm hs]
    · simp only [replE, if_neg h, ofL]
      rw [← h2]
      by_cases hs : s = t
      · subst hs
        simp [h]
      · simp [hs]
/-- The environment stays a list. -/
def killL (r : Rn) (p : List Nat) : List (Nat × FV) → List (Nat × FV)
  | [] => []
  | (i, f) :: l => (i, if f.under r p = true then .dead else f) :: killL r p l
def deepL' (r : Rn) (p : List Nat) : List (Nat × FV) → List (Nat × FV)
  | [] => []
  | (i, f) :: l => (i, if f.deep r p = true then .dead else f) :: deepL' r p l
def killE (r : Rn) (p : List Nat) (e : Nat → FV) : Nat → FV := fun t => if (e t).under r p = true then .dead else e t
def deepE (r : Rn) (p : List Nat) (e : Nat → FV) : Nat → FV := fun t => if (e t).deep r p = true then .dead else e t
theorem kill_env (σ : St) (r : Rn) (p : List Nat) : (St.kill σ r p).env = killE r p σ.env := rfl
theorem kill_rts (σ : St) (r : Rn) (p : List Nat) : (St.kill σ r p).rts = σ.rts := rfl
theorem deep_env (σ : St) (r : Rn) (p : List Nat) : (St.killBelow σ r p).env = deepE r p σ.env := rfl
theorem deep_rts (σ : St) (r : Rn) (p : List Nat) : (St.killBelow σ r p).rts = σ.rts := rfl
theorem take_env (σ : St) (r : Rn) : (St.take σ r []).env = σ.env := rfl
theorem put_env (σ : St) (r : Rn) (p : List Nat) (e : D) : (St.put σ r p e).env = σ.env := by
  unfold St.put
  split <;> rfl
theorem killE_at (r : Rn) (p : List Nat) (e : Nat → FV) (t : Nat) : killE r p e t = if (e t).under r p = true then .dead else e t := rfl
theorem deepE_at (r : Rn) (p : List Nat) (e : Nat → FV) (t : Nat) : deepE r p e t = if (e t).deep r p = true then .dead else e t := rfl
theorem killE_ofL (r : Rn) (p : List Nat) (l : List (Nat × FV)) : killE r p (ofL l) = ofL (killL r p l) := by
  funext t
  unfold killE
  induction l with
  | nil => simp [ofL, killL, FV.under]
  | cons x l ih =>
    obtain ⟨i, f⟩ := x
    simp only [ofL, killL] at ih ⊢
    by_cases h : i = t
    · simp only [if_pos h]
    · simp only [if_neg h]
      exact ih
theorem deepE_ofL (r : Rn) (p : List Nat) (l : List (Nat × FV)) : deepE r p (ofL l) = ofL (deepL' r p l) := by
  funext t
  unfold deepE
  induction l with
  | nil => simp [ofL, deepL', FV.deep]
  | cons x l ih =>
    obtain ⟨i, f⟩ := x
    simp only [ofL, deepL'] at ih ⊢
    by_cases h : i = t
    · simp only [if_pos h]
    · simp only [if_neg h]
      exact ih
attribute [local simp ↓] kill_env kill_rts deep_env deep_rts take_env put_env
attribute [local simp high] upd_ofL
attribute [local simp] replE killL deepL' killE_ofL deepE_ofL killE_at deepE_at
def ChC (v : Nat) (all : List Dg) (at_ : Nat) (front : List Dg) (L : List (List Dg)) : Prop := ACalls Try.prog F.spec_l5Choose [.int v, .d (.sh 2 all.length (rows gM (all.map dgI))), .int at_, .al (3, 0) [] 0 front.length, .al (4, 0) [] 0 L.length] [((3, 0), .ow 2 front.length (rows gM (front.map dgI))), ((4, 0), .ow 1 L.length (rows lDD L))] true (fun outs res => outs = [.gone, .gone] ∧ res = [.one (.ow 1 (L ++ chF (v - 3) (all.drop at_) front).length (rows lDD (L ++ chF (v - 3) (all.drop at_) front)))])
theorem spec_l5Choose_calls (v : Nat) (hv : 4 ≤ v ∧ v ≤ 8) (all : List Dg) (at_ : Nat) (front : List Dg) (L0 : List (List Dg)) (hat : at_ ≤ all.length) (hall : all.length ≤ 64) (hfl : front.length ≤ v - 3) (hLL : L0.length + (chF (v - 3) (all.drop at_) front).length ≤ 1000) (ih : ∀ at' F' L', at_ < at' → at' ≤ all.length → F'.length ≤ v - 3 → L'.length + (chF (v - 3) (all.drop at') F').length ≤ 1000 → ChC v all at' F' L') : ChC v all at_ front L0 := by
  have hwv : IntKind.i64.wrap ((v : Int) - 3) = ((v - 3 : Nat) : Int) := by rw [wrapOk (by omega) (by omega)]; omega
  unfold ChC
  obtain ⟨R, hR⟩ : ∃ R, R = L0 ++ chF (v - 3) (all.drop at_) front := ⟨_, rfl⟩
  have hRl : R.length ≤ 1000 := by rw [hR, List.length_append]; omega
  rw [← hR]
  refine ACalls.of_body (C := C.spec_l5Choose) (n := Try.f173.ntmps) tabT folT Try.func173 rfl (by kernel_rfl) rfl (Nat.le_of_ble_eq_true rfl) (by decide) (by kernel_rfl) (by kernel_rfl) rfl (by simp) (by simp) ?_
  simp only [Try.f173]
  refine wseq ?_
  refine wreg fun K hK => ?_
  simp [C.spec_l5Choose]
  refine hK _ ?_; clear hK K
  show AWp _ _ _ _ _
  refine wseq ?_
  refine wseq ?_
  refine wreg fun K hK => ?_
  simp [C.spec_l5Choose, hwv]
  refine hK _ ?_; clear hK K
  show AWp _ _ _ _ _
  refine wcond _ rfl (fun hc1 => ?_) (fun hc1 => ?_)
  · have hfu : front.length = v - 3 := by have := of_decide_eq_true hc1; omega
    have hRe : R = L0 ++ [front] := by rw [hR, chF_full hfu]
    refine wseq ?_
    refine wreg fun K hK => ?_
    simp [C.spec_l5Choose, show (L0.length + 1) * 24 ≤ 140737488355328 by omega, lDD_snoc]
    refine hK _ ?_; clear hK K
    show AWp _ _ _ _ _
    refine wret ?_
    simp [C.spec_l5Choose]
    rw [hRe]
    simp [lDD_snoc]
  · have hne : front.length ≠ v - 3 := by have := of_decide_eq_false hc1; omega
    refine wskip ?_
    show AWp _ _ _ _ _
    refine wseq ?_
    refine wseq ?_
    refine wreg fun K hK => ?_
    simp [C.spec_l5Choose]
    refine hK _ ?_; clear hK K
    show AWp _ _ _ _ _
    refine wblock ?_
    refine wloopW (fun x : Nat × List (List Dg) => ⟨ofL [(0, .int v), (1, .d (.sh 2 all.length (rows gM (all.map dgI)))), (3, .al (3, 0) [] 0 front.length), (4, .al (4, 0) [] 0 x.2.length), (11, .int x.1), (1000, .dead), (1001, .dead)], ofRO [((3, 0), some (.ow 2 front.length (rows gM (front.map dgI)))), ((4, 0), some (.ow 1 x.2.length (rows lDD x.2)))]⟩) (fun x => (at_ ≤ x.1 ∧ x.1 ≤ all.length) ∧ x.2 ++ chF (v - 3) (all.drop x.1) front = R) (fun x => all.length - x.1) (at_, L0) [.drop 1000, .drop 1001] (by simp [C.spec_l5Choose, upd_ofL, replE]) ⟨⟨by simp, by simpa using hat⟩, by rw [hR]⟩ ?_
    intro x1 hx1 R1 hR1
    obtain ⟨i, L⟩ := x1
    obtain ⟨⟨g1, g2⟩, g3⟩ := hx1
    dsimp only at g1 g2 g3 ⊢
    refine wseq ?_
    refine wseq ?_
    refine wreg fun K hK => ?_
    simp [C.spec_l5Choose]
    refine hK _ ?_; clear hK K
    show AWp _ _ _ _ _
    refine wcond _ rfl (fun hc2 => ?_) (fun hc2 => ?_)
    · have hi : i < all.length := by have := d_t hc2; simpa using this
      have hLl : L.length ≤ 1000 := by have := congrArg List.length g3; rw [List.length_append] at this; omega
      obtain ⟨d, hd⟩ : ∃ d, d = all[i] := ⟨_, rfl⟩
      have him : i < (all.map dgI).length := by simpa using hi
      have hd1 : (all.map dgI)[i].1 = (d.1 : Int) := by rw [List.getElem_map, hd]; rfl
      have hd2 : (all.map dgI)[i].2 = (d.2 : Int) := by rw [List.getElem_map, hd]; rfl
      have hs0 : (rows gM (all.map dgI))[2 * i]? = some (D.int d.1) ∧ ∀ h', (rows gM (all.map dgI))[2 * i]'h' = D.int d.1 := by have := gM_0 him; rw [hd1] at this; exact this
      have hs1 : (rows gM (all.map dgI))[2 * i + 1]? = some (D.int d.2) ∧ ∀ h', (rows gM (all.map dgI))[2 * i + 1]'h' = D.int d.2 := by have := gM_1 him; rw [hd2] at this; exact this
      refine wskip ?_
      show AWp _ _ _ _ _
      refine wseq ?_
      refine wblock ?_
      refine wseq ?_
      refine wreg fun K hK => ?_
      simp [C.spec_l5Choose]
      refine hK _ ?_; clear hK K
      show AWp _ _ _ _ _
      refine wseq ?_
      refine wseq ?_
      refine wreg fun K hK => ?_
      simp [C.spec_l5Choose]
      refine hK _ ?_; clear hK K
      show AWp _ _ _ _ _
      refine wblock ?_
      refine wloop (fun j : Nat => ⟨ofL [(0, .int v), (1, .d (.sh 2 all.length (rows gM (all.map dgI)))), (3, .al (3, 0) [] 0 front.length), (4, .al (4, 0) [] 0 L.length), (11, .int i), (12, .bool (fitB (front.take j) d)), (13, .int j), (1000, .dead), (1001, .dead)], ofRO [((3, 0), some (.ow 2 front.length (rows gM (front.map dgI)))), ((4, 0), some (.ow 1 L.length (rows lDD L)))]⟩) (fun j => j ≤ front.length) (fun j => front.length - j) 0 (by simp [C.spec_l5Choose, fitB]) (by simp) ?_
      intro x2 hx2 R2 hR2
      refine wseq ?_
      refine wseq ?_
      refine wreg fun K hK => ?_
      simp [C.spec_l5Choose]
      refine hK _ ?_; clear hK K
      show AWp _ _ _ _ _
      refine wcond _ rfl (fun hc3 => ?_) (fun hc3 => ?_)
      · have hj : x2 < front.length := by have := d_t hc3; simpa using this
        have hjm : x2 < (front.map dgI).length := by simpa using hj
        have hf1 : (front.map dgI)[x2].1 = (front[x2].1 : Int) := by rw [List.getElem_map]; rfl
        have hf2 : (front.map dgI)[x2].2 = (front[x2].2 : Int) := by rw [List.getElem_map]; rfl
        have hq0 : (rows gM (front.map dgI))[2 * x2]? = some (D.int front[x2].1) ∧ ∀ h', (rows gM (front.map dgI))[2 * x2]'h' = D.int front[x2].1 := by have := gM_0 hjm; rw [hf1] at this; exact this
        have hq1 : (rows gM (front.map dgI))[2 * x2 + 1]? = some (D.int front[x2].2) ∧ ∀ h', (rows gM (front.map dgI))[2 * x2 + 1]'h' = D.int front[x2].2 := by have := gM_1 hjm; rw [hf2] at this; exact this
        have hcr := spec_l5Cross_calls front[x2].1 front[x2].2 d.1 d.2
        have hcrb : decide (CrI ((front[x2].1 : Int), (front[x2].2 : Int)) ((d.1 : Int), (d.2 : Int))) = crs front[x2] d := by
          rw [Bool.eq_iff_iff, decide_eq_true_eq, crs_iff]
          simp only [CrI]
          omega
        rw [hcrb] at hcr
        have hft : fitB (front.take (x2 + 1)) d = (fitB (front.take x2) d && !crs front[x2] d) := by
          unfold fitB
          rw [List.take_succ_eq_append_getElem hj, List.all_append]
          simp
        refine wskip ?_
        show AWp _ _ _ _ _
        refine wseq ?_
        refine wblock ?_
        refine wdrawI [(true, 0), (true, 1), (true, 2), (true, 3), (true, 4), (true, 5), (true, 6), (true, 7), (true, 8), (true, 9), (false, 10), (true, 11), (true, 12), (true, 13)] ⟨by kernel_rfl, by kernel_rfl⟩ ([0, 1, 2, 3, 4, 5, 6, 7, 8, 9, 10] ++ ([11, 12, 13])) rfl fun K hK => ?_
        have hJ : K ⟨ofL [(0, .int v), (1, .d (.sh 2 all.length (rows gM (all.map dgI)))), (3, .al (3, 0) [] 0 front.length), (4, .al (4, 0) [] 0 L.length), (11, .int i), (12, .bool (fitB (front.take (x2 + 1)) d)), (13, .int x2), (1000, .dead), (1001, .dead)], ofRO [((3, 0), some (.ow 2 front.length (rows gM (front.map dgI)))), ((4, 0), some (.ow 1 L.length (rows lDD L)))]⟩ := by
          refine hK _ ?_; clear hK K
          show AWp _ _ _ _ _
          refine wreg fun K hK => ?_
          simp [C.spec_l5Choose, wrap_succ (show x2 < 4611686018427387904 by omega)]
          refine hK _ ?_; clear hK K
          simp [C.spec_l5Choose]
          exact hR2 (x2 + 1) hj (by omega)
        clear hK
        by_cases hfx : fitB (front.take x2) d = true
        · simp [C.spec_l5Choose, hfx, hi, hj, hs0, hs1, hq0, hq1]
          repeat' first
            | (refine wcall1 hcr ?_ (by simp) ?_; (focus (simp; done)); simp [C.spec_l5Choose, hfx, hi, hj, hs0, hs1, hq0, hq1])
            | (refine cast (congrArg K ?_) hJ; simp [hft, hfx]; done)
            | refine And.intro ?_ ?_
        · simp [C.spec_l5Choose, hfx]
          repeat' first
            | (refine cast (congrArg K ?_) hJ; simp [hft, hfx]; done)
            | refine And.intro ?_ ?_
      · have hj : x2 = front.length := by have := d_f hc3; simp at this; omega
        rw [hj, List.take_length]
        have hst := chF_step (n := v - 3) (ds := all) hne hi
        rw [← hd] at hst
        refine wexit ?_
        show AWp _ _ _ _ _
        refine wseq ?_
        refine wreg fun K hK => ?_
        simp [C.spec_l5Choose]
        refine hK _ ?_; clear hK K
        show AWp _ _ _ _ _
        refine wcond _ rfl (fun hc4 => ?_) (fun hc4 => ?_)
        · have hfb : fitB front d = true := by simpa using hc4
          rw [if_pos hfb] at hst
          have hLR : L.length + (chF (v - 3) (all.drop (i + 1)) (front ++ [d])).length ≤ 1000 := by
            have := congrArg List.length g3
            rw [hst] at this
            simp only [List.length_append] at this
            omega
          have hic := ih (i + 1) (front ++ [d]) L (by omega) hi (by simp; omega) hLR
          unfold ChC at hic
          obtain ⟨G, hG⟩ : ∃ G, G = chF (v - 3) (all.drop (i + 1)) (front ++ [d]) := ⟨_, rfl⟩
          rw [← hG] at hic hst
          have hfd : (front ++ [d]).length = front.length + 1 := by simp
          rw [hfd] at hic
          refine wdraw (.take 0 (.take 1 (.take 2 (.take 3 (.take 5 (.take 7 (.take 8 (.take 9 (.take 13 (.all [(4, .all [(6, .take 10 (.all [(11, .all [(12, .all [(14, .take 15 (.done))])])])), (10, .all [(6, .all [(11, .all [(12, .all [(14, .take 15 (.done))])])]), (11, .all [(6, .all [(12, .all [(14, .take 15 (.done))])])])])]), (10, .all [(4, .all [(6, .all [(11, .all [(12, .all [(14, .take 15 (.done))])])]), (11, .all [(6, .all [(12, .all [(14, .take 15 (.done))])])])]), (11, .all [(4, .all [(6, .all [(12, .all [(14, .take 15 (.done))])])])])])])))))))))) ⟨by kernel_rfl, by kernel_rfl⟩ fun K hK => ?_
          have hJ : K ⟨ofL [(0, .int v), (1, .d (.sh 2 all.length (rows gM (all.map dgI)))), (3, .al (3, 0) [] 0 front.length), (4, .al (4, 0) [] 0 (L ++ G).length), (11, .int i), (1000, .dead), (1001, .dead)], ofRO [((3, 0), some (.ow 2 front.length (rows gM (front.map dgI)))), ((4, 0), some (.ow 1 (L ++ G).length (rows lDD (L ++ G))))]⟩ := by
            refine hK _ ?_; clear hK K
            show AWp _ _ _ _ _
            refine wreg fun K hK => ?_
            simp [C.spec_l5Choose, wrap_succ (show i < 4611686018427387904 by omega)]
            refine hK _ ?_; clear hK K
            simp [C.spec_l5Choose]
            refine cast (congrArg R1 ?_) (hR1 (i + 1, L ++ G) ⟨⟨by dsimp only; omega, hi⟩, ?_⟩ (by dsimp only; omega))
            · simp
            · dsimp only
              rw [List.append_assoc, ← hst]
              exact g3
          clear hK
          simp [C.spec_l5Choose, hi, hs0, hs1, dg_snoc front d, wrap_succ (show i < 4611686018427387904 by omega), show front.length * 16 ≤ 140737488355328 by omega, show (front.length + 1) * 16 ≤ 140737488355328 by omega]
          repeat' first
            | (refine wcall hic (by simp) (by simp) (by simp) ?_; rintro outs res ⟨rfl, rfl⟩; simp [C.spec_l5Choose])
            | (refine cast (congrArg K ?_) hJ; simp; done)
            | refine And.intro ?_ ?_
        · have hfb : ¬ fitB front d = true := by simpa using hc4
          rw [if_neg hfb, List.nil_append] at hst
          refine wskip ?_
          show AWp _ _ _ _ _
          refine wreg fun K hK => ?_
          simp [C.spec_l5Choose, wrap_succ (show i < 4611686018427387904 by omega)]
          refine hK _ ?_; clear hK K
          simp [C.spec_l5Choose]
          refine hR1 (i + 1, L) ⟨⟨by dsimp only; omega, hi⟩, ?_⟩ (by dsimp only; omega)
          dsimp only
          rw [← hst]
          exact g3
    · have hi : i = all.length := by have := d_f hc2; simp at this; omega
      rw [hi, List.drop_length, chF_end hne, List.append_nil] at g3
      refine wexit ?_
      show AWp _ _ _ _ _
      refine wseq ?_
      refine wreg fun K hK => ?_
      simp [C.spec_l5Choose]
      refine hK _ ?_; clear hK K
      show AWp _ _ _ _ _
      refine wret ?_
      simp [C.spec_l5Choose]
      rw [g3]
      exact ⟨rfl, rfl⟩

end Go.Proofs.Ytfcgcgmleogamaa.Ab
namespace Go.Proofs.Ytfcgcgmleogamaa.Ab
open Go
set_option linter.unusedSimpArgs false
set_option linter.unusedVariables false
set_option maxRecDepth 10000
set_option maxHeartbeats 2000000
def SgM (m : Mat) (i j : Nat) : Prop := (0 < bM m i j ↔ bM m j i < 0) ∧ (bM m i j = 0 ↔ bM m j i = 0)
def SzM (m : Mat) : Prop := ShM m ∧ ∀ i j, i < m.n.toNat → j < m.n.toNat → SgM m i j
noncomputable instance (m : Mat) : Decidable (SzM m) := Classical.propDecidable _
end Go.Proofs.Ytfcgcgmleogamaa.Ab
namespace Go.Proofs.Ytfcgcgmleogamaa.Ab
open Go
set_option linter.unusedSimpArgs false
set_option linter.unusedVariables false
set_option maxRecDepth 10000
set_option maxHeartbeats 2000000
end Go.Proofs.Ytfcgcgmleogamaa.Ab
namespace Go.Proofs.Ytfcgcgmleogamaa.Ab
open Go
set_option linter.unusedSimpArgs false
set_option linter.unusedVariables false
set_option maxRecDepth 10000
set_option maxHeartbeats 2000000
end Go.Proofs.Ytfcgcgmleogamaa.Ab
namespace Go.Proofs.Ytfcgcgmleogamaa.Ab
open Go
set_option linter.unusedSimpArgs false
set_option linter.unusedVariables false
set_option maxRecDepth 10000
set_option maxHeartbeats 2000000
end Go.Proofs.Ytfcgcgmleogamaa.Ab
namespace Go.Proofs.Ytfcgcgmleogamaa.Ab
open Go
set_option linter.unusedSimpArgs false
set_option linter.unusedVariables false
/-! ### Powers of residues -/
/-! ### Equal modulo the prime -/
/-! ### Values -/
def ValOk (f : Lau) (ys : List Int) : Prop := Right f ∧ (ys.length : Int) = f.v ∧ ∀ y ∈ ys, y % 32003 ≠ 0
noncomputable instance (f : Lau) (ys : List Int) : Decidable (ValOk f ys) := Classical.propDecidable _
end Go.Proofs.Ytfcgcgmleogamaa.Ab
namespace Go.Proofs.Ytfcgcgmleogamaa.Ab
open Go
set_option linter.unusedSimpArgs false
set_option linter.unusedVariables false
set_option maxRecDepth 10000
set_option maxHeartbeats 2000000
end Go.Proofs.Ytfcgcgmleogamaa.Ab
namespace Go.Proofs.Ytfcgcgmleogamaa.Ab
open Go
set_option linter.unusedSimpArgs false
set_option linter.unusedVariables false
theorem addE_comm1 : ∀ (a b : List Int), a.length = b.length → addE 1 a b = addE 1 b a
  | [], [], _ => rfl
  | x :: a, y :: b, h => by
    simp only [addE, addE_comm1 a b (by simpa using h), Int.one_mul]
    rw [Int.add_comm]
theorem prodL_eq (a b : List (List Int × Int)) : prodL a b = prodK (addE 1) a b := rfl
/-! ### The ring -/
theorem ring_com {n : Nat} {f g : Lau} (hf : ∀ x ∈ f.ts.map pr, x.1.length = n) (hg : ∀ x ∈ g.ts.map pr, x.1.length = n) : nf lexlt (prodL (f.ts.map pr) (g.ts.map pr)) = nf lexlt (prodL (g.ts.map pr) (f.ts.map pr)) :=
  nf_vl lexOrd fun φ => by
    rw [prodL_eq, prodL_eq]
    exact vl_prod_com (D := fun e => e.length = n) (fun a b h1 h2 => addE_comm1 a b (h1.trans h2.symm)) φ hf hg
theorem addE_zero1 : ∀ (n : Nat) (a : List Int), a.length = n → addE 1 (List.replicate n 0) a = a
  | 0, [], _ => rfl
  | n + 1, x :: a, h => by
    simp only [List.replicate_succ, addE, addE_zero1 n a (by simpa using h)]
    simp
theorem one_mul {n : Nat} {f : Lau} (hf : Right f) (hn : f.v = n) : mulF (oneF n) f = (f, true) ∧ mulF f (oneF n) = (f, true) := by
  have hn8 : 1 ≤ n ∧ n ≤ 8 := by have := hf.1; omega
  have h1 := oneF_right hn8
  have hl : ∀ x ∈ f.ts.map pr, x.1.length = n := fun x hx => by
    obtain ⟨t, ht, rfl⟩ := List.mem_map.1 hx
    exact (right_dig hf hn t ht).1
  have h1l : ∀ x ∈ (oneF n).ts.map pr, x.1.length = n := fun x hx => by
    simp only [oneF, List.map_cons, List.map_nil, List.mem_singleton] at hx
    subst hx
    simp [pr]
  have e : prodL ((oneF n).ts.map pr) (f.ts.map pr) = f.ts.map pr := by
    simp only [oneF, List.map_cons, List.map_nil, prodL, List.flatMap_cons, List.flatMap_nil, List.append_nil]
    have : ∀ l : List (List Int × Int), (∀ x ∈ l, x.1.length = n) → l.map (fun y => (addE 1 (pr ⟨List.replicate n 0, 1⟩).1 y.1, (pr ⟨List.replicate n 0, 1⟩).2 * y.2)) = l := fun l hl => by
      refine (List.map_congr_left fun x hx => ?_).trans (List.map_id l)
      simp only [pr, addE_zero1 n x.1 (hl x hx), Int.one_mul, id]
    exact this _ hl
  have enf : nf lexlt (f.ts.map pr) = f.ts.map pr := (nf_unique lexOrd (pr_desc hf) (pr_nz hf) fun k => rfl).symm
  constructor
  · unfold mulF
    rw [if_pos ⟨h1, hf, hn.symm⟩, e]
    unfold shutF
    rw [enf]
    have : (⟨(oneF n).v, (f.ts.map pr).map tm⟩ : Lau) = f := by
      rw [show (oneF n).v = f.v from hn.symm]
      exact lau_eta f
    rw [this, if_pos hf]
  · unfold mulF
    rw [if_pos ⟨hf, h1, hn⟩]
    unfold shutF
    rw [ring_com hl h1l, e, enf, lau_eta, if_pos hf]
/-! ### Values -/
end Go.Proofs.Ytfcgcgmleogamaa.Ab
namespace Go.Proofs.Ytfcgcgmleogamaa.Ab
open Go
set_option linter.unusedSimpArgs false
set_option linter.unusedVariables false
end Go.Proofs.Ytfcgcgmleogamaa.Ab
namespace Go.Proofs.Ytfcgcgmleogamaa.Ab
open Go
set_option linter.unusedSimpArgs false
set_option linter.unusedVariables false
def zM : Mat := ⟨0, 0, []⟩
def idP (n i : Nat) : List Int := (List.range i).flatMap fun j => unitL n j
theorem idP_succ (n i : Nat) : idP n (i + 1) = idP n i ++ unitL n i := by simp [idP, List.range_succ]
@[simp] theorem idP_length (n : Nat) : ∀ i, (idP n i).length = i * n
  | 0 => by simp [idP]
  | i + 1 => by rw [idP_succ, List.length_append, idP_length n i, unitL_length, Nat.add_mul, Nat.one_mul]
def SqOK (m : Mat) : Prop := MatOK m ∧ m.r = m.n ∧ 2 * m.n ≤ 8
noncomputable instance (m : Mat) : Decidable (SqOK m) := Classical.propDecidable _
/-! ### The polynomials -/
noncomputable def fpL (m : Mat) (ws : List Mat) (ks : List Int) : Nat → Option (List Lau)
  | 0 => some (List.replicate m.n.toNat (oneF m.n.toNat) ++ varsL m.n.toNat)
  | t + 1 => match fpL m ws ks t with
    | some fs => if (exF fs (colM (ws.getD t zM) (2 * m.n.toNat) (ks.getD t 0).toNat) m.n.toNat (fs.getD (ks.getD t 0).toNat zeroF)).2 = true then
        some (fs.set (ks.getD t 0).toNat (exF fs (colM (ws.getD t zM) (2 * m.n.toNat) (ks.getD t 0).toNat) m.n.toNat (fs.getD (ks.getD t 0).toNat zeroF)).1) else none
    | none => none
end Go.Proofs.Ytfcgcgmleogamaa.Ab
namespace Go.Proofs.Ytfcgcgmleogamaa.Ab
open Go
set_option linter.unusedSimpArgs false
set_option linter.unusedVariables false
set_option maxRecDepth 10000
set_option maxHeartbeats 2000000
theorem mS_three (t : Mat) : (mS t).length = 3 := rfl
theorem mO_three (t : Mat) : (mO t).length = 3 := rfl
@[simp] theorem mS_length (l : List Mat) : (rows mS l).length = 3 * l.length := rows_length mS_three l
@[simp] theorem mO_length (l : List Mat) : (rows mO l).length = 3 * l.length := rows_length mO_three l
@[simp] theorem mO_noSh (l : List Mat) : noShL (rows mO l) := rows_noSh (fun t => by simp [mO, noShL, noSh]) l
@[simp] theorem mS_share (l : List Mat) : shareL (rows mO l) = rows mS l := by
  induction l with
  | nil => rfl
  | cons x l ih => simp [rows, mO, mS, shareL, share, ih]
@[simp] theorem mS_share2 (l : List Mat) : shareL (rows mS l) = rows mS l := by
  induction l with
  | nil => rfl
  | cons x l ih => simp [rows, mS, shareL, share, ih]
end Go.Proofs.Ytfcgcgmleogamaa.Ab
namespace Go.Proofs.Ytfcgcgmleogamaa.Ab
open Go
set_option linter.unusedSimpArgs false
set_option linter.unusedVariables false
set_option linter.unusedSectionVars false
def lS (l : List Int) : List D := [shI l]
def lO (l : List Int) : List D := [owI l]
theorem lS_one (l : List Int) : (lS l).length = 1 := rfl
theorem lO_one (l : List Int) : (lO l).length = 1 := rfl
@[simp] theorem lS_length (l : List (List Int)) : (rows lS l).length = l.length := by rw [rows_length lS_one l, Nat.one_mul]
@[simp] theorem lO_length (l : List (List Int)) : (rows lO l).length = l.length := by rw [rows_length lO_one l, Nat.one_mul]
@[simp] theorem lS_share (l : List (List Int)) : shareL (rows lO l) = rows lS l := by
  rw [rows_share]
  congr 1
  funext t
  simp [lO, lS, shareL, share, shareL_ints]
section
variable {l : List (List Int)} {i : Nat}
end
def lZ : Option (List Int) → List D
  | none => [.v (.slice none 0 0)]
  | some t => lO t
theorem lZ_one (t : Option (List Int)) : (lZ t).length = 1 := by cases t <;> rfl
@[simp] theorem lZ_length (l : List (Option (List Int))) : (rows lZ l).length = l.length := by rw [rows_length lZ_one l, Nat.one_mul]
@[simp] theorem lO_noSh (l : List (List Int)) : noShL (rows lO l) := rows_noSh (fun t => by simp [lO, noShL, noSh, noShL_ints]) l
end Go.Proofs.Ytfcgcgmleogamaa.Ab
namespace Go.Proofs.Ytfcgcgmleogamaa.Ab
open Go
set_option linter.unusedSimpArgs false
set_option linter.unusedVariables false
set_option maxRecDepth 10000








end Go.Proofs.Ytfcgcgmleogamaa.Ab
namespace Go.Proofs.Ytfcgcgmleogamaa.Ab
open Go
set_option linter.unusedSimpArgs false
set_option linter.unusedVariables false
set_option linter.unusedSectionVars false
structure Qtm where
  e : List Int
  h : Int
  c : Int
deriving DecidableEq
structure Qsm where
  v : Int
  ts : List Qtm
deriving DecidableEq
def qtS (t : Qtm) : List D := [shI t.e, D.int t.h, D.int t.c]
def qtO (t : Qtm) : List D := [owI t.e, D.int t.h, D.int t.c]
def qS (f : Qsm) : List D := [D.int f.v, .sh 3 f.ts.length (rows qtS f.ts)]
theorem qtS_three (t : Qtm) : (qtS t).length = 3 := rfl
theorem qtO_three (t : Qtm) : (qtO t).length = 3 := rfl
@[simp] theorem qtS_length (l : List Qtm) : (rows qtS l).length = 3 * l.length := rows_length qtS_three l
@[simp] theorem qtO_length (l : List Qtm) : (rows qtO l).length = 3 * l.length := rows_length qtO_three l
@[simp] theorem qtS_share (l : List Qtm) : shareL (rows qtO l) = rows qtS l := by
  rw [rows_share]
  congr 1
  funext t
  simp [qtO, qtS, shareL, share, shareL_ints]
@[simp] theorem qtO_noSh (l : List Qtm) : noShL (rows qtO l) := rows_noSh (fun t => by simp [qtO, noShL, noSh, noShL_ints]) l
section
variable {l : List Qtm} {i : Nat}
end
def qtZ : Option Qtm → List D
  | none => [.v (.slice none 0 0), D.int 0, D.int 0]
  | some t => qtO t
theorem qtZ_three (t : Option Qtm) : (qtZ t).length = 3 := by cases t <;> rfl
@[simp] theorem qtZ_length (l : List (Option Qtm)) : (rows qtZ l).length = 3 * l.length := rows_length qtZ_three l
end Go.Proofs.Ytfcgcgmleogamaa.Ab
namespace Go.Proofs.Ytfcgcgmleogamaa.Ab
open Go
set_option linter.unusedSimpArgs false
set_option linter.unusedVariables false
set_option maxRecDepth 10000


























end Go.Proofs.Ytfcgcgmleogamaa.Ab
namespace Go.Proofs.Ytfcgcgmleogamaa.Ab
open Go
set_option linter.unusedSimpArgs false
set_option linter.unusedVariables false
set_option maxRecDepth 10000
set_option maxHeartbeats 2000000
def qk (t : Qtm) : List Int × Int := (t.e, t.h)
def QGood (v : Int) (t : Qtm) : Prop := (t.e.length : Int) = v ∧ t.c ≠ 0 ∧ (-1000000 ≤ t.c ∧ t.c ≤ 1000000) ∧ (-200 ≤ t.h ∧ t.h ≤ 200) ∧ ∀ x ∈ t.e, -20 ≤ x ∧ x ≤ 20
def DescQ (ts : List Qtm) : Prop := ts.Pairwise fun a b => qlt (qk b) (qk a) = true
def QRight (f : Qsm) : Prop := (1 ≤ f.v ∧ f.v ≤ 8) ∧ f.ts.length ≤ 600 ∧ (∀ t ∈ f.ts, QGood f.v t) ∧ DescQ f.ts
noncomputable instance (f : Qsm) : Decidable (QRight f) := Classical.propDecidable _
end Go.Proofs.Ytfcgcgmleogamaa.Ab
namespace Go.Proofs.Ytfcgcgmleogamaa.Ab
open Go
set_option linter.unusedSimpArgs false
set_option linter.unusedVariables false
set_option maxRecDepth 10000
set_option maxHeartbeats 2000000




end Go.Proofs.Ytfcgcgmleogamaa.Ab
namespace Go.Proofs.Ytfcgcgmleogamaa.Ab
open Go
set_option linter.unusedSimpArgs false
set_option linter.unusedVariables false
set_option maxRecDepth 10000
set_option maxHeartbeats 2000000
def at2 (fm : List (List Int)) (i j : Nat) : Int := (fm.getD i []).getD j 0
def Skp (fm : List (List Int)) (i j : Nat) : Prop := (-99 ≤ at2 fm i j ∧ at2 fm i j ≤ 99) ∧ at2 fm i j + at2 fm j i = 0
def FormOk (fm : List (List Int)) : Prop := (1 ≤ (fm.length : Int) ∧ (fm.length : Int) ≤ 8) ∧ (∀ i, i < fm.length → (fm.getD i []).length = fm.length) ∧ ∀ i, i < fm.length → ∀ j, j < fm.length → Skp fm i j
noncomputable instance (fm : List (List Int)) : Decidable (FormOk fm) := Classical.propDecidable _
end Go.Proofs.Ytfcgcgmleogamaa.Ab
namespace Go.Proofs.Ytfcgcgmleogamaa.Ab
open Go
set_option linter.unusedSimpArgs false
set_option linter.unusedVariables false
set_option maxRecDepth 10000
set_option maxHeartbeats 2000000
def sm (f : Nat → Int) : Nat → Int
  | 0 => 0
  | n + 1 => sm f n + f n
section
variable {fm : List (List Int)} {a b : List Int}
end
end Go.Proofs.Ytfcgcgmleogamaa.Ab
namespace Go.Proofs.Ytfcgcgmleogamaa.Ab
open Go
set_option linter.unusedSimpArgs false
set_option linter.unusedVariables false
end Go.Proofs.Ytfcgcgmleogamaa.Ab
namespace Go.Proofs.Ytfcgcgmleogamaa.Ab
open Go
set_option linter.unusedSimpArgs false
set_option linter.unusedVariables false
end Go.Proofs.Ytfcgcgmleogamaa.Ab
namespace Go.Proofs.Ytfcgcgmleogamaa.Ab
open Go
set_option linter.unusedSimpArgs false
set_option linter.unusedVariables false
/-- A table as rows. -/
def tbR (N : Nat) (g : Nat → Int) : List Int := (List.range N).map g
def tbL (N : Nat) (f : Nat → Nat → Int) : List (List Int) := (List.range N).map fun i => tbR N (f i)
@[simp] theorem tbR_length (N : Nat) (g : Nat → Int) : (tbR N g).length = N := by simp [tbR]
@[simp] theorem tbL_length (N : Nat) (f : Nat → Nat → Int) : (tbL N f).length = N := by simp [tbL]
/-! ### The first form -/
noncomputable instance (fm : List (List Int)) : Decidable (FormOk fm) := Classical.propDecidable _
/-! ### The next form -/
/-! ### Along steps -/
end Go.Proofs.Ytfcgcgmleogamaa.Ab
namespace Go.Proofs.Ytfcgcgmleogamaa.Ab
open Go
set_option linter.unusedSimpArgs false
set_option linter.unusedVariables false
set_option maxRecDepth 10000
set_option maxHeartbeats 4000000
theorem updHit (r : List (Nat × FV)) (t : Nat) (f v : FV) : upd (ofL ((t, f) :: r)) t v = ofL ((t, v) :: r) := by
  funext s
  unfold upd
  simp only [ofL]
  by_cases h : s = t
  · rw [if_pos h, if_pos h.symm]
  · rw [if_neg h, if_neg (fun e => h e.symm), if_neg (fun e => h e.symm)]
theorem updCons {i t : Nat} {f v : FV} {r r2 : List (Nat × FV)} (h : i ≠ t) (e : upd (ofL r) t v = ofL r2) : upd (ofL ((i, f) :: r)) t v = ofL ((i, f) :: r2) := by
  funext s
  have e2 := congrFun e s
  unfold upd at e2 ⊢
  simp only [ofL]
  by_cases q : i = s
  · rw [if_neg (by omega), if_pos q, if_pos q]
  · rw [if_neg q, if_neg q]
    exact e2
theorem rootNil (en : Nat → FV) (r : Rn) (d : D) : (St.root ⟨en, ofRO []⟩ r d).rts = ofRO [(r, some d)] := by
  funext q
  simp only [St.root, ofRO]
  by_cases h : q = r
  · rw [if_pos h, if_pos h.symm]
  · rw [if_neg h, if_neg (fun e => h e.symm)]
theorem rootCons {en : Nat → FV} {i r : Rn} {d : D} {x : Option D} {s s2 : List (Rn × Option D)} (h : i ≠ r) (e : (St.root ⟨en, ofRO s⟩ r d).rts = ofRO s2) : (St.root ⟨en, ofRO ((i, x) :: s)⟩ r d).rts = ofRO ((i, x) :: s2) := by
  funext q
  have e2 := congrFun e q
  simp only [St.root, ofRO] at e2 ⊢
  by_cases c : i = q
  · rw [if_neg (fun z => h (c.trans z)), if_pos c, if_pos c]
  · rw [if_neg c, if_neg c]
    exact e2
end Go.Proofs.Ytfcgcgmleogamaa.Ab
namespace Go.Proofs.Ytfcgcgmleogamaa.Ab
open Go
set_option linter.unusedSimpArgs false
set_option linter.unusedVariables false
set_option maxRecDepth 10000
set_option maxHeartbeats 4000000
noncomputable def CN : Ctx := { C.spec_l5Choose with nW := 1 }
attribute [local simp ↓] kill_env kill_rts deep_env deep_rts take_env put_env
attribute [local simp high] upd_ofL
attribute [local simp] replE killL deepL' killE_ofL deepE_ofL killE_at deepE_at
theorem spec_l5ChooseN_calls (v : Nat) (hv : 4 ≤ v ∧ v ≤ 8) (all : List Dg) (hall : all.length ≤ 64) (hLL : (chF (v - 3) all []).length ≤ 1000) (ih : ∀ at' F' L', 0 < at' → at' ≤ all.length → F'.length ≤ v - 3 → L'.length + (chF (v - 3) (all.drop at') F').length ≤ 1000 → ChC v all at' F' L') : ACalls Try.prog F.spec_l5Choose [.int v, .d (.sh 2 all.length (rows gM (all.map dgI))), .int 0, .al (3, 0) [] 0 0, .d (.v (.slice none 0 0))] [((3, 0), .ow 2 0 [])] true (fun outs res => outs = [.gone] ∧ res = [.one (.ow 1 (chF (v - 3) all []).length (rows lDD (chF (v - 3) all [])))]) := by
  have hwv : IntKind.i64.wrap ((v : Int) - 3) = ((v - 3 : Nat) : Int) := by rw [wrapOk (by omega) (by omega)]; omega
  obtain ⟨R, hR⟩ : ∃ R, R = chF (v - 3) all [] := ⟨_, rfl⟩
  have hRl : R.length ≤ 1000 := by rw [hR]; exact hLL
  rw [← hR]
  obtain ⟨front, hfr⟩ : ∃ front : List Dg, front = [] := ⟨_, rfl⟩
  obtain ⟨at_, hat0⟩ : ∃ n : Nat, n = 0 := ⟨_, rfl⟩
  have hat : at_ ≤ all.length := by omega
  have hfl : front.length ≤ v - 3 := by rw [hfr]; simp
  have hne : front.length ≠ v - 3 := by rw [hfr]; simp; omega
  rw [← hfr] at hR
  have hR : R = chF (v - 3) (all.drop at_) front := by rw [hR, hat0, List.drop_zero]
  rw [← hat0] at ih
  refine ACalls.of_body (C := CN) (n := Try.f173.ntmps) tabT folT Try.func173 rfl (by kernel_rfl) rfl (Nat.le_of_ble_eq_true rfl) (by decide) (by kernel_rfl) (by kernel_rfl) rfl (by simp) (by simp) ?_
  simp only [Try.f173]
  refine wseq ?_
  refine wreg fun K hK => ?_
  simp [CN, C.spec_l5Choose]
  refine hK _ ?_; clear hK K
  show AWp _ _ _ _ _
  refine wseq ?_
  refine wseq ?_
  refine wreg fun K hK => ?_
  simp [CN, C.spec_l5Choose, hwv]
  refine hK _ ?_; clear hK K
  show AWp _ _ _ _ _
  refine wcond _ rfl (fun hc1 => ?_) (fun hc1 => ?_)
  · have := hc1
    simp at this
    omega
  · refine wskip ?_
    show AWp _ _ _ _ _
    refine wseq ?_
    refine wseq ?_
    refine wreg fun K hK => ?_
    simp [CN, C.spec_l5Choose]
    refine hK _ ?_; clear hK K
    show AWp _ _ _ _ _
    refine wblock ?_
    refine wloopW (fun x : Nat × List (List Dg) => ⟨ofL [(0, .int v), (1, .d (.sh 2 all.length (rows gM (all.map dgI)))), (3, .al (3, 0) [] 0 front.length), (4, .al (4, 0) [] 0 x.2.length), (11, .int x.1), (1000, .dead)], ofRO [((3, 0), some (.ow 2 front.length (rows gM (front.map dgI)))), ((4, 0), some (.ow 1 x.2.length (rows lDD x.2)))]⟩) (fun x => (at_ ≤ x.1 ∧ x.1 ≤ all.length) ∧ x.2 ++ chF (v - 3) (all.drop x.1) front = R) (fun x => all.length - x.1) (at_, []) [.tmp 4 1, .drop 1000] (by simp [CN, C.spec_l5Choose, hfr, hat0, rows]; repeat' (first | exact rootNil _ _ _ | refine rootCons (by decide) ?_)) ⟨⟨by simp, by simpa using hat⟩, by rw [hR]; rfl⟩ ?_
    intro x1 hx1 R1 hR1
    obtain ⟨i, L⟩ := x1
    obtain ⟨⟨g1, g2⟩, g3⟩ := hx1
    dsimp only at g1 g2 g3 ⊢
    refine wseq ?_
    refine wseq ?_
    refine wreg fun K hK => ?_
    simp [CN, C.spec_l5Choose]
    refine hK _ ?_; clear hK K
    show AWp _ _ _ _ _
    refine wcond _ rfl (fun hc2 => ?_) (fun hc2 => ?_)
    · have hi : i < all.length := by have := d_t hc2; simpa using this
      have hLl : L.length ≤ 1000 := by have := congrArg List.length g3; rw [List.length_append] at this; omega
      obtain ⟨d, hd⟩ : ∃ d, d = all[i] := ⟨_, rfl⟩
      have him : i < (all.map dgI).length := by simpa using hi
      have hd1 : (all.map dgI)[i].1 = (d.1 : Int) := by rw [List.getElem_map, hd]; rfl
      have hd2 : (all.map dgI)[i].2 = (d.2 : Int) := by rw [List.getElem_map, hd]; rfl
      have hs0 : (rows gM (all.map dgI))[2 * i]? = some (D.int d.1) ∧ ∀ h', (rows gM (all.map dgI))[2 * i]'h' = D.int d.1 := by have := gM_0 him; rw [hd1] at this; exact this
      have hs1 : (rows gM (all.map dgI))[2 * i + 1]? = some (D.int d.2) ∧ ∀ h', (rows gM (all.map dgI))[2 * i + 1]'h' = D.int d.2 := by have := gM_1 him; rw [hd2] at this; exact this
      refine wskip ?_
      show AWp _ _ _ _ _
      refine wseq ?_
      refine wblock ?_
      refine wseq ?_
      refine wreg fun K hK => ?_
      simp [CN, C.spec_l5Choose]
      refine hK _ ?_; clear hK K
      show AWp _ _ _ _ _
      refine wseq ?_
      refine wseq ?_
      refine wreg fun K hK => ?_
      simp [CN, C.spec_l5Choose]
      refine hK _ ?_; clear hK K
      show AWp _ _ _ _ _
      refine wblock ?_
      refine wloop (fun j : Nat => ⟨ofL [(0, .int v), (1, .d (.sh 2 all.length (rows gM (all.map dgI)))), (3, .al (3, 0) [] 0 front.length), (4, .al (4, 0) [] 0 L.length), (11, .int i), (12, .bool (fitB (front.take j) d)), (13, .int j), (1000, .dead)], ofRO [((3, 0), some (.ow 2 front.length (rows gM (front.map dgI)))), ((4, 0), some (.ow 1 L.length (rows lDD L)))]⟩) (fun j => j ≤ front.length) (fun j => front.length - j) 0 (by simp [CN, C.spec_l5Choose, fitB]) (by simp) ?_
      intro x2 hx2 R2 hR2
      refine wseq ?_
      refine wseq ?_
      refine wreg fun K hK => ?_
      simp [CN, C.spec_l5Choose]
      refine hK _ ?_; clear hK K
      show AWp _ _ _ _ _
      refine wcond _ rfl (fun hc3 => ?_) (fun hc3 => ?_)
      · have hj : x2 < front.length := by have := d_t hc3; simpa using this
        have hjm : x2 < (front.map dgI).length := by simpa using hj
        have hf1 : (front.map dgI)[x2].1 = (front[x2].1 : Int) := by rw [List.getElem_map]; rfl
        have hf2 : (front.map dgI)[x2].2 = (front[x2].2 : Int) := by rw [List.getElem_map]; rfl
        have hq0 : (rows gM (front.map dgI))[2 * x2]? = some (D.int front[x2].1) ∧ ∀ h', (rows gM (front.map dgI))[2 * x2]'h' = D.int front[x2].1 := by have := gM_0 hjm; rw [hf1] at this; exact this
        have hq1 : (rows gM (front.map dgI))[2 * x2 + 1]? = some (D.int front[x2].2) ∧ ∀ h', (rows gM (front.map dgI))[2 * x2 + 1]'h' = D.int front[x2].2 := by have := gM_1 hjm; rw [hf2] at this; exact this
        have hcr := spec_l5Cross_calls front[x2].1 front[x2].2 d.1 d.2
        have hcrb : decide (CrI ((front[x2].1 : Int), (front[x2].2 : Int)) ((d.1 : Int), (d.2 : Int))) = crs front[x2] d := by
          rw [Bool.eq_iff_iff, decide_eq_true_eq, crs_iff]
          simp only [CrI]
          omega
        rw [hcrb] at hcr
        have hft : fitB (front.take (x2 + 1)) d = (fitB (front.take x2) d && !crs front[x2] d) := by
          unfold fitB
          rw [List.take_succ_eq_append_getElem hj, List.all_append]
          simp
        refine wskip ?_
        show AWp _ _ _ _ _
        refine wseq ?_
        refine wblock ?_
        refine wdrawI [(true, 0), (true, 1), (true, 2), (true, 3), (true, 4), (true, 5), (true, 6), (true, 7), (true, 8), (true, 9), (false, 10), (true, 11), (true, 12), (true, 13)] ⟨by kernel_rfl, by kernel_rfl⟩ ([0, 1, 2, 3, 4, 5, 6, 7, 8, 9, 10] ++ ([11, 12, 13])) rfl fun K hK => ?_
        have hJ : K ⟨ofL [(0, .int v), (1, .d (.sh 2 all.length (rows gM (all.map dgI)))), (3, .al (3, 0) [] 0 front.length), (4, .al (4, 0) [] 0 L.length), (11, .int i), (12, .bool (fitB (front.take (x2 + 1)) d)), (13, .int x2), (1000, .dead)], ofRO [((3, 0), some (.ow 2 front.length (rows gM (front.map dgI)))), ((4, 0), some (.ow 1 L.length (rows lDD L)))]⟩ := by
          refine hK _ ?_; clear hK K
          show AWp _ _ _ _ _
          refine wreg fun K hK => ?_
          simp [CN, C.spec_l5Choose, wrap_succ (show x2 < 4611686018427387904 by omega)]
          refine hK _ ?_; clear hK K
          simp [CN, C.spec_l5Choose]
          exact hR2 (x2 + 1) hj (by omega)
        clear hK
        by_cases hfx : fitB (front.take x2) d = true
        · simp [CN, C.spec_l5Choose, hfx, hi, hj, hs0, hs1, hq0, hq1]
          repeat' first
            | (refine wcall1 hcr ?_ (by simp) ?_; (focus (simp; done)); simp [CN, C.spec_l5Choose, hfx, hi, hj, hs0, hs1, hq0, hq1])
            | (refine cast (congrArg K ?_) hJ; simp [hft, hfx]; done)
            | refine And.intro ?_ ?_
        · simp [CN, C.spec_l5Choose, hfx]
          repeat' first
            | (refine cast (congrArg K ?_) hJ; simp [hft, hfx]; done)
            | refine And.intro ?_ ?_
      · have hj : x2 = front.length := by have := d_f hc3; simp at this; omega
        rw [hj, List.take_length]
        have hst := chF_step (n := v - 3) (ds := all) hne hi
        rw [← hd] at hst
        refine wexit ?_
        show AWp _ _ _ _ _
        refine wseq ?_
        refine wreg fun K hK => ?_
        simp [CN, C.spec_l5Choose]
        refine hK _ ?_; clear hK K
        show AWp _ _ _ _ _
        refine wcond _ rfl (fun hc4 => ?_) (fun hc4 => ?_)
        · have hfb : fitB front d = true := by simpa using hc4
          rw [if_pos hfb] at hst
          have hLR : L.length + (chF (v - 3) (all.drop (i + 1)) (front ++ [d])).length ≤ 1000 := by
            have := congrArg List.length g3
            rw [hst] at this
            simp only [List.length_append] at this
            omega
          have hic := ih (i + 1) (front ++ [d]) L (by omega) hi (by simp; omega) hLR
          unfold ChC at hic
          obtain ⟨G, hG⟩ : ∃ G, G = chF (v - 3) (all.drop (i + 1)) (front ++ [d]) := ⟨_, rfl⟩
          rw [← hG] at hic hst
          have hfd : (front ++ [d]).length = front.length + 1 := by simp
          rw [hfd] at hic
          refine wdraw (.take 0 (.take 1 (.take 2 (.take 3 (.take 5 (.take 7 (.take 8 (.take 9 (.take 13 (.all [(4, .all [(6, .take 10 (.all [(11, .all [(12, .all [(14, .take 15 (.done))])])])), (10, .all [(6, .all [(11, .all [(12, .all [(14, .take 15 (.done))])])]), (11, .all [(6, .all [(12, .all [(14, .take 15 (.done))])])])])]), (10, .all [(4, .all [(6, .all [(11, .all [(12, .all [(14, .take 15 (.done))])])]), (11, .all [(6, .all [(12, .all [(14, .take 15 (.done))])])])]), (11, .all [(4, .all [(6, .all [(12, .all [(14, .take 15 (.done))])])])])])])))))))))) ⟨by kernel_rfl, by kernel_rfl⟩ fun K hK => ?_
          have hJ : K ⟨ofL [(0, .int v), (1, .d (.sh 2 all.length (rows gM (all.map dgI)))), (3, .al (3, 0) [] 0 front.length), (4, .al (4, 0) [] 0 (L ++ G).length), (11, .int i), (1000, .dead)], ofRO [((3, 0), some (.ow 2 front.length (rows gM (front.map dgI)))), ((4, 0), some (.ow 1 (L ++ G).length (rows lDD (L ++ G))))]⟩ := by
            refine hK _ ?_; clear hK K
            show AWp _ _ _ _ _
            refine wreg fun K hK => ?_
            simp [CN, C.spec_l5Choose, wrap_succ (show i < 4611686018427387904 by omega)]
            refine hK _ ?_; clear hK K
            simp [CN, C.spec_l5Choose]
            refine cast (congrArg R1 ?_) (hR1 (i + 1, L ++ G) ⟨⟨by dsimp only; omega, hi⟩, ?_⟩ (by dsimp only; omega))
            · simp
            · dsimp only
              rw [List.append_assoc, ← hst]
              exact g3
          clear hK
          simp [CN, C.spec_l5Choose, hi, hs0, hs1, dg_snoc front d, wrap_succ (show i < 4611686018427387904 by omega), show front.length * 16 ≤ 140737488355328 by omega, show (front.length + 1) * 16 ≤ 140737488355328 by omega]
          repeat' first
            | (refine wcall hic (by simp) (by simp) (by simp) ?_; rintro outs res ⟨rfl, rfl⟩; simp [CN, C.spec_l5Choose])
            | (refine cast (congrArg K ?_) hJ; simp; done)
            | refine And.intro ?_ ?_
        · have hfb : ¬ fitB front d = true := by simpa using hc4
          rw [if_neg hfb, List.nil_append] at hst
          refine wskip ?_
          show AWp _ _ _ _ _
          refine wreg fun K hK => ?_
          simp [CN, C.spec_l5Choose, wrap_succ (show i < 4611686018427387904 by omega)]
          refine hK _ ?_; clear hK K
          simp [CN, C.spec_l5Choose]
          refine hR1 (i + 1, L) ⟨⟨by dsimp only; omega, hi⟩, ?_⟩ (by dsimp only; omega)
          dsimp only
          rw [← hst]
          exact g3
    · have hi : i = all.length := by have := d_f hc2; simp at this; omega
      rw [hi, List.drop_length, chF_end hne, List.append_nil] at g3
      refine wexit ?_
      show AWp _ _ _ _ _
      refine wseq ?_
      refine wreg fun K hK => ?_
      simp [CN, C.spec_l5Choose]
      refine hK _ ?_; clear hK K
      show AWp _ _ _ _ _
      refine wret ?_
      simp [CN, C.spec_l5Choose]
      rw [g3]
      exact ⟨rfl, rfl⟩

end Go.Proofs.Ytfcgcgmleogamaa.Ab
namespace Go.Proofs.Ytfcgcgmleogamaa.Ab
open Go
set_option linter.unusedSimpArgs false
set_option linter.unusedVariables false
set_option maxRecDepth 10000
set_option maxHeartbeats 2000000






end Go.Proofs.Ytfcgcgmleogamaa.Ab
namespace Go.Proofs.Ytfcgcgmleogamaa.Ab
open Go
set_option linter.unusedSimpArgs false
set_option linter.unusedVariables false
set_option maxRecDepth 10000
set_option maxHeartbeats 2000000
end Go.Proofs.Ytfcgcgmleogamaa.Ab
namespace Go.Proofs.Ytfcgcgmleogamaa.Ab
open Go
set_option linter.unusedSimpArgs false
set_option linter.unusedVariables false
set_option maxRecDepth 10000
set_option maxHeartbeats 4000000
end Go.Proofs.Ytfcgcgmleogamaa.Ab
namespace Go.Proofs.Ytfcgcgmleogamaa.Ab
open Go
set_option linter.unusedSimpArgs false
set_option linter.unusedVariables false
set_option maxRecDepth 10000
set_option maxHeartbeats 4000000
/-- What is asked of the arguments. -/
def MfOk (fm : List (List Int)) (m : Mat) (k : Int) : Prop := FormOk fm ∧ MatOK m ∧ m.r = fm.length ∧ (0 ≤ k ∧ k < m.n)
noncomputable instance (fm : List (List Int)) (m : Mat) (k : Int) : Decidable (MfOk fm m k) := Classical.propDecidable _
end Go.Proofs.Ytfcgcgmleogamaa.Ab
namespace Go.Proofs.Ytfcgcgmleogamaa.Ab
open Go
set_option linter.unusedSimpArgs false
set_option linter.unusedVariables false
set_option maxRecDepth 10000
set_option maxHeartbeats 4000000
section
variable {l : List (List (List Int))} {i : Nat}
end
end Go.Proofs.Ytfcgcgmleogamaa.Ab
namespace Go.Proofs.Ytfcgcgmleogamaa.Ab
open Go
set_option linter.unusedSimpArgs false
set_option linter.unusedVariables false
set_option maxRecDepth 10000
set_option maxHeartbeats 2000000
attribute [local simp] cur
end Go.Proofs.Ytfcgcgmleogamaa.Ab
namespace Go.Proofs.Ytfcgcgmleogamaa.Ab
open Go
set_option linter.unusedSimpArgs false
set_option linter.unusedVariables false
set_option maxRecDepth 10000
set_option maxHeartbeats 2000000
attribute [local simp] cur
end Go.Proofs.Ytfcgcgmleogamaa.Ab
namespace Go.Proofs.Ytfcgcgmleogamaa.Ab
open Go
set_option linter.unusedSimpArgs false
set_option linter.unusedVariables false
set_option maxRecDepth 10000
set_option maxHeartbeats 2000000
end Go.Proofs.Ytfcgcgmleogamaa.Ab
namespace Go.Proofs.Ytfcgcgmleogamaa.Ab
open Go
set_option linter.unusedSimpArgs false
set_option linter.unusedVariables false
/-! ### Values at ones -/
/-! ### What is checked by computing -/
end Go.Proofs.Ytfcgcgmleogamaa.Ab
namespace Go.Proofs.Ytfcgcgmleogamaa.Ab
open Go
set_option linter.unusedSimpArgs false
set_option linter.unusedVariables false
/-! ### The seeds -/
/-! ### Sequences that come back -/
end Go.Proofs.Ytfcgcgmleogamaa.Ab
namespace Go.Proofs.Ytfcgcgmleogamaa.Ab
open Go
set_option linter.unusedSimpArgs false
set_option linter.unusedVariables false
set_option maxRecDepth 10000
set_option maxHeartbeats 2000000
end Go.Proofs.Ytfcgcgmleogamaa.Ab
namespace Go.Proofs.Ytfcgcgmleogamaa.Ab
open Go
set_option linter.unusedSimpArgs false
set_option linter.unusedVariables false
/-! ### Checks by computing -/
/-! ### Exchanges by computing -/
/-! ### By the number of terms -/
/-! ### Names -/
def rowN (n : Nat) (nm : List Int) (i : Nat) : Int := if i < n then nm.getD i 0 else i
def renL (base : List Int) (m : Mat) (nm : List Int) : Nat → List Int
  | 0 => base
  | q + 1 => (renL base m nm q).set ((rowN m.n.toNat nm (q / m.n.toNat)).toNat * m.n.toNat + (nm.getD (q % m.n.toNat) 0).toNat) (m.d.getD q 0)
@[simp] theorem renL_length (base : List Int) (m : Mat) (nm : List Int) : ∀ q, (renL base m nm q).length = base.length
  | 0 => rfl
  | q + 1 => by simp [renL, renL_length base m nm q]
end Go.Proofs.Ytfcgcgmleogamaa.Ab
namespace Go.Proofs.Ytfcgcgmleogamaa.Ab
open Go
set_option linter.unusedSimpArgs false
set_option linter.unusedVariables false
/-! ### Other names -/
end Go.Proofs.Ytfcgcgmleogamaa.Ab
namespace Go.Proofs.Ytfcgcgmleogamaa.Ab
open Go
set_option linter.unusedSimpArgs false
set_option linter.unusedVariables false
set_option maxRecDepth 10000
set_option maxHeartbeats 4000000
attribute [local simp] cur
end Go.Proofs.Ytfcgcgmleogamaa.Ab
namespace Go.Proofs.Ytfcgcgmleogamaa.Ab
open Go
set_option linter.unusedSimpArgs false
set_option linter.unusedVariables false
set_option maxRecDepth 10000
set_option maxHeartbeats 2000000
def fZ : Option Lau → List D
  | none => [D.int 0, .v (.slice none 0 0)]
  | some f => fO f
theorem fZ_two (t : Option Lau) : (fZ t).length = 2 := by cases t <;> rfl
@[simp] theorem fZ_length (l : List (Option Lau)) : (rows fZ l).length = 2 * l.length := rows_length fZ_two l
end Go.Proofs.Ytfcgcgmleogamaa.Ab
namespace Go.Proofs.Ytfcgcgmleogamaa.Ab
open Go
end Go.Proofs.Ytfcgcgmleogamaa.Ab
namespace Go.Proofs.Ytfcgcgmleogamaa.Ab
open Go
set_option linter.unusedSimpArgs false
set_option linter.unusedVariables false
set_option maxRecDepth 10000
set_option maxHeartbeats 2000000


end Go.Proofs.Ytfcgcgmleogamaa.Ab
namespace Go.Proofs.Ytfcgcgmleogamaa.Ab
open Go
set_option linter.unusedSimpArgs false
set_option linter.unusedVariables false
set_option maxRecDepth 10000
set_option maxHeartbeats 2000000
end Go.Proofs.Ytfcgcgmleogamaa.Ab
namespace Go.Proofs.Ytfcgcgmleogamaa.Ab
open Go
set_option linter.unusedSimpArgs false
set_option linter.unusedVariables false
set_option maxRecDepth 10000
set_option maxHeartbeats 2000000
theorem impl_IsPositive_1_calls (t : Trm) : ACalls Try.prog F.impl_IsPositive_1 [.ag [.d (shI t.e), .int t.c]] [] true (fun outs res => outs = [] ∧ res = [.one (D.bool (decide (t.c < 0)))]) := by
  refine ACalls.of_body (C := C.impl_IsPositive_1) (n := Try.f82.ntmps) tabT folT Try.func82 rfl (by kernel_rfl) rfl (Nat.le_of_ble_eq_true rfl) (by decide) (by kernel_rfl) (by kernel_rfl) rfl (by simp) (by simp) ?_
  simp only [Try.f82]
  refine wseq ?_
  refine wreg fun K hK => ?_
  simp [C.impl_IsPositive_1]
  refine hK _ ?_; clear hK K
  show AWp _ _ _ _ _
  refine wseq ?_
  refine wreg fun K hK => ?_
  simp [C.impl_IsPositive_1]
  refine hK _ ?_; clear hK K
  show AWp _ _ _ _ _
  refine wret ?_
  simp [C.impl_IsPositive_1]

theorem slices_IndexFunc_impl_Term_impl_Term_calls (xs : List Trm) (g : Nat) (p : Trm → Bool) (hx : xs.length < 4611686018427387904) (hM : aget [] MM g = []) (hp : ∀ x ∈ xs, ACalls Try.prog g [.ag [.d (shI x.e), .int x.c]] [] true (fun outs res => outs = [] ∧ res = [.one (D.bool (p x))])) : ACalls Try.prog F.slices_IndexFunc_impl_Term_impl_Term [.d (.sh 2 xs.length (rows tS xs)), .d (.fn g [])] [] true (fun outs res => outs = [] ∧ ∃ r : Int, res = [.one (D.int r)] ∧ decide (0 ≤ r) = xs.any p) := by
  refine ACalls.of_body (C := C.slices_IndexFunc_impl_Term_impl_Term) (n := Try.f143.ntmps) tabT folT Try.func143 rfl (by kernel_rfl) rfl (Nat.le_of_ble_eq_true rfl) (by decide) (by kernel_rfl) (by kernel_rfl) rfl (by simp) (by simp) ?_
  simp only [Try.f143]
  refine wseq ?_
  refine wreg fun K hK => ?_
  simp [C.slices_IndexFunc_impl_Term_impl_Term]
  refine hK _ ?_; clear hK K
  show AWp _ _ _ _ _
  refine wseq ?_
  refine wseq ?_
  refine wreg fun K hK => ?_
  simp [C.slices_IndexFunc_impl_Term_impl_Term]
  refine hK _ ?_; clear hK K
  show AWp _ _ _ _ _
  refine wblock ?_
  refine wloop (fun k : Nat => ⟨ofL [(0, .d (.sh 2 xs.length (rows tS xs))), (1, .d (.fn g [])), (7, .int xs.length), (8, FV.int k)], ofRO []⟩) (fun k => k ≤ xs.length ∧ (xs.take k).any p = false) (fun k => xs.length - k) 0 (by simp [C.slices_IndexFunc_impl_Term_impl_Term]) (by simp) ?_
  intro x1 hx1 R1 hR1
  obtain ⟨hk, ht⟩ := hx1
  refine wseq ?_
  refine wreg fun K hK => ?_
  simp [C.slices_IndexFunc_impl_Term_impl_Term]
  refine hK _ ?_; clear hK K
  show AWp _ _ _ _ _
  refine wseq ?_
  refine wcond _ rfl (fun hc1 => ?_) (fun hc1 => ?_)
  · have h1 : x1 < xs.length := by have := d_t hc1; omega
    refine wskip ?_
    show AWp _ _ _ _ _
    refine wseq ?_
    refine wblock ?_
    refine wseq ?_
    refine wreg fun K hK => ?_
    simp [C.slices_IndexFunc_impl_Term_impl_Term]
    refine hK _ ?_; clear hK K
    show AWp _ _ _ _ _
    refine wseq ?_
    refine wregI ([0, 1, 2, 3, 4, 5] ++ ([])) rfl fun K hK => ?_
    refine opsI_seg fun L hL => ?_
    simp [C.slices_IndexFunc_impl_Term_impl_Term, tS_0 h1, tS_1 h1, h1, hM]
    refine wcall1 (hp xs[x1] (List.getElem_mem h1)) (by simp) (by simp) ?_
    simp [C.slices_IndexFunc_impl_Term_impl_Term, tS_0 h1, tS_1 h1, h1, hM]
    refine hL _ ?_; clear hL L
    refine opsI_end fun L hL => ?_
    simp only [AOpsI]
    refine hL _ ?_; clear hL L
    simp [C.slices_IndexFunc_impl_Term_impl_Term, tS_0 h1, tS_1 h1, h1, hM]
    refine hK _ ?_; clear hK K
    show AWp _ _ _ _ _
    refine wcond _ rfl (fun hc2 => ?_) (fun hc2 => ?_)
    · have hpx : p xs[x1] = true := by simpa using hc2
      refine wseq ?_
      refine wreg fun K hK => ?_
      simp [C.slices_IndexFunc_impl_Term_impl_Term]
      refine hK _ ?_; clear hK K
      show AWp _ _ _ _ _
      refine wret ?_
      simp [C.slices_IndexFunc_impl_Term_impl_Term]
      exact ⟨xs[x1], List.getElem_mem h1, hpx⟩
    · have hpx : p xs[x1] = false := by simpa using hc2
      refine wskip ?_
      show AWp _ _ _ _ _
      refine wreg fun K hK => ?_
      simp [C.slices_IndexFunc_impl_Term_impl_Term, wrap_succ (show x1 < 4611686018427387904 by omega)]
      refine hK _ ?_; clear hK K
      simp [C.slices_IndexFunc_impl_Term_impl_Term]
      refine hR1 (x1 + 1) ⟨h1, ?_⟩ (by omega)
      rw [List.take_succ_eq_append_getElem h1, List.any_append, ht]
      simp [hpx]
  · have h1 : x1 = xs.length := by have := d_f hc1; omega
    have ht2 : xs.any p = false := by rw [h1, List.take_length] at ht; exact ht
    refine wexit ?_
    show AWp _ _ _ _ _
    refine wseq ?_
    refine wreg fun K hK => ?_
    simp [C.slices_IndexFunc_impl_Term_impl_Term]
    refine hK _ ?_; clear hK K
    show AWp _ _ _ _ _
    refine wret ?_
    simp [C.slices_IndexFunc_impl_Term_impl_Term]
    intro x hx
    have := List.any_eq_false.1 ht2 x hx
    simpa using this

theorem slices_ContainsFunc_impl_Term_impl_Term_calls (xs : List Trm) (g : Nat) (p : Trm → Bool) (hx : xs.length < 4611686018427387904) (hM : aget [] MM g = []) (hp : ∀ x ∈ xs, ACalls Try.prog g [.ag [.d (shI x.e), .int x.c]] [] true (fun outs res => outs = [] ∧ res = [.one (D.bool (p x))])) : ACalls Try.prog F.slices_ContainsFunc_impl_Term_impl_Term [.d (.sh 2 xs.length (rows tS xs)), .d (.fn g [])] [] true (fun outs res => outs = [] ∧ res = [.one (D.bool (xs.any p))]) := by
  refine ACalls.of_body (C := C.slices_ContainsFunc_impl_Term_impl_Term) (n := Try.f81.ntmps) tabT folT Try.func81 rfl (by kernel_rfl) rfl (Nat.le_of_ble_eq_true rfl) (by decide) (by kernel_rfl) (by kernel_rfl) rfl (by simp) (by simp) ?_
  simp only [Try.f81]
  refine wseq ?_
  refine wreg fun K hK => ?_
  simp [C.slices_ContainsFunc_impl_Term_impl_Term]
  refine hK _ ?_; clear hK K
  show AWp _ _ _ _ _
  refine wseq ?_
  refine wregI ([0, 1, 2] ++ ([3, 4])) rfl fun K hK => ?_
  refine opsI_seg fun L hL => ?_
  simp [C.slices_ContainsFunc_impl_Term_impl_Term]
  refine wcall (slices_IndexFunc_impl_Term_impl_Term_calls xs g p hx hM hp) (by simp) (by simp) (by simp) ?_
  rintro outs res ⟨rfl, r, rfl, hr⟩
  simp [C.slices_ContainsFunc_impl_Term_impl_Term]
  refine hL _ ?_; clear hL L
  refine opsI_end fun L hL => ?_
  simp [C.slices_ContainsFunc_impl_Term_impl_Term]
  refine hL _ ?_; clear hL L
  simp [C.slices_ContainsFunc_impl_Term_impl_Term]
  refine hK _ ?_; clear hK K
  show AWp _ _ _ _ _
  refine wret ?_
  simp [C.slices_ContainsFunc_impl_Term_impl_Term]
  exact hr

end Go.Proofs.Ytfcgcgmleogamaa.Ab
namespace Go.Proofs.Ytfcgcgmleogamaa.Ab
open Go
set_option linter.unusedSimpArgs false
set_option linter.unusedVariables false
set_option maxRecDepth 10000
set_option maxHeartbeats 2000000
end Go.Proofs.Ytfcgcgmleogamaa.Ab
namespace Go.Proofs.Ytfcgcgmleogamaa.Ab
open Go
set_option linter.unusedSimpArgs false
set_option linter.unusedVariables false
set_option maxRecDepth 10000
set_option maxHeartbeats 4000000
attribute [local simp] cur
theorem spec_dNames_calls (xs : List Int) (i : Nat) (h : Int) (n : Nat) (hi : i ≤ xs.length) (hx : xs.length ≤ 1048576) (hn : n ≤ 8) : ACalls Try.prog F.spec_dNames [.pt (0, 0) [] 0, .int n] [((0, 0), cur xs i h)] false (DrawE xs (fun e => e.length = n ∧ (∀ x ∈ e, 0 ≤ x ∧ x < n) ∧ e.Nodup)) := by
  refine ACalls.of_body (C := C.spec_dNames) (n := Try.f126.ntmps) tabT folT Try.func126 rfl (by kernel_rfl) rfl (Nat.le_of_ble_eq_true rfl) (by decide) (by kernel_rfl) (by kernel_rfl) rfl (by simp) (by simp) ?_
  simp only [Try.f126]
  refine wseq ?_
  refine wreg fun K hK => ?_
  simp [C.spec_dNames]
  refine hK _ ?_; clear hK K
  show AWp _ _ _ _ _
  refine wseq ?_
  refine wreg fun K hK => ?_
  simp [C.spec_dNames]
  refine hK _ ?_; clear hK K
  show AWp _ _ _ _ _
  refine wseq ?_
  refine wseq ?_
  refine wreg fun K hK => ?_
  simp [C.spec_dNames]
  refine hK _ ?_; clear hK K
  show AWp _ _ _ _ _
  refine wblock ?_
  refine wloop (fun x : Nat × List Int × Nat × Int => ⟨ofL [(0, .pt (0, 0) [] 0), (1, .int n), (5, .al (5, 0) [] 0 x.1), (6, .int x.1), (1000, .pt (0, 0) [] 0)], ofRO [((0, 0), some (cur xs x.2.2.1 x.2.2.2)), ((5, 0), some (.ow 1 x.1 (ints x.2.1)))]⟩) (fun x => x.1 ≤ n ∧ x.2.1.length = x.1 ∧ ((∀ y ∈ x.2.1, 0 ≤ y ∧ y < (x.1 : Int)) ∧ x.2.1.Nodup) ∧ x.2.2.1 ≤ xs.length) (fun x => n - x.1) (0, [], i, h) (by simp [C.spec_dNames, ints]) ⟨by simp, rfl, by simp, hi⟩ ?_
  intro x1 hx1 R1 hR1
  obtain ⟨j, e, i1, h1⟩ := x1
  obtain ⟨g1, g2, g3, g4⟩ := hx1
  dsimp only at g1 g2 g3 g4 ⊢
  refine wseq ?_
  refine wseq ?_
  refine wreg fun K hK => ?_
  simp [C.spec_dNames]
  refine hK _ ?_; clear hK K
  show AWp _ _ _ _ _
  refine wcond _ rfl (fun hc1 => ?_) (fun hc1 => ?_)
  · have hj : j < n := by have := d_t hc1; omega
    refine wskip ?_
    show AWp _ _ _ _ _
    refine wseq ?_
    refine wblock ?_
    refine wseq ?_
    refine wregI ([0, 1, 2, 3, 4] ++ ([5])) rfl fun K hK => ?_
    refine opsI_seg fun L hL => ?_
    simp [C.spec_dNames, wrapOk (x := (j : Int) + 1) (by omega) (by omega)]
    refine wcall (spec_l1Below_calls xs i1 h1 ((j : Int) + 1) g4 hx (by omega)) (by simp) (by simp) (by simp) ?_
    rintro outs res ⟨i2, h2, c, q1, q2, rfl, rfl⟩
    simp [C.spec_dNames, wrapOk (x := (j : Int) + 1) (by omega) (by omega)]
    refine hL _ ?_; clear hL L
    refine opsI_end fun L hL => ?_
    simp [C.spec_dNames, wrapOk (x := (j : Int) + 1) (by omega) (by omega)]
    refine hL _ ?_; clear hL L
    simp [C.spec_dNames, wrapOk (x := (j : Int) + 1) (by omega) (by omega)]
    refine hK _ ?_; clear hK K
    show AWp _ _ _ _ _
    obtain ⟨p, hp⟩ : ∃ p : Nat, c = p := ⟨c.toNat, by omega⟩
    rw [hp]
    have hpj : p ≤ j := by omega
    have hlen : p + 1 + (j - p) = j + 1 := by omega
    refine wdraw (.take 1 (.take 2 (.take 3 (.take 5 (.take 8 (.take 9 (.take 10 (.all [(0, .all [(4, .all [(6, .all [(7, .all [(11, .take 12 (.done))])])]), (6, .all [(4, .all [(7, .all [(11, .take 12 (.done))])])])]), (6, .all [(0, .all [(4, .all [(7, .all [(11, .take 12 (.done))])])])])])))))))) ⟨by kernel_rfl, by kernel_rfl⟩ fun K hK => ?_
    have hJ : K ⟨ofL [(0, .pt (0, 0) [] 0), (1, .int n), (5, .al (5, 0) [] 0 (j + 1)), (6, .int j), (1000, .pt (0, 0) [] 0)], ofRO [((0, 0), some (cur xs i2 h2)), ((5, 0), some (.ow 1 (j + 1) (ints (e.take p ++ (j : Int) :: e.drop p))))]⟩ := by
      refine hK _ ?_; clear hK K
      show AWp _ _ _ _ _
      refine wreg fun K hK => ?_
      simp [C.spec_dNames, wrap_succ (show j < 4611686018427387904 by omega)]
      refine hK _ ?_; clear hK K
      simp [C.spec_dNames]
      refine hR1 (j + 1, e.take p ++ (j : Int) :: e.drop p, i2, h2) ⟨hj, ?_, ?_, q1⟩ (by dsimp only; omega)
      · dsimp only
        simp [g2]
        omega
      · dsimp only
        refine ⟨fun y hy => ?_, ?_⟩
        · rcases List.mem_append.1 hy with hy | hy
          · have := g3.1 y (List.mem_of_mem_take hy)
            omega
          · rcases List.mem_cons.1 hy with rfl | hy
            · omega
            · have := g3.1 y (List.mem_of_mem_drop hy)
              omega
        · refine (List.perm_middle.nodup_iff).2 (List.nodup_cons.2 ⟨fun hm => ?_, ?_⟩)
          · rw [List.take_append_drop] at hm
            have := g3.1 _ hm
            omega
          · rw [List.take_append_drop]
            exact g3.2
    clear hK
    have hbig : (j + 1) * 8 ≤ 140737488355328 := by omega
    by_cases z1 : p = j
    · have t1 : e.take p = e := List.take_of_length_le (by omega)
      have t2 : e.drop p = [] := List.drop_of_length_le (by omega)
      rw [t1, t2] at hJ
      subst z1
      by_cases z2 : p = 0
      · subst z2
        obtain rfl : e = [] := List.eq_nil_of_length_eq_zero g2
        simp [C.spec_dNames, ints]
        refine cast (congrArg K ?_) hJ
        simp [ints]
      · simp [C.spec_dNames, g2, t1, t2, z2, hbig, show p * 8 ≤ 140737488355328 by omega]
        repeat' first
          | (refine cast (congrArg K ?_) hJ; simp [ints]; done)
          | refine And.intro ?_ ?_
          | omega
    · by_cases z2 : p = 0
      · subst z2
        simp [C.spec_dNames, g2, z1, hbig, show ¬ 0 = j by omega, show (0 + 1 + j) * 8 ≤ 140737488355328 by omega, show (1 + j) * 8 ≤ 140737488355328 by omega]
        repeat' first
          | (refine cast (congrArg K ?_) hJ; simp [ints, Nat.add_comm]; done)
          | refine And.intro ?_ ?_
          | omega
      · have e1 : p + 1 + (j - p) = j + 1 := by omega
        have t3 : (e.drop p).take (j - p) = e.drop p := List.take_of_length_le (by simp; omega)
        simp [C.spec_dNames, t3, g2, z1, z2, hpj, hbig, e1, show (p : Int) ≤ j by omega, show p * 8 ≤ 140737488355328 by omega, show (p + 1) * 8 ≤ 140737488355328 by omega]
        repeat' first
          | (refine cast (congrArg K ?_) hJ; simp [ints, e1, t3]; done)
          | refine And.intro ?_ ?_
          | omega
  · have hj : j = n := by have := d_f hc1; omega
    refine wexit ?_
    show AWp _ _ _ _ _
    refine wseq ?_
    refine wreg fun K hK => ?_
    simp [C.spec_dNames]
    refine hK _ ?_; clear hK K
    show AWp _ _ _ _ _
    refine wret ?_
    simp [C.spec_dNames]
    exact ⟨i1, h1, e, g4, ⟨by omega, fun x hx => by have := g3.1 x hx; omega, g3.2⟩, by simp [hj, g2, owI]⟩

end Go.Proofs.Ytfcgcgmleogamaa.Ab
namespace Go.Proofs.Ytfcgcgmleogamaa.Ab
open Go
set_option linter.unusedSimpArgs false
set_option linter.unusedVariables false
set_option maxRecDepth 10000
set_option maxHeartbeats 2000000
end Go.Proofs.Ytfcgcgmleogamaa.Ab
namespace Go.Proofs.Ytfcgcgmleogamaa.Ab
open Go
set_option linter.unusedSimpArgs false
set_option linter.unusedVariables false
set_option maxRecDepth 10000
set_option maxHeartbeats 4000000
attribute [local simp] cur
end Go.Proofs.Ytfcgcgmleogamaa.Ab
namespace Go.Proofs.Ytfcgcgmleogamaa.Ab
open Go
set_option linter.unusedSimpArgs false
set_option linter.unusedVariables false
set_option maxRecDepth 10000
set_option maxHeartbeats 2000000
end Go.Proofs.Ytfcgcgmleogamaa.Ab
namespace Go.Proofs.Ytfcgcgmleogamaa.Ab
open Go
set_option linter.unusedSimpArgs false
set_option linter.unusedVariables false
set_option maxRecDepth 10000
set_option maxHeartbeats 2000000
end Go.Proofs.Ytfcgcgmleogamaa.Ab
namespace Go.Proofs.Ytfcgcgmleogamaa.Ab
open Go
set_option linter.unusedSimpArgs false
set_option linter.unusedVariables false
set_option maxRecDepth 10000
set_option maxHeartbeats 2000000
end Go.Proofs.Ytfcgcgmleogamaa.Ab
namespace Go.Proofs.Ytfcgcgmleogamaa.Ab
open Go
set_option linter.unusedSimpArgs false
set_option linter.unusedVariables false
set_option maxRecDepth 10000
set_option maxHeartbeats 4000000
attribute [local simp] cur
theorem ch_all (v : Nat) (hv : 4 ≤ v ∧ v ≤ 8) (all : List Dg) (hall : all.length ≤ 64) : ∀ (n at_ : Nat) (F : List Dg) (L : List (List Dg)), all.length - at_ ≤ n → at_ ≤ all.length → F.length ≤ v - 3 → L.length + (chF (v - 3) (all.drop at_) F).length ≤ 1000 → ChC v all at_ F L
  | n, at_, F, L, h0, h1, h2, h3 => spec_l5Choose_calls v hv all at_ F L h1 hall h2 h3 fun at' F' L' g1 g2 g3 g4 => by
    match n with
    | 0 => omega
    | n + 1 => exact ch_all v hv all hall n at' F' L' (by omega) g2 g3 g4
theorem lDD_0 {l : List (List Dg)} {i : Nat} (h : i < l.length) : (rows lDD l)[i]? = some (D.ow 2 l[i].length (rows gM (l[i].map dgI))) ∧ ∀ h', (rows lDD l)[i]'h' = D.ow 2 l[i].length (rows gM (l[i].map dgI)) := twice (by
  have := rows_get lDD_one l i 0 h (by omega)
  simpa [lDD] using this)
theorem dgm_at (t : List Dg) {k : Nat} (hk : k < t.length) : ∃ hk : k < t.length, ((rows gM (t.map dgI))[2 * k]? = some (D.int t[k].1) ∧ ∀ h', (rows gM (t.map dgI))[2 * k]'h' = D.int t[k].1) ∧ ((rows gM (t.map dgI))[2 * k + 1]? = some (D.int t[k].2) ∧ ∀ h', (rows gM (t.map dgI))[2 * k + 1]'h' = D.int t[k].2) := by
  have hm : k < (t.map dgI).length := by simpa using hk
  have h1 : (t.map dgI)[k].1 = (t[k].1 : Int) := by rw [List.getElem_map]; rfl
  have h2 : (t.map dgI)[k].2 = (t[k].2 : Int) := by rw [List.getElem_map]; rfl
  have a := gM_0 hm
  have b := gM_1 hm
  rw [h1] at a
  rw [h2] at b
  exact ⟨hk, a, b⟩
def drT (t : List Dg) (e : List Int) (j : Nat) : List Dg := (e.take j).map fun x => t.getD x.toNat (0, 0)
def DrawT (xs : List Int) (outs : List D) (res : List RV) : Prop := ∃ (i' : Nat) (h' : Int) (v : Nat) (l : List Dg), i' ≤ xs.length ∧ (4 ≤ v ∧ v ≤ 7) ∧ Tri v l ∧ outs = [cur xs i' h'] ∧ res = [.one (D.int v), .one (.ow 2 l.length (rows gM (l.map dgI)))]
def DrawG (xs : List Int) (v : Nat) (outs : List D) (res : List RV) : Prop := ∃ (i' : Nat) (h' : Int) (d : Dg), i' ≤ xs.length ∧ d ∈ allD v ∧ outs = [cur xs i' h'] ∧ res = [.ag [D.int d.1, D.int d.2]]
def DrawFl (outs : List D) (res : List RV) : Prop := ∃ (v : Nat) (l : List Dg) (ks : List Int) (d : Dg), (4 ≤ v ∧ v ≤ 7) ∧ Tri v l ∧ (ks.length ≤ 6 ∧ ∀ x ∈ ks, 0 ≤ x ∧ x < l.length) ∧ d ∈ allD v ∧ outs = [] ∧ res = [.one (D.int v), .one (.ow 2 l.length (rows gM (l.map dgI))), .one (owI ks), .ag [D.int d.1, D.int d.2]]
theorem spec_TriangulationsOf_calls (v : Nat) (hv : 4 ≤ v ∧ v ≤ 7) : ACalls Try.prog F.spec_TriangulationsOf [.int v] [] true (fun outs res => outs = [] ∧ res = [.one (.ow 1 (triL v).length (rows lDD (triL v)))]) := by
  have h8 : 4 ≤ v ∧ v ≤ 8 := ⟨hv.1, by omega⟩
  have hal := allD_len hv
  have htl := triL_len hv
  have htl2 : (chF (v - 3) (allD v) []).length ≤ 1000 := Nat.le_trans htl.2 (by omega)
  have hN := spec_l5ChooseN_calls v h8 (allD v) (by omega) htl2 fun at' F' L' _ g2 g3 g4 => ch_all v h8 (allD v) (by omega) _ at' F' L' (Nat.le_refl _) g2 g3 g4
  rw [show chF (v - 3) (allD v) [] = triL v from rfl] at hN
  have hp := spec_l5Polygon_calls v
  rw [decide_eq_true (show 4 ≤ (v : Int) ∧ (v : Int) ≤ 8 by omega)] at hp
  refine ACalls.of_body (C := C.spec_TriangulationsOf) (n := Try.f125.ntmps) tabT folT Try.func125 rfl (by kernel_rfl) rfl (Nat.le_of_ble_eq_true rfl) (by decide) (by kernel_rfl) (by kernel_rfl) rfl (by simp) (by simp) ?_
  simp only [Try.f125]
  refine wseq ?_
  refine wreg fun K hK => ?_
  simp [C.spec_TriangulationsOf]
  refine hK _ ?_; clear hK K
  show AWp _ _ _ _ _
  refine wseq ?_
  refine wseq ?_
  refine wregI ([0, 1] ++ ([2])) rfl fun K hK => ?_
  refine opsI_seg fun L hL => ?_
  simp [C.spec_TriangulationsOf]
  refine wcall1 (hp) (by simp) (by simp) ?_
  simp [C.spec_TriangulationsOf]
  refine hL _ ?_; clear hL L
  refine opsI_end fun L hL => ?_
  simp [C.spec_TriangulationsOf]
  refine hL _ ?_; clear hL L
  simp [C.spec_TriangulationsOf]
  refine hK _ ?_; clear hK K
  show AWp _ _ _ _ _
  refine wcond _ rfl (fun hc1 => ?_) (fun hc1 => ?_)
  · simp at hc1
  · refine wskip ?_
    show AWp _ _ _ _ _
    refine wseq ?_
    refine wregI ([0, 1, 2] ++ ([3, 4] ++ ([5]))) rfl fun K hK => ?_
    refine opsI_seg fun L hL => ?_
    simp [C.spec_TriangulationsOf]
    refine wcall1 (spec_l5All_calls v h8) (by simp) (by simp) ?_
    simp [C.spec_TriangulationsOf]
    refine hL _ ?_; clear hL L
    refine opsI_seg fun L hL => ?_
    simp [C.spec_TriangulationsOf]
    refine wcall1 (hN) (by simp []) (by simp) ?_
    simp [C.spec_TriangulationsOf]
    refine hL _ ?_; clear hL L
    refine opsI_end fun L hL => ?_
    simp [C.spec_TriangulationsOf]
    refine hL _ ?_; clear hL L
    simp [C.spec_TriangulationsOf]
    refine hK _ ?_; clear hK K
    show AWp _ _ _ _ _
    refine wret ?_
    simp [C.spec_TriangulationsOf]

theorem spec_dTriangulation_calls (xs : List Int) (i : Nat) (h : Int) (hi : i ≤ xs.length) (hx : xs.length ≤ 1048576) : ACalls Try.prog F.spec_dTriangulation [.pt (0, 0) [] 0, .int 7] [((0, 0), cur xs i h)] false (DrawT xs) := by
  refine ACalls.of_body (C := C.spec_dTriangulation) (n := Try.f71.ntmps) tabT folT Try.func71 rfl (by kernel_rfl) rfl (Nat.le_of_ble_eq_true rfl) (by decide) (by kernel_rfl) (by kernel_rfl) rfl (by simp) (by simp) ?_
  simp only [Try.f71]
  refine wseq ?_
  refine wreg fun K hK => ?_
  simp [C.spec_dTriangulation]
  refine hK _ ?_; clear hK K
  show AWp _ _ _ _ _
  refine wseq ?_
  refine wregI ([0, 1, 2, 3] ++ ([4, 5])) rfl fun K hK => ?_
  refine opsI_seg fun L hL => ?_
  simp [C.spec_dTriangulation, wrapOk (x := (4 : Int)) (by omega) (by omega)]
  refine wcall (spec_l1Below_calls xs i h 4 hi hx (by omega)) (by simp) (by simp) (by simp) ?_
  rintro outs res ⟨i1, h1, c1, p1, q1, rfl, rfl⟩
  simp [C.spec_dTriangulation, wrapOk (x := (4 : Int)) (by omega) (by omega)]
  refine hL _ ?_; clear hL L
  refine opsI_end fun L hL => ?_
  simp [C.spec_dTriangulation, wrapOk (x := (4 : Int)) (by omega) (by omega)]
  refine hL _ ?_; clear hL L
  simp [C.spec_dTriangulation, wrapOk (x := (4 : Int)) (by omega) (by omega)]
  refine hK _ ?_; clear hK K
  show AWp _ _ _ _ _
  refine wseq ?_
  obtain ⟨v, hv, hvb⟩ : ∃ v : Nat, IntKind.i64.wrap (4 + c1) = v ∧ (4 ≤ v ∧ v ≤ 7) := ⟨(4 + c1).toNat, by rw [wrapOk (by omega) (by omega)]; omega, by omega⟩
  rw [hv]
  have htl := triL_len hvb
  refine wregI ([0, 1] ++ ([2])) rfl fun K hK => ?_
  refine opsI_seg fun L hL => ?_
  simp [C.spec_dTriangulation]
  refine wcall1 (spec_TriangulationsOf_calls v hvb) (by simp) (by simp) ?_
  simp [C.spec_dTriangulation]
  refine hL _ ?_; clear hL L
  refine opsI_end fun L hL => ?_
  simp [C.spec_dTriangulation]
  refine hL _ ?_; clear hL L
  simp [C.spec_dTriangulation]
  refine hK _ ?_; clear hK K
  show AWp _ _ _ _ _
  refine wseq ?_
  refine wregI ([0, 1, 2, 3, 4] ++ ([5, 6, 7])) rfl fun K hK => ?_
  have hJ : ∀ (i2 : Nat) (h2 : Int) (k : Nat) (hi2 : i2 ≤ xs.length) (hk : k < (triL v).length), K ⟨ofL [(0, .pt (0, 0) [] 0), (6, .int v), (8, .al (8, 0) [k] 0 (triL v)[k].length), (1000, .pt (0, 0) [] 0)], ofRO [((0, 0), some (cur xs i2 h2)), ((8, 0), some (.ow 1 (triL v).length (rows lDD (triL v))))]⟩ := by
    intro i2 h2 k hi2 hk
    refine hK _ ?_; clear hK K
    show AWp _ _ _ _ _
    refine wseq ?_
    refine wreg fun K hK => ?_
    simp [C.spec_dTriangulation, rows]
    refine hK _ ?_; clear hK K
    show AWp _ _ _ _ _
    refine wseq ?_
    have htt := triL_tri (v := v) ⟨hvb.1, by omega⟩ (List.getElem_mem hk)
    obtain ⟨t, ht⟩ : ∃ t, t = (triL v)[k] := ⟨_, rfl⟩
    have hl0 := lDD_0 hk
    rw [← ht] at hl0 htt
    rw [← ht]
    have htln := htt.len
    refine wregI ([0, 1, 2, 3] ++ ([4])) rfl fun K hK => ?_
    refine opsI_seg fun L hL => ?_
    simp [C.spec_dTriangulation]
    refine wcall (spec_dNames_calls xs i2 h2 t.length hi2 hx (by omega)) (by simp) (by simp) (by simp) ?_
    rintro outs res ⟨i3, h3, e, hi3, ⟨he1, he2, he3⟩, rfl, rfl⟩
    simp [C.spec_dTriangulation]
    refine hL _ ?_; clear hL L
    refine opsI_end fun L hL => ?_
    simp [C.spec_dTriangulation]
    refine hL _ ?_; clear hL L
    simp [C.spec_dTriangulation]
    refine hK _ ?_; clear hK K
    show AWp _ _ _ _ _
    refine wseq ?_
    refine wseq ?_
    refine wreg fun K hK => ?_
    simp [C.spec_dTriangulation]
    refine hK _ ?_; clear hK K
    show AWp _ _ _ _ _
    refine wblock ?_
    refine wloop (fun j : Nat => ⟨ofL [(6, .int v), (8, .al (8, 0) [k] 0 t.length), (9, .al (9, 0) [] 0 j), (10, .al (10, 0) [] 0 e.length), (11, .int j), (1000, .pt (1000, 0) [] 0)], ofRO [((8, 0), some (.ow 1 (triL v).length (rows lDD (triL v)))), ((9, 0), some (.ow 2 j (rows gM ((drT t e j).map dgI)))), ((10, 0), some (owI e)), ((1000, 0), some (cur xs i3 h3))]⟩) (fun j => j ≤ t.length) (fun j => t.length - j) 0 (by simp [C.spec_dTriangulation, rows, owI, drT]) (by simp) ?_
    intro x1 hx1 R1 hR1
    refine wseq ?_
    refine wseq ?_
    refine wreg fun K hK => ?_
    simp [C.spec_dTriangulation]
    refine hK _ ?_; clear hK K
    show AWp _ _ _ _ _
    refine wcond _ rfl (fun hc1 => ?_) (fun hc1 => ?_)
    · have hj : x1 < t.length := by have := d_t hc1; simpa using this
      have hje : x1 < e.length := by omega
      have hb := he2 _ (List.getElem_mem hje)
      obtain ⟨p, hp⟩ : ∃ p : Nat, e[x1] = p := ⟨e[x1].toNat, by omega⟩
      have hpt : p < t.length := by omega
      have hpm : p < (t.map dgI).length := by simpa using hpt
      obtain ⟨d, hd⟩ : ∃ d, d = t[p] := ⟨_, rfl⟩
      obtain ⟨_, hs0, hs1⟩ := dgm_at t hpt
      rw [← hd] at hs0 hs1
      have hsn := dg_snoc (drT t e x1) d
      have htk : drT t e (x1 + 1) = drT t e x1 ++ [d] := by
        unfold drT
        rw [List.take_succ_eq_append_getElem hje, List.map_append]
        simp only [List.map_cons, List.map_nil, hp, Int.toNat_natCast, List.getD_eq_getElem?_getD, List.getElem?_eq_getElem hpt, Option.getD_some, hd]
      obtain ⟨M, hM⟩ : ∃ M, M = drT t e x1 := ⟨_, rfl⟩
      rw [← hM] at hsn htk
      rw [← hM]
      refine wskip ?_
      show AWp _ _ _ _ _
      refine wseq ?_
      refine wblock ?_
      refine wreg fun K hK => ?_
      simp [C.spec_dTriangulation, get_ints, hje, hp, hpt, hs0, hs1, hl0, hk, hj, hsn, show (x1 : Int) < t.length by omega, show (p : Int) < t.length by omega, show (x1 + 1) * 16 ≤ 140737488355328 by omega]
      refine hK _ ?_; clear hK K
      show AWp _ _ _ _ _
      refine wreg fun K hK => ?_
      simp [C.spec_dTriangulation, wrap_succ (show x1 < 4611686018427387904 by omega)]
      refine hK _ ?_; clear hK K
      simp [C.spec_dTriangulation]
      refine cast (congrArg R1 ?_) (hR1 (x1 + 1) hj (by omega))
      rw [htk]
      simp [owI]
    · have hj : x1 = t.length := by have := d_f hc1; simp at this; omega
      have hpm := names_perm he1 he2 he3
      have hdr : drT t e x1 = e.map fun x => t.getD x.toNat (0, 0) := by
        unfold drT
        rw [hj, List.take_of_length_le (by omega)]
      rw [← hdr] at hpm
      have hdl := hpm.length_eq
      refine wexit ?_
      show AWp _ _ _ _ _
      refine wseq ?_
      refine wreg fun K hK => ?_
      simp [C.spec_dTriangulation]
      refine hK _ ?_; clear hK K
      show AWp _ _ _ _ _
      refine wret ?_
      simp [C.spec_dTriangulation]
      exact ⟨i3, h3, v, drT t e x1, hi3, hvb, htt.perm hpm, by simp, by have h := hdl; rw [hj] at h; simp [hj, h]⟩
  clear hK
  simp [C.spec_dTriangulation]
  repeat' first
    | (refine wcall (spec_l1Below_calls xs i1 h1 (triL v).length p1 hx (by omega)) (by simp) (by simp) (by simp) ?_; rintro outs res ⟨i2, h2, c2, q1, q2, rfl, rfl⟩; obtain ⟨k, rfl⟩ : ∃ k : Nat, c2 = k := ⟨c2.toNat, by omega⟩; simp [C.spec_dTriangulation, lDD_0 (show k < (triL v).length by omega), show k < (triL v).length by omega]; refine cast (congrArg K ?_) (hJ i2 h2 k q1 (by omega)); simp; done)
    | refine And.intro ?_ ?_

theorem spec_dDiagonal_calls (xs : List Int) (i : Nat) (h : Int) (v : Nat) (hi : i ≤ xs.length) (hx : xs.length ≤ 1048576) (hv : 4 ≤ v ∧ v ≤ 7) : ACalls Try.prog F.spec_dDiagonal [.pt (0, 0) [] 0, .int v] [((0, 0), cur xs i h)] false (DrawG xs v) := by
  have hal := allD_len hv
  refine ACalls.of_body (C := C.spec_dDiagonal) (n := Try.f73.ntmps) tabT folT Try.func73 rfl (by kernel_rfl) rfl (Nat.le_of_ble_eq_true rfl) (by decide) (by kernel_rfl) (by kernel_rfl) rfl (by simp) (by simp) ?_
  simp only [Try.f73]
  refine wseq ?_
  refine wreg fun K hK => ?_
  simp [C.spec_dDiagonal]
  refine hK _ ?_; clear hK K
  show AWp _ _ _ _ _
  refine wseq ?_
  refine wregI ([0, 1] ++ ([2])) rfl fun K hK => ?_
  refine opsI_seg fun L hL => ?_
  simp [C.spec_dDiagonal]
  refine wcall1 (spec_l5All_calls v ⟨hv.1, by omega⟩) (by simp) (by simp) ?_
  simp [C.spec_dDiagonal]
  refine hL _ ?_; clear hL L
  refine opsI_end fun L hL => ?_
  simp [C.spec_dDiagonal]
  refine hL _ ?_; clear hL L
  simp [C.spec_dDiagonal]
  refine hK _ ?_; clear hK K
  show AWp _ _ _ _ _
  refine wseq ?_
  refine wregI ([0, 1, 2, 3, 4] ++ ([5, 6, 7])) rfl fun K hK => ?_
  have hJ : ∀ (i2 : Nat) (h2 : Int) (d : Dg) (hi2 : i2 ≤ xs.length) (hd : d ∈ allD v), K ⟨ofL [(4, .pt (4, 0) [] 0), (1000, .pt (1000, 0) [] 0)], ofRO [((4, 0), some (.bx [D.int d.1, D.int d.2])), ((1000, 0), some (cur xs i2 h2))]⟩ := by
    intro i2 h2 d hi2 hd
    refine hK _ ?_; clear hK K
    show AWp _ _ _ _ _
    refine wret ?_
    simp [C.spec_dDiagonal]
    exact ⟨i2, h2, d, hi2, hd, by simp⟩
  clear hK
  simp [C.spec_dDiagonal]
  repeat' first
    | (refine wcall (spec_l1Below_calls xs i h (allD v).length hi hx (by omega)) (by simp) (by simp) (by simp) ?_; rintro outs res ⟨i2, h2, c2, q1, q2, rfl, rfl⟩; obtain ⟨k, rfl⟩ : ∃ k : Nat, c2 = k := ⟨c2.toNat, by omega⟩; obtain ⟨hk, hk0, hk1⟩ := dgm_at (allD v) (show k < (allD v).length by omega); simp [C.spec_dDiagonal, hk0, hk1, hk]; refine cast (congrArg K ?_) (hJ i2 h2 (allD v)[k] q1 (List.getElem_mem hk)); simp; done)
    | refine And.intro ?_ ?_

theorem spec_dSteps6_calls (xs : List Int) (i : Nat) (h : Int) (n : Nat) (hi : i ≤ xs.length) (hx : xs.length ≤ 1048576) (hn : 1 ≤ n ∧ n ≤ 5) : ACalls Try.prog F.spec_dSteps [.pt (0, 0) [] 0, .int n, .int 6] [((0, 0), cur xs i h)] false (DrawE xs (fun e => e.length ≤ 6 ∧ ∀ x ∈ e, 0 ≤ x ∧ x < n)) := by
  refine ACalls.of_body (C := C.spec_dSteps) (n := Try.f72.ntmps) tabT folT Try.func72 rfl (by kernel_rfl) rfl (Nat.le_of_ble_eq_true rfl) (by decide) (by kernel_rfl) (by kernel_rfl) rfl (by simp) (by simp) ?_
  simp only [Try.f72]
  refine wseq ?_
  refine wreg fun K hK => ?_
  simp [C.spec_dSteps]
  refine hK _ ?_; clear hK K
  show AWp _ _ _ _ _
  refine wseq ?_
  refine wreg fun K hK => ?_
  simp [C.spec_dSteps]
  refine hK _ ?_; clear hK K
  show AWp _ _ _ _ _
  refine wseq ?_
  refine wregI ([0, 1, 2, 3] ++ ([4])) rfl fun K hK => ?_
  refine opsI_seg fun L hL => ?_
  simp [C.spec_dSteps, wrapOk (x := (7 : Int)) (by omega) (by omega)]
  refine wcall (spec_l1Below_calls xs i h 7 hi hx (by omega)) (by simp) (by simp) (by simp) ?_
  rintro outs res ⟨i1, h1, c1, p1, q1, rfl, rfl⟩
  simp [C.spec_dSteps, wrapOk (x := (7 : Int)) (by omega) (by omega)]
  refine hL _ ?_; clear hL L
  refine opsI_end fun L hL => ?_
  simp [C.spec_dSteps, wrapOk (x := (7 : Int)) (by omega) (by omega)]
  refine hL _ ?_; clear hL L
  simp [C.spec_dSteps, wrapOk (x := (7 : Int)) (by omega) (by omega)]
  refine hK _ ?_; clear hK K
  show AWp _ _ _ _ _
  refine wseq ?_
  refine wseq ?_
  obtain ⟨cc, hcc⟩ : ∃ cc : Nat, c1 = cc := ⟨c1.toNat, by omega⟩
  rw [hcc]
  refine wreg fun K hK => ?_
  simp [C.spec_dSteps]
  refine hK _ ?_; clear hK K
  show AWp _ _ _ _ _
  refine wblock ?_
  refine wloop (fun x : Nat × List Int × Nat × Int => ⟨ofL [(0, .pt (0, 0) [] 0), (1, .int n), (7, .al (7, 0) [] 0 x.1), (8, .int cc), (9, .int x.1), (1000, .pt (0, 0) [] 0)], ofRO [((0, 0), some (cur xs x.2.2.1 x.2.2.2)), ((7, 0), some (.ow 1 x.1 (ints x.2.1)))]⟩) (fun x => x.1 ≤ cc ∧ x.2.1.length = x.1 ∧ (∀ y ∈ x.2.1, 0 ≤ y ∧ y < n) ∧ x.2.2.1 ≤ xs.length) (fun x => cc - x.1) (0, [], i1, h1) (by simp [C.spec_dSteps, ints]) ⟨by simp, rfl, by simp, p1⟩ ?_
  intro x1 hx1 R1 hR1
  obtain ⟨j, e, i2, h2⟩ := x1
  obtain ⟨g1, g2, g3, g4⟩ := hx1
  dsimp only at g1 g2 g3 g4 ⊢
  refine wseq ?_
  refine wseq ?_
  refine wreg fun K hK => ?_
  simp [C.spec_dSteps]
  refine hK _ ?_; clear hK K
  show AWp _ _ _ _ _
  refine wcond _ rfl (fun hc1 => ?_) (fun hc1 => ?_)
  · have hj : j < cc := by have := d_t hc1; omega
    refine wskip ?_
    show AWp _ _ _ _ _
    refine wseq ?_
    refine wblock ?_
    refine wregI ([0, 1, 2, 3] ++ ([4, 5, 6])) rfl fun K hK => ?_
    refine opsI_seg fun L hL => ?_
    simp [C.spec_dSteps, ints_snocA, show (j + 1) * 8 ≤ 140737488355328 by omega]
    refine wcall (spec_l1Below_calls xs i2 h2 n g4 hx (by omega)) (by simp) (by simp) (by simp) ?_
    rintro outs res ⟨i3, h3, c, p2, q2, rfl, rfl⟩
    simp [C.spec_dSteps, ints_snocA, show (j + 1) * 8 ≤ 140737488355328 by omega]
    refine hL _ ?_; clear hL L
    refine opsI_end fun L hL => ?_
    simp [C.spec_dSteps, ints_snocA, show (j + 1) * 8 ≤ 140737488355328 by omega]
    refine hL _ ?_; clear hL L
    simp [C.spec_dSteps, ints_snocA, show (j + 1) * 8 ≤ 140737488355328 by omega]
    refine hK _ ?_; clear hK K
    show AWp _ _ _ _ _
    refine wreg fun K hK => ?_
    simp [C.spec_dSteps, wrap_succ (show j < 4611686018427387904 by omega)]
    refine hK _ ?_; clear hK K
    simp [C.spec_dSteps]
    refine hR1 (j + 1, e ++ [c], i3, h3) ⟨hj, ?_, ?_, p2⟩ (by dsimp only; omega)
    · dsimp only
      simp [g2]
    · dsimp only
      intro y hy
      rcases List.mem_append.1 hy with hy | hy
      · exact g3 y hy
      · rw [List.mem_singleton] at hy
        subst hy
        exact q2
  · have hj : j = cc := by have := d_f hc1; omega
    refine wexit ?_
    show AWp _ _ _ _ _
    refine wseq ?_
    refine wreg fun K hK => ?_
    simp [C.spec_dSteps]
    refine hK _ ?_; clear hK K
    show AWp _ _ _ _ _
    refine wret ?_
    simp [C.spec_dSteps]
    exact ⟨i2, h2, e, g4, ⟨by omega, g3⟩, by simp, by simp [g2, owI]⟩

theorem spec_DrawFlips_calls (xs : List Int) (hx : xs.length ≤ 1048576) : ACalls Try.prog F.spec_DrawFlips [.d (.sh 1 xs.length (byts xs))] [] false DrawFl := by
  refine ACalls.of_body (C := C.spec_DrawFlips) (n := Try.f23.ntmps) tabT folT Try.func23 rfl (by kernel_rfl) rfl (Nat.le_of_ble_eq_true rfl) (by decide) (by kernel_rfl) (by kernel_rfl) rfl (by simp) (by simp) ?_
  simp only [Try.f23]
  refine wseq ?_
  refine wreg fun K hK => ?_
  simp [C.spec_DrawFlips]
  refine hK _ ?_; clear hK K
  show AWp _ _ _ _ _
  refine wseq ?_
  refine wregI ([0, 1] ++ ([2])) rfl fun K hK => ?_
  refine opsI_seg fun L hL => ?_
  simp [C.spec_DrawFlips]
  refine wcall (spec_l1New_calls xs hx) (by simp) (by simp) (by simp) ?_
  rintro outs res ⟨rfl, h0, rfl⟩
  simp [C.spec_DrawFlips]
  refine hL _ ?_; clear hL L
  refine opsI_end fun L hL => ?_
  simp [C.spec_DrawFlips]
  refine hL _ ?_; clear hL L
  simp [C.spec_DrawFlips]
  refine hK _ ?_; clear hK K
  show AWp _ _ _ _ _
  refine wseq ?_
  refine wregI ([0, 1] ++ ([2, 3, 4, 5, 6])) rfl fun K hK => ?_
  refine opsI_seg fun L hL => ?_
  simp [C.spec_DrawFlips]
  refine wcall (spec_dTriangulation_calls xs 0 h0 (by omega) hx) (by simp) (by simp) (by simp) ?_
  rintro outs res ⟨i1, h1, v, l, p1, hv, hT, rfl, rfl⟩
  simp [C.spec_DrawFlips]
  refine hL _ ?_; clear hL L
  refine opsI_end fun L hL => ?_
  simp [C.spec_DrawFlips]
  refine hL _ ?_; clear hL L
  simp [C.spec_DrawFlips]
  refine hK _ ?_; clear hK K
  show AWp _ _ _ _ _
  refine wseq ?_
  have hll := hT.len
  refine wregI ([0, 1, 2, 3, 4, 5] ++ ([6, 7, 8] ++ ([9, 10, 11, 12]))) rfl fun K hK => ?_
  refine opsI_seg fun L hL => ?_
  simp [C.spec_DrawFlips]
  refine wcall (spec_dSteps6_calls xs i1 h1 l.length p1 hx (by omega)) (by simp) (by simp) (by simp) ?_
  rintro outs res ⟨i2, h2, ks, p2, ⟨k1, k2⟩, rfl, rfl⟩
  simp [C.spec_DrawFlips]
  refine hL _ ?_; clear hL L
  refine opsI_seg fun L hL => ?_
  simp [C.spec_DrawFlips]
  refine wcall (spec_dDiagonal_calls xs i2 h2 v p2 hx hv) (by simp) (by simp) (by simp) ?_
  rintro outs res ⟨i3, h3, d, p3, hd, rfl, rfl⟩
  simp [C.spec_DrawFlips]
  refine hL _ ?_; clear hL L
  refine opsI_end fun L hL => ?_
  simp [C.spec_DrawFlips]
  refine hL _ ?_; clear hL L
  simp [C.spec_DrawFlips]
  refine hK _ ?_; clear hK K
  show AWp _ _ _ _ _
  refine wret ?_
  simp [C.spec_DrawFlips]
  exact ⟨v, l, ks, d, hv, hT, ⟨k1, k2⟩, hd, by simp [owI]⟩

end Go.Proofs.Ytfcgcgmleogamaa.Ab
namespace Go.Proofs.Ytfcgcgmleogamaa.Ab
open Go
set_option linter.unusedSimpArgs false
set_option linter.unusedVariables false
set_option maxRecDepth 10000
set_option maxHeartbeats 4000000
theorem iArc_calls (v : Int) (l : List DI) (d : DI) (hx : l.length < 4611686018427387904) : ACalls Try.prog F.impl_ArcLaurent [.int v, .d (.sh 2 l.length (rows gM l)), agD d] [] true (fun outs res => outs = [] ∧ res = [.ag (fO (arcF v l d).1), .one (D.bool (arcF v l d).2)]) := ((impl_ArcLaurent_calls v l d hx).mono fun outs res h => ⟨h.1, h.2.1⟩).weak1
theorem lnL_ok {v : Nat} {l : List Dg} (h : Tri v l) {a c : Nat} (hac : a ≠ c) (ha : a < v) (hc : c < v) : LenP v l a c (lnL v l a c) := by
  obtain ⟨f, hf⟩ := len_ex h _ a c (Nat.le_refl _) hac ha hc
  rw [lnL_eq h hf]
  exact hf
theorem isDg_of {v : Nat} {d : Dg} (hv : 4 ≤ v ∧ v ≤ 8) (h : d ∈ allD v) : IsDg v (dgI d) := by
  obtain ⟨a, b⟩ := d
  have := allD_mem.1 h
  unfold IsDg dgI
  dsimp only
  omega
theorem map_toN (l : List Dg) : (l.map dgI).map toN = l := by
  rw [List.map_map]
  have : (toN ∘ dgI) = id := by funext d; rfl
  rw [this, List.map_id]
theorem triI_of {v : Nat} {l : List Dg} (h : Tri v l) : TriI v (l.map dgI) := by
  have hv := h.vb
  refine ⟨by omega, by rw [List.length_map]; have := h.len; omega, fun d hd => ?_, ?_⟩
  · obtain ⟨x, hx, rfl⟩ := List.mem_map.1 hd
    exact isDg_of hv (h.mem x hx)
  · rw [List.pairwise_map]
    refine (List.Pairwise.and_mem.1 h.apart).imp fun {a b} hh => ?_
    obtain ⟨ha, hb, hne, hcr⟩ := hh
    rintro (⟨e1, e2⟩ | e)
    · apply hne
      unfold dgI at e1 e2
      dsimp only at e1 e2
      exact Prod.ext (by omega) (by omega)
    · have := (crI_toN (isDg_of hv (h.mem b hb)) (isDg_of hv (h.mem a ha))).1 e
      rw [toN_dgI, toN_dgI, crs_sym, hcr] at this
      exact absurd this (by simp)
theorem arcF_at {v : Nat} {l : List Dg} (h : Tri v l) {a b : Nat} (hd : (a, b) ∈ allD v) : arcF v (l.map dgI) (dgI (a, b)) = (lnL v l a b, true) := by
  unfold arcF
  rw [if_pos ⟨triI_of h, isDg_of h.vb hd⟩, map_toN]
  rfl
end Go.Proofs.Ytfcgcgmleogamaa.Ab
namespace Go.Proofs.Ytfcgcgmleogamaa.Ab
open Go
set_option linter.unusedSimpArgs false
set_option linter.unusedVariables false
set_option maxRecDepth 100000
set_option maxHeartbeats 4000000
def loN (a c : Nat) (f : Dg) : Nat := if crs (srt a c) f = true then 0 else if dgq (srt a c) f = true then 2 else 1
def minB (x y : Nat) : Nat := if Nat.ble x y = true then x else y
def chk3 (v : Nat) (F : List Dg) : Bool :=
  (List.range v).all fun a => (List.range v).all fun c => Nat.beq a c || F.all fun e => bimp (good v F a c e) (F.all fun f => Nat.beq (loN a c f + 1 + (if dgq f e = true then 1 else 0)) (minB (loN a e.1 f + loN c e.2 f) (loN a e.2 f + loN c e.1 f)))
theorem chk3_4 : enumC (chk3 4) (allD 4) [] 1 = true := by decide +kernel
theorem chk3_5 : enumC (chk3 5) (allD 5) [] 2 = true := by decide +kernel
theorem chk3_6 : enumC (chk3 6) (allD 6) [] 3 = true := by decide +kernel
theorem chk3_7 : enumC (chk3 7) (allD 7) [] 4 = true := by decide +kernel
theorem tri_3 {v : Nat} {l : List Dg} (h : Tri v l) (h7 : v ≤ 7) : chk3 v l = true := by
  have hn := allD_nodup h.vb.2
  obtain ⟨S, hS⟩ : ∃ S, S = (allD v).filter fun d => l.contains d := ⟨_, rfl⟩
  have hsub : S.Sublist (allD v) := by rw [hS]; exact List.filter_sublist
  have hp : S.Perm l := (List.perm_ext_iff_of_nodup (hsub.nodup hn) h.nodup).2 fun d => by
    rw [hS, List.mem_filter]
    simp only [List.contains_eq_mem, decide_eq_true_eq]
    exact ⟨fun h => h.2, fun hd => ⟨h.mem d hd, hd⟩⟩
  have hT := h.perm hp
  have hall : enumC (chk3 v) (allD v) [] (v - 3) = true := by
    have := h.vb
    obtain rfl | rfl | rfl | rfl : v = 4 ∨ v = 5 ∨ v = 6 ∨ v = 7 := by omega
    · exact chk3_4
    · exact chk3_5
    · exact chk3_6
    · exact chk3_7
  have := enumC_ok (chk3 v) (allD v) [] S (v - 3) hall hsub hT.len (hT.apart.imp fun h => h.2) (by simp)
  rw [List.append_nil] at this
  have hq := (List.reverse_perm S).trans hp
  unfold chk3 at this ⊢
  rw [good_perm hq] at this
  simp only [all_perm hq] at this
  exact this
/-- The least exponent of a variable in a sum. -/
def Low (L : LS) (i : Nat) (m : Int) : Prop := (∃ x ∈ L, x.1.getD i 0 = m) ∧ ∀ x ∈ L, m ≤ x.1.getD i 0
theorem Low.uniq {L : LS} {i : Nat} {m k : Int} (h : Low L i m) (h' : Low L i k) : m = k := by
  obtain ⟨x, hx, e⟩ := h.1
  obtain ⟨y, hy, e'⟩ := h'.1
  have := h.2 y hy
  have := h'.2 x hx
  omega
theorem low_ex {L : LS} (h : L ≠ []) (i : Nat) : ∃ m, Low L i m := by
  induction L with
  | nil => exact absurd rfl h
  | cons x L ih =>
    by_cases hL : L = []
    · subst hL
      exact ⟨x.1.getD i 0, ⟨x, by simp, rfl⟩, fun y hy => by rw [List.mem_singleton] at hy; rw [hy]; exact Int.le_refl _⟩
    · obtain ⟨m, ⟨y, hy, e⟩, h2⟩ := ih hL
      by_cases hm : m ≤ x.1.getD i 0
      · refine ⟨m, ⟨y, by simp [hy], e⟩, fun z hz => ?_⟩
        rcases List.mem_cons.1 hz with rfl | hz
        · exact hm
        · exact h2 z hz
      · refine ⟨x.1.getD i 0, ⟨x, by simp, rfl⟩, fun z hz => ?_⟩
        rcases List.mem_cons.1 hz with rfl | hz
        · exact Int.le_refl _
        · have := h2 z hz
          omega
theorem Low.app {a b : LS} {i : Nat} {m k : Int} (ha : Low a i m) (hb : Low b i k) : Low (a ++ b) i (min m k) := by
  obtain ⟨x, hx, e⟩ := ha.1
  obtain ⟨y, hy, e'⟩ := hb.1
  refine ⟨?_, fun z hz => ?_⟩
  · by_cases h : m ≤ k
    · exact ⟨x, by simp [hx], by rw [Int.min_eq_left h]; exact e⟩
    · exact ⟨y, by simp [hy], by rw [Int.min_eq_right (by omega)]; exact e'⟩
  · rcases List.mem_append.1 hz with hz | hz
    · have := ha.2 z hz
      omega
    · have := hb.2 z hz
      omega
theorem Low.prod {n E F : Nat} {a b : LS} {i : Nat} {m k : Int} (ea : ExB n E a) (eb : ExB n F b) (ha : Low a i m) (hb : Low b i k) : Low (prodL a b) i (m + k) := by
  have hg : ∀ x y : List Int, x.length = y.length → (addE 1 x y).getD i 0 = x.getD i 0 + y.getD i 0 := fun x y h => by
    have := getD_addE 1 i x y h
    omega
  obtain ⟨x, hx, e⟩ := ha.1
  obtain ⟨y, hy, e'⟩ := hb.1
  refine ⟨⟨(addE 1 x.1 y.1, x.2 * y.2), ?_, ?_⟩, fun z hz => ?_⟩
  · simp only [prodL, List.mem_flatMap, List.mem_map]
    exact ⟨x, hx, y, hy, rfl⟩
  · dsimp only
    rw [hg _ _ (by rw [(ea x hx).1, (eb y hy).1]), e, e']
  · simp only [prodL, List.mem_flatMap, List.mem_map] at hz
    obtain ⟨p, hp, q, hq, rfl⟩ := hz
    dsimp only
    rw [hg _ _ (by rw [(ea p hp).1, (eb q hq).1])]
    have := ha.2 p hp
    have := hb.2 q hq
    omega
theorem Low.nrm {a : LS} {i : Nat} {m : Int} (hp : PosL a) (ha : Low a i m) : Low (nf lexlt a) i m := by
  have hd := nf_desc lexOrd a
  obtain ⟨x, hx, e⟩ := ha.1
  refine ⟨?_, fun z hz => ?_⟩
  · have h1 := (co_pos hp.2 x.1).2 ⟨x, hx, rfl⟩
    rw [← nf_co (lt := lexlt)] at h1
    obtain ⟨y, hy, e2⟩ := co_mem (l := nf lexlt a) (k := x.1) (by omega)
    exact ⟨y, hy, by rw [e2]; exact e⟩
  · obtain ⟨y, hy, e2⟩ := nf_mem hz
    rw [← e2]
    exact ha.2 y hy
theorem shut_list {v : Int} {l : LS} {h : Lau} (e : shutF v l = (h, true)) : plist h = nf lexlt l := by
  unfold shutF at e
  split at e
  · injection e with e _
    rw [← e]
    simp only [plist, tm_pr]
  · simp at e
theorem mul_list {f g h : Lau} (e : mulF f g = (h, true)) : plist h = nf lexlt (prodL (plist f) (plist g)) := by
  unfold mulF at e
  split at e
  · exact shut_list e
  · simp at e
theorem add_list {f g h : Lau} (e : addF f 1 g = (h, true)) : plist h = nf lexlt (plist f ++ plist g) := by
  have e2 : g.ts.map (prk 1) = plist g := by
    unfold plist
    refine List.map_congr_left fun t _ => ?_
    simp [prk, pr]
  unfold addF at e
  split at e
  · have := shut_list e
    rw [e2] at this
    exact this
  · simp at e
def loI (v : Nat) (l : List Dg) (a c i : Nat) : Int := if crs (srt a c) (l.getD i (0, 0)) = true then -1 else if srt a c = l.getD i (0, 0) then 1 else 0
theorem loN_eq (a c : Nat) (f : Dg) : (loN a c f : Int) = (if crs (srt a c) f = true then (-1 : Int) else if srt a c = f then 1 else 0) + 1 := by
  unfold loN
  split
  · rfl
  · by_cases h : srt a c = f
    · rw [if_pos (dgq_eq.2 h), if_pos h]
      rfl
    · rw [if_neg (fun e => h (dgq_eq.1 e)), if_neg h]
      rfl
def LowP (l : List Dg) (v a c : Nat) (f : Lau) : Prop := ∀ i, i < l.length → Low (plist f) i (loI v l a c i)
theorem unit_get {n k i : Nat} (hi : i < n) : (unitL n k).getD i 0 = if k = i then 1 else 0 := by
  unfold unitL
  rw [List.getD_eq_getElem?_getD, List.getElem?_set]
  by_cases h : k = i
  · subst h
    simp [hi]
  · simp [h, hi]
theorem kn_no_cross {v : Nat} {l : List Dg} (h : Tri v l) {a c : Nat} (hac : a ≠ c) (ha : a < v) (hc : c < v) (hk : kn v l a c = true) {f : Dg} (hf : f ∈ l) : crs (srt a c) f = false := by
  unfold kn knD at hk
  rw [Bool.or_eq_true] at hk
  have hm := tri_mem h hf
  rcases hk with hk | hk
  · rw [Bool.eq_false_iff]
    intro hcr
    rw [crs_iff] at hcr
    have key : ∀ p q : Nat, p < q → q < v → sd v (p, q) = true → ¬ ((p < f.1 ∧ f.1 < q ∧ q < f.2) ∨ (f.1 < p ∧ p < f.2 ∧ f.2 < q)) := fun p q h1 h2 h3 => by
      simp only [sd, Bool.or_eq_true, Bool.and_eq_true] at h3
      rcases h3 with h3 | ⟨h3, h4⟩
      · have := Nat.eq_of_beq_eq_true h3
        omega
      · have := Nat.eq_of_beq_eq_true h3
        have := Nat.eq_of_beq_eq_true h4
        omega
    rcases Nat.lt_or_gt_of_ne hac with g | g
    · rw [srt_lt g] at hcr hk
      exact key a c g hc hk hcr
    · rw [srt_gt g] at hcr hk
      exact key c a g ha hk hcr
  · rw [List.any_eq_true] at hk
    obtain ⟨e, he, hq⟩ := hk
    rw [dgq_eq] at hq
    rw [hq]
    by_cases hef : e = f
    · subst hef
      rw [Bool.eq_false_iff]
      intro hcr
      rw [crs_iff] at hcr
      omega
    · have hps := h.apart
      obtain ⟨i, hi, hie⟩ := List.getElem_of_mem he
      obtain ⟨j, hj, hjf⟩ := List.getElem_of_mem hf
      rw [List.pairwise_iff_getElem] at hps
      rcases Nat.lt_trichotomy i j with g | g | g
      · rw [← hie, ← hjf]
        exact (hps i j hi hj g).2
      · subst g
        exact absurd (hie.symm.trans hjf) hef
      · rw [← hie, ← hjf, crs_sym]
        exact (hps j i hj hi g).2
/-- Least exponents along the way from triangle to triangle. -/
theorem low_all {v : Nat} {l : List Dg} (h : Tri v l) (h7 : v ≤ 7) : ∀ (n a c : Nat), cntD l a c ≤ n → a ≠ c → a < v → c < v → ∃ f, LenP v l a c f ∧ LowP l v a c f
  | n, a, c, hn, hac, ha, hc => by
    have hln := h.len
    cases hk : kn v l a c with
    | true =>
      have hnc := fun f hf => kn_no_cross h hac ha hc hk (f := f) hf
      have hk2 := hk
      unfold kn knD at hk
      rw [Bool.or_eq_true] at hk
      by_cases hs : sd v (srt a c) = true
      · refine ⟨_, len_side h hac ha hc hs, fun i hi => ?_⟩
        have hgm : l.getD i (0, 0) = l[i] := by simp [List.getD_eq_getElem?_getD, hi]
        have hlo : loI v l a c i = 0 := by
          unfold loI
          rw [hgm, hnc _ (List.getElem_mem hi), if_neg (by simp), if_neg]
          intro e
          rw [e, diag_not_side h (List.getElem_mem hi)] at hs
          exact absurd hs (by simp)
        rw [hlo]
        have : plist (oneF (v - 3)) = [(List.replicate (v - 3) 0, 1)] := rfl
        rw [this]
        have hg : (List.replicate (v - 3) (0 : Int)).getD i 0 = 0 := by
          rw [List.getD_eq_getElem?_getD, List.getElem?_replicate]
          split <;> rfl
        exact ⟨⟨_, List.mem_singleton.2 rfl, hg⟩, fun x hx => by rw [List.mem_singleton] at hx; rw [hx]; dsimp only; omega⟩
      · have hk := hk.resolve_left hs
        rw [List.any_eq_true] at hk
        obtain ⟨e, he, hq⟩ := hk
        rw [dgq_eq] at hq
        subst hq
        obtain ⟨k, hke⟩ := List.getElem?_of_mem he
        refine ⟨_, len_diag h hac ha hc hke, fun i hi => ?_⟩
        obtain ⟨hkl, hkd⟩ := List.getElem?_eq_some_iff.1 hke
        have hgm : l.getD i (0, 0) = l[i] := by simp [List.getD_eq_getElem?_getD, hi]
        have hlo : loI v l a c i = if k = i then 1 else 0 := by
          unfold loI
          rw [hgm, hnc _ (List.getElem_mem hi), if_neg (by simp)]
          by_cases e : k = i
          · subst e
            rw [if_pos hkd.symm, if_pos rfl]
          · rw [if_neg e, if_neg]
            intro e2
            have := List.nodup_iff_pairwise_ne.1 h.nodup
            rw [List.pairwise_iff_getElem] at this
            rcases Nat.lt_or_gt_of_ne e with g | g
            · exact this k i hkl hi g (by rw [hkd, e2])
            · exact this i k hi hkl g (by rw [hkd, e2])
        rw [hlo]
        have : plist (unitF (v - 3) k) = [(unitL (v - 3) k, 1)] := rfl
        rw [this]
        have hg := unit_get (n := v - 3) (k := k) (i := i) (by omega)
        exact ⟨⟨_, List.mem_singleton.2 rfl, hg⟩, fun x hx => by rw [List.mem_singleton] at hx; rw [hx]; dsimp only; omega⟩
    | false =>
      obtain ⟨⟨e, he, hg⟩, hall⟩ := tri_good h ha hc hac hk
      obtain ⟨⟨c1, c3⟩, c4, c2⟩ := hall e he hg
      have g1 : crs (srt a c) e = true := by
        simp only [good, Bool.and_eq_true] at hg
        exact hg.1
      have hm := tri_mem h he
      have hne : a ≠ e.1 ∧ a ≠ e.2 ∧ c ≠ e.1 ∧ c ≠ e.2 := by
        rw [crs_iff] at g1
        rcases Nat.lt_or_gt_of_ne hac with g | g <;> simp only [srt_lt, srt_gt, g] at g1 <;> omega
      match n with
      | 0 => omega
      | n + 1 =>
        obtain ⟨f1, h1, l1⟩ := low_all h h7 n a e.1 (by omega) hne.1 ha (by omega)
        obtain ⟨f2, h2, l2⟩ := low_all h h7 n c e.2 (by omega) hne.2.2.2 hc (by omega)
        obtain ⟨f3, h3, l3⟩ := low_all h h7 n a e.2 (by omega) hne.2.1 ha (by omega)
        obtain ⟨f4, h4, l4⟩ := low_all h h7 n c e.1 (by omega) hne.2.2.1 hc (by omega)
        obtain ⟨k, hk2⟩ := List.getElem?_of_mem he
        obtain ⟨P, R, S, Q, w1, w2, w3, w4, hQ, -⟩ := len_step h hac ha hc hk hk2 hg h1 h2 h3 h4
        refine ⟨Q, hQ, fun i hi => ?_⟩
        have q1 := Low.prod h1.lb.ex h2.lb.ex (l1 i hi) (l2 i hi)
        have q2 := Low.prod h3.lb.ex h4.lb.ex (l3 i hi) (l4 i hi)
        have pP := h1.pos.prod h2.pos
        have pR := h3.pos.prod h4.pos
        have qP := q1.nrm pP
        have qR := q2.nrm pR
        rw [← mul_list w1] at qP
        rw [← mul_list w2] at qR
        have ppP : PosL (plist P) := by rw [mul_list w1]; exact pP.nf
        have ppR : PosL (plist R) := by rw [mul_list w2]; exact pR.nf
        have qS := (qP.app qR).nrm (ppP.app ppR)
        rw [← add_list w3] at qS
        obtain ⟨-, -, w5⟩ := mul_div w4
        obtain ⟨m, hm0⟩ := low_ex hQ.pos.1 i
        have hun := lb_unit (k := k) (n_bd h)
        have hul : Low (plist (unitF (v - 3) k)) i (if k = i then 1 else 0) := by
          have : plist (unitF (v - 3) k) = [(unitL (v - 3) k, 1)] := rfl
          rw [this]
          have hg := unit_get (n := v - 3) (k := k) (i := i) (by omega)
          exact ⟨⟨_, List.mem_singleton.2 rfl, hg⟩, fun x hx => by rw [List.mem_singleton] at hx; rw [hx]; dsimp only; omega⟩
        have pU : PosL (plist (unitF (v - 3) k)) := by simp [PosL, plist, unitF, pr]
        have qQ := (Low.prod hQ.lb.ex hun.ex hm0 hul).nrm (hQ.pos.prod pU)
        rw [← mul_list w5] at qQ
        have hum := qQ.uniq qS
        have h3c := tri_3 h h7
        unfold chk3 at h3c
        rw [List.all_eq_true] at h3c
        have h3c := h3c a (List.mem_range.2 ha)
        rw [List.all_eq_true] at h3c
        have h3c := h3c c (List.mem_range.2 hc)
        rw [show Nat.beq a c = false from Bool.eq_false_iff.2 fun e => hac (Nat.eq_of_beq_eq_true e), Bool.false_or, List.all_eq_true] at h3c
        have h3c := bimp_eq.1 (h3c e he) hg
        rw [List.all_eq_true] at h3c
        have hgm : l.getD i (0, 0) = l[i] := by simp [List.getD_eq_getElem?_getD, hi]
        have h3c := Nat.eq_of_beq_eq_true (h3c l[i] (List.getElem_mem hi))
        obtain ⟨hkl, hkd⟩ := List.getElem?_eq_some_iff.1 hk2
        have hki : (dgq l[i] e = true) ↔ k = i := by
          rw [dgq_eq]
          constructor
          · intro e2
            have := List.nodup_iff_pairwise_ne.1 h.nodup
            rw [List.pairwise_iff_getElem] at this
            rcases Nat.lt_trichotomy k i with g | g | g
            · exact absurd (by rw [hkd, e2]) (this k i hkl hi g)
            · exact g
            · exact absurd (by rw [hkd, e2]) (this i k hi hkl g)
          · intro e2
            subst e2
            exact hkd
        have n0 := loN_eq a c l[i]
        have n1 := loN_eq a e.1 l[i]
        have n2 := loN_eq c e.2 l[i]
        have n3 := loN_eq a e.2 l[i]
        have n4 := loN_eq c e.1 l[i]
        unfold loI at hum ⊢
        rw [hgm] at hum ⊢
        rw [show (if crs (srt a c) l[i] = true then (-1 : Int) else if srt a c = l[i] then 1 else 0) = (loN a c l[i] : Int) - 1 by omega]
        rw [show (if crs (srt a e.1) l[i] = true then (-1 : Int) else if srt a e.1 = l[i] then 1 else 0) = (loN a e.1 l[i] : Int) - 1 by omega, show (if crs (srt c e.2) l[i] = true then (-1 : Int) else if srt c e.2 = l[i] then 1 else 0) = (loN c e.2 l[i] : Int) - 1 by omega, show (if crs (srt a e.2) l[i] = true then (-1 : Int) else if srt a e.2 = l[i] then 1 else 0) = (loN a e.2 l[i] : Int) - 1 by omega, show (if crs (srt c e.1) l[i] = true then (-1 : Int) else if srt c e.1 = l[i] then 1 else 0) = (loN c e.1 l[i] : Int) - 1 by omega] at hum
        have hmb : ∀ x y : Nat, minB x y = min x y := fun x y => by
          unfold minB
          by_cases hxy : x ≤ y
          · rw [if_pos (by simpa using hxy)]
            omega
          · rw [if_neg (by simpa using hxy)]
            omega
        rw [hmb] at h3c
        have hmm : m = (loN a c l[i] : Int) - 1 := by
          by_cases hkk : k = i
          · rw [if_pos hkk] at hum
            rw [if_pos (hki.2 hkk)] at h3c
            omega
          · rw [if_neg hkk] at hum
            rw [if_neg (fun q => hkk (hki.1 q))] at h3c
            omega
        rw [← hmm]
        exact hm0
theorem lnL_low {v : Nat} {l : List Dg} (h : Tri v l) (h7 : v ≤ 7) {a c : Nat} (hac : a ≠ c) (ha : a < v) (hc : c < v) : LowP l v a c (lnL v l a c) := by
  obtain ⟨f, hf, hl⟩ := low_all h h7 _ a c (Nat.le_refl _) hac ha hc
  rw [lnL_eq h hf]
  exact hl
end Go.Proofs.Ytfcgcgmleogamaa.Ab
namespace Go.Proofs.Ytfcgcgmleogamaa.Ab
open Go
set_option linter.unusedSimpArgs false
set_option linter.unusedVariables false
set_option maxRecDepth 10000
set_option maxHeartbeats 4000000
def crL (l : List Dg) (d : Dg) : List Int := l.map fun e => if crs d e = true then 1 else 0
def crsP (l : List Dg) (d : Dg) (i : Nat) : List Int := (l.take i).map fun e => if crs d e = true then 1 else 0
theorem crsP_snoc {l : List Dg} {d : Dg} {i : Nat} (h : i < l.length) : crsP l d (i + 1) = crsP l d i ++ [if crs d l[i] = true then 1 else 0] := by
  unfold crsP
  rw [List.take_succ_eq_append_getElem h, List.map_append]
  rfl
theorem impl_CrossingsOf_calls (v : Nat) (l : List Dg) (d : Dg) (hT : Tri v l) (hd : d ∈ allD v) : ACalls Try.prog F.impl_CrossingsOf [.int v, .d (.sh 2 l.length (rows gM (l.map dgI))), .ag [.int d.1, .int d.2]] [] true (fun outs res => outs = [] ∧ res = [.one (owI (crL l d))]) := by
  have hv := hT.vb
  have hll := hT.len
  have hit := impl_IsTriangulation_calls v (l.map dgI) (by rw [List.length_map]; omega)
  rw [decide_eq_true (triI_of hT)] at hit
  have hdg := isDg_of hv hd
  have hid := impl_IsDiagonal_calls v (dgI d)
  rw [decide_eq_true hdg] at hid
  simp only [agD, dgI, List.length_map] at hid hit
  refine ACalls.of_body (C := C.impl_CrossingsOf) (n := Try.f29.ntmps) tabT folT Try.func29 rfl (by kernel_rfl) rfl (Nat.le_of_ble_eq_true rfl) (by decide) (by kernel_rfl) (by kernel_rfl) rfl (by simp) (by simp) ?_
  simp only [Try.f29]
  refine wseq ?_
  refine wreg fun K hK => ?_
  simp [C.impl_CrossingsOf]
  refine hK _ ?_; clear hK K
  show AWp _ _ _ _ _
  refine wseq ?_
  refine wseq ?_
  refine wregI ([0, 1, 2] ++ ([3, 4, 5, 6, 7] ++ ([8, 9]))) rfl fun K hK => ?_
  refine opsI_seg fun L hL => ?_
  simp [C.impl_CrossingsOf]
  refine wcall1 (hit) (by simp) (by simp) ?_
  simp [C.impl_CrossingsOf]
  refine hL _ ?_; clear hL L
  refine opsI_seg fun L hL => ?_
  simp [C.impl_CrossingsOf]
  refine wcall1 (hid) (by simp) (by simp) ?_
  simp [C.impl_CrossingsOf]
  refine hL _ ?_; clear hL L
  refine opsI_end fun L hL => ?_
  simp [C.impl_CrossingsOf]
  refine hL _ ?_; clear hL L
  simp [C.impl_CrossingsOf]
  refine hK _ ?_; clear hK K
  show AWp _ _ _ _ _
  refine wcond _ rfl (fun hc1 => ?_) (fun hc1 => ?_)
  · simp at hc1
  · refine wskip ?_
    show AWp _ _ _ _ _
    refine wseq ?_
    refine wreg fun K hK => ?_
    simp [C.impl_CrossingsOf]
    refine hK _ ?_; clear hK K
    show AWp _ _ _ _ _
    refine wseq ?_
    refine wseq ?_
    refine wreg fun K hK => ?_
    simp [C.impl_CrossingsOf]
    refine hK _ ?_; clear hK K
    show AWp _ _ _ _ _
    refine wblock ?_
    refine wloopW (fun i : Nat => ⟨ofL [(0, .int v), (5, .pt (5, 0) [] 0), (7, .al (7, 0) [] 0 i), (20, .d (.sh 2 l.length (rows gM (l.map dgI)))), (21, .int l.length), (22, .int i)], ofRO [((5, 0), some (.bx [D.int d.1, D.int d.2])), ((7, 0), some (.ow 1 i (ints (crsP l d i))))]⟩) (fun i => i ≤ l.length) (fun i => l.length - i) 0 [.tmp 7 1] (by simp [C.impl_CrossingsOf, crsP, ints]; repeat' (first | refine ⟨?_, ?_⟩ | exact updHit _ _ _ _ | refine updCons (by decide) ?_ | exact rootNil _ _ _ | refine rootCons (by decide) ?_)) (by simp) ?_
    intro x1 hx1 R1 hR1
    refine wseq ?_
    refine wreg fun K hK => ?_
    simp [C.impl_CrossingsOf]
    refine hK _ ?_; clear hK K
    show AWp _ _ _ _ _
    refine wseq ?_
    refine wcond _ rfl (fun hc2 => ?_) (fun hc2 => ?_)
    · have h1 : x1 < l.length := by have := d_t hc2; simpa using this
      obtain ⟨_, hs0, hs1⟩ := dgm_at l h1
      have heg := isDg_of hv (hT.mem _ (List.getElem_mem h1))
      have hcx := impl_DiagonalsCross_calls v d.1 d.2 l[x1].1 l[x1].2
      have hcb : decide (IsDg (v : Int) ((d.1 : Int), (d.2 : Int)) ∧ IsDg v ((l[x1].1 : Int), (l[x1].2 : Int)) ∧ CrI ((d.1 : Int), (d.2 : Int)) ((l[x1].1 : Int), (l[x1].2 : Int))) = crs d l[x1] := by
        rw [Bool.eq_iff_iff, decide_eq_true_eq]
        have h2 := crI_toN hdg heg
        rw [toN_dgI, toN_dgI] at h2
        rw [← h2]
        exact ⟨fun h => h.2.2, fun h => ⟨hdg, heg, h⟩⟩
      rw [hcb] at hcx
      refine wskip ?_
      show AWp _ _ _ _ _
      refine wseq ?_
      refine wblock ?_
      refine wseq ?_
      refine wreg fun K hK => ?_
      simp [C.impl_CrossingsOf, hs0, hs1, h1]
      refine hK _ ?_; clear hK K
      show AWp _ _ _ _ _
      refine wseq ?_
      refine wregI ([0, 1, 2, 3] ++ ([])) rfl fun K hK => ?_
      refine opsI_seg fun L hL => ?_
      simp [C.impl_CrossingsOf]
      refine wcall1 (hcx) (by simp) (by simp) ?_
      simp [C.impl_CrossingsOf]
      refine hL _ ?_; clear hL L
      refine opsI_end fun L hL => ?_
      simp only [AOpsI]
      refine hL _ ?_; clear hL L
      simp [C.impl_CrossingsOf]
      refine hK _ ?_; clear hK K
      show AWp _ _ _ _ _
      refine wcond _ rfl (fun hc3 => ?_) (fun hc3 => ?_)
      · have hcr : crs d l[x1] = true := by simpa using hc3
        have hsn := crsP_snoc (d := d) h1
        rw [if_pos hcr] at hsn
        refine wreg fun K hK => ?_
        simp [C.impl_CrossingsOf, show (x1 + 1) * 8 ≤ 140737488355328 by omega, ints_snocA]
        refine hK _ ?_; clear hK K
        show AWp _ _ _ _ _
        refine wreg fun K hK => ?_
        simp [C.impl_CrossingsOf, wrap_succ (show x1 < 4611686018427387904 by omega)]
        refine hK _ ?_; clear hK K
        simp [C.impl_CrossingsOf]
        refine cast (congrArg R1 ?_) (hR1 (x1 + 1) h1 (by omega))
        rw [hsn]
        simp [ints]
      · have hcr : ¬ crs d l[x1] = true := by simpa using hc3
        have hsn := crsP_snoc (d := d) h1
        rw [if_neg hcr] at hsn
        refine wreg fun K hK => ?_
        simp [C.impl_CrossingsOf, show (x1 + 1) * 8 ≤ 140737488355328 by omega, ints_snocA]
        refine hK _ ?_; clear hK K
        show AWp _ _ _ _ _
        refine wreg fun K hK => ?_
        simp [C.impl_CrossingsOf, wrap_succ (show x1 < 4611686018427387904 by omega)]
        refine hK _ ?_; clear hK K
        simp [C.impl_CrossingsOf]
        refine cast (congrArg R1 ?_) (hR1 (x1 + 1) h1 (by omega))
        rw [hsn]
        simp [ints]
    · have h1 : x1 = l.length := by have := d_f hc2; simp at this; omega
      have hfin : crsP l d x1 = crL l d := by unfold crsP crL; rw [h1, List.take_length]
      refine wexit ?_
      show AWp _ _ _ _ _
      refine wseq ?_
      refine wreg fun K hK => ?_
      simp [C.impl_CrossingsOf]
      refine hK _ ?_; clear hK K
      show AWp _ _ _ _ _
      refine wret ?_
      simp [C.impl_CrossingsOf]
      rw [hfin]
      simp [owI, crL, h1]

theorem impl_IsPositiveP_calls (f : Lau) (hR : Right f) (hp : PosL (plist f)) : ACalls Try.prog F.impl_IsPositive [aF f] [] true (fun outs res => outs = [] ∧ res = [.one (D.bool true)]) := by
  have hsm := (small_right hR).sm'
  have hok := impl_LaurentOk_calls f hsm.1 hsm.2
  rw [decide_eq_true hR] at hok
  have hne : f.ts ≠ [] := fun e => hp.1 (by simp [plist, e])
  have hlen : (0 : Int) < f.ts.length := by have := List.length_pos_iff.2 hne; omega
  have hlen2 : 0 < f.ts.length := by omega
  have hcon := slices_ContainsFunc_impl_Term_impl_Term_calls f.ts F.impl_IsPositive_1 (fun t => decide (t.c < 0)) hsm.1 (by simp) (fun t _ => impl_IsPositive_1_calls t)
  have hany : (f.ts.any fun t => decide (t.c < 0)) = false := by
    rw [List.any_eq_false]
    intro t ht
    have h1 := hp.2 (pr t) (List.mem_map.2 ⟨t, ht, rfl⟩)
    simp only [pr] at h1
    simp
    omega
  rw [hany] at hcon
  refine ACalls.of_body (C := C.impl_IsPositive) (n := Try.f30.ntmps) tabT folT Try.func30 rfl (by kernel_rfl) rfl (Nat.le_of_ble_eq_true rfl) (by decide) (by kernel_rfl) (by kernel_rfl) rfl (by simp) (by simp) ?_
  simp only [Try.f30]
  refine wseq ?_
  refine wreg fun K hK => ?_
  simp [C.impl_IsPositive, fS]
  refine hK _ ?_; clear hK K
  show AWp _ _ _ _ _
  refine wseq ?_
  refine wregI ([0, 1] ++ ([2, 3, 4, 5, 6, 7, 8, 9, 10, 11] ++ ([12, 13, 14]))) rfl fun K hK => ?_
  have hJ : K ⟨ofL [(2, .bool true)], ofRO []⟩ := by
    refine hK _ ?_; clear hK K
    show AWp _ _ _ _ _
    refine wret ?_
    simp [C.impl_IsPositive, fS]
  clear hK
  simp [C.impl_IsPositive, fS, hlen, hlen2]
  repeat' first
    | (refine wcall1 (hok) ?_ (by simp) ?_; (focus (simp; done)); simp [C.impl_IsPositive, hlen, hlen2])
    | (refine wcall1 (hcon) ?_ (by simp) ?_; (focus (simp; done)); simp [C.impl_IsPositive])
    | (refine cast (congrArg K ?_) hJ; simp; done)
    | refine And.intro ?_ ?_

end Go.Proofs.Ytfcgcgmleogamaa.Ab
