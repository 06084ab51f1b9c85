/- Sums as lists of keys with numbers: the descending list without zeros is told by the sum that belongs to each key. No condition. -/
import Derived.Test.YtdgeponcnlkaiaaAcI
namespace Go.Proofs.Ytdgeponcnlkaiaa.Ab
open Go
set_option linter.unusedSimpArgs false
set_option linter.unusedVariables false
set_option linter.unusedSectionVars false

section
variable {K : Type} [DecidableEq K]

/-- What belongs to a key. -/
def co (k : K) : List (K × Int) → Int
  | [] => 0
  | x :: l => (if x.1 = k then x.2 else 0) + co k l
theorem co_append (k : K) : ∀ (l r : List (K × Int)), co k (l ++ r) = co k l + co k r
  | [], r => by simp [co]
  | x :: l, r => by simp [co, co_append k l r, Int.add_assoc]
theorem co_none (k : K) : ∀ (l : List (K × Int)), (∀ x ∈ l, x.1 ≠ k) → co k l = 0
  | [], _ => rfl
  | x :: l, h => by
    simp only [co]
    rw [if_neg (h x (by simp)), co_none k l fun y hy => h y (by simp [hy])]
    rfl
theorem co_perm (k : K) {l r : List (K × Int)} (h : l.Perm r) : co k l = co k r := by
  induction h with
  | nil => rfl
  | cons x _ ih => simp [co, ih]
  | swap x y l => simp only [co]; omega
  | trans _ _ ih1 ih2 => rw [ih1, ih2]
theorem co_mem {k : K} : ∀ {l : List (K × Int)}, co k l ≠ 0 → ∃ x ∈ l, x.1 = k
  | [], h => absurd rfl h
  | x :: l, h => by
    simp only [co] at h
    by_cases e : x.1 = k
    · exact ⟨x, by simp, e⟩
    · rw [if_neg e] at h
      obtain ⟨y, hy, e2⟩ := co_mem (k := k) (l := l) (by omega)
      exact ⟨y, by simp [hy], e2⟩

/-- A strict order. -/
structure Ord (lt : K → K → Bool) : Prop where
  irr : ∀ a, lt a a = false
  tr : ∀ a b c, lt a b = true → lt b c = true → lt a c = true
  tot : ∀ a b, lt a b = true ∨ a = b ∨ lt b a = true

variable {lt : K → K → Bool}
def Desc (lt : K → K → Bool) (l : List (K × Int)) : Prop := l.Pairwise fun a b => lt b.1 a.1 = true
def Nz (l : List (K × Int)) : Prop := ∀ x ∈ l, x.2 ≠ 0

theorem desc_tail_ne (ho : Ord lt) {x : K × Int} {l : List (K × Int)} (h : Desc lt (x :: l)) : ∀ y ∈ l, y.1 ≠ x.1 := by
  intro y hy e
  have := (List.pairwise_cons.1 h).1 y hy
  rw [e, ho.irr] at this
  simp at this
theorem desc_above (ho : Ord lt) {x : K × Int} {l : List (K × Int)} (h : Desc lt (x :: l)) {k : K} (hk : lt x.1 k = true) : ∀ y ∈ x :: l, y.1 ≠ k := by
  intro y hy e
  rcases List.mem_cons.1 hy with rfl | hy
  · rw [e, ho.irr] at hk
    simp at hk
  · have := ho.tr _ _ _ ((List.pairwise_cons.1 h).1 y hy) hk
    rw [e, ho.irr] at this
    simp at this

/-- **Descending sums are told by what belongs to each key.** -/
theorem desc_unique (ho : Ord lt) : ∀ (l r : List (K × Int)), Desc lt l → Desc lt r → Nz l → Nz r → (∀ k, co k l = co k r) → l = r
  | [], [], _, _, _, _, _ => rfl
  | [], y :: r, _, h2, _, z2, h => by
    have := h y.1
    simp only [co, if_true] at this
    rw [co_none y.1 r (desc_tail_ne ho h2)] at this
    exact absurd (by omega) (z2 y (by simp))
  | x :: l, [], h1, _, z1, _, h => by
    have := h x.1
    simp only [co, if_true] at this
    rw [co_none x.1 l (desc_tail_ne ho h1)] at this
    exact absurd (by omega) (z1 x (by simp))
  | x :: l, y :: r, h1, h2, z1, z2, h => by
    rcases ho.tot x.1 y.1 with e | e | e
    · have := h y.1
      rw [co_none y.1 _ (desc_above ho h1 e)] at this
      simp only [co, if_true] at this
      rw [co_none y.1 r (desc_tail_ne ho h2)] at this
      exact absurd (by omega) (z2 y (by simp))
    · have e2 : x.2 = y.2 := by
        have := h x.1
        simp only [co, if_true] at this
        rw [if_pos e.symm, co_none x.1 l (desc_tail_ne ho h1), e, co_none y.1 r (desc_tail_ne ho h2)] at this
        omega
      have exy : x = y := Prod.ext e e2
      subst exy
      congr 1
      refine desc_unique ho l r (List.pairwise_cons.1 h1).2 (List.pairwise_cons.1 h2).2 (fun z hz => z1 z (by simp [hz])) (fun z hz => z2 z (by simp [hz])) fun k => ?_
      have := h k
      simp only [co] at this
      omega
    · have := h x.1
      rw [co_none x.1 (y :: r) (desc_above ho h2 e)] at this
      simp only [co, if_true] at this
      rw [co_none x.1 l (desc_tail_ne ho h1)] at this
      exact absurd (by omega) (z1 x (by simp))

/-! ### The descending list of a sum -/
def insK (lt : K → K → Bool) (k : K) (c : Int) : List (K × Int) → List (K × Int)
  | [] => if c = 0 then [] else [(k, c)]
  | x :: l => if x.1 = k then (if x.2 + c = 0 then l else (k, x.2 + c) :: l) else if lt x.1 k then (if c = 0 then x :: l else (k, c) :: x :: l) else x :: insK lt k c l
def nf (lt : K → K → Bool) : List (K × Int) → List (K × Int)
  | [] => []
  | x :: l => insK lt x.1 x.2 (nf lt l)

theorem insK_mem {k : K} {c : Int} : ∀ {l : List (K × Int)} {y : K × Int}, y ∈ insK lt k c l → y.1 = k ∨ y ∈ l
  | [], y, h => by
    simp only [insK] at h
    split at h
    · simp at h
    · simp only [List.mem_singleton] at h
      subst h
      exact .inl rfl
  | x :: l, y, h => by
    simp only [insK] at h
    split at h
    · split at h
      · exact .inr (by simp [h])
      · rcases List.mem_cons.1 h with rfl | h
        · exact .inl rfl
        · exact .inr (by simp [h])
    · split at h
      · split at h
        · exact .inr h
        · rcases List.mem_cons.1 h with rfl | h
          · exact .inl rfl
          · exact .inr h
      · rcases List.mem_cons.1 h with rfl | h
        · exact .inr (by simp)
        · rcases insK_mem h with h | h
          · exact .inl h
          · exact .inr (by simp [h])
theorem insK_desc (ho : Ord lt) (k : K) (c : Int) : ∀ (l : List (K × Int)), Desc lt l → Desc lt (insK lt k c l)
  | [], _ => by
    simp only [insK]
    split
    · exact List.Pairwise.nil
    · exact List.pairwise_singleton _ _
  | x :: l, h => by
    have h1 := List.pairwise_cons.1 h
    simp only [insK]
    split
    · rename_i e
      split
      · exact h1.2
      · exact List.pairwise_cons.2 ⟨fun y hy => by rw [← e]; exact h1.1 y hy, h1.2⟩
    · rename_i e
      split
      · rename_i e2
        split
        · exact h
        · refine List.pairwise_cons.2 ⟨fun y hy => ?_, h⟩
          rcases List.mem_cons.1 hy with rfl | hy
          · exact e2
          · exact ho.tr _ _ _ (h1.1 y hy) e2
      · rename_i e2
        refine List.pairwise_cons.2 ⟨fun y hy => ?_, insK_desc ho k c l h1.2⟩
        rcases insK_mem hy with hy | hy
        · rw [hy]
          rcases ho.tot k x.1 with q | q | q
          · exact q
          · exact absurd q.symm e
          · exact absurd q e2
        · exact h1.1 y hy
theorem insK_nz (k : K) (c : Int) : ∀ (l : List (K × Int)), Nz l → Nz (insK lt k c l)
  | [], _ => by
    simp only [insK]
    split
    · intro y hy; simp at hy
    · rename_i hc
      intro y hy
      simp only [List.mem_singleton] at hy
      subst hy
      exact hc
  | x :: l, h => by
    have h1 : Nz l := fun z hz => h z (by simp [hz])
    simp only [insK]
    split
    · split
      · exact h1
      · rename_i hc
        intro y hy
        rcases List.mem_cons.1 hy with rfl | hy
        · exact hc
        · exact h1 y hy
    · split
      · split
        · exact h
        · rename_i hc
          intro y hy
          rcases List.mem_cons.1 hy with rfl | hy
          · exact hc
          · exact h y hy
      · intro y hy
        rcases List.mem_cons.1 hy with rfl | hy
        · exact h y (by simp)
        · exact insK_nz k c l h1 y hy
theorem insK_co (k : K) (c : Int) (q : K) : ∀ (l : List (K × Int)), co q (insK lt k c l) = (if k = q then c else 0) + co q l
  | [] => by
    simp only [insK]
    split
    · rename_i e
      subst e
      simp [co]
    · simp [co]
  | x :: l => by
    simp only [insK]
    split
    · rename_i e
      split
      · rename_i e2
        simp only [co, e]
        split <;> omega
      · simp only [co, e]
        split <;> omega
    · split
      · split
        · rename_i e
          subst e
          simp
        · simp only [co]
      · simp only [co, insK_co k c q l]
        omega
theorem nf_desc (ho : Ord lt) : ∀ (l : List (K × Int)), Desc lt (nf lt l)
  | [] => List.Pairwise.nil
  | x :: l => insK_desc ho _ _ _ (nf_desc ho l)
theorem nf_nz : ∀ (l : List (K × Int)), Nz (nf lt l)
  | [] => by intro y hy; simp [nf] at hy
  | x :: l => insK_nz _ _ _ (nf_nz l)
theorem nf_co (q : K) : ∀ (l : List (K × Int)), co q (nf lt l) = co q l
  | [] => rfl
  | x :: l => by
    simp only [nf, insK_co, nf_co q l, co]
theorem nf_mem : ∀ {l : List (K × Int)} {y : K × Int}, y ∈ nf lt l → ∃ x ∈ l, x.1 = y.1
  | [], y, h => by simp [nf] at h
  | x :: l, y, h => by
    rcases insK_mem h with h | h
    · exact ⟨x, by simp, h.symm⟩
    · obtain ⟨z, hz, e⟩ := nf_mem h
      exact ⟨z, by simp [hz], e⟩
/-- **The descending list with these sums is the normal form.** -/
theorem nf_unique (ho : Ord lt) {t l : List (K × Int)} (h1 : Desc lt t) (h2 : Nz t) (h3 : ∀ k, co k t = co k l) : t = nf lt l :=
  desc_unique ho t (nf lt l) h1 (nf_desc ho l) h2 (nf_nz l) fun k => by rw [h3 k, nf_co]
end

/-! ### Lists of numbers in the order of words -/
def lexlt : List Int → List Int → Bool
  | [], [] => false
  | [], _ :: _ => true
  | _ :: _, [] => false
  | a :: x, b :: y => if a = b then lexlt x y else decide (a < b)
theorem lexlt_irr : ∀ a, lexlt a a = false
  | [] => rfl
  | a :: x => by simp [lexlt, lexlt_irr x]
theorem lexlt_tr : ∀ a b c, lexlt a b = true → lexlt b c = true → lexlt a c = true
  | [], [], _, h, _ => by simp [lexlt] at h
  | [], _ :: _, [], _, h => by simp [lexlt] at h
  | [], _ :: _, _ :: _, _, _ => rfl
  | _ :: _, [], _, h, _ => by simp [lexlt] at h
  | _ :: _, _ :: _, [], _, h => by simp [lexlt] at h
  | a :: x, b :: y, c :: z, h1, h2 => by
    simp only [lexlt] at h1 h2 ⊢
    by_cases e1 : a = b
    · subst e1
      rw [if_pos rfl] at h1
      by_cases e2 : a = c
      · subst e2
        rw [if_pos rfl] at h2 ⊢
        exact lexlt_tr x y z h1 h2
      · rw [if_neg e2] at h2 ⊢
        exact h2
    · rw [if_neg e1] at h1
      by_cases e2 : b = c
      · subst e2
        rw [if_neg e1]
        exact h1
      · rw [if_neg e2] at h2
        simp only [decide_eq_true_eq] at h1 h2
        rw [if_neg (by omega)]
        simp only [decide_eq_true_eq]
        omega
theorem lexlt_tot : ∀ a b, lexlt a b = true ∨ a = b ∨ lexlt b a = true
  | [], [] => .inr (.inl rfl)
  | [], _ :: _ => .inl rfl
  | _ :: _, [] => .inr (.inr rfl)
  | a :: x, b :: y => by
    simp only [lexlt]
    by_cases e : a = b
    · subst e
      simp only [if_true]
      rcases lexlt_tot x y with h | h | h
      · exact .inl h
      · exact .inr (.inl (by rw [h]))
      · exact .inr (.inr h)
    · rw [if_neg e, if_neg (Ne.symm e)]
      simp only [decide_eq_true_eq]
      omega
theorem lexOrd : Ord lexlt := ⟨lexlt_irr, lexlt_tr, lexlt_tot⟩
/-- The order of quantum terms: exponents first, then the power. -/
def qlt (a b : List Int × Int) : Bool := if a.1 = b.1 then decide (a.2 < b.2) else lexlt a.1 b.1
theorem qOrd : Ord qlt := by
  refine ⟨fun a => by simp [qlt], fun a b c h1 h2 => ?_, fun a b => ?_⟩
  · simp only [qlt] at h1 h2 ⊢
    by_cases e1 : a.1 = b.1
    · by_cases e2 : b.1 = c.1
      · rw [if_pos e1] at h1
        rw [if_pos e2] at h2
        rw [if_pos (e1.trans e2)]
        simp only [decide_eq_true_eq] at h1 h2 ⊢
        omega
      · rw [if_neg e2] at h2
        rw [e1, if_neg e2]
        exact h2
    · rw [if_neg e1] at h1
      by_cases e2 : b.1 = c.1
      · rw [← e2, if_neg e1]
        exact h1
      · rw [if_neg e2] at h2
        have := lexlt_tr _ _ _ h1 h2
        rw [if_neg (fun e => by rw [e, lexlt_irr] at this; simp at this)]
        exact this
  · simp only [qlt]
    by_cases e : a.1 = b.1
    · rw [if_pos e, if_pos e.symm]
      simp only [decide_eq_true_eq]
      rcases Int.lt_trichotomy a.2 b.2 with h | h | h
      · exact .inl h
      · exact .inr (.inl (Prod.ext e h))
      · exact .inr (.inr h)
    · rw [if_neg e, if_neg (Ne.symm e)]
      rcases lexlt_tot a.1 b.1 with h | h | h
      · exact .inl h
      · exact absurd h e
      · exact .inr (.inr h)

end Go.Proofs.Ytdgeponcnlkaiaa.Ab
