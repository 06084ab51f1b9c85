/- Sums that are right; their coded terms; what products and sums come to. No condition. -/
import Derived.Test.YtdgeponcnlkaiaaPlB
import Derived.Test.YtdgeponcnlkaiaaFnA
namespace Go.Proofs.Ytdgeponcnlkaiaa.Ab
open Go
set_option linter.unusedSimpArgs false
set_option linter.unusedVariables false
set_option linter.unusedSectionVars false

def Good (v : Int) (t : Trm) : Prop := (t.e.length : Int) = v ∧ t.c ≠ 0 ∧ (-1000000 ≤ t.c ∧ t.c ≤ 1000000) ∧ ∀ x ∈ t.e, -20 ≤ x ∧ x ≤ 20
def DescT (ts : List Trm) : Prop := ts.Pairwise fun a b => lexlt b.e a.e = true
def Right (f : Lau) : Prop := (1 ≤ f.v ∧ f.v ≤ 8) ∧ f.ts.length ≤ 600 ∧ (∀ t ∈ f.ts, Good f.v t) ∧ DescT f.ts
noncomputable instance (f : Lau) : Decidable (Right f) := Classical.propDecidable _
def zeroF : Lau := ⟨0, []⟩

theorem descT_snoc {ts : List Trm} {t : Trm} (h : DescT ts) (hl : ∀ x, ts.getLast? = some x → lexlt t.e x.e = true) : DescT (ts ++ [t]) := by
  unfold DescT at *
  rw [List.pairwise_append]
  refine ⟨h, List.pairwise_singleton _ _, fun a ha b hb => ?_⟩
  simp only [List.mem_singleton] at hb
  subst hb
  rcases List.eq_nil_or_concat ts with rfl | ⟨l, x, rfl⟩
  · simp at ha
  · have hx := hl x (by simp)
    simp only [List.concat_eq_append, List.mem_append, List.mem_singleton] at ha
    rcases ha with ha | rfl
    · simp only [List.concat_eq_append] at h
      rw [List.pairwise_append] at h
      exact lexlt_tr _ _ _ hx (h.2.2 a ha x (by simp))
    · exact hx
theorem descT_step {ts : List Trm} {j : Nat} (h1 : j < ts.length) (h : DescT (ts.take j)) (hl : j = 0 ∨ lexlt ts[j].e ts[j - 1].e = true) : DescT (ts.take (j + 1)) := by
  rw [List.take_succ_eq_append_getElem h1]
  refine descT_snoc h fun x hx => ?_
  rcases hl with rfl | hl
  · simp at hx
  · rcases Nat.eq_zero_or_pos j with rfl | hj
    · simp at hx
    · have : (ts.take j).getLast? = some ts[j - 1] := by
        rw [List.getLast?_eq_getElem?, List.length_take, Nat.min_eq_left (Nat.le_of_lt h1), List.getElem?_take_of_lt (by omega), List.getElem?_eq_getElem (by omega)]
      rw [this] at hx
      injection hx with hx
      subst hx
      exact hl
theorem descT_next {ts : List Trm} {j : Nat} (h1 : j < ts.length) (h : DescT ts) : j = 0 ∨ lexlt ts[j].e ts[j - 1].e = true := by
  rcases Nat.eq_zero_or_pos j with rfl | hj
  · exact .inl rfl
  · right
    exact List.pairwise_iff_getElem.1 h (j - 1) j (by omega) h1 (by omega)

/-! ### Coded terms -/
def gM (x : Int × Int) : List D := [D.int x.1, D.int x.2]
theorem gM_two (x : Int × Int) : (gM x).length = 2 := rfl
@[simp] theorem gM_length (l : List (Int × Int)) : (rows gM l).length = 2 * l.length := rows_length gM_two l
theorem gM_leaf : ∀ l : List (Int × Int), leafL (rows gM l)
  | [] => trivial
  | x :: l => ⟨rfl, rfl, gM_leaf l⟩
theorem gM_noSh (l : List (Int × Int)) : noShL (rows gM l) := rows_noSh (fun t => by simp [gM, noShL, noSh]) l
theorem gM_share : ∀ l : List (Int × Int), shareL (rows gM l) = rows gM l
  | [] => rfl
  | x :: l => by simp [rows, gM, shareL, share, gM_share l]
attribute [simp] gM_leaf gM_noSh gM_share
theorem gM_snoc (l : List (Int × Int)) (k c : Int) : rows gM l ++ [D.v (.int .i64 k), D.v (.int .i64 c)] = rows gM (l ++ [(k, c)]) := by
  rw [rows_append]
  rfl
section
variable {l : List (Int × Int)} {i : Nat}
theorem gM_0 (h : i < l.length) : (rows gM l)[2 * i]? = some (D.int l[i].1) ∧ ∀ h', (rows gM l)[2 * i]'h' = D.int l[i].1 := twice (rows_get gM_two l i 0 h (by omega))
theorem gM_1 (h : i < l.length) : (rows gM l)[2 * i + 1]? = some (D.int l[i].2) ∧ ∀ h', (rows gM l)[2 * i + 1]'h' = D.int l[i].2 := twice (rows_get gM_two l i 1 h (by omega))
theorem gM_set1 (h : i < l.length) (x : Int) : (rows gM l).set (2 * i + 1) (.v (.int .i64 x)) = rows gM (l.set i (l[i].1, x)) := rows_set gM_two l i 1 _ _ h (by omega) rfl
end
def ilt (a b : Int) : Bool := decide (a < b)
theorem ilt_ord : Ord ilt := ⟨fun a => by simp [ilt], fun a b c h1 h2 => by simp [ilt] at *; omega, fun a b => by simp only [ilt, decide_eq_true_eq]; omega⟩

/-- Exponents of a length, of few digits. -/
def Exps (n : Nat) (l : List (List Int × Int)) : Prop := ∀ x ∈ l, x.1.length = n ∧ Dig x.1
def kc (x : List Int × Int) : Int × Int := (keyA 0 x.1, x.2)
def tm (x : List Int × Int) : Trm := ⟨x.1, x.2⟩
def pr (t : Trm) : List Int × Int := (t.e, t.c)
theorem insK_key {n : Nat} (k : List Int) (c : Int) (hk : k.length = n ∧ Dig k) : ∀ (l : List (List Int × Int)), Exps n l → insK ilt (keyA 0 k) c (l.map kc) = (insK lexlt k c l).map kc
  | [], _ => by
    simp only [insK, List.map_nil]
    split <;> simp [kc]
  | x :: l, h => by
    have hx := h x (by simp)
    have hl : Exps n l := fun y hy => h y (by simp [hy])
    simp only [insK, List.map_cons]
    have e1 : ((kc x).1 = keyA 0 k) ↔ (x.1 = k) := ⟨fun e => keyA_inj (hx.1.trans hk.1.symm) hx.2 hk.2 e, fun e => by simp [kc, e]⟩
    have e2 : ilt (kc x).1 (keyA 0 k) = lexlt x.1 k := (keyA_lex_iff (hx.1.trans hk.1.symm) hx.2 hk.2).symm
    by_cases q : x.1 = k
    · rw [if_pos (e1.2 q), if_pos q]
      show (if x.2 + c = 0 then _ else _) = _
      split <;> simp [kc]
    · rw [if_neg (fun e => q (e1.1 e)), if_neg q, e2]
      split
      · split <;> simp [kc]
      · rw [insK_key k c hk l hl, List.map_cons]
theorem nf_exps {n : Nat} {l : List (List Int × Int)} (h : Exps n l) : Exps n (nf lexlt l) := fun y hy => by
  obtain ⟨x, hx, e⟩ := nf_mem hy
  rw [← e]
  exact h x hx
theorem nf_key {n : Nat} : ∀ (l : List (List Int × Int)), Exps n l → nf ilt (l.map kc) = (nf lexlt l).map kc
  | [], _ => rfl
  | x :: l, h => by
    have hl : Exps n l := fun y hy => h y (by simp [hy])
    simp only [nf, List.map_cons]
    rw [nf_key l hl]
    exact insK_key x.1 x.2 (h x (by simp)) _ (nf_exps hl)

/-- What gathered terms come to: the sum, if it is right. -/
noncomputable def shutF (v : Int) (l : List (List Int × Int)) : Lau × Bool := if Right ⟨v, (nf lexlt l).map tm⟩ then (⟨v, (nf lexlt l).map tm⟩, true) else (zeroF, false)
def prodL (a b : List (List Int × Int)) : List (List Int × Int) := a.flatMap fun x => b.map fun y => (addE 1 x.1 y.1, x.2 * y.2)
noncomputable def mulF (f g : Lau) : Lau × Bool := if Right f ∧ Right g ∧ f.v = g.v then shutF f.v (prodL (f.ts.map pr) (g.ts.map pr)) else (zeroF, false)
theorem shutF_right (v : Int) (l : List (List Int × Int)) : Right (shutF v l).1 ∨ (shutF v l) = (zeroF, false) := by
  unfold shutF
  split
  · exact .inl (by assumption)
  · exact .inr rfl
theorem mulF_right (f g : Lau) : Right (mulF f g).1 ∨ mulF f g = (zeroF, false) := by
  unfold mulF
  split
  · exact shutF_right _ _
  · exact .inr rfl

end Go.Proofs.Ytdgeponcnlkaiaa.Ab
