/- Exponents as one number: the code is one to one, keeps the order, and goes with sums. No condition. -/
import Derived.Test.YtdgeponcnlkaiaaPlA
namespace Go.Proofs.Ytdgeponcnlkaiaa.Ab
open Go
set_option linter.unusedSimpArgs false
set_option linter.unusedVariables false
set_option linter.unusedSectionVars false

def keyA (k : Int) : List Int → Int
  | [] => k
  | x :: l => keyA (k * 128 + x + 64) l
def Dig (l : List Int) : Prop := ∀ x ∈ l, -64 ≤ x ∧ x ≤ 63
theorem Dig.tail {x : Int} {l : List Int} (h : Dig (x :: l)) : Dig l := fun y hy => h y (by simp [hy])
theorem Dig.head {x : Int} {l : List Int} (h : Dig (x :: l)) : -64 ≤ x ∧ x ≤ 63 := h x (by simp)
theorem keyA_append : ∀ (a b : List Int) (k : Int), keyA k (a ++ b) = keyA (keyA k a) b
  | [], b, k => rfl
  | x :: a, b, k => by simp [keyA, keyA_append a b]
theorem keyA_lt : ∀ (a b : List Int) (p q : Int), a.length = b.length → Dig a → Dig b → p < q → keyA p a < keyA q b
  | [], [], p, q, _, _, _, h => h
  | x :: a, y :: b, p, q, hl, ha, hb, h => by
    have h1 := ha.head
    have h2 := hb.head
    exact keyA_lt a b _ _ (by simpa using hl) ha.tail hb.tail (by omega)
  | [], _ :: _, _, _, h, _, _, _ => by simp at h
  | _ :: _, [], _, _, h, _, _, _ => by simp at h
theorem keyA_lex : ∀ (a b : List Int) (p : Int), a.length = b.length → Dig a → Dig b → lexlt a b = true → keyA p a < keyA p b
  | [], [], p, _, _, _, h => by simp [lexlt] at h
  | x :: a, y :: b, p, hl, ha, hb, h => by
    simp only [lexlt] at h
    have h1 := ha.head
    have h2 := hb.head
    split at h
    · rename_i e
      subst e
      exact keyA_lex a b _ (by simpa using hl) ha.tail hb.tail h
    · simp only [decide_eq_true_eq] at h
      exact keyA_lt a b _ _ (by simpa using hl) ha.tail hb.tail (by omega)
  | [], _ :: _, _, h, _, _, _ => by simp at h
  | _ :: _, [], _, h, _, _, _ => by simp at h
theorem keyA_inj {a b : List Int} {p : Int} (hl : a.length = b.length) (ha : Dig a) (hb : Dig b) (h : keyA p a = keyA p b) : a = b := by
  rcases lexlt_tot a b with h1 | h1 | h1
  · have := keyA_lex a b p hl ha hb h1
    omega
  · exact h1
  · have := keyA_lex b a p hl.symm hb ha h1
    omega
theorem keyA_lex_iff {a b : List Int} {p : Int} (hl : a.length = b.length) (ha : Dig a) (hb : Dig b) : lexlt a b = decide (keyA p a < keyA p b) := by
  rcases lexlt_tot a b with h1 | h1 | h1
  · have := keyA_lex a b p hl ha hb h1
    simp [h1, this]
  · subst h1
    simp [lexlt_irr]
  · have := keyA_lex b a p hl.symm hb ha h1
    have h2 : lexlt a b = false := by
      cases h3 : lexlt a b with
      | false => rfl
      | true =>
        have := lexlt_tr _ _ _ h1 h3
        rw [lexlt_irr] at this
        simp at this
    rw [h2]
    simp
    omega
theorem keyA_nonneg : ∀ (a : List Int) (p : Int), Dig a → 0 ≤ p → 0 ≤ keyA p a
  | [], p, _, h => h
  | x :: a, p, ha, h => keyA_nonneg a _ ha.tail (by have := ha.head; omega)
theorem keyA_bound : ∀ (a : List Int) (p B : Int), Dig a → 0 ≤ p → p < B → keyA p a < B * 128 ^ a.length
  | [], p, B, _, _, h => by simpa [keyA] using h
  | x :: a, p, B, ha, h0, h => by
    have h1 := ha.head
    have := keyA_bound a (p * 128 + x + 64) (B * 128) ha.tail (by omega) (by omega)
    rw [List.length_cons, Int.pow_succ, Int.mul_comm _ (128 : Int), ← Int.mul_assoc]
    exact this
theorem keyA_key {a : List Int} (ha : Dig a) (hl : a.length ≤ 8) : 0 ≤ keyA 0 a ∧ keyA 0 a < 72057594037927936 := by
  refine ⟨keyA_nonneg a 0 ha (by omega), ?_⟩
  have h := keyA_bound a 0 1 ha (by omega) (by omega)
  have h2 : (128 : Int) ^ a.length ≤ 128 ^ 8 := by
    have : (128 : Nat) ^ a.length ≤ 128 ^ 8 := Nat.pow_le_pow_right (by omega) hl
    exact_mod_cast this
  have h3 : (128 : Int) ^ 8 = 72057594037927936 := by decide
  omega
/-- Sums of exponents, the second ones taken k times. -/
def addE (k : Int) : List Int → List Int → List Int
  | x :: a, y :: b => (x + k * y) :: addE k a b
  | a, [] => a
  | [], _ => []
theorem addE_length (k : Int) : ∀ (a b : List Int), a.length = b.length → (addE k a b).length = a.length
  | [], [], _ => rfl
  | x :: a, y :: b, h => by simp [addE, addE_length k a b (by simpa using h)]
  | [], _ :: _, h => by simp at h
  | _ :: _, [], h => by simp at h
theorem addE_snoc (t x y : Int) : ∀ (a b : List Int), a.length = b.length → addE t (a ++ [x]) (b ++ [y]) = addE t a b ++ [x + t * y]
  | [], [], _ => rfl
  | u :: a, v :: b, h => by simp [addE, addE_snoc t x y a b (by simpa using h)]
  | [], _ :: _, h => by simp at h
  | _ :: _, [], h => by simp at h
theorem addE_get {t : Int} {as bs : List Int} {i : Nat} (h : i < as.length) (hl : as.length = bs.length) : (addE t (as.take i) (bs.take i) ++ as.drop i)[i]? = some as[i] := by
  have h1 : (addE t (as.take i) (bs.take i)).length = i := by
    rw [addE_length _ _ _ (by simp; omega)]
    simp
    omega
  rw [List.getElem?_append_right (by omega), h1, Nat.sub_self, List.drop_eq_getElem_cons h]
  rfl
theorem addE_step {t : Int} {as bs : List Int} {i : Nat} (h : i < as.length) (hl : as.length = bs.length) : (addE t (as.take i) (bs.take i) ++ as.drop i).set i (as[i] + t * bs[i]) = addE t (as.take (i + 1)) (bs.take (i + 1)) ++ as.drop (i + 1) := by
  have h1 : (addE t (as.take i) (bs.take i)).length = i := by
    rw [addE_length _ _ _ (by simp; omega)]
    simp
    omega
  rw [List.set_append_right _ _ (by omega), h1, Nat.sub_self, List.drop_eq_getElem_cons h, List.set_cons_zero, List.take_succ_eq_append_getElem h, List.take_succ_eq_append_getElem (show i < bs.length by omega), addE_snoc _ _ _ _ _ (by simp; omega), List.append_assoc]
  rfl
theorem keyA_add : ∀ (a b : List Int) (p q s : Int), a.length = b.length → keyA (p + q - s) (addE 1 a b) = keyA p a + keyA q b - keyA s (List.replicate a.length 0)
  | [], [], p, q, s, _ => rfl
  | x :: a, y :: b, p, q, s, h => by
    simp only [addE, keyA, List.length_cons, List.replicate_succ]
    rw [← keyA_add a b _ _ _ (by simpa using h)]
    congr 1
    omega
  | [], _ :: _, _, _, _, h => by simp at h
  | _ :: _, [], _, _, _, h => by simp at h
theorem keyA_dec {a : List Int} {x p : Int} (ha : Dig a) (hx : -64 ≤ x ∧ x ≤ 63) (hp : 0 ≤ p) : (keyA p (a ++ [x])).tmod 128 - 64 = x ∧ (keyA p (a ++ [x])).tdiv 128 = keyA p a := by
  have h := keyA_nonneg a p ha hp
  rw [keyA_append]
  simp only [keyA]
  rw [Int.tmod_eq_emod_of_nonneg (by omega), Int.tdiv_eq_ediv_of_nonneg (by omega)]
  omega

end Go.Proofs.Ytdgeponcnlkaiaa.Ab
