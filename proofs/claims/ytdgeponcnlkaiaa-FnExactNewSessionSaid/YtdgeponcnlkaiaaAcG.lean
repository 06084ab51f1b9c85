/- Rows of cells: lists of structs as trees. No condition. -/
import Derived.Test.YtdgeponcnlkaiaaAcF
namespace Go.Proofs.Ytdgeponcnlkaiaa.Ab
open Go
set_option linter.unusedSimpArgs false
set_option linter.unusedVariables false
set_option linter.unusedSectionVars false

/-- Structs of so many cells, one behind the other. -/
def rows {α : Type} (f : α → List D) : List α → List D
  | [] => []
  | x :: xs => f x ++ rows f xs

section
variable {α : Type} {f : α → List D} {k : Nat}
theorem rows_nil : rows f [] = [] := rfl
theorem rows_append (xs ys : List α) : rows f (xs ++ ys) = rows f xs ++ rows f ys := by
  induction xs with
  | nil => rfl
  | cons x xs ih => simp [rows, ih]
theorem rows_length (hk : ∀ x, (f x).length = k) (xs : List α) : (rows f xs).length = k * xs.length := by
  induction xs with
  | nil => rfl
  | cons x xs ih => simp only [rows, List.length_append, hk, ih, List.length_cons, Nat.mul_add, Nat.mul_one]; omega
theorem rows_get (hk : ∀ x, (f x).length = k) : ∀ (xs : List α) (i j : Nat) (h : i < xs.length), j < k → (rows f xs)[k * i + j]? = (f xs[i])[j]?
  | [], i, j, h, _ => by simp at h
  | x :: xs, 0, j, h, hj => by
    simp only [rows, Nat.mul_zero, Nat.zero_add, List.getElem_cons_zero]
    rw [List.getElem?_append_left (by rw [hk]; exact hj)]
  | x :: xs, i + 1, j, h, hj => by
    simp only [rows, List.getElem_cons_succ]
    rw [List.getElem?_append_right (by rw [hk, Nat.mul_add]; omega), hk, show k * (i + 1) + j - k = k * i + j by rw [Nat.mul_add]; omega]
    exact rows_get hk xs i j (by simpa using h) hj
theorem rows_take (hk : ∀ x, (f x).length = k) : ∀ (xs : List α) (i : Nat), (rows f xs).take (k * i) = rows f (xs.take i)
  | [], i => by simp [rows]
  | x :: xs, 0 => by simp [rows]
  | x :: xs, i + 1 => by
    simp only [rows, List.take_succ_cons]
    rw [List.take_append, List.take_of_length_le (by rw [hk, Nat.mul_add]; omega), hk, show k * (i + 1) - k = k * i by rw [Nat.mul_add]; omega, rows_take hk xs i]
theorem rows_drop (hk : ∀ x, (f x).length = k) : ∀ (xs : List α) (i : Nat), (rows f xs).drop (k * i) = rows f (xs.drop i)
  | [], i => by simp [rows]
  | x :: xs, 0 => by simp [rows]
  | x :: xs, i + 1 => by
    simp only [rows, List.drop_succ_cons]
    rw [List.drop_append, List.drop_of_length_le (by rw [hk, Nat.mul_add]; omega), hk, show k * (i + 1) - k = k * i by rw [Nat.mul_add]; omega, rows_drop hk xs i, List.nil_append]
theorem rows_set (hk : ∀ x, (f x).length = k) : ∀ (xs : List α) (i j : Nat) (d : D) (y : α) (h : i < xs.length), j < k → f y = (f xs[i]).set j d → (rows f xs).set (k * i + j) d = rows f (xs.set i y)
  | [], i, j, d, y, h, _, _ => by simp at h
  | x :: xs, 0, j, d, y, h, hj, e => by
    simp only [rows, Nat.mul_zero, Nat.zero_add, List.set_cons_zero, List.getElem_cons_zero] at e ⊢
    rw [List.set_append_left _ _ (by rw [hk]; exact hj), e]
  | x :: xs, i + 1, j, d, y, h, hj, e => by
    simp only [rows, List.set_cons_succ, List.getElem_cons_succ] at e ⊢
    rw [List.set_append_right _ _ (by rw [hk, Nat.mul_add]; omega), hk, show k * (i + 1) + j - k = k * i + j by rw [Nat.mul_add]; omega, rows_set hk xs i j d y (by simpa using h) hj e]
theorem shareL_append (a b : List D) : shareL (a ++ b) = shareL a ++ shareL b := by
  induction a with
  | nil => rfl
  | cons x a ih => simp [shareL, ih]
theorem rows_share (xs : List α) : shareL (rows f xs) = rows (fun x => shareL (f x)) xs := by
  induction xs with
  | nil => rfl
  | cons x xs ih => simp [rows, shareL_append, ih]
theorem noShL_append {a b : List D} (ha : noShL a) (hb : noShL b) : noShL (a ++ b) := by
  induction a with
  | nil => exact hb
  | cons x a ih => exact ⟨ha.1, ih ha.2⟩
theorem rows_noSh (hf : ∀ x, noShL (f x)) (xs : List α) : noShL (rows f xs) := by
  induction xs with
  | nil => trivial
  | cons x xs ih => exact noShL_append (hf x) ih
end

end Go.Proofs.Ytdgeponcnlkaiaa.Ab
