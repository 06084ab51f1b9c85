/- Matrices, sums, seeds and sessions as trees; numbers written into them one behind the other. No condition. -/
import Derived.Test.YtdgeponcnlkaiaaAcI
namespace Go.Proofs.Ytdgeponcnlkaiaa.Ab
open Go
set_option linter.unusedSimpArgs false
set_option linter.unusedVariables false
set_option linter.unusedSectionVars false

structure Trm where
  e : List Int
  c : Int
deriving DecidableEq
structure Lau where
  v : Int
  ts : List Trm
deriving DecidableEq
structure Mat where
  n : Int
  r : Int
  d : List Int
deriving DecidableEq
structure Sed where
  m : Mat
  f : List Lau
deriving DecidableEq
structure Ses where
  a : Mat
  k : List Int
  s : Sed
deriving DecidableEq

abbrev shI (l : List Int) : D := .sh 1 l.length (ints l)
abbrev owI (l : List Int) : D := .ow 1 l.length (ints l)
def tS (t : Trm) : List D := [shI t.e, D.int t.c]
def tO (t : Trm) : List D := [owI t.e, D.int t.c]
def fS (f : Lau) : List D := [D.int f.v, .sh 2 f.ts.length (rows tS f.ts)]
def fO (f : Lau) : List D := [D.int f.v, .ow 2 f.ts.length (rows tO f.ts)]
def mS (m : Mat) : List D := [D.int m.n, D.int m.r, shI m.d]
def mO (m : Mat) : List D := [D.int m.n, D.int m.r, owI m.d]
def sS (s : Sed) : List D := [D.int s.m.n, D.int s.m.r, shI s.m.d, .sh 2 s.f.length (rows fS s.f)]
def sO (s : Sed) : List D := [D.int s.m.n, D.int s.m.r, owI s.m.d, .ow 2 s.f.length (rows fO s.f)]
def zS (z : Ses) : List D := [D.int z.a.n, D.int z.a.r, shI z.a.d, shI z.k, D.int z.s.m.n, D.int z.s.m.r, shI z.s.m.d, .sh 2 z.s.f.length (rows fS z.s.f)]
def zO (z : Ses) : List D := [D.int z.a.n, D.int z.a.r, owI z.a.d, owI z.k, D.int z.s.m.n, D.int z.s.m.r, owI z.s.m.d, .ow 2 z.s.f.length (rows fO z.s.f)]

theorem tS_two (t : Trm) : (tS t).length = 2 := rfl
theorem tO_two (t : Trm) : (tO t).length = 2 := rfl
theorem fS_two (t : Lau) : (fS t).length = 2 := rfl
theorem fO_two (t : Lau) : (fO t).length = 2 := rfl
@[simp] theorem tS_length (l : List Trm) : (rows tS l).length = 2 * l.length := rows_length tS_two l
@[simp] theorem tO_length (l : List Trm) : (rows tO l).length = 2 * l.length := rows_length tO_two l
@[simp] theorem fS_length (l : List Lau) : (rows fS l).length = 2 * l.length := rows_length fS_two l
@[simp] theorem fO_length (l : List Lau) : (rows fO l).length = 2 * l.length := rows_length fO_two l
@[simp] theorem tS_share (l : List Trm) : shareL (rows tO l) = rows tS l := by
  rw [rows_share]
  congr 1
  funext t
  simp [tO, tS, shareL, share, shareL_ints]
@[simp] theorem fS_share (l : List Lau) : shareL (rows fO l) = rows fS l := by
  rw [rows_share]
  congr 1
  funext t
  simp [fO, fS, shareL, share]
@[simp] theorem tO_noSh (l : List Trm) : noShL (rows tO l) := rows_noSh (fun t => by simp [tO, noShL, noSh, noShL_ints]) l
@[simp] theorem fO_noSh (l : List Lau) : noShL (rows fO l) := rows_noSh (fun t => by simp [fO, noShL, noSh]) l

theorem twice {α : Type} {l : List α} {i : Nat} {x : α} (h : l[i]? = some x) : l[i]? = some x ∧ ∀ h' : i < l.length, l[i]'h' = x :=
  ⟨h, fun h' => by rw [List.getElem?_eq_getElem h'] at h; injection h⟩
section
variable {l : List Trm} {g : List Lau} {i : Nat}
theorem tS_0 (h : i < l.length) : (rows tS l)[2 * i]? = some (shI l[i].e) ∧ ∀ h', (rows tS l)[2 * i]'h' = shI l[i].e := twice (rows_get tS_two l i 0 h (by omega))
theorem tS_1 (h : i < l.length) : (rows tS l)[2 * i + 1]? = some (D.int l[i].c) ∧ ∀ h', (rows tS l)[2 * i + 1]'h' = D.int l[i].c := twice (rows_get tS_two l i 1 h (by omega))
theorem tO_0 (h : i < l.length) : (rows tO l)[2 * i]? = some (owI l[i].e) ∧ ∀ h', (rows tO l)[2 * i]'h' = owI l[i].e := twice (rows_get tO_two l i 0 h (by omega))
theorem tO_1 (h : i < l.length) : (rows tO l)[2 * i + 1]? = some (D.int l[i].c) ∧ ∀ h', (rows tO l)[2 * i + 1]'h' = D.int l[i].c := twice (rows_get tO_two l i 1 h (by omega))
theorem fS_0 (h : i < g.length) : (rows fS g)[2 * i]? = some (D.int g[i].v) ∧ ∀ h', (rows fS g)[2 * i]'h' = D.int g[i].v := twice (rows_get fS_two g i 0 h (by omega))
theorem fS_1 (h : i < g.length) : (rows fS g)[2 * i + 1]? = some (.sh 2 g[i].ts.length (rows tS g[i].ts)) ∧ ∀ h', (rows fS g)[2 * i + 1]'h' = .sh 2 g[i].ts.length (rows tS g[i].ts) := twice (rows_get fS_two g i 1 h (by omega))
theorem fO_0 (h : i < g.length) : (rows fO g)[2 * i]? = some (D.int g[i].v) ∧ ∀ h', (rows fO g)[2 * i]'h' = D.int g[i].v := twice (rows_get fO_two g i 0 h (by omega))
theorem fO_1 (h : i < g.length) : (rows fO g)[2 * i + 1]? = some (.ow 2 g[i].ts.length (rows tO g[i].ts)) ∧ ∀ h', (rows fO g)[2 * i + 1]'h' = .ow 2 g[i].ts.length (rows tO g[i].ts) := twice (rows_get fO_two g i 1 h (by omega))
theorem tO_set1 (h : i < l.length) (x : Int) : (rows tO l).set (2 * i + 1) (.v (.int .i64 x)) = rows tO (l.set i ⟨l[i].e, x⟩) := rows_set tO_two l i 1 _ _ h (by omega) rfl
theorem tO_set0 (h : i < l.length) (x : List Int) : (rows tO l).set (2 * i) (.ow 1 x.length (ints x)) = rows tO (l.set i ⟨x, l[i].c⟩) := rows_set tO_two l i 0 _ _ h (by omega) rfl
theorem fO_set0 (h : i < g.length) (x : Int) : (rows fO g).set (2 * i) (.v (.int .i64 x)) = rows fO (g.set i ⟨x, g[i].ts⟩) := rows_set fO_two g i 0 _ _ h (by omega) rfl
theorem fO_set1 (h : i < g.length) (x : List Trm) : (rows fO g).set (2 * i + 1) (.ow 2 x.length (rows tO x)) = rows fO (g.set i ⟨g[i].v, x⟩) := rows_set fO_two g i 1 _ _ h (by omega) rfl
end
theorem modify_const {α : Type} (l : List α) (i : Nat) (e : α) : l.modify i (fun _ => e) = l.set i e := by
  apply List.ext_getElem?
  intro j
  rw [List.getElem?_modify, List.getElem?_set]
  split
  · rename_i h
    subst h
    split
    · rename_i h
      rw [List.getElem?_eq_getElem h]
      rfl
    · rename_i h
      rw [List.getElem?_eq_none (by omega)]
      rfl
  · simp

/-! ### Marks -/
def marks (k : Int) (n : Nat) : List Int := (List.range n).map fun (i : Nat) => k + (i : Int)
@[simp] theorem marks_length (k : Int) (n : Nat) : (marks k n).length = n := by simp [marks]
theorem marks_get (k : Int) (n i : Nat) (h : i < n) : (marks k n)[i]'(by simpa using h) = k + i := by simp [marks]
theorem marks_succ (k : Int) (n : Nat) : marks k (n + 1) = marks k n ++ [k + n] := by simp [marks, List.range_succ]

section
variable {α : Type} (cnt : α → Nat) (mk : α → Int → α)
def cntL : List α → Nat
  | [] => 0
  | x :: xs => cnt x + cntL xs
def mkL : List α → Int → List α
  | [], _ => []
  | x :: xs, k => mk x k :: mkL xs (k + cnt x)
@[simp] theorem mkL_length : ∀ (l : List α) (k : Int), (mkL cnt mk l k).length = l.length
  | [], k => rfl
  | x :: xs, k => by simp [mkL, mkL_length xs]
theorem cntL_append : ∀ (l r : List α), cntL cnt (l ++ r) = cntL cnt l + cntL cnt r
  | [], r => by simp [cntL]
  | x :: xs, r => by simp [cntL, cntL_append xs r, Nat.add_assoc]
theorem mkL_append : ∀ (l r : List α) (k : Int), mkL cnt mk (l ++ r) k = mkL cnt mk l k ++ mkL cnt mk r (k + cntL cnt l)
  | [], r, k => by simp [mkL, cntL]
  | x :: xs, r, k => by
    simp only [List.cons_append, mkL, mkL_append xs r, cntL]
    rw [show k + (cnt x : Int) + (cntL cnt xs : Int) = k + ((cnt x + cntL cnt xs : Nat) : Int) by omega]
theorem cntL_step (l : List α) (j : Nat) (h : j < l.length) : cntL cnt (l.take (j + 1)) = cntL cnt (l.take j) + cnt l[j] := by
  rw [List.take_succ_eq_append_getElem h, cntL_append]
  simp [cntL]
theorem cntL_le (l : List α) (j : Nat) : cntL cnt (l.take j) ≤ cntL cnt l := by
  have : cntL cnt l = cntL cnt (l.take j) + cntL cnt (l.drop j) := by rw [← cntL_append, List.take_append_drop]
  omega
theorem cntL_le1 (l : List α) (j : Nat) (h : j < l.length) : cntL cnt (l.take j) + cnt l[j] ≤ cntL cnt l := by
  rw [← cntL_step cnt l j h]
  exact cntL_le cnt l (j + 1)
theorem mkL_get1 (l : List α) (k : Int) (j : Nat) (h : j < l.length) : (mkL cnt mk l k)[j]'(by simpa using h) = mk l[j] (k + cntL cnt (l.take j)) := by
  have e : l = l.take j ++ l[j] :: l.drop (j + 1) := by rw [← List.drop_eq_getElem_cons h, List.take_append_drop]
  have e2 : mkL cnt mk l k = mkL cnt mk (l.take j) k ++ mk l[j] (k + cntL cnt (l.take j)) :: mkL cnt mk (l.drop (j + 1)) (k + cntL cnt (l.take j) + cnt l[j]) := by
    conv => lhs; rw [e]
    rw [mkL_append]
    rfl
  have : (mkL cnt mk l k)[j]? = some (mk l[j] (k + cntL cnt (l.take j))) := by
    rw [e2, List.getElem?_append_right (by simp; omega)]
    simp [Nat.min_eq_left (Nat.le_of_lt h)]
  rw [List.getElem?_eq_getElem (by simpa using h)] at this
  injection this
theorem mkL_get2 (l : List α) (k : Int) (j : Nat) (h : j < l.length) : (mkL cnt mk (l.take j) k ++ l.drop j)[j]? = some l[j] := by
  rw [List.getElem?_append_right (by simp; omega)]
  simp [Nat.min_eq_left (Nat.le_of_lt h), h]
theorem mkL_step (l : List α) (k : Int) (j : Nat) (h : j < l.length) : (mkL cnt mk (l.take j) k ++ l.drop j).set j (mk l[j] (k + cntL cnt (l.take j))) = mkL cnt mk (l.take (j + 1)) k ++ l.drop (j + 1) := by
  rw [List.set_append_right _ _ (by simp; omega), List.take_succ_eq_append_getElem h, mkL_append]
  simp [Nat.min_eq_left (Nat.le_of_lt h), mkL]
  rw [List.drop_eq_getElem_cons h]
  rfl
end
def cntT (t : Trm) : Nat := t.e.length + 1
def mkT (t : Trm) (k : Int) : Trm := ⟨marks k t.e.length, k + t.e.length⟩
def cntF (f : Lau) : Nat := 1 + cntL cntT f.ts
def mkF (f : Lau) (k : Int) : Lau := ⟨k, mkL cntT mkT f.ts (k + 1)⟩
def mkM (m : Mat) (k : Int) : Mat := ⟨m.n, m.r, marks k m.d.length⟩
def cntS (s : Sed) : Nat := s.m.d.length + cntL cntF s.f
def mkS (s : Sed) (k : Int) : Sed := ⟨mkM s.m k, mkL cntF mkF s.f (k + s.m.d.length)⟩
def cntZ (z : Ses) : Nat := z.a.d.length + z.k.length + cntS z.s
def mkZ (z : Ses) (k : Int) : Ses := ⟨mkM z.a k, marks (k + z.a.d.length) z.k.length, mkS z.s (k + z.a.d.length + z.k.length)⟩

/-! ### Rows that are filled one by one -/
def tZ : Option Trm → List D
  | none => [.v (.slice none 0 0), D.int 0]
  | some t => tO t
theorem tZ_two (t : Option Trm) : (tZ t).length = 2 := by cases t <;> rfl
@[simp] theorem tZ_length (l : List (Option Trm)) : (rows tZ l).length = 2 * l.length := rows_length tZ_two l
theorem tZ_zero : ∀ n : Nat, zerosD [.slice none 0 0, .int .i64 0] n = rows tZ (List.replicate n none)
  | 0 => rfl
  | n + 1 => by
    simp only [zerosD, tZ_zero n, List.replicate_succ]
    rfl
theorem tZ_some (l : List Trm) : rows tZ (l.map some) = rows tO l := by
  induction l with
  | nil => rfl
  | cons x l ih => simp [rows, ih, tZ]
theorem tZ_none0 {l : List (Option Trm)} {i : Nat} (h : l[i]? = some none) : (rows tZ l)[2 * i]? = some (.v (.slice none 0 0)) ∧ ∀ h', (rows tZ l)[2 * i]'h' = .v (.slice none 0 0) := by
  refine twice ?_
  obtain ⟨h1, h2⟩ := List.getElem?_eq_some_iff.1 h
  rw [show 2 * i = 2 * i + 0 from rfl, rows_get tZ_two l i 0 h1 (by omega), h2]
  rfl
theorem tZ_none1 {l : List (Option Trm)} {i : Nat} (h : l[i]? = some none) : (rows tZ l)[2 * i + 1]? = some (D.int 0) ∧ ∀ h', (rows tZ l)[2 * i + 1]'h' = D.int 0 := by
  refine twice ?_
  obtain ⟨h1, h2⟩ := List.getElem?_eq_some_iff.1 h
  rw [rows_get tZ_two l i 1 h1 (by omega), h2]
  rfl
theorem rows_set2 {α : Type} {f : α → List D} (hk : ∀ x, (f x).length = 2) (xs : List α) (i : Nat) (d0 d1 : D) (y : α) (h : i < xs.length) (e : f y = [d0, d1]) : ((rows f xs).set (2 * i) d0).set (2 * i + 1) d1 = rows f (xs.set i y) := by
  induction xs generalizing i with
  | nil => simp at h
  | cons x xs ih =>
    cases i with
    | zero =>
      have hx := hk x
      match hfx : f x, hx with
      | [a, b], _ => simp [rows, hfx, e]
    | succ i =>
      have hx := hk x
      simp only [rows, List.set_cons_succ]
      rw [List.set_append_right _ _ (by rw [hx]; omega), List.set_append_right _ _ (by rw [hx]; omega), hx, show 2 * (i + 1) - 2 = 2 * i by omega, show 2 * (i + 1) + 1 - 2 = 2 * i + 1 by omega, ih i (by simpa using h)]
theorem tZ_set2 {l : List (Option Trm)} {i : Nat} (h : i < l.length) (e : List Int) (c : Int) : ((rows tZ l).set (2 * i) (.ow 1 e.length (ints e))).set (2 * i + 1) (.v (.int .i64 c)) = rows tZ (l.set i (some ⟨e, c⟩)) :=
  rows_set2 tZ_two l i _ _ _ h rfl

theorem fill_step {α : Type} (xs : List α) (j : Nat) (h : j < xs.length) (z : α) : (xs.take j ++ List.replicate (xs.length - j) z).set j xs[j] = xs.take (j + 1) ++ List.replicate (xs.length - (j + 1)) z := by
  rw [List.set_append_right _ _ (by simp; omega), List.take_succ_eq_append_getElem h]
  simp only [List.length_take, Nat.min_eq_left (Nat.le_of_lt h), Nat.sub_self]
  rw [show xs.length - j = (xs.length - (j + 1)) + 1 by omega, List.replicate_succ, List.set_cons_zero, List.append_assoc]
  rfl
theorem tO_set2 {l : List Trm} {i n : Nat} (h : i < l.length) (e : List Int) (c : Int) (hn : e.length = n) : ((rows tO l).set (2 * i) (.ow 1 n (ints e))).set (2 * i + 1) (.v (.int .i64 c)) = rows tO (l.set i ⟨e, c⟩) :=
  rows_set2 tO_two l i _ _ _ h (by subst hn; rfl)
theorem fO_set2 {l : List Lau} {i n : Nat} (h : i < l.length) (v : Int) (t : List Trm) (hn : t.length = n) : ((rows fO l).set (2 * i) (.v (.int .i64 v))).set (2 * i + 1) (.ow 2 n (rows tO t)) = rows fO (l.set i ⟨v, t⟩) :=
  rows_set2 fO_two l i _ _ _ h (by subst hn; rfl)
theorem tO_snoc (l : List Trm) (t : Trm) : rows tO l ++ [D.ow 1 t.e.length (ints t.e), D.v (.int .i64 t.c)] = rows tO (l ++ [t]) := by
  rw [rows_append]
  rfl
/-! ### Sizes -/
def szT (ts : List Trm) : Nat := ts.length + cntL (fun t : Trm => t.e.length) ts
def szF (f : Lau) : Nat := szT f.ts

end Go.Proofs.Ytdgeponcnlkaiaa.Ab
