/- Division of sums in variables: two ways to test whether to go on lead to the same. What a division keeps from step to step. The end of a building, over a sort. Division by maps: the greatest key, and what a step does. Lists of lists of numbers as trees. Lists of lists of numbers: their size, copies, what is equal, marks. Quantum sums as trees. Quantum sums: their size, copies, what is equal, marks. Quantum sums: the order of terms, which sums are right. Quantum sums: which are right, for the reference and for the program. Skew forms: which are right; what a form makes of two lists of exponents. What a form makes of two lists of exponents; what fits a form. Quantum terms in order: segments, merging, those of one key added, the empty ones left out. The reference's gathering of quantum terms: in order, those of one key added, the empty ones left out. The reference's sums of quantum sums. Greatest exponents, sums of coded terms, division: the reference's side. Products of quantum sums: the reference's. Printed by wip/tools/lay.py: the contracts of slices.SortFunc laid at this seat. slices.SortFunc in the calculus: from a contract over worlds to a contract over trees. Maps that hold quantum sums: keys of nine numbers. The program's building of quantum sums, over a sort. The sort of quantum terms, greatest first, at this program. Products of quantum sums: the program's. Division of quantum sums: the keys, what two ways to test lead to. No condition. -/
import Derived.Test.YtocknokodgnlbaaKWc
import Derived.Shelf.SlLaysF0
import Derived.Test.YtocknokodgnlbaaProg
import Derived.Shelf.SlSortCmp.InsertionK
import Derived.Shelf.SlSortFuncK.ComposeK
import Derived.Shelf.SlSortCmp.NoneTotal
set_option linter.unusedVariables false
set_option linter.unusedSimpArgs false
namespace Go.Proofs.Ytocknokodgnlbaa.Ab
open Go
set_option linter.unusedSimpArgs false
set_option linter.unusedVariables false
theorem addE_dv : ∀ (a b : List Int), a.length = b.length → addE 1 (addE (-1) a b) b = a
  | [], [], _ => rfl
  | x :: a, y :: b, h => by
    simp only [addE, addE_dv a b (by simpa using h)]
    congr 1
    omega
  | [], _ :: _, h => by simp at h
  | _ :: _, [], h => by simp at h
theorem lexlt_addE (k : Int) : ∀ (x y b : List Int), x.length = b.length → y.length = b.length → lexlt (addE k x b) (addE k y b) = lexlt x y
  | [], [], [], _, _ => rfl
  | u :: x, v :: y, w :: b, h1, h2 => by
    simp only [addE, lexlt, lexlt_addE k x y b (by simpa using h1) (by simpa using h2)]
    by_cases e : u = v
    · rw [if_pos e, if_pos (by omega)]
    · rw [if_neg e, if_neg (by omega)]
      congr 1
      simp only [eq_iff_iff]
      omega
  | [], _ :: _, _, h1, h2 => by simp at h1 h2; omega
  | _ :: _, [], _, h1, h2 => by simp at h1 h2; omega
  | _ :: _, _ :: _, [], h1, _ => by simp at h1
  | [], [], _ :: _, h1, _ => by simp at h1
theorem lexlt_addE2 : ∀ (e x y : List Int), e.length = x.length → e.length = y.length → lexlt (addE 1 e x) (addE 1 e y) = lexlt x y
  | [], [], [], _, _ => rfl
  | w :: e, u :: x, v :: y, h1, h2 => by
    simp only [addE, lexlt, lexlt_addE2 e x y (by simpa using h1) (by simpa using h2)]
    by_cases e : u = v
    · rw [if_pos e, if_pos (by omega)]
    · rw [if_neg e, if_neg (by omega)]
      congr 1
      simp only [eq_iff_iff]
      omega
  | [], _ :: _, _, h1, _ => by simp at h1
  | _ :: _, [], _, h1, _ => by simp at h1
  | [], [], _ :: _, _, h2 => by simp at h2
  | _ :: _, _ :: _, [], _, h2 => by simp at h2
/-! ### Greatest and least exponents -/
theorem least_of {α : Type} (f : α → Int) : ∀ l : List α, l ≠ [] → ∃ x ∈ l, ∀ y ∈ l, f x ≤ f y
  | [], h => absurd rfl h
  | [x], _ => ⟨x, by simp, by simp⟩
  | x :: y :: l, _ => by
    obtain ⟨z, hz, hm⟩ := least_of f (y :: l) (by simp)
    by_cases h : f x ≤ f z
    · refine ⟨x, by simp, fun u hu => ?_⟩
      rcases List.mem_cons.1 hu with rfl | hu
      · omega
      · have := hm u hu; omega
    · refine ⟨z, by simp [hz], fun u hu => ?_⟩
      rcases List.mem_cons.1 hu with rfl | hu
      · omega
      · exact hm u hu
theorem getD_addE (k : Int) (i : Nat) : ∀ (a b : List Int), a.length = b.length → (addE k a b).getD i 0 = a.getD i 0 + k * b.getD i 0 := by
  induction i with
  | zero =>
    intro a b h
    match a, b, h with
    | [], [], _ => simp [addE]
    | x :: a, y :: b, _ => simp [addE]
  | succ i ih =>
    intro a b h
    match a, b, h with
    | [], [], _ => simp [addE]
    | x :: a, y :: b, h =>
      have := ih a b (by simpa using h)
      simpa [addE, List.getD_cons_succ] using this
/-- A number that tells exponents apart, goes with sums, and goes by the i-th exponent first. -/
def wei (s : Int) (i : Nat) (e : List Int) : Int := s * (e.getD i 0 * 144115188075855872 + keyA 0 e)
theorem wei_add (s : Int) (i : Nat) (a b : List Int) (h : a.length = b.length) : wei s i (addE 1 a b) = wei s i a + wei s i b - s * keyA 0 (List.replicate a.length 0) := by
  unfold wei
  have := keyA_add a b 0 0 0 h
  simp only [Int.add_zero, Int.sub_zero] at this
  rw [this, getD_addE 1 i a b h, ← Int.mul_add, ← Int.mul_sub]
  congr 1
  omega
theorem wei_bd {e : List Int} (hd : Dig e) (h8 : e.length ≤ 8) : 0 ≤ keyA 0 e ∧ keyA 0 e < 144115188075855872 := by
  have := keyA_key hd h8
  omega
theorem wei_inj {s : Int} (hs : s = 1 ∨ s = -1) {i : Nat} {a b : List Int} (hl : a.length = b.length) (ha : Dig a) (hb : Dig b) (h8 : a.length ≤ 8) (h : wei s i a = wei s i b) : a = b := by
  have h1 := wei_bd ha h8
  have h2 := wei_bd hb (by omega)
  refine keyA_inj hl ha hb (p := 0) ?_
  unfold wei at h
  rcases hs with rfl | rfl <;> omega
theorem wei_le {s : Int} (hs : s = 1 ∨ s = -1) {i : Nat} {a b : List Int} (ha : Dig a) (hb : Dig b) (h8 : a.length ≤ 8) (h8b : b.length ≤ 8) (h : wei s i a ≤ wei s i b) : s * a.getD i 0 ≤ s * b.getD i 0 := by
  have h1 := wei_bd ha h8
  have h2 := wei_bd hb h8b
  unfold wei at h
  rcases hs with rfl | rfl <;> omega
/-! ### Greatest exponents of terms -/
def maxF (x : Int) (ts : List Trm) (i : Nat) : Int := ts.foldl (fun m t => max m (t.e.getD i 0)) x
theorem maxF_snoc (x : Int) (ts : List Trm) (t : Trm) (i : Nat) : maxF x (ts ++ [t]) i = max (maxF x ts i) (t.e.getD i 0) := by simp [maxF, List.foldl_append]
theorem maxF_ge (x : Int) (i : Nat) : ∀ ts : List Trm, x ≤ maxF x ts i ∧ (∀ t ∈ ts, t.e.getD i 0 ≤ maxF x ts i) ∧ (maxF x ts i = x ∨ ∃ t ∈ ts, maxF x ts i = t.e.getD i 0) := by
  intro ts
  induction ts generalizing x with
  | nil => simp [maxF]
  | cons t ts ih =>
    obtain ⟨h1, h2, h3⟩ := ih (max x (t.e.getD i 0))
    have e : maxF x (t :: ts) i = maxF (max x (t.e.getD i 0)) ts i := rfl
    rw [e]
    refine ⟨by omega, fun u hu => ?_, ?_⟩
    · rcases List.mem_cons.1 hu with rfl | hu
      · omega
      · exact h2 u hu
    · rcases h3 with h3 | ⟨u, hu, h3⟩
      · by_cases hle : t.e.getD i 0 ≤ x
        · exact .inl (by rw [h3]; omega)
        · exact .inr ⟨t, by simp, by rw [h3]; omega⟩
      · exact .inr ⟨u, by simp [hu], h3⟩
def highA (x : Nat → Int) (ts : List Trm) (n : Nat) : List Int := (List.range n).map fun i => maxF (x i) ts i
@[simp] theorem highA_length (x : Nat → Int) (ts : List Trm) (n : Nat) : (highA x ts n).length = n := by simp [highA]
theorem highA_get (x : Nat → Int) (ts : List Trm) (n i : Nat) (h : i < n) : (highA x ts n)[i]'(by simpa using h) = maxF (x i) ts i := by simp [highA]
theorem highA_start (ts : List Trm) (n : Nat) (h : 0 < ts.length) (he : ∀ t ∈ ts, t.e.length = n) : highA (headE ts) [] n = (ts[0]'h).e := by
  have := lowA_start ts n h he
  rw [← this]
  unfold highA lowA minF maxF
  rfl
def highL (ts : List Trm) (n : Nat) : List Int := highA (headE ts) ts n
theorem headE_mem {ts : List Trm} (h : ts ≠ []) (i : Nat) : ∃ t ∈ ts, headE ts i = t.e.getD i 0 := by
  match ts, h with
  | t :: ts, _ => exact ⟨t, by simp, rfl⟩
theorem lowL_at {ts : List Trm} (h : ts ≠ []) {n i : Nat} (hi : i < n) : (∀ t ∈ ts, (lowL ts n).getD i 0 ≤ t.e.getD i 0) ∧ ∃ t ∈ ts, (lowL ts n).getD i 0 = t.e.getD i 0 := by
  have e : (lowL ts n).getD i 0 = minF (headE ts i) ts i := by
    rw [getD_eq (by simpa [lowL] using hi)]
    exact lowA_get _ _ _ _ hi
  rw [e]
  obtain ⟨_, h2, h3⟩ := minF_le (headE ts i) i ts
  refine ⟨h2, ?_⟩
  rcases h3 with h3 | h3
  · rw [h3]; exact headE_mem h i
  · exact h3
theorem highL_at {ts : List Trm} (h : ts ≠ []) {n i : Nat} (hi : i < n) : (∀ t ∈ ts, t.e.getD i 0 ≤ (highL ts n).getD i 0) ∧ ∃ t ∈ ts, (highL ts n).getD i 0 = t.e.getD i 0 := by
  have e : (highL ts n).getD i 0 = maxF (headE ts i) ts i := by
    rw [getD_eq (by simpa [highL] using hi)]
    exact highA_get _ _ _ _ hi
  rw [e]
  obtain ⟨_, h2, h3⟩ := maxF_ge (headE ts i) i ts
  refine ⟨h2, ?_⟩
  rcases h3 with h3 | h3
  · rw [h3]; exact headE_mem h i
  · exact h3

/-! ### The two divisions -/
def inBox (f g : Lau) (n : Nat) (e : List Int) : Prop := ∀ i, i < n → (lowL f.ts n).getD i 0 - (lowL g.ts n).getD i 0 ≤ e.getD i 0 ∧ e.getD i 0 ≤ (highL f.ts n).getD i 0 - (highL g.ts n).getD i 0
instance (f g : Lau) (n : Nat) (e : List Int) : Decidable (inBox f g n e) := Nat.decidableBallLT n _
theorem pr_desc {f : Lau} (h : Right f) : Desc lexlt (f.ts.map pr) := by
  unfold Desc
  rw [List.pairwise_map]
  exact h.2.2.2
theorem pr_nz {f : Lau} (h : Right f) : Nz (f.ts.map pr) := fun x hx => by
  obtain ⟨t, ht, rfl⟩ := List.mem_map.1 hx
  exact (h.2.2.1 t ht).2.1
end Go.Proofs.Ytocknokodgnlbaa.Ab
namespace Go.Proofs.Ytocknokodgnlbaa.Ab
open Go
set_option linter.unusedSimpArgs false
set_option linter.unusedVariables false
theorem addE_bd {B C : Int} : ∀ {a b : List Int} {k : Int}, (k = 1 ∨ k = -1) → a.length = b.length → (∀ z ∈ a, -B ≤ z ∧ z ≤ B) → (∀ z ∈ b, -C ≤ z ∧ z ≤ C) → ∀ z ∈ addE k a b, -(B + C) ≤ z ∧ z ≤ B + C
  | [], [], k, _, _, _, _ => by simp [addE]
  | x :: a, y :: b, k, hk, h, ha, hb => by
    intro z hz
    have h1 := ha x (by simp)
    have h2 := hb y (by simp)
    simp only [addE, List.mem_cons] at hz
    rcases hz with rfl | hz
    · rcases hk with rfl | rfl <;> omega
    · exact addE_bd hk (by simpa using h) (fun z hz => ha z (by simp [hz])) (fun z hz => hb z (by simp [hz])) z hz
  | [], _ :: _, _, _, h, _, _ => by simp at h
  | _ :: _, [], _, _, h, _, _ => by simp at h
end Go.Proofs.Ytocknokodgnlbaa.Ab
namespace Go.Proofs.Ytocknokodgnlbaa.Ab
open Go
set_option linter.unusedSimpArgs false
set_option linter.unusedVariables false
set_option maxRecDepth 10000
set_option maxHeartbeats 2000000
attribute [local simp] mapKV flatInt tileB
theorem insK_len_eq {K : Type} [DecidableEq K] {lt : K → K → Bool} {k : K} {c : Int} (hc : c ≠ 0) : ∀ l : List (K × Int), (∀ x ∈ l, x.1 ≠ k) → (insK lt k c l).length = l.length + 1
  | [], _ => by simp [insK, hc]
  | x :: l, h => by
    simp only [insK]
    rw [if_neg (h x (by simp))]
    split
    · first | rfl | (rw [if_neg hc]; rfl)
    · simp [insK_len_eq hc l fun y hy => h y (by simp [hy])]
theorem nf_len_eq {K : Type} [DecidableEq K] {lt : K → K → Bool} : ∀ l : List (K × Int), (l.map (·.1)).Nodup → (∀ x ∈ l, x.2 ≠ 0) → (nf lt l).length = l.length
  | [], _, _ => rfl
  | x :: l, h, hz => by
    simp only [List.map_cons, List.nodup_cons] at h
    simp only [nf]
    rw [insK_len_eq (hz x (by simp)), nf_len_eq l h.2 fun y hy => hz y (by simp [hy])]
    · rfl
    · intro y hy e
      obtain ⟨z, hz, e2⟩ := nf_mem hy
      exact h.1 (List.mem_map.2 ⟨z, hz, by rw [e2, e]⟩)
theorem erase_perm {α : Type} : ∀ (l : List α) (i : Nat) (h : i < l.length), (l[i] :: l.eraseIdx i).Perm l
  | [], i, h => by simp at h
  | x :: l, 0, h => by simp
  | x :: l, i + 1, h => by
    simp only [List.getElem_cons_succ, List.eraseIdx_cons_succ]
    exact (List.Perm.swap ..).trans (List.Perm.cons x (erase_perm l i (by simpa using h)))
theorem sh8 (n : Nat) (k0 k1 k2 k3 k4 k5 k6 k7 : Int) : shareL (List.take n [D.v (.int .i64 k0), D.v (.int .i64 k1), D.v (.int .i64 k2), D.v (.int .i64 k3), D.v (.int .i64 k4), D.v (.int .i64 k5), D.v (.int .i64 k6), D.v (.int .i64 k7)]) = ints (List.take n [k0, k1, k2, k3, k4, k5, k6, k7]) := by
  rw [show ([D.v (.int .i64 k0), D.v (.int .i64 k1), D.v (.int .i64 k2), D.v (.int .i64 k3), D.v (.int .i64 k4), D.v (.int .i64 k5), D.v (.int .i64 k6), D.v (.int .i64 k7)] : List D) = ints [k0, k1, k2, k3, k4, k5, k6, k7] from rfl, ints_take, shareL_ints]
end Go.Proofs.Ytocknokodgnlbaa.Ab
namespace Go.Proofs.Ytocknokodgnlbaa.Ab
open Go
set_option linter.unusedSimpArgs false
set_option linter.unusedVariables false
theorem lexlt_app : ∀ (a b z : List Int), a.length = b.length → lexlt (a ++ z) (b ++ z) = lexlt a b
  | [], [], z, _ => by simp [lexlt_irr, lexlt]
  | x :: a, y :: b, z, h => by simp [lexlt, lexlt_app a b z (by simpa using h)]
  | [], _ :: _, _, h => by simp at h
  | _ :: _, [], _, h => by simp at h
theorem lexlt_pad {a b : List Int} (h : a.length = b.length) : lexlt (pad a) (pad b) = lexlt a b := by
  unfold pad
  rw [← h]
  exact lexlt_app a b _ h
theorem mget_some {k : List Int} {v : Int} : ∀ {es : List (List Int × Int)}, mget k es = some v → (k, v) ∈ es
  | [], h => by simp [mget] at h
  | x :: es, h => by
    simp only [mget] at h
    split at h
    · rename_i e
      simp only [Option.some.injEq] at h
      subst h
      have : x = (k, x.2) := Prod.ext e rfl
      rw [← this]; simp
    · exact List.mem_cons_of_mem _ (mget_some h)
theorem mget_mem {k : List Int} {v : Int} : ∀ {es : List (List Int × Int)}, (es.map (·.1)).Nodup → (k, v) ∈ es → mget k es = some v
  | [], _, h => by simp at h
  | x :: es, hn, h => by
    simp only [List.map_cons, List.nodup_cons] at hn
    simp only [mget]
    rcases List.mem_cons.1 h with e | h
    · rw [← e]; simp
    · rw [if_neg]
      · exact mget_mem hn.2 h
      · rintro e
        exact hn.1 (List.mem_map.2 ⟨(k, v), h, e.symm⟩)
theorem pad_bd60 {e : List Int} {B : Int} (hB : 0 ≤ B) (hB2 : B ≤ 1000000) (h : ∀ x ∈ e, -B ≤ x ∧ x ≤ B) : ∀ x ∈ pad e, -1000000 ≤ x ∧ x ≤ 1000000 := fun x hx => by
  unfold pad at hx
  rcases List.mem_append.1 hx with hx | hx
  · have := h x hx; omega
  · have := List.eq_of_mem_replicate hx; omega
end Go.Proofs.Ytocknokodgnlbaa.Ab
namespace Go.Proofs.Ytocknokodgnlbaa.Ab
open Go
theorem addE_dv2 : ∀ (a b : List Int), a.length = b.length → addE (-1) (addE 1 a b) b = a
  | [], [], _ => rfl
  | x :: a, y :: b, h => by
    simp only [addE, addE_dv2 a b (by simpa using h)]
    congr 1
    omega
  | [], _ :: _, h => by simp at h
  | _ :: _, [], h => by simp at h
end Go.Proofs.Ytocknokodgnlbaa.Ab
namespace Go.Proofs.Ytocknokodgnlbaa.Ab
open Go
set_option linter.unusedSimpArgs false
set_option linter.unusedVariables false
set_option linter.unusedSectionVars false
def lS (l : List Int) : List D := [shI l]
def lO (l : List Int) : List D := [owI l]
theorem lS_one (l : List Int) : (lS l).length = 1 := rfl
theorem lO_one (l : List Int) : (lO l).length = 1 := rfl
@[simp] theorem lS_length (l : List (List Int)) : (rows lS l).length = l.length := by rw [rows_length lS_one l, Nat.one_mul]
@[simp] theorem lO_length (l : List (List Int)) : (rows lO l).length = l.length := by rw [rows_length lO_one l, Nat.one_mul]
@[simp] theorem lS_share (l : List (List Int)) : shareL (rows lO l) = rows lS l := by
  rw [rows_share]
  congr 1
  funext t
  simp [lO, lS, shareL, share, shareL_ints]
section
variable {l : List (List Int)} {i : Nat}
theorem lS_0 (h : i < l.length) : (rows lS l)[i]? = some (shI l[i]) ∧ ∀ h', (rows lS l)[i]'h' = shI l[i] := twice (by
  have := rows_get lS_one l i 0 h (by omega)
  simpa [lS] using this)
theorem lO_0 (h : i < l.length) : (rows lO l)[i]? = some (owI l[i]) ∧ ∀ h', (rows lO l)[i]'h' = owI l[i] := twice (by
  have := rows_get lO_one l i 0 h (by omega)
  simpa [lO] using this)
theorem lO_set (h : i < l.length) (x : List Int) : (rows lO l).set i (.ow 1 x.length (ints x)) = rows lO (l.set i x) := by
  have := rows_set lO_one l i 0 _ x h (by omega) rfl
  simpa [lO] using this
end
def lZ : Option (List Int) → List D
  | none => [.v (.slice none 0 0)]
  | some t => lO t
theorem lZ_one (t : Option (List Int)) : (lZ t).length = 1 := by cases t <;> rfl
@[simp] theorem lZ_length (l : List (Option (List Int))) : (rows lZ l).length = l.length := by rw [rows_length lZ_one l, Nat.one_mul]
@[simp] theorem lO_noSh (l : List (List Int)) : noShL (rows lO l) := rows_noSh (fun t => by simp [lO, noShL, noSh, noShL_ints]) l
end Go.Proofs.Ytocknokodgnlbaa.Ab
namespace Go.Proofs.Ytocknokodgnlbaa.Ab
open Go
set_option linter.unusedSimpArgs false
set_option linter.unusedVariables false
set_option maxRecDepth 10000
end Go.Proofs.Ytocknokodgnlbaa.Ab
namespace Go.Proofs.Ytocknokodgnlbaa.Ab
open Go
set_option linter.unusedSimpArgs false
set_option linter.unusedVariables false
set_option linter.unusedSectionVars false
structure Qtm where
  e : List Int
  h : Int
  c : Int
deriving DecidableEq
structure Qsm where
  v : Int
  ts : List Qtm
deriving DecidableEq
def qtS (t : Qtm) : List D := [shI t.e, D.int t.h, D.int t.c]
def qtO (t : Qtm) : List D := [owI t.e, D.int t.h, D.int t.c]
def qS (f : Qsm) : List D := [D.int f.v, .sh 3 f.ts.length (rows qtS f.ts)]
def qO (f : Qsm) : List D := [D.int f.v, .ow 3 f.ts.length (rows qtO f.ts)]
theorem qtS_three (t : Qtm) : (qtS t).length = 3 := rfl
theorem qtO_three (t : Qtm) : (qtO t).length = 3 := rfl
@[simp] theorem qtS_length (l : List Qtm) : (rows qtS l).length = 3 * l.length := rows_length qtS_three l
@[simp] theorem qtO_length (l : List Qtm) : (rows qtO l).length = 3 * l.length := rows_length qtO_three l
@[simp] theorem qtS_share (l : List Qtm) : shareL (rows qtO l) = rows qtS l := by
  rw [rows_share]
  congr 1
  funext t
  simp [qtO, qtS, shareL, share, shareL_ints]
@[simp] theorem qtO_noSh (l : List Qtm) : noShL (rows qtO l) := rows_noSh (fun t => by simp [qtO, noShL, noSh, noShL_ints]) l
section
variable {l : List Qtm} {i : Nat}
theorem qtS_0 (h : i < l.length) : (rows qtS l)[3 * i]? = some (shI l[i].e) ∧ ∀ h', (rows qtS l)[3 * i]'h' = shI l[i].e := twice (rows_get qtS_three l i 0 h (by omega))
theorem qtS_1 (h : i < l.length) : (rows qtS l)[3 * i + 1]? = some (D.int l[i].h) ∧ ∀ h', (rows qtS l)[3 * i + 1]'h' = D.int l[i].h := twice (rows_get qtS_three l i 1 h (by omega))
theorem qtS_2 (h : i < l.length) : (rows qtS l)[3 * i + 2]? = some (D.int l[i].c) ∧ ∀ h', (rows qtS l)[3 * i + 2]'h' = D.int l[i].c := twice (rows_get qtS_three l i 2 h (by omega))
theorem qtO_0 (h : i < l.length) : (rows qtO l)[3 * i]? = some (owI l[i].e) ∧ ∀ h', (rows qtO l)[3 * i]'h' = owI l[i].e := twice (rows_get qtO_three l i 0 h (by omega))
theorem qtO_1 (h : i < l.length) : (rows qtO l)[3 * i + 1]? = some (D.int l[i].h) ∧ ∀ h', (rows qtO l)[3 * i + 1]'h' = D.int l[i].h := twice (rows_get qtO_three l i 1 h (by omega))
theorem qtO_2 (h : i < l.length) : (rows qtO l)[3 * i + 2]? = some (D.int l[i].c) ∧ ∀ h', (rows qtO l)[3 * i + 2]'h' = D.int l[i].c := twice (rows_get qtO_three l i 2 h (by omega))
theorem qtO_set2 (h : i < l.length) (x : Int) : (rows qtO l).set (3 * i + 2) (.v (.int .i64 x)) = rows qtO (l.set i ⟨l[i].e, l[i].h, x⟩) := rows_set qtO_three l i 2 _ _ h (by omega) rfl
end
def qtZ : Option Qtm → List D
  | none => [.v (.slice none 0 0), D.int 0, D.int 0]
  | some t => qtO t
theorem qtZ_three (t : Option Qtm) : (qtZ t).length = 3 := by cases t <;> rfl
@[simp] theorem qtZ_length (l : List (Option Qtm)) : (rows qtZ l).length = 3 * l.length := rows_length qtZ_three l
theorem qtO_snoc (l : List Qtm) (t : Qtm) : rows qtO l ++ [D.ow 1 t.e.length (ints t.e), D.v (.int .i64 t.h), D.v (.int .i64 t.c)] = rows qtO (l ++ [t]) := by
  rw [rows_append]
  rfl
abbrev aQT (t : Qtm) : FV := .ag [.d (shI t.e), .int t.h, .int t.c]
abbrev aQ (f : Qsm) : FV := .ag [.int f.v, .d (.sh 3 f.ts.length (rows qtS f.ts))]
end Go.Proofs.Ytocknokodgnlbaa.Ab
namespace Go.Proofs.Ytocknokodgnlbaa.Ab
open Go
set_option linter.unusedSimpArgs false
set_option linter.unusedVariables false
set_option maxRecDepth 10000
end Go.Proofs.Ytocknokodgnlbaa.Ab
namespace Go.Proofs.Ytocknokodgnlbaa.Ab
open Go
set_option linter.unusedSimpArgs false
set_option linter.unusedVariables false
set_option maxRecDepth 10000
set_option maxHeartbeats 2000000
theorem cmpL_zero : ∀ (a b : List Int), cmpL a b = 0 ↔ a = b
  | [], [] => by simp [cmpL]
  | [], _ :: _ => by simp [cmpL]
  | _ :: _, [] => by simp [cmpL]
  | a :: x, b :: y => by
    have ih := cmpL_zero x y
    by_cases h : a = b
    · simp [cmpL, h, ih]
    · by_cases h2 : a < b
      · simp [cmpL, h, h2]
      · simp [cmpL, h, h2]
def cmpQ (a : List Int) (ah : Int) (b : List Int) (bh : Int) : Int := if cmpL b a = 0 then cmpI bh ah else cmpL b a
theorem cmpQ_pos (a : List Int) (ah : Int) (b : List Int) (bh : Int) : decide (0 ≤ cmpQ a ah b bh) = !qlt (b, bh) (a, ah) := by
  have hn := cmpL_neg b a
  have hz := cmpL_zero b a
  unfold cmpQ qlt
  by_cases h : b = a
  · rw [if_pos (hz.2 h)]
    simp only [h, if_true]
    unfold cmpI
    by_cases h1 : bh < ah
    · simp [h1]
    · by_cases h2 : ah < bh <;> simp [h1, h2]
  · have : ¬ cmpL b a = 0 := fun e => h (hz.1 e)
    rw [if_neg this]
    simp only [h, if_false]
    rw [← hn]
    by_cases q : cmpL b a < 0
    · simp [q]
    · simp [q]
      omega
def qk (t : Qtm) : List Int × Int := (t.e, t.h)
def QGood (v : Int) (t : Qtm) : Prop := (t.e.length : Int) = v ∧ t.c ≠ 0 ∧ (-1000000 ≤ t.c ∧ t.c ≤ 1000000) ∧ (-200 ≤ t.h ∧ t.h ≤ 200) ∧ ∀ x ∈ t.e, -20 ≤ x ∧ x ≤ 20
def DescQ (ts : List Qtm) : Prop := ts.Pairwise fun a b => qlt (qk b) (qk a) = true
def QRight (f : Qsm) : Prop := (1 ≤ f.v ∧ f.v ≤ 8) ∧ f.ts.length ≤ 600 ∧ (∀ t ∈ f.ts, QGood f.v t) ∧ DescQ f.ts
noncomputable instance (f : Qsm) : Decidable (QRight f) := Classical.propDecidable _
def zeroQ : Qsm := ⟨0, []⟩
theorem descQ_snoc {ts : List Qtm} {t : Qtm} (h : DescQ ts) (hl : ∀ x, ts.getLast? = some x → qlt (qk t) (qk x) = true) : DescQ (ts ++ [t]) := by
  unfold DescQ at *
  rw [List.pairwise_append]
  refine ⟨h, List.pairwise_singleton _ _, fun a ha b hb => ?_⟩
  simp only [List.mem_singleton] at hb
  subst hb
  rcases List.eq_nil_or_concat ts with rfl | ⟨l, x, rfl⟩
  · simp at ha
  · have hx := hl x (by simp)
    simp only [List.concat_eq_append] at ha h
    rcases List.mem_append.1 ha with ha | ha
    · have := (List.pairwise_append.1 h).2.2 a ha x (by simp)
      exact qOrd.tr _ _ _ hx this
    · simp only [List.mem_singleton] at ha
      rw [ha]
      exact hx
theorem descQ_step {ts : List Qtm} {j : Nat} (h1 : j < ts.length) (h : DescQ (ts.take j)) (hl : j = 0 ∨ qlt (qk ts[j]) (qk ts[j - 1]) = true) : DescQ (ts.take (j + 1)) := by
  rw [List.take_succ_eq_append_getElem h1]
  refine descQ_snoc h fun x hx => ?_
  rcases hl with rfl | hl
  · simp at hx
  · rcases Nat.eq_zero_or_pos j with rfl | hj
    · simp at hx
    · rw [List.getLast?_eq_getElem?] at hx
      simp only [List.length_take, List.getElem?_take] at hx
      rw [Nat.min_eq_left (by omega), if_pos (by omega), List.getElem?_eq_getElem (by omega)] at hx
      injection hx with hx
      rw [← hx]
      exact hl
theorem descQ_next {ts : List Qtm} {j : Nat} (h1 : j < ts.length) (h : DescQ ts) : j = 0 ∨ qlt (qk ts[j]) (qk ts[j - 1]) = true := by
  rcases Nat.eq_zero_or_pos j with rfl | hj
  · exact .inl rfl
  · right
    exact List.pairwise_iff_getElem.1 h (j - 1) j (by omega) h1 (by omega)
theorem orI : ∀ (xs : List Int) (k : Nat) (h1 : k < xs.length), (∀ x ∈ xs.take k, x = 0) → xs[k] ≠ 0 → (xs.find? (fun x => x ≠ 0)).getD 0 = xs[k]
  | x :: xs, 0, _, _, h => by simpa using by simp [show x ≠ 0 from h]
  | x :: xs, k + 1, h1, ht, h => by
    have hx : x = 0 := ht x (by simp)
    have := orI xs k (by simpa using h1) (fun y hy => ht y (by simp [hy])) (by simpa using h)
    simpa [hx] using this
theorem cmp_Or_int_calls (xs : List Int) (hx : xs.length < 4611686018427387904) : ACalls Try.prog F.cmp_Or_int [.d (shI xs)] [] true (fun outs res => outs = [] ∧ res = [.one (D.int ((xs.find? (fun x => x ≠ 0)).getD 0))]) := by
  refine ACalls.of_body (C := C.cmp_Or_int) (n := Try.f136.ntmps) tabT folT Try.func136 rfl (by kernel_rfl) rfl (Nat.le_of_ble_eq_true rfl) (by decide) (by kernel_rfl) (by kernel_rfl) rfl (by simp) (by simp) ?_
  simp only [Try.f136]
  refine wseq ?_
  refine wreg fun K hK => ?_
  simp [C.cmp_Or_int]
  refine hK _ ?_; clear hK K
  show AWp _ _ _ _ _
  refine wseq ?_
  refine wreg fun K hK => ?_
  simp [C.cmp_Or_int]
  refine hK _ ?_; clear hK K
  show AWp _ _ _ _ _
  refine wseq ?_
  refine wseq ?_
  refine wreg fun K hK => ?_
  simp [C.cmp_Or_int]
  refine hK _ ?_; clear hK K
  show AWp _ _ _ _ _
  refine wblock ?_
  refine wloop (fun k : Nat => ⟨ofL [(3, .int 0), (6, .d (shI xs)), (7, .int xs.length), (8, FV.int k)], ofRO []⟩) (fun k => k ≤ xs.length ∧ ∀ x ∈ xs.take k, x = 0) (fun k => xs.length - k) 0 (by simp [C.cmp_Or_int]) (by simp) ?_
  intro x1 hx1 R1 hR1
  obtain ⟨hk, ht⟩ := hx1
  refine wseq ?_
  refine wreg fun K hK => ?_
  simp [C.cmp_Or_int]
  refine hK _ ?_; clear hK K
  show AWp _ _ _ _ _
  refine wseq ?_
  refine wcond _ rfl (fun hc1 => ?_) (fun hc1 => ?_)
  · have h1 : x1 < xs.length := by have := d_t hc1; omega
    refine wskip ?_
    show AWp _ _ _ _ _
    refine wseq ?_
    refine wblock ?_
    refine wseq ?_
    refine wreg fun K hK => ?_
    simp [C.cmp_Or_int, get_ints, h1]
    refine hK _ ?_; clear hK K
    show AWp _ _ _ _ _
    refine wseq ?_
    refine wreg fun K hK => ?_
    simp [C.cmp_Or_int]
    refine hK _ ?_; clear hK K
    show AWp _ _ _ _ _
    refine wcond _ rfl (fun hc2 => ?_) (fun hc2 => ?_)
    · have h2 : xs[x1] ≠ 0 := by simpa using hc2
      refine wseq ?_
      refine wreg fun K hK => ?_
      simp [C.cmp_Or_int]
      refine hK _ ?_; clear hK K
      show AWp _ _ _ _ _
      refine wret ?_
      simp [C.cmp_Or_int]
      have := orI xs x1 h1 ht h2
      simpa using this.symm
    · have h2 : xs[x1] = 0 := by simpa using hc2
      refine wskip ?_
      show AWp _ _ _ _ _
      refine wreg fun K hK => ?_
      simp [C.cmp_Or_int, wrap_succ (show x1 < 4611686018427387904 by omega)]
      refine hK _ ?_; clear hK K
      simp [C.cmp_Or_int]
      refine hR1 (x1 + 1) ⟨h1, ?_⟩ (by omega)
      rw [List.take_succ_eq_append_getElem h1]
      intro x hx
      rcases List.mem_append.1 hx with hx | hx
      · exact ht x hx
      · simp only [List.mem_singleton] at hx
        rw [hx, h2]
  · have h1 : x1 = xs.length := by have := d_f hc1; omega
    rw [h1, List.take_length] at ht
    refine wexit ?_
    show AWp _ _ _ _ _
    refine wseq ?_
    refine wreg fun K hK => ?_
    simp [C.cmp_Or_int]
    refine hK _ ?_; clear hK K
    show AWp _ _ _ _ _
    refine wret ?_
    simp [C.cmp_Or_int]
    rw [List.find?_eq_none.2 (fun x hx => by simp [ht x hx])]
    rfl
theorem or2 (a b : Int) : ACalls Try.prog F.cmp_Or_int [.d (.sh 1 2 [D.int a, D.int b])] [] true (fun outs res => outs = [] ∧ res = [.one (D.int (([a, b].find? (fun x => x ≠ 0)).getD 0))]) := cmp_Or_int_calls [a, b] (by simp)

theorem impl_descending_calls (a : List Int) (ah : Int) (b : List Int) (bh : Int) (ha : b.length < 4611686018427387904) : ACalls Try.prog F.impl_descending [.d (shI a), .int ah, .d (shI b), .int bh] [] true (fun outs res => outs = [] ∧ res = [.one (D.int (cmpQ a ah b bh))]) := by
  refine ACalls.of_body (C := C.impl_descending) (n := Try.f85.ntmps) tabT folT Try.func85 rfl (by kernel_rfl) rfl (Nat.le_of_ble_eq_true rfl) (by decide) (by kernel_rfl) (by kernel_rfl) rfl (by simp) (by simp) ?_
  simp only [Try.f85]
  refine wseq ?_
  refine wreg fun K hK => ?_
  simp [C.impl_descending]
  refine hK _ ?_; clear hK K
  show AWp _ _ _ _ _
  refine wseq ?_
  refine wregI ([0, 1, 2] ++ ([3, 4, 5] ++ ([6, 7] ++ ([8])))) rfl fun K hK => ?_
  refine opsI_seg fun L hL => ?_
  simp [C.impl_descending]
  refine wcall1 (slices_Compare_int_int_calls b a ha) (by simp) (by simp) ?_
  simp [C.impl_descending]
  refine hL _ ?_; clear hL L
  refine opsI_seg fun L hL => ?_
  simp [C.impl_descending]
  refine wcall1 (cmp_Compare_int_calls bh ah) (by simp) (by simp) ?_
  simp [C.impl_descending]
  refine hL _ ?_; clear hL L
  refine opsI_seg fun L hL => ?_
  simp [C.impl_descending]
  refine wcall1 (or2 (cmpL b a) (cmpI bh ah)) (by simp) (by simp) ?_
  simp [C.impl_descending]
  refine hL _ ?_; clear hL L
  refine opsI_end fun L hL => ?_
  simp [C.impl_descending]
  refine hL _ ?_; clear hL L
  simp [C.impl_descending]
  refine hK _ ?_; clear hK K
  show AWp _ _ _ _ _
  refine wret ?_
  simp [C.impl_descending]
  simp only [cmpQ]
  by_cases h : cmpL b a = 0
  · by_cases h2 : cmpI bh ah = 0 <;> simp [h, h2]
  · simp [h]

theorem spec_l8Less_calls (a b : Qtm) (ha : a.e.length < 4611686018427387904) (hb : b.e.length < 4611686018427387904) : ACalls Try.prog F.spec_l8Less [aQT a, aQT b] [] true (fun outs res => outs = [] ∧ res = [.one (D.bool (qlt (qk b) (qk a)))]) := by
  refine ACalls.of_body (C := C.spec_l8Less) (n := Try.f142.ntmps) tabT folT Try.func142 rfl (by kernel_rfl) rfl (Nat.le_of_ble_eq_true rfl) (by decide) (by kernel_rfl) (by kernel_rfl) rfl (by simp) (by simp) ?_
  simp only [Try.f142]
  refine wseq ?_
  refine wreg fun K hK => ?_
  simp [C.spec_l8Less]
  refine hK _ ?_; clear hK K
  show AWp _ _ _ _ _
  refine wseq ?_
  refine wseq ?_
  refine wregI ([0, 1, 2, 3, 4] ++ ([5])) rfl fun K hK => ?_
  refine opsI_seg fun L hL => ?_
  simp [C.spec_l8Less]
  refine wcall1 (spec_l1Same_calls a.e b.e ha) (by simp) (by simp) ?_
  simp [C.spec_l8Less]
  refine hL _ ?_; clear hL L
  refine opsI_end fun L hL => ?_
  simp [C.spec_l8Less]
  refine hL _ ?_; clear hL L
  simp [C.spec_l8Less]
  refine hK _ ?_; clear hK K
  show AWp _ _ _ _ _
  refine wcond _ rfl (fun hc1 => ?_) (fun hc1 => ?_)
  · have hc := nd_t hc1
    refine wseq ?_
    refine wregI ([0, 1, 2, 3, 4] ++ ([5])) rfl fun K hK => ?_
    refine opsI_seg fun L hL => ?_
    simp [C.spec_l8Less]
    refine wcall1 (spec_l1Less_calls b.e a.e hb) (by simp) (by simp) ?_
    simp [C.spec_l8Less]
    refine hL _ ?_; clear hL L
    refine opsI_end fun L hL => ?_
    simp [C.spec_l8Less]
    refine hL _ ?_; clear hL L
    simp [C.spec_l8Less]
    refine hK _ ?_; clear hK K
    show AWp _ _ _ _ _
    refine wret ?_
    simp [C.spec_l8Less, qlt, qk, Ne.symm hc]
  · have hc := nd_f hc1
    refine wskip ?_
    show AWp _ _ _ _ _
    refine wseq ?_
    refine wreg fun K hK => ?_
    simp [C.spec_l8Less]
    refine hK _ ?_; clear hK K
    show AWp _ _ _ _ _
    refine wret ?_
    simp [C.spec_l8Less, qlt, qk, hc]

end Go.Proofs.Ytocknokodgnlbaa.Ab
namespace Go.Proofs.Ytocknokodgnlbaa.Ab
open Go
set_option linter.unusedSimpArgs false
set_option linter.unusedVariables false
set_option maxRecDepth 10000
set_option maxHeartbeats 2000000
theorem spec_QSumOk_calls (f : Qsm) (hx : f.ts.length < 4611686018427387904) (hxe : ∀ t ∈ f.ts, t.e.length < 4611686018427387904) : ACalls Try.prog F.spec_QSumOk [aQ f] [] true (fun outs res => outs = [] ∧ res = [.one (D.bool (decide (QRight f)))]) := by
  refine ACalls.of_body (C := C.spec_QSumOk) (n := Try.f138.ntmps) tabT folT Try.func138 rfl (by kernel_rfl) rfl (Nat.le_of_ble_eq_true rfl) (by decide) (by kernel_rfl) (by kernel_rfl) rfl (by simp) (by simp) ?_
  simp only [Try.f138]
  refine wseq ?_
  refine wreg fun K hK => ?_
  simp [C.spec_QSumOk, qS, qtS]
  refine hK _ ?_; clear hK K
  show AWp _ _ _ _ _
  refine wseq ?_
  refine wseq ?_
  refine wregI ([0, 1, 2] ++ ([3, 4, 5, 6, 7, 8, 9])) rfl fun K hK => ?_
  have hJ : K ⟨ofL [(1, .pt (1, 0) [] 0), (15, .bool (decide (¬ (1 ≤ f.v ∧ f.v ≤ 8) ∨ 600 < (f.ts.length : Int))))], ofRO [((1, 0), some (.bx (qS f)))]⟩ := by
    refine hK _ ?_; clear hK K
    show AWp _ _ _ _ _
    refine wcond _ rfl (fun hc1 => ?_) (fun hc1 => ?_)
    · have hh := d_t hc1
      refine wseq ?_
      refine wreg fun K hK => ?_
      simp [C.spec_QSumOk, qS, qtS]
      refine hK _ ?_; clear hK K
      show AWp _ _ _ _ _
      refine wret ?_
      simp [C.spec_QSumOk, qS, qtS]
      intro hr; have := hr.1; have := hr.2.1; omega
    · have hh0 := d_f hc1
      have hh : (1 ≤ f.v ∧ f.v ≤ 8) ∧ f.ts.length ≤ 600 := by omega
      refine wskip ?_
      show AWp _ _ _ _ _
      refine wseq ?_
      refine wseq ?_
      refine wreg fun K hK => ?_
      simp [C.spec_QSumOk, qS, qtS]
      refine hK _ ?_; clear hK K
      show AWp _ _ _ _ _
      refine wblock ?_
      refine wloop (fun k : Nat => ⟨ofL [(1, .pt (1, 0) [] 0), (3, .int k)], ofRO [((1, 0), some (.bx (qS f)))]⟩) (fun k => k ≤ f.ts.length ∧ (∀ t ∈ f.ts.take k, QGood f.v t) ∧ DescQ (f.ts.take k)) (fun k => f.ts.length - k) 0 (by simp [C.spec_QSumOk, qS]) (by simp [DescQ]) ?_
      intro x1 hx1 R1 hR1
      obtain ⟨hk, hgood, hdesc⟩ := hx1
      refine wseq ?_
      refine wseq ?_
      refine wreg fun K hK => ?_
      simp [C.spec_QSumOk, qS, qtS]
      refine hK _ ?_; clear hK K
      show AWp _ _ _ _ _
      refine wcond _ rfl (fun hc2 => ?_) (fun hc2 => ?_)
      · have h1 : x1 < f.ts.length := by simpa using hc2
        refine wskip ?_
        show AWp _ _ _ _ _
        refine wseq ?_
        refine wblock ?_
        refine wseq ?_
        refine wreg fun K hK => ?_
        simp [C.spec_QSumOk, qS, qtS, h1, qtS_0 h1, qtS_1 h1, qtS_2 h1]
        refine hK _ ?_; clear hK K
        show AWp _ _ _ _ _
        refine wseq ?_
        refine wseq ?_
        have hp : 0 < x1 → x1 - 1 < f.ts.length := by omega
        refine wdrawI [(true, 0), (true, 1), (true, 2), (true, 3), (true, 4), (true, 5), (true, 6), (true, 7), (true, 8), (true, 9), (true, 10), (true, 11), (true, 12), (true, 13), (false, 14), (true, 15), (true, 16), (true, 17), (true, 18), (true, 19), (false, 20), (true, 21), (true, 22), (true, 23), (true, 24), (true, 25), (true, 26), (true, 27), (true, 28), (true, 29), (true, 30), (true, 31), (true, 32), (true, 33), (false, 34), (true, 35), (true, 36), (true, 37)] ⟨by kernel_rfl, by kernel_rfl⟩ ([0, 1, 2, 3, 4, 5, 6, 7, 8, 9, 10, 11, 12, 13, 14] ++ ([15, 16, 17, 18, 19, 20] ++ ([21, 22, 23, 24, 25, 26, 27, 28, 29, 30, 31, 32, 33, 34] ++ ([35, 36, 37])))) rfl fun K hK => ?_
        have hJ : K ⟨ofL [(1, .pt (1, 0) [] 0), (3, .int x1), (4, .pt (4, 0) [] 0), (65, .bool (!decide ((f.ts[x1].e.length : Int) = f.v ∧ f.ts[x1].c ≠ 0 ∧ (-1000000 ≤ f.ts[x1].c ∧ f.ts[x1].c ≤ 1000000) ∧ (-200 ≤ f.ts[x1].h ∧ f.ts[x1].h ≤ 200) ∧ (x1 = 0 ∨ qlt (qk f.ts[x1]) (qk f.ts[x1 - 1]) = true))))], ofRO [((1, 0), some (.bx (qS f))), ((4, 0), some (.bx (qtS f.ts[x1])))]⟩ := by
          refine hK _ ?_; clear hK K
          show AWp _ _ _ _ _
          refine wcond _ rfl (fun hc3 => ?_) (fun hc3 => ?_)
          · have hb := nd_t hc3
            refine wseq ?_
            refine wreg fun K hK => ?_
            simp [C.spec_QSumOk, qS, qtS]
            refine hK _ ?_; clear hK K
            show AWp _ _ _ _ _
            refine wret ?_
            simp [C.spec_QSumOk, qS, qtS]
            intro hr
            have hg := hr.2.2.1 _ (List.getElem_mem h1)
            exact hb ⟨hg.1, hg.2.1, hg.2.2.1, hg.2.2.2.1, descQ_next h1 hr.2.2.2⟩
          · have hb := nd_f hc3
            refine wskip ?_
            show AWp _ _ _ _ _
            refine wseq ?_
            refine wreg fun K hK => ?_
            simp [C.spec_QSumOk, qS, qtS]
            refine hK _ ?_; clear hK K
            show AWp _ _ _ _ _
            refine wblock ?_
            refine wloop (fun i : Nat => ⟨ofL [(1, .pt (1, 0) [] 0), (3, .int x1), (4, .pt (4, 0) [] 0), (5, .int i)], ofRO [((1, 0), some (.bx (qS f))), ((4, 0), some (.bx (qtS f.ts[x1])))]⟩) (fun i => i ≤ f.ts[x1].e.length ∧ ∀ x ∈ f.ts[x1].e.take i, -20 ≤ x ∧ x ≤ 20) (fun i => f.ts[x1].e.length - i) 0 (by simp [C.spec_QSumOk, qS, qtS]) (by simp) ?_
            intro x2 hx2 R2 hR2
            obtain ⟨hi, hin⟩ := hx2
            refine wseq ?_
            refine wseq ?_
            refine wreg fun K hK => ?_
            simp [C.spec_QSumOk, qS, qtS]
            refine hK _ ?_; clear hK K
            show AWp _ _ _ _ _
            refine wcond _ rfl (fun hc4 => ?_) (fun hc4 => ?_)
            · have h2 : x2 < f.ts[x1].e.length := by have := d_t hc4; omega
              refine wskip ?_
              show AWp _ _ _ _ _
              refine wseq ?_
              refine wblock ?_
              refine wseq ?_
              refine wregI ([0, 1, 2, 3, 4, 5] ++ ([6])) rfl fun K hK => ?_
              refine opsI_seg fun L hL => ?_
              simp [C.spec_QSumOk, qS, qtS, h1, h2, get_ints]
              refine wcall1 (spec_l1In_calls f.ts[x1].e[x2] (-20) 20) (by simp) (by simp) ?_
              simp [C.spec_QSumOk, qS, qtS, h1, h2, get_ints]
              refine hL _ ?_; clear hL L
              refine opsI_end fun L hL => ?_
              simp [C.spec_QSumOk, qS, qtS, h1, h2, get_ints]
              refine hL _ ?_; clear hL L
              simp [C.spec_QSumOk, qS, qtS, h1, h2, get_ints]
              refine hK _ ?_; clear hK K
              show AWp _ _ _ _ _
              refine wcond _ rfl (fun hc5 => ?_) (fun hc5 => ?_)
              · have hb2 : ¬ (-20 ≤ f.ts[x1].e[x2] ∧ f.ts[x1].e[x2] ≤ 20) := by simp at hc5; omega
                refine wseq ?_
                refine wreg fun K hK => ?_
                simp [C.spec_QSumOk, qS, qtS]
                refine hK _ ?_; clear hK K
                show AWp _ _ _ _ _
                refine wret ?_
                simp [C.spec_QSumOk, qS, qtS]
                intro hr
                exact hb2 ((hr.2.2.1 _ (List.getElem_mem h1)).2.2.2.2 _ (List.getElem_mem h2))
              · have hb2 : -20 ≤ f.ts[x1].e[x2] ∧ f.ts[x1].e[x2] ≤ 20 := by simpa using hc5
                refine wskip ?_
                show AWp _ _ _ _ _
                refine wreg fun K hK => ?_
                simp [C.spec_QSumOk, qS, qtS, wrap_succ (show x2 < 4611686018427387904 by have := hxe _ (List.getElem_mem h1); omega)]
                refine hK _ ?_; clear hK K
                simp [C.spec_QSumOk, qS, qtS]
                refine hR2 (x2 + 1) ⟨h2, ?_⟩ (by omega)
                rw [List.take_succ_eq_append_getElem h2]
                intro x hx
                rcases List.mem_append.1 hx with hx | hx
                · exact hin x hx
                · simp only [List.mem_singleton] at hx
                  rw [hx]
                  exact hb2
            · have h2 : x2 = f.ts[x1].e.length := by have := d_f hc4; omega
              refine wexit ?_
              show AWp _ _ _ _ _
              refine wreg fun K hK => ?_
              simp [C.spec_QSumOk, qS, qtS, wrap_succ (show x1 < 4611686018427387904 by omega)]
              refine hK _ ?_; clear hK K
              simp [C.spec_QSumOk, qS, qtS]
              refine hR1 (x1 + 1) ⟨h1, ?_, descQ_step h1 hdesc hb.2.2.2.2⟩ (by omega)
              rw [List.take_succ_eq_append_getElem h1]
              intro t ht
              rcases List.mem_append.1 ht with ht | ht
              · exact hgood t ht
              · simp only [List.mem_singleton] at ht
                rw [ht]
                refine ⟨hb.1, hb.2.1, hb.2.2.1, hb.2.2.2.1, ?_⟩
                rw [h2, List.take_length] at hin
                exact hin
        clear hK
        by_cases ha : (f.ts[x1].e.length : Int) = f.v
        · by_cases hb : f.ts[x1].c = 0
          · refine opsI_seg fun L hL => ?_
            simp [C.spec_QSumOk, qS, qtS, ha, hb]
            refine hL _ ?_; clear hL L
            refine opsI_seg fun L hL => ?_
            simp [C.spec_QSumOk, qS, qtS, ha, hb]
            refine hL _ ?_; clear hL L
            refine opsI_seg fun L hL => ?_
            simp [C.spec_QSumOk, qS, qtS, ha, hb]
            refine hL _ ?_; clear hL L
            refine opsI_end fun L hL => ?_
            simp [C.spec_QSumOk, qS, qtS, ha, hb]
            refine hL _ ?_; clear hL L
            simp [C.spec_QSumOk, qS, qtS, ha, hb]
            refine cast (congrArg K ?_) hJ
            simp [qS, qtS, ha, hb]
          · by_cases hc : -1000000 ≤ f.ts[x1].c ∧ f.ts[x1].c ≤ 1000000
            · by_cases he : -200 ≤ f.ts[x1].h ∧ f.ts[x1].h ≤ 200
              · by_cases hd : 0 < x1
                · obtain ⟨m, rfl⟩ : ∃ m, x1 = m + 1 := ⟨x1 - 1, by omega⟩
                  have hm : m < f.ts.length := by omega
                  refine opsI_seg fun L hL => ?_
                  simp [C.spec_QSumOk, qS, qtS, hm, qtS_0 hm, qtS_1 hm, qtS_2 hm, wrap_nat (show m < 4611686018427387904 by omega), ha, hb, hc, he, hd]
                  refine wcall1 (spec_l1In_calls f.ts[m + 1].c (-1000000) 1000000) (by simp) (by simp) ?_
                  simp [C.spec_QSumOk, qS, qtS, hm, qtS_0 hm, qtS_1 hm, qtS_2 hm, wrap_nat (show m < 4611686018427387904 by omega), ha, hb, hc, he, hd]
                  refine hL _ ?_; clear hL L
                  refine opsI_seg fun L hL => ?_
                  simp [C.spec_QSumOk, qS, qtS, hm, qtS_0 hm, qtS_1 hm, qtS_2 hm, wrap_nat (show m < 4611686018427387904 by omega), ha, hb, hc, he, hd]
                  refine wcall1 (spec_l1In_calls f.ts[m + 1].h (-200) 200) (by simp) (by simp) ?_
                  simp [C.spec_QSumOk, qS, qtS, hm, qtS_0 hm, qtS_1 hm, qtS_2 hm, wrap_nat (show m < 4611686018427387904 by omega), ha, hb, hc, he, hd]
                  refine hL _ ?_; clear hL L
                  refine opsI_seg fun L hL => ?_
                  simp [C.spec_QSumOk, qS, qtS, hm, qtS_0 hm, qtS_1 hm, qtS_2 hm, wrap_nat (show m < 4611686018427387904 by omega), ha, hb, hc, he, hd]
                  refine wcall1 (spec_l8Less_calls f.ts[m] f.ts[m + 1] (hxe _ (List.getElem_mem hm)) (hxe _ (List.getElem_mem h1))) (by simp) (by simp) ?_
                  simp [C.spec_QSumOk, qS, qtS, hm, qtS_0 hm, qtS_1 hm, qtS_2 hm, wrap_nat (show m < 4611686018427387904 by omega), ha, hb, hc, he, hd]
                  refine hL _ ?_; clear hL L
                  refine opsI_end fun L hL => ?_
                  simp [C.spec_QSumOk, qS, qtS, hm, qtS_0 hm, qtS_1 hm, qtS_2 hm, wrap_nat (show m < 4611686018427387904 by omega), ha, hb, hc, he, hd]
                  refine hL _ ?_; clear hL L
                  simp [C.spec_QSumOk, qS, qtS, hm, qtS_0 hm, qtS_1 hm, qtS_2 hm, wrap_nat (show m < 4611686018427387904 by omega), ha, hb, hc, he, hd]
                  refine cast (congrArg K ?_) hJ
                  simp [qS, qtS, ha, hb, hc, he, hd]
                · obtain rfl : x1 = 0 := by omega
                  refine opsI_seg fun L hL => ?_
                  simp [C.spec_QSumOk, qS, qtS, ha, hb, hc, he, hd]
                  refine wcall1 (spec_l1In_calls f.ts[0].c (-1000000) 1000000) (by simp) (by simp) ?_
                  simp [C.spec_QSumOk, qS, qtS, ha, hb, hc, he, hd]
                  refine hL _ ?_; clear hL L
                  refine opsI_seg fun L hL => ?_
                  simp [C.spec_QSumOk, qS, qtS, ha, hb, hc, he, hd]
                  refine wcall1 (spec_l1In_calls f.ts[0].h (-200) 200) (by simp) (by simp) ?_
                  simp [C.spec_QSumOk, qS, qtS, ha, hb, hc, he, hd]
                  refine hL _ ?_; clear hL L
                  refine opsI_seg fun L hL => ?_
                  simp [C.spec_QSumOk, qS, qtS, ha, hb, hc, he, hd]
                  refine hL _ ?_; clear hL L
                  refine opsI_end fun L hL => ?_
                  simp [C.spec_QSumOk, qS, qtS, ha, hb, hc, he, hd]
                  refine hL _ ?_; clear hL L
                  simp [C.spec_QSumOk, qS, qtS, ha, hb, hc, he, hd]
                  refine cast (congrArg K ?_) hJ
                  simp [qS, qtS, ha, hb, hc, he, hd]
              · refine opsI_seg fun L hL => ?_
                simp [C.spec_QSumOk, qS, qtS, ha, hb, hc, he]
                refine wcall1 (spec_l1In_calls f.ts[x1].c (-1000000) 1000000) (by simp) (by simp) ?_
                simp [C.spec_QSumOk, qS, qtS, ha, hb, hc, he]
                refine hL _ ?_; clear hL L
                refine opsI_seg fun L hL => ?_
                simp [C.spec_QSumOk, qS, qtS, ha, hb, hc, he]
                refine wcall1 (spec_l1In_calls f.ts[x1].h (-200) 200) (by simp) (by simp) ?_
                simp [C.spec_QSumOk, qS, qtS, ha, hb, hc, he]
                refine hL _ ?_; clear hL L
                refine opsI_seg fun L hL => ?_
                simp [C.spec_QSumOk, qS, qtS, ha, hb, hc, he]
                refine hL _ ?_; clear hL L
                refine opsI_end fun L hL => ?_
                simp [C.spec_QSumOk, qS, qtS, ha, hb, hc, he]
                refine hL _ ?_; clear hL L
                simp [C.spec_QSumOk, qS, qtS, ha, hb, hc, he]
                refine cast (congrArg K ?_) hJ
                simp [qS, qtS, ha, hb, hc, he]
            · refine opsI_seg fun L hL => ?_
              simp [C.spec_QSumOk, qS, qtS, ha, hb, hc]
              refine wcall1 (spec_l1In_calls f.ts[x1].c (-1000000) 1000000) (by simp) (by simp) ?_
              simp [C.spec_QSumOk, qS, qtS, ha, hb, hc]
              refine hL _ ?_; clear hL L
              refine opsI_seg fun L hL => ?_
              simp [C.spec_QSumOk, qS, qtS, ha, hb, hc]
              refine hL _ ?_; clear hL L
              refine opsI_seg fun L hL => ?_
              simp [C.spec_QSumOk, qS, qtS, ha, hb, hc]
              refine hL _ ?_; clear hL L
              refine opsI_end fun L hL => ?_
              simp [C.spec_QSumOk, qS, qtS, ha, hb, hc]
              refine hL _ ?_; clear hL L
              simp [C.spec_QSumOk, qS, qtS, ha, hb, hc]
              refine cast (congrArg K ?_) hJ
              simp [qS, qtS, ha, hb, hc]
        · refine opsI_seg fun L hL => ?_
          simp [C.spec_QSumOk, qS, qtS, ha]
          refine hL _ ?_; clear hL L
          refine opsI_seg fun L hL => ?_
          simp [C.spec_QSumOk, qS, qtS, ha]
          refine hL _ ?_; clear hL L
          refine opsI_seg fun L hL => ?_
          simp [C.spec_QSumOk, qS, qtS, ha]
          refine hL _ ?_; clear hL L
          refine opsI_end fun L hL => ?_
          simp [C.spec_QSumOk, qS, qtS, ha]
          refine hL _ ?_; clear hL L
          simp [C.spec_QSumOk, qS, qtS, ha]
          refine cast (congrArg K ?_) hJ
          simp [qS, qtS, ha]
      · have h2 : x1 = f.ts.length := by have := d_f hc2; omega
        refine wexit ?_
        show AWp _ _ _ _ _
        refine wseq ?_
        refine wreg fun K hK => ?_
        simp [C.spec_QSumOk, qS, qtS]
        refine hK _ ?_; clear hK K
        show AWp _ _ _ _ _
        refine wret ?_
        simp [C.spec_QSumOk, qS, qtS]
        rw [h2, List.take_length] at hgood hdesc
        exact ⟨hh.1, hh.2, hgood, hdesc⟩
  clear hK
  by_cases ha : 1 ≤ f.v ∧ f.v ≤ 8
  · refine opsI_seg fun L hL => ?_
    simp [C.spec_QSumOk, qS, qtS, ha]
    refine wcall1 (spec_l1In_calls f.v 1 8) (by simp) (by simp) ?_
    simp [C.spec_QSumOk, qS, qtS, ha]
    refine hL _ ?_; clear hL L
    refine opsI_end fun L hL => ?_
    simp [C.spec_QSumOk, qS, qtS, ha]
    refine hL _ ?_; clear hL L
    simp [C.spec_QSumOk, qS, qtS, ha]
    refine cast (congrArg K ?_) hJ
    simp [qS, qtS, ha]
  · refine opsI_seg fun L hL => ?_
    simp [C.spec_QSumOk, qS, qtS, ha]
    refine wcall1 (spec_l1In_calls f.v 1 8) (by simp) (by simp) ?_
    simp [C.spec_QSumOk, qS, qtS, ha]
    refine hL _ ?_; clear hL L
    refine opsI_end fun L hL => ?_
    simp [C.spec_QSumOk, qS, qtS, ha]
    refine hL _ ?_; clear hL L
    simp [C.spec_QSumOk, qS, qtS, ha]
    refine cast (congrArg K ?_) hJ
    simp [qS, qtS, ha]

theorem impl_QSumOk_calls (f : Qsm) (hx : f.ts.length < 4611686018427387904) (hxe : ∀ t ∈ f.ts, t.e.length < 4611686018427387904) : ACalls Try.prog F.impl_QSumOk [aQ f] [] true (fun outs res => outs = [] ∧ res = [.one (D.bool (decide (QRight f)))]) := by
  refine ACalls.of_body (C := C.impl_QSumOk) (n := Try.f83.ntmps) tabT folT Try.func83 rfl (by kernel_rfl) rfl (Nat.le_of_ble_eq_true rfl) (by decide) (by kernel_rfl) (by kernel_rfl) rfl (by simp) (by simp) ?_
  simp only [Try.f83]
  refine wseq ?_
  refine wreg fun K hK => ?_
  simp [C.impl_QSumOk, qS, qtS]
  refine hK _ ?_; clear hK K
  show AWp _ _ _ _ _
  refine wseq ?_
  refine wseq ?_
  refine wregI ([0, 1, 2] ++ ([3, 4, 5, 6, 7, 8, 9])) rfl fun K hK => ?_
  have hJ : K ⟨ofL [(1, .pt (1, 0) [] 0), (14, .bool (decide (¬ (1 ≤ f.v ∧ f.v ≤ 8) ∨ 600 < (f.ts.length : Int))))], ofRO [((1, 0), some (.bx (qS f)))]⟩ := by
    refine hK _ ?_; clear hK K
    show AWp _ _ _ _ _
    refine wcond _ rfl (fun hc1 => ?_) (fun hc1 => ?_)
    · have hh := d_t hc1
      refine wseq ?_
      refine wreg fun K hK => ?_
      simp [C.impl_QSumOk, qS, qtS]
      refine hK _ ?_; clear hK K
      show AWp _ _ _ _ _
      refine wret ?_
      simp [C.impl_QSumOk, qS, qtS]
      intro hr; have := hr.1; have := hr.2.1; omega
    · have hh0 := d_f hc1
      have hh : (1 ≤ f.v ∧ f.v ≤ 8) ∧ f.ts.length ≤ 600 := by omega
      refine wskip ?_
      show AWp _ _ _ _ _
      refine wseq ?_
      refine wseq ?_
      refine wreg fun K hK => ?_
      simp [C.impl_QSumOk, qS, qtS]
      refine hK _ ?_; clear hK K
      show AWp _ _ _ _ _
      refine wblock ?_
      refine wloop (fun k : Nat => ⟨ofL [(1, .pt (1, 0) [] 0), (16, .d (.sh 3 f.ts.length (rows qtS f.ts))), (17, .int f.ts.length), (18, .int k)], ofRO [((1, 0), some (.bx (qS f)))]⟩) (fun k => k ≤ f.ts.length ∧ (∀ t ∈ f.ts.take k, QGood f.v t) ∧ DescQ (f.ts.take k)) (fun k => f.ts.length - k) 0 (by simp [C.impl_QSumOk, qS]) (by simp [DescQ]) ?_
      intro x1 hx1 R1 hR1
      obtain ⟨hk, hgood, hdesc⟩ := hx1
      refine wseq ?_
      refine wreg fun K hK => ?_
      simp [C.impl_QSumOk, qS, qtS]
      refine hK _ ?_; clear hK K
      show AWp _ _ _ _ _
      refine wseq ?_
      refine wcond _ rfl (fun hc2 => ?_) (fun hc2 => ?_)
      · have h1 : x1 < f.ts.length := by have := d_t hc2; omega
        refine wskip ?_
        show AWp _ _ _ _ _
        refine wseq ?_
        refine wblock ?_
        refine wseq ?_
        refine wreg fun K hK => ?_
        simp [C.impl_QSumOk, qS, qtS, h1, qtS_0 h1, qtS_1 h1, qtS_2 h1]
        refine hK _ ?_; clear hK K
        show AWp _ _ _ _ _
        refine wseq ?_
        refine wseq ?_
        refine wregI ([0, 1, 2, 3, 4] ++ ([5, 6, 7, 8, 9] ++ ([10, 11, 12, 13, 14, 15] ++ ([16, 17])))) rfl fun K hK => ?_
        have hJ : K ⟨ofL [(1, .pt (1, 0) [] 0), (3, .int x1), (4, .pt (4, 0) [] 0), (16, .d (.sh 3 f.ts.length (rows qtS f.ts))), (17, .int f.ts.length), (18, .int x1), (40, .bool (!decide (okE f.ts[x1].e f.v = true ∧ (-200 ≤ f.ts[x1].h ∧ f.ts[x1].h ≤ 200) ∧ (f.ts[x1].c ≠ 0 ∧ -1000000 ≤ f.ts[x1].c ∧ f.ts[x1].c ≤ 1000000))))], ofRO [((1, 0), some (.bx (qS f))), ((4, 0), some (.bx (qtS f.ts[x1])))]⟩ := by
          refine hK _ ?_; clear hK K
          show AWp _ _ _ _ _
          refine wcond _ rfl (fun hc3 => ?_) (fun hc3 => ?_)
          · have hb := nd_t hc3
            refine wseq ?_
            refine wreg fun K hK => ?_
            simp [C.impl_QSumOk, qS, qtS]
            refine hK _ ?_; clear hK K
            show AWp _ _ _ _ _
            refine wret ?_
            simp [C.impl_QSumOk, qS, qtS]
            intro hr
            have hg := hr.2.2.1 _ (List.getElem_mem h1)
            exact hb ⟨okE_iff.2 ⟨hg.1, hg.2.2.2.2⟩, hg.2.2.2.1, hg.2.1, hg.2.2.1⟩
          · have hb := nd_f hc3
            refine wskip ?_
            show AWp _ _ _ _ _
            refine wseq ?_
            have hp : 0 < x1 → x1 - 1 < f.ts.length := by omega
            refine wdrawI [(true, 0), (true, 1), (true, 2), (true, 3), (true, 4), (true, 5), (true, 6), (true, 7), (true, 8), (true, 9), (true, 10), (true, 11), (true, 12), (true, 13), (true, 14), (true, 15), (true, 16), (true, 17), (true, 18), (true, 19), (true, 20), (false, 21), (true, 22), (true, 23)] ⟨by kernel_rfl, by kernel_rfl⟩ ([0, 1, 2, 3, 4, 5, 6, 7, 8, 9, 10, 11, 12, 13, 14, 15, 16, 17, 18, 19, 20, 21] ++ ([22, 23])) rfl fun K hK => ?_
            have hJ : K ⟨ofL [(1, .pt (1, 0) [] 0), (16, .d (.sh 3 f.ts.length (rows qtS f.ts))), (17, .int f.ts.length), (18, .int x1), (64, .bool (!decide (x1 = 0 ∨ qlt (qk f.ts[x1]) (qk f.ts[x1 - 1]) = true)))], ofRO [((1, 0), some (.bx (qS f)))]⟩ := by
              refine hK _ ?_; clear hK K
              show AWp _ _ _ _ _
              refine wcond _ rfl (fun hc4 => ?_) (fun hc4 => ?_)
              · have hb2 := nd_t hc4
                refine wseq ?_
                refine wreg fun K hK => ?_
                simp [C.impl_QSumOk, qS, qtS]
                refine hK _ ?_; clear hK K
                show AWp _ _ _ _ _
                refine wret ?_
                simp [C.impl_QSumOk, qS, qtS]
                intro hr
                exact hb2 (descQ_next h1 hr.2.2.2)
              · have hb2 := nd_f hc4
                refine wskip ?_
                show AWp _ _ _ _ _
                refine wreg fun K hK => ?_
                simp [C.impl_QSumOk, qS, qtS, wrap_succ (show x1 < 4611686018427387904 by omega)]
                refine hK _ ?_; clear hK K
                simp [C.impl_QSumOk, qS, qtS]
                refine hR1 (x1 + 1) ⟨h1, ?_, descQ_step h1 hdesc hb2⟩ (by omega)
                rw [List.take_succ_eq_append_getElem h1]
                intro t ht
                rcases List.mem_append.1 ht with ht | ht
                · exact hgood t ht
                · simp only [List.mem_singleton] at ht
                  rw [ht]
                  have ho := okE_iff.1 hb.1
                  exact ⟨ho.1, hb.2.2.1, hb.2.2.2, hb.2.1, ho.2⟩
            clear hK
            by_cases hd : 0 < x1
            · obtain ⟨m, rfl⟩ : ∃ m, x1 = m + 1 := ⟨x1 - 1, by omega⟩
              have hm : m < f.ts.length := by omega
              refine opsI_seg fun L hL => ?_
              simp [C.impl_QSumOk, qS, qtS, hm, qtS_0 hm, qtS_1 hm, qtS_2 hm, wrap_nat (show m < 4611686018427387904 by omega), hd]
              refine wcall1 (impl_descending_calls f.ts[m].e f.ts[m].h f.ts[m + 1].e f.ts[m + 1].h (hxe _ (List.getElem_mem h1))) (by simp) (by simp) ?_
              simp [C.impl_QSumOk, qS, qtS, hm, qtS_0 hm, qtS_1 hm, qtS_2 hm, wrap_nat (show m < 4611686018427387904 by omega), hd]
              refine hL _ ?_; clear hL L
              refine opsI_end fun L hL => ?_
              simp [C.impl_QSumOk, qS, qtS, hm, qtS_0 hm, qtS_1 hm, qtS_2 hm, wrap_nat (show m < 4611686018427387904 by omega), hd]
              refine hL _ ?_; clear hL L
              simp [C.impl_QSumOk, qS, qtS, hm, qtS_0 hm, qtS_1 hm, qtS_2 hm, wrap_nat (show m < 4611686018427387904 by omega), hd]
              refine cast (congrArg K ?_) hJ
              simp [cmpQ_pos, qk, qS, qtS, hd]
            · obtain rfl : x1 = 0 := by omega
              refine opsI_seg fun L hL => ?_
              simp [C.impl_QSumOk, qS, qtS, hd]
              refine hL _ ?_; clear hL L
              refine opsI_end fun L hL => ?_
              simp [C.impl_QSumOk, qS, qtS, hd]
              refine hL _ ?_; clear hL L
              simp [C.impl_QSumOk, qS, qtS, hd]
              refine cast (congrArg K ?_) hJ
              simp [qS, qtS, hd]
        clear hK
        by_cases ha : okE f.ts[x1].e f.v = true
        · by_cases he : -200 ≤ f.ts[x1].h ∧ f.ts[x1].h ≤ 200
          · refine opsI_seg fun L hL => ?_
            simp [C.impl_QSumOk, qS, qtS, ha, he]
            refine wcall1 (impl_expOk_calls f.ts[x1].e f.v (hxe _ (List.getElem_mem h1))) (by simp) (by simp) ?_
            simp [C.impl_QSumOk, qS, qtS, ha, he]
            refine hL _ ?_; clear hL L
            refine opsI_seg fun L hL => ?_
            simp [C.impl_QSumOk, qS, qtS, ha, he]
            refine wcall1 (impl_within_calls f.ts[x1].h (-200) 200) (by simp) (by simp) ?_
            simp [C.impl_QSumOk, qS, qtS, ha, he]
            refine hL _ ?_; clear hL L
            refine opsI_seg fun L hL => ?_
            simp [C.impl_QSumOk, qS, qtS, ha, he]
            refine wcall1 (impl_coefOk_calls f.ts[x1].c) (by simp) (by simp) ?_
            simp [C.impl_QSumOk, qS, qtS, ha, he]
            refine hL _ ?_; clear hL L
            refine opsI_end fun L hL => ?_
            simp [C.impl_QSumOk, qS, qtS, ha, he]
            refine hL _ ?_; clear hL L
            simp [C.impl_QSumOk, qS, qtS, ha, he]
            refine cast (congrArg K ?_) hJ
            simp [qS, qtS, ha, he]
          · refine opsI_seg fun L hL => ?_
            simp [C.impl_QSumOk, qS, qtS, ha, he]
            refine wcall1 (impl_expOk_calls f.ts[x1].e f.v (hxe _ (List.getElem_mem h1))) (by simp) (by simp) ?_
            simp [C.impl_QSumOk, qS, qtS, ha, he]
            refine hL _ ?_; clear hL L
            refine opsI_seg fun L hL => ?_
            simp [C.impl_QSumOk, qS, qtS, ha, he]
            refine wcall1 (impl_within_calls f.ts[x1].h (-200) 200) (by simp) (by simp) ?_
            simp [C.impl_QSumOk, qS, qtS, ha, he]
            refine hL _ ?_; clear hL L
            refine opsI_seg fun L hL => ?_
            simp [C.impl_QSumOk, qS, qtS, ha, he]
            refine hL _ ?_; clear hL L
            refine opsI_end fun L hL => ?_
            simp [C.impl_QSumOk, qS, qtS, ha, he]
            refine hL _ ?_; clear hL L
            simp [C.impl_QSumOk, qS, qtS, ha, he]
            refine cast (congrArg K ?_) hJ
            simp [qS, qtS, ha, he]
        · refine opsI_seg fun L hL => ?_
          simp [C.impl_QSumOk, qS, qtS, ha]
          refine wcall1 (impl_expOk_calls f.ts[x1].e f.v (hxe _ (List.getElem_mem h1))) (by simp) (by simp) ?_
          simp [C.impl_QSumOk, qS, qtS, ha]
          refine hL _ ?_; clear hL L
          refine opsI_seg fun L hL => ?_
          simp [C.impl_QSumOk, qS, qtS, ha]
          refine hL _ ?_; clear hL L
          refine opsI_seg fun L hL => ?_
          simp [C.impl_QSumOk, qS, qtS, ha]
          refine hL _ ?_; clear hL L
          refine opsI_end fun L hL => ?_
          simp [C.impl_QSumOk, qS, qtS, ha]
          refine hL _ ?_; clear hL L
          simp [C.impl_QSumOk, qS, qtS, ha]
          refine cast (congrArg K ?_) hJ
          simp [qS, qtS, ha]
      · have h2 : x1 = f.ts.length := by have := d_f hc2; omega
        refine wexit ?_
        show AWp _ _ _ _ _
        refine wseq ?_
        refine wreg fun K hK => ?_
        simp [C.impl_QSumOk, qS, qtS]
        refine hK _ ?_; clear hK K
        show AWp _ _ _ _ _
        refine wret ?_
        simp [C.impl_QSumOk, qS, qtS]
        rw [h2, List.take_length] at hgood hdesc
        exact ⟨hh.1, hh.2, hgood, hdesc⟩
  clear hK
  by_cases ha : 1 ≤ f.v ∧ f.v ≤ 8
  · refine opsI_seg fun L hL => ?_
    simp [C.impl_QSumOk, qS, qtS, ha]
    refine wcall1 (impl_within_calls f.v 1 8) (by simp) (by simp) ?_
    simp [C.impl_QSumOk, qS, qtS, ha]
    refine hL _ ?_; clear hL L
    refine opsI_end fun L hL => ?_
    simp [C.impl_QSumOk, qS, qtS, ha]
    refine hL _ ?_; clear hL L
    simp [C.impl_QSumOk, qS, qtS, ha]
    refine cast (congrArg K ?_) hJ
    simp [qS, qtS, ha]
  · refine opsI_seg fun L hL => ?_
    simp [C.impl_QSumOk, qS, qtS, ha]
    refine wcall1 (impl_within_calls f.v 1 8) (by simp) (by simp) ?_
    simp [C.impl_QSumOk, qS, qtS, ha]
    refine hL _ ?_; clear hL L
    refine opsI_end fun L hL => ?_
    simp [C.impl_QSumOk, qS, qtS, ha]
    refine hL _ ?_; clear hL L
    simp [C.impl_QSumOk, qS, qtS, ha]
    refine cast (congrArg K ?_) hJ
    simp [qS, qtS, ha]

end Go.Proofs.Ytocknokodgnlbaa.Ab
namespace Go.Proofs.Ytocknokodgnlbaa.Ab
open Go
set_option linter.unusedSimpArgs false
set_option linter.unusedVariables false
set_option maxRecDepth 10000
set_option maxHeartbeats 2000000
def at2 (fm : List (List Int)) (i j : Nat) : Int := (fm.getD i []).getD j 0
theorem row_eq {fm : List (List Int)} {i : Nat} (h : i < fm.length) : fm.getD i [] = fm[i] := by simp [List.getD_eq_getElem?_getD, h]
theorem int_eq {a : List Int} {i : Nat} (h : i < a.length) : a.getD i 0 = a[i] := by simp [List.getD_eq_getElem?_getD, h]
theorem at2_eq {fm : List (List Int)} {i j : Nat} (h : i < fm.length) (h2 : j < fm[i].length) : at2 fm i j = fm[i][j] := by
  unfold at2
  rw [row_eq h, int_eq h2]
def Skp (fm : List (List Int)) (i j : Nat) : Prop := (-99 ≤ at2 fm i j ∧ at2 fm i j ≤ 99) ∧ at2 fm i j + at2 fm j i = 0
def FormOk (fm : List (List Int)) : Prop := (1 ≤ (fm.length : Int) ∧ (fm.length : Int) ≤ 8) ∧ (∀ i, i < fm.length → (fm.getD i []).length = fm.length) ∧ ∀ i, i < fm.length → ∀ j, j < fm.length → Skp fm i j
noncomputable instance (fm : List (List Int)) : Decidable (FormOk fm) := Classical.propDecidable _
def I64 (fm : List (List Int)) : Prop := ∀ r ∈ fm, ∀ x ∈ r, -9223372036854775808 ≤ x ∧ x ≤ 9223372036854775807
theorem wrap_zero {a b : Int} (ha : -99 ≤ a ∧ a ≤ 99) (hb : -9223372036854775808 ≤ b ∧ b ≤ 9223372036854775807) : IntKind.i64.wrap (a + b) = 0 ↔ a + b = 0 := by
  rw [IntKind.wrap_i64]
  omega
theorem wrap_neg {a b : Int} (ha : -99 ≤ a ∧ a ≤ 99) (hb : -9223372036854775808 ≤ b ∧ b ≤ 9223372036854775807) : a = IntKind.i64.wrap (-b) ↔ a + b = 0 := by
  rw [IntKind.wrap_i64]
  omega
theorem spec_l8Form_calls (fm : List (List Int)) (hx : fm.length < 4611686018427387904) (hI : I64 fm) : ACalls Try.prog F.spec_l8Form [.d (.sh 1 fm.length (rows lS fm))] [] true (fun outs res => outs = [] ∧ res = [.one (D.bool (decide (FormOk fm)))]) := by
  refine ACalls.of_body (C := C.spec_l8Form) (n := Try.f137.ntmps) tabT folT Try.func137 rfl (by kernel_rfl) rfl (Nat.le_of_ble_eq_true rfl) (by decide) (by kernel_rfl) (by kernel_rfl) rfl (by simp) (by simp) ?_
  simp only [Try.f137]
  refine wseq ?_
  refine wreg fun K hK => ?_
  simp [C.spec_l8Form]
  refine hK _ ?_; clear hK K
  show AWp _ _ _ _ _
  refine wseq ?_
  refine wreg fun K hK => ?_
  simp [C.spec_l8Form]
  refine hK _ ?_; clear hK K
  show AWp _ _ _ _ _
  refine wseq ?_
  refine wseq ?_
  refine wregI ([0, 1] ++ ([2])) rfl fun K hK => ?_
  refine opsI_seg fun L hL => ?_
  simp [C.spec_l8Form]
  refine wcall1 (spec_l1In_calls fm.length 1 8) (by simp) (by simp) ?_
  simp [C.spec_l8Form]
  refine hL _ ?_; clear hL L
  refine opsI_end fun L hL => ?_
  simp [C.spec_l8Form]
  refine hL _ ?_; clear hL L
  simp [C.spec_l8Form]
  refine hK _ ?_; clear hK K
  show AWp _ _ _ _ _
  refine wcond _ rfl (fun hc1 => ?_) (fun hc1 => ?_)
  · have hc : ¬ (1 ≤ (fm.length : Int) ∧ (fm.length : Int) ≤ 8) := by simp at hc1; omega
    refine wseq ?_
    refine wreg fun K hK => ?_
    simp [C.spec_l8Form]
    refine hK _ ?_; clear hK K
    show AWp _ _ _ _ _
    refine wret ?_
    simp [C.spec_l8Form]
    exact fun h => hc h.1
  · have hn : 1 ≤ (fm.length : Int) ∧ (fm.length : Int) ≤ 8 := by simp at hc1; omega
    refine wskip ?_
    show AWp _ _ _ _ _
    refine wseq ?_
    refine wseq ?_
    refine wreg fun K hK => ?_
    simp [C.spec_l8Form]
    refine hK _ ?_; clear hK K
    show AWp _ _ _ _ _
    refine wblock ?_
    refine wloop (fun x : Nat => ⟨ofL [(0, .d (.sh 1 fm.length (rows lS fm))), (3, .int fm.length), (4, .int x)], ofRO []⟩) (fun x => x ≤ fm.length ∧ ∀ i, i < x → (fm.getD i []).length = fm.length) (fun x => fm.length - x) 0 (by simp [C.spec_l8Form]) (by simp) ?_
    intro x1 hx1 R1 hR1
    obtain ⟨g1, g2⟩ := hx1
    refine wseq ?_
    refine wseq ?_
    refine wreg fun K hK => ?_
    simp [C.spec_l8Form]
    refine hK _ ?_; clear hK K
    show AWp _ _ _ _ _
    refine wcond _ rfl (fun hc2 => ?_) (fun hc2 => ?_)
    · have h1 : x1 < fm.length := by have := d_t hc2; omega
      refine wskip ?_
      show AWp _ _ _ _ _
      refine wseq ?_
      refine wblock ?_
      refine wseq ?_
      refine wreg fun K hK => ?_
      simp [C.spec_l8Form, h1, lS_0 h1]
      refine hK _ ?_; clear hK K
      show AWp _ _ _ _ _
      refine wcond _ rfl (fun hc3 => ?_) (fun hc3 => ?_)
      · have hb : ¬ fm[x1].length = fm.length := by intro e; simp [e] at hc3
        refine wseq ?_
        refine wreg fun K hK => ?_
        simp [C.spec_l8Form]
        refine hK _ ?_; clear hK K
        show AWp _ _ _ _ _
        refine wret ?_
        simp [C.spec_l8Form]
        exact fun h => hb (by have := h.2.1 x1 h1; rwa [row_eq h1] at this)
      · have hb : fm[x1].length = fm.length := by simp at hc3; omega
        refine wskip ?_
        show AWp _ _ _ _ _
        refine wreg fun K hK => ?_
        simp [C.spec_l8Form, wrap_succ (show x1 < 4611686018427387904 by omega)]
        refine hK _ ?_; clear hK K
        simp [C.spec_l8Form]
        refine hR1 (x1 + 1) ⟨h1, fun i hi => ?_⟩ (by omega)
        rcases Nat.lt_or_ge i x1 with q | q
        · exact g2 i q
        · obtain rfl : i = x1 := by omega
          rw [row_eq h1]
          exact hb
    · have h1 : x1 = fm.length := by have := d_f hc2; omega
      rw [h1] at g2
      have hrl : ∀ i (h : i < fm.length), fm[i].length = fm.length := fun i h => by have := g2 i h; rwa [row_eq h] at this
      refine wexit ?_
      show AWp _ _ _ _ _
      refine wseq ?_
      refine wseq ?_
      refine wreg fun K hK => ?_
      simp [C.spec_l8Form]
      refine hK _ ?_; clear hK K
      show AWp _ _ _ _ _
      refine wblock ?_
      refine wloop (fun x : Nat => ⟨ofL [(0, .d (.sh 1 fm.length (rows lS fm))), (3, .int fm.length), (5, .int x)], ofRO []⟩) (fun x => x ≤ fm.length ∧ ∀ i, i < x → ∀ j, j < fm.length → Skp fm i j) (fun x => fm.length - x) 0 (by simp [C.spec_l8Form]) (by simp) ?_
      intro x2 hx2 R2 hR2
      obtain ⟨g3, g4⟩ := hx2
      refine wseq ?_
      refine wseq ?_
      refine wreg fun K hK => ?_
      simp [C.spec_l8Form]
      refine hK _ ?_; clear hK K
      show AWp _ _ _ _ _
      refine wcond _ rfl (fun hc4 => ?_) (fun hc4 => ?_)
      · have h2 : x2 < fm.length := by have := d_t hc4; omega
        refine wskip ?_
        show AWp _ _ _ _ _
        refine wseq ?_
        refine wblock ?_
        refine wseq ?_
        refine wreg fun K hK => ?_
        simp [C.spec_l8Form]
        refine hK _ ?_; clear hK K
        show AWp _ _ _ _ _
        refine wblock ?_
        refine wloop (fun x : Nat => ⟨ofL [(0, .d (.sh 1 fm.length (rows lS fm))), (3, .int fm.length), (5, .int x2), (6, .int x)], ofRO []⟩) (fun x => x ≤ fm.length ∧ ∀ j, j < x → Skp fm x2 j) (fun x => fm.length - x) 0 (by simp [C.spec_l8Form]) (by simp) ?_
        intro x3 hx3 R3 hR3
        obtain ⟨g5, g6⟩ := hx3
        refine wseq ?_
        refine wseq ?_
        refine wreg fun K hK => ?_
        simp [C.spec_l8Form]
        refine hK _ ?_; clear hK K
        show AWp _ _ _ _ _
        refine wcond _ rfl (fun hc5 => ?_) (fun hc5 => ?_)
        · have h3 : x3 < fm.length := by have := d_t hc5; omega
          have h23 : x3 < fm[x2].length := by rw [hrl x2 h2]; exact h3
          have h32 : x2 < fm[x3].length := by rw [hrl x3 h3]; exact h2
          have hi2 := hI _ (List.getElem_mem h2) _ (List.getElem_mem h23)
          have hi3 := hI _ (List.getElem_mem h3) _ (List.getElem_mem h32)
          have hsk : Skp fm x2 x3 ↔ (-99 ≤ fm[x2][x3] ∧ fm[x2][x3] ≤ 99) ∧ fm[x2][x3] + fm[x3][x2] = 0 := by unfold Skp; rw [at2_eq h2 h23, at2_eq h3 h32]
          refine wskip ?_
          show AWp _ _ _ _ _
          refine wseq ?_
          refine wblock ?_
          refine wseq ?_
          refine wdrawI [(true, 0), (true, 1), (true, 2), (true, 3), (true, 4), (true, 5), (true, 6), (false, 7), (true, 8), (true, 9), (true, 10), (true, 11), (true, 12), (true, 13), (true, 14), (true, 15), (true, 16), (true, 17), (true, 18), (true, 19), (true, 20), (true, 21), (true, 22), (true, 23), (true, 24), (true, 25), (true, 26)] ⟨by kernel_rfl, by kernel_rfl⟩ ([0, 1, 2, 3, 4, 5, 6, 7] ++ ([8, 9, 10, 11, 12, 13, 14, 15, 16, 17, 18, 19, 20, 21, 22, 23, 24, 25, 26])) rfl fun K hK => ?_
          have hJ : K ⟨ofL [(0, .d (.sh 1 fm.length (rows lS fm))), (3, .int fm.length), (5, .int x2), (6, .int x3), (60, .bool (!decide ((-99 ≤ fm[x2][x3] ∧ fm[x2][x3] ≤ 99) ∧ fm[x2][x3] + fm[x3][x2] = 0)))], ofRO []⟩ := by
            refine hK _ ?_; clear hK K
            show AWp _ _ _ _ _
            refine wcond _ rfl (fun hc6 => ?_) (fun hc6 => ?_)
            · have hb := nd_t hc6
              refine wseq ?_
              refine wreg fun K hK => ?_
              simp [C.spec_l8Form]
              refine hK _ ?_; clear hK K
              show AWp _ _ _ _ _
              refine wret ?_
              simp [C.spec_l8Form]
              exact fun h => hb (hsk.1 (h.2.2 x2 h2 x3 h3))
            · have hb := nd_f hc6
              refine wskip ?_
              show AWp _ _ _ _ _
              refine wreg fun K hK => ?_
              simp [C.spec_l8Form, wrap_succ (show x3 < 4611686018427387904 by omega)]
              refine hK _ ?_; clear hK K
              simp [C.spec_l8Form]
              refine hR3 (x3 + 1) ⟨h3, fun j hj => ?_⟩ (by omega)
              rcases Nat.lt_or_ge j x3 with q | q
              · exact g6 j q
              · obtain rfl : j = x3 := by omega
                exact hsk.2 hb
          clear hK
          by_cases ha : -99 ≤ fm[x2][x3] ∧ fm[x2][x3] ≤ 99
          · refine opsI_seg fun L hL => ?_
            simp [C.spec_l8Form, h2, h3, lS_0 h2, lS_0 h3, get_ints, h23, h32, ha]
            refine wcall1 (spec_l1In_calls fm[x2][x3] (-99) 99) (by simp) (by simp) ?_
            simp [C.spec_l8Form, h2, h3, lS_0 h2, lS_0 h3, get_ints, h23, h32, ha]
            refine hL _ ?_; clear hL L
            refine opsI_end fun L hL => ?_
            simp [C.spec_l8Form, h2, h3, lS_0 h2, lS_0 h3, get_ints, h23, h32, ha]
            refine hL _ ?_; clear hL L
            simp [C.spec_l8Form, h2, h3, lS_0 h2, lS_0 h3, get_ints, h23, h32, ha]
            refine cast (congrArg K ?_) hJ
            simp [wrap_zero ha hi3, ibne, ha]
          · refine opsI_seg fun L hL => ?_
            simp [C.spec_l8Form, h2, h3, lS_0 h2, lS_0 h3, get_ints, h23, h32, ha]
            refine wcall1 (spec_l1In_calls fm[x2][x3] (-99) 99) (by simp) (by simp) ?_
            simp [C.spec_l8Form, h2, h3, lS_0 h2, lS_0 h3, get_ints, h23, h32, ha]
            refine hL _ ?_; clear hL L
            refine opsI_end fun L hL => ?_
            simp [C.spec_l8Form, h2, h3, lS_0 h2, lS_0 h3, get_ints, h23, h32, ha]
            refine hL _ ?_; clear hL L
            simp [C.spec_l8Form, h2, h3, lS_0 h2, lS_0 h3, get_ints, h23, h32, ha]
            refine cast (congrArg K ?_) hJ
            simp [ha]
        · have h3 : x3 = fm.length := by have := d_f hc5; omega
          refine wexit ?_
          show AWp _ _ _ _ _
          refine wreg fun K hK => ?_
          simp [C.spec_l8Form, wrap_succ (show x2 < 4611686018427387904 by omega)]
          refine hK _ ?_; clear hK K
          simp [C.spec_l8Form]
          refine hR2 (x2 + 1) ⟨h2, fun i hi => ?_⟩ (by omega)
          rcases Nat.lt_or_ge i x2 with q | q
          · exact g4 i q
          · obtain rfl : i = x2 := by omega
            rw [h3] at g6
            exact g6
      · have h2 : x2 = fm.length := by have := d_f hc4; omega
        rw [h2] at g4
        refine wexit ?_
        show AWp _ _ _ _ _
        refine wseq ?_
        refine wreg fun K hK => ?_
        simp [C.spec_l8Form]
        refine hK _ ?_; clear hK K
        show AWp _ _ _ _ _
        refine wret ?_
        simp [C.spec_l8Form]
        exact ⟨hn, g2, g4⟩

theorem impl_IsForm_calls (fm : List (List Int)) (hx : fm.length < 4611686018427387904) (hI : I64 fm) : ACalls Try.prog F.impl_IsForm [.d (.sh 1 fm.length (rows lS fm))] [] true (fun outs res => outs = [] ∧ res = [.one (D.bool (decide (FormOk fm)))]) := by
  refine ACalls.of_body (C := C.impl_IsForm) (n := Try.f132.ntmps) tabT folT Try.func132 rfl (by kernel_rfl) rfl (Nat.le_of_ble_eq_true rfl) (by decide) (by kernel_rfl) (by kernel_rfl) rfl (by simp) (by simp) ?_
  simp only [Try.f132]
  refine wseq ?_
  refine wreg fun K hK => ?_
  simp [C.impl_IsForm]
  refine hK _ ?_; clear hK K
  show AWp _ _ _ _ _
  refine wseq ?_
  refine wreg fun K hK => ?_
  simp [C.impl_IsForm]
  refine hK _ ?_; clear hK K
  show AWp _ _ _ _ _
  refine wseq ?_
  refine wseq ?_
  refine wregI ([0, 1] ++ ([2])) rfl fun K hK => ?_
  refine opsI_seg fun L hL => ?_
  simp [C.impl_IsForm]
  refine wcall1 (impl_within_calls fm.length 1 8) (by simp) (by simp) ?_
  simp [C.impl_IsForm]
  refine hL _ ?_; clear hL L
  refine opsI_end fun L hL => ?_
  simp [C.impl_IsForm]
  refine hL _ ?_; clear hL L
  simp [C.impl_IsForm]
  refine hK _ ?_; clear hK K
  show AWp _ _ _ _ _
  refine wcond _ rfl (fun hc1 => ?_) (fun hc1 => ?_)
  · have hc : ¬ (1 ≤ (fm.length : Int) ∧ (fm.length : Int) ≤ 8) := by simp at hc1; omega
    refine wseq ?_
    refine wreg fun K hK => ?_
    simp [C.impl_IsForm]
    refine hK _ ?_; clear hK K
    show AWp _ _ _ _ _
    refine wret ?_
    simp [C.impl_IsForm]
    exact fun h => hc h.1
  · have hn : 1 ≤ (fm.length : Int) ∧ (fm.length : Int) ≤ 8 := by simp at hc1; omega
    refine wskip ?_
    show AWp _ _ _ _ _
    refine wseq ?_
    refine wseq ?_
    refine wreg fun K hK => ?_
    simp [C.impl_IsForm]
    refine hK _ ?_; clear hK K
    show AWp _ _ _ _ _
    refine wblock ?_
    refine wloop (fun x : Nat => ⟨ofL [(0, .d (.sh 1 fm.length (rows lS fm))), (3, .int fm.length), (14, .d (.sh 1 fm.length (rows lS fm))), (15, .int fm.length), (16, .int x)], ofRO []⟩) (fun x => x ≤ fm.length ∧ ∀ i, i < x → (fm.getD i []).length = fm.length) (fun x => fm.length - x) 0 (by simp [C.impl_IsForm]) (by simp) ?_
    intro x1 hx1 R1 hR1
    obtain ⟨g1, g2⟩ := hx1
    refine wseq ?_
    refine wreg fun K hK => ?_
    simp [C.impl_IsForm]
    refine hK _ ?_; clear hK K
    show AWp _ _ _ _ _
    refine wseq ?_
    refine wcond _ rfl (fun hc2 => ?_) (fun hc2 => ?_)
    · have h1 : x1 < fm.length := by have := d_t hc2; omega
      refine wskip ?_
      show AWp _ _ _ _ _
      refine wseq ?_
      refine wblock ?_
      refine wseq ?_
      refine wreg fun K hK => ?_
      simp [C.impl_IsForm, h1, lS_0 h1]
      refine hK _ ?_; clear hK K
      show AWp _ _ _ _ _
      refine wseq ?_
      refine wreg fun K hK => ?_
      simp [C.impl_IsForm]
      refine hK _ ?_; clear hK K
      show AWp _ _ _ _ _
      refine wcond _ rfl (fun hc3 => ?_) (fun hc3 => ?_)
      · have hb : ¬ fm[x1].length = fm.length := by intro e; simp [e] at hc3
        refine wseq ?_
        refine wreg fun K hK => ?_
        simp [C.impl_IsForm]
        refine hK _ ?_; clear hK K
        show AWp _ _ _ _ _
        refine wret ?_
        simp [C.impl_IsForm]
        exact fun h => hb (by have := h.2.1 x1 h1; rwa [row_eq h1] at this)
      · have hb : fm[x1].length = fm.length := by simp at hc3; omega
        refine wskip ?_
        show AWp _ _ _ _ _
        refine wreg fun K hK => ?_
        simp [C.impl_IsForm, wrap_succ (show x1 < 4611686018427387904 by omega)]
        refine hK _ ?_; clear hK K
        simp [C.impl_IsForm]
        refine hR1 (x1 + 1) ⟨h1, fun i hi => ?_⟩ (by omega)
        rcases Nat.lt_or_ge i x1 with q | q
        · exact g2 i q
        · obtain rfl : i = x1 := by omega
          rw [row_eq h1]
          exact hb
    · have h1 : x1 = fm.length := by have := d_f hc2; omega
      rw [h1] at g2
      have hrl : ∀ i (h : i < fm.length), fm[i].length = fm.length := fun i h => by have := g2 i h; rwa [row_eq h] at this
      refine wexit ?_
      show AWp _ _ _ _ _
      refine wseq ?_
      refine wseq ?_
      refine wreg fun K hK => ?_
      simp [C.impl_IsForm]
      refine hK _ ?_; clear hK K
      show AWp _ _ _ _ _
      refine wblock ?_
      refine wloop (fun x : Nat => ⟨ofL [(0, .d (.sh 1 fm.length (rows lS fm))), (26, .int fm.length), (27, .int x)], ofRO []⟩) (fun x => x ≤ fm.length ∧ ∀ i, i < x → ∀ j, j < fm.length → Skp fm i j) (fun x => fm.length - x) 0 (by simp [C.impl_IsForm]) (by simp) ?_
      intro x2 hx2 R2 hR2
      obtain ⟨g3, g4⟩ := hx2
      refine wseq ?_
      refine wreg fun K hK => ?_
      simp [C.impl_IsForm]
      refine hK _ ?_; clear hK K
      show AWp _ _ _ _ _
      refine wseq ?_
      refine wcond _ rfl (fun hc4 => ?_) (fun hc4 => ?_)
      · have h2 : x2 < fm.length := by have := d_t hc4; omega
        refine wskip ?_
        show AWp _ _ _ _ _
        refine wseq ?_
        refine wblock ?_
        refine wseq ?_
        refine wreg fun K hK => ?_
        simp [C.impl_IsForm]
        refine hK _ ?_; clear hK K
        show AWp _ _ _ _ _
        refine wseq ?_
        refine wreg fun K hK => ?_
        simp [C.impl_IsForm, h2, lS_0 h2]
        refine hK _ ?_; clear hK K
        show AWp _ _ _ _ _
        refine wblock ?_
        refine wloop (fun x : Nat => ⟨ofL [(0, .d (.sh 1 fm.length (rows lS fm))), (6, .int x2), (26, .int fm.length), (27, .int x2), (33, .d (shI fm[x2])), (34, .int fm[x2].length), (35, .int x)], ofRO []⟩) (fun x => x ≤ fm.length ∧ ∀ j, j < x → Skp fm x2 j) (fun x => fm.length - x) 0 (by simp [C.impl_IsForm]) (by simp) ?_
        intro x3 hx3 R3 hR3
        obtain ⟨g5, g6⟩ := hx3
        refine wseq ?_
        refine wreg fun K hK => ?_
        simp [C.impl_IsForm]
        refine hK _ ?_; clear hK K
        show AWp _ _ _ _ _
        refine wseq ?_
        refine wcond _ rfl (fun hc5 => ?_) (fun hc5 => ?_)
        · have h3 : x3 < fm.length := by have := d_t hc5; have := hrl x2 h2; omega
          have h23 : x3 < fm[x2].length := by rw [hrl x2 h2]; exact h3
          have h32 : x2 < fm[x3].length := by rw [hrl x3 h3]; exact h2
          have hi2 := hI _ (List.getElem_mem h2) _ (List.getElem_mem h23)
          have hi3 := hI _ (List.getElem_mem h3) _ (List.getElem_mem h32)
          have hsk : Skp fm x2 x3 ↔ (-99 ≤ fm[x2][x3] ∧ fm[x2][x3] ≤ 99) ∧ fm[x2][x3] + fm[x3][x2] = 0 := by unfold Skp; rw [at2_eq h2 h23, at2_eq h3 h32]
          refine wskip ?_
          show AWp _ _ _ _ _
          refine wseq ?_
          refine wblock ?_
          refine wseq ?_
          refine wreg fun K hK => ?_
          simp [C.impl_IsForm, get_ints, h23]
          refine hK _ ?_; clear hK K
          show AWp _ _ _ _ _
          refine wseq ?_
          refine wregI ([0, 1] ++ ([2, 3, 4, 5, 6, 7, 8, 9, 10, 11, 12, 13, 14])) rfl fun K hK => ?_
          have hJ : K ⟨ofL [(0, .d (.sh 1 fm.length (rows lS fm))), (6, .int x2), (26, .int fm.length), (27, .int x2), (33, .d (shI fm[x2])), (34, .int fm[x2].length), (35, .int x3), (54, .bool (!decide ((-99 ≤ fm[x2][x3] ∧ fm[x2][x3] ≤ 99) ∧ fm[x2][x3] + fm[x3][x2] = 0)))], ofRO []⟩ := by
            refine hK _ ?_; clear hK K
            show AWp _ _ _ _ _
            refine wcond _ rfl (fun hc6 => ?_) (fun hc6 => ?_)
            · have hb := nd_t hc6
              refine wseq ?_
              refine wreg fun K hK => ?_
              simp [C.impl_IsForm]
              refine hK _ ?_; clear hK K
              show AWp _ _ _ _ _
              refine wret ?_
              simp [C.impl_IsForm]
              exact fun h => hb (hsk.1 (h.2.2 x2 h2 x3 h3))
            · have hb := nd_f hc6
              refine wskip ?_
              show AWp _ _ _ _ _
              refine wreg fun K hK => ?_
              simp [C.impl_IsForm, wrap_succ (show x3 < 4611686018427387904 by omega)]
              refine hK _ ?_; clear hK K
              simp [C.impl_IsForm]
              refine hR3 (x3 + 1) ⟨h3, fun j hj => ?_⟩ (by omega)
              rcases Nat.lt_or_ge j x3 with q | q
              · exact g6 j q
              · obtain rfl : j = x3 := by omega
                exact hsk.2 hb
          clear hK
          by_cases ha : -99 ≤ fm[x2][x3] ∧ fm[x2][x3] ≤ 99
          · refine opsI_seg fun L hL => ?_
            simp [C.impl_IsForm, h2, h3, lS_0 h2, lS_0 h3, get_ints, h23, h32, ha]
            refine wcall1 (impl_within_calls fm[x2][x3] (-99) 99) (by simp) (by simp) ?_
            simp [C.impl_IsForm, h2, h3, lS_0 h2, lS_0 h3, get_ints, h23, h32, ha]
            refine hL _ ?_; clear hL L
            refine opsI_end fun L hL => ?_
            simp [C.impl_IsForm, h2, h3, lS_0 h2, lS_0 h3, get_ints, h23, h32, ha]
            refine hL _ ?_; clear hL L
            simp [C.impl_IsForm, h2, h3, lS_0 h2, lS_0 h3, get_ints, h23, h32, ha]
            refine cast (congrArg K ?_) hJ
            simp [wrap_neg ha hi3, ibne, ha]
          · refine opsI_seg fun L hL => ?_
            simp [C.impl_IsForm, h2, h3, lS_0 h2, lS_0 h3, get_ints, h23, h32, ha]
            refine wcall1 (impl_within_calls fm[x2][x3] (-99) 99) (by simp) (by simp) ?_
            simp [C.impl_IsForm, h2, h3, lS_0 h2, lS_0 h3, get_ints, h23, h32, ha]
            refine hL _ ?_; clear hL L
            refine opsI_end fun L hL => ?_
            simp [C.impl_IsForm, h2, h3, lS_0 h2, lS_0 h3, get_ints, h23, h32, ha]
            refine hL _ ?_; clear hL L
            simp [C.impl_IsForm, h2, h3, lS_0 h2, lS_0 h3, get_ints, h23, h32, ha]
            refine cast (congrArg K ?_) hJ
            simp [ha]
        · have h3 : x3 = fm.length := by have := d_f hc5; have := hrl x2 h2; omega
          refine wexit ?_
          show AWp _ _ _ _ _
          refine wreg fun K hK => ?_
          simp [C.impl_IsForm, wrap_succ (show x2 < 4611686018427387904 by omega)]
          refine hK _ ?_; clear hK K
          simp [C.impl_IsForm]
          refine hR2 (x2 + 1) ⟨h2, fun i hi => ?_⟩ (by omega)
          rcases Nat.lt_or_ge i x2 with q | q
          · exact g4 i q
          · obtain rfl : i = x2 := by omega
            rw [h3] at g6
            exact g6
      · have h2 : x2 = fm.length := by have := d_f hc4; omega
        rw [h2] at g4
        refine wexit ?_
        show AWp _ _ _ _ _
        refine wseq ?_
        refine wreg fun K hK => ?_
        simp [C.impl_IsForm]
        refine hK _ ?_; clear hK K
        show AWp _ _ _ _ _
        refine wret ?_
        simp [C.impl_IsForm]
        exact ⟨hn, g2, g4⟩

end Go.Proofs.Ytocknokodgnlbaa.Ab
namespace Go.Proofs.Ytocknokodgnlbaa.Ab
open Go
set_option linter.unusedSimpArgs false
set_option linter.unusedVariables false
set_option maxRecDepth 10000
set_option maxHeartbeats 2000000
def sm (f : Nat → Int) : Nat → Int
  | 0 => 0
  | n + 1 => sm f n + f n
theorem sm_bd {f : Nat → Int} {M : Nat} : ∀ n, (∀ i, i < n → (f i).natAbs ≤ M) → (sm f n).natAbs ≤ n * M
  | 0, _ => by simp [sm]
  | n + 1, h => by
    have h1 := sm_bd n fun i hi => h i (by omega)
    have h2 := h n (by omega)
    simp only [sm, Nat.add_mul, Nat.one_mul]
    omega
def skT (fm : List (List Int)) (a b : List Int) (i j : Nat) : Int := a.getD i 0 * at2 fm i j * b.getD j 0
def skR (fm : List (List Int)) (a b : List Int) (i : Nat) : Int := sm (skT fm a b i) fm.length
def skw (fm : List (List Int)) (a b : List Int) : Int := sm (skR fm a b) fm.length
structure SkOk (fm : List (List Int)) (a b : List Int) : Prop where
  ok : FormOk fm
  la : a.length = fm.length
  lb : b.length = fm.length
  ba : ∀ x ∈ a, -1000 ≤ x ∧ x ≤ 1000
  bb : ∀ x ∈ b, -1000 ≤ x ∧ x ≤ 1000
theorem mulB {x y : Int} {M N : Nat} (hx : x.natAbs ≤ M) (hy : y.natAbs ≤ N) : (x * y).natAbs ≤ M * N := by
  rw [Int.natAbs_mul]
  exact Nat.mul_le_mul hx hy
section
variable {fm : List (List Int)} {a b : List Int}
theorem SkOk.row (h : SkOk fm a b) {i : Nat} (hi : i < fm.length) : fm[i].length = fm.length := by
  have := h.ok.2.1 i hi
  rwa [row_eq hi] at this
theorem SkOk.n8 (h : SkOk fm a b) : fm.length ≤ 8 := by have := h.ok.1; omega
theorem SkOk.ent (h : SkOk fm a b) {i j : Nat} (hi : i < fm.length) (hj : j < fm.length) : (at2 fm i j).natAbs ≤ 99 := by
  have := (h.ok.2.2 i hi j hj).1
  omega
theorem SkOk.ai (h : SkOk fm a b) {i : Nat} (hi : i < fm.length) : (a.getD i 0).natAbs ≤ 1000 := by
  rw [int_eq (by rw [h.la]; exact hi)]
  have := h.ba _ (List.getElem_mem (by rw [h.la]; exact hi))
  omega
theorem SkOk.bj (h : SkOk fm a b) {j : Nat} (hj : j < fm.length) : (b.getD j 0).natAbs ≤ 1000 := by
  rw [int_eq (by rw [h.lb]; exact hj)]
  have := h.bb _ (List.getElem_mem (by rw [h.lb]; exact hj))
  omega
theorem SkOk.half (h : SkOk fm a b) {i j : Nat} (hi : i < fm.length) (hj : j < fm.length) : (a.getD i 0 * at2 fm i j).natAbs ≤ 99000 := mulB (h.ai hi) (h.ent hi hj)
theorem SkOk.t (h : SkOk fm a b) {i j : Nat} (hi : i < fm.length) (hj : j < fm.length) : (skT fm a b i j).natAbs ≤ 99000000 := mulB (h.half hi hj) (h.bj hj)
theorem SkOk.rowB (h : SkOk fm a b) {i j : Nat} (hi : i < fm.length) (hj : j ≤ fm.length) : (sm (skT fm a b i) j).natAbs ≤ 792000000 := by
  have := sm_bd (f := skT fm a b i) (M := 99000000) j fun k hk => h.t hi (by omega)
  have := h.n8
  omega
theorem SkOk.allB (h : SkOk fm a b) {i : Nat} (hi : i ≤ fm.length) : (sm (skR fm a b) i).natAbs ≤ 6336000000 := by
  have := sm_bd (f := skR fm a b) (M := 792000000) i fun k hk => h.rowB (by omega) (Nat.le_refl _)
  have := h.n8
  omega
theorem SkOk.bd (h : SkOk fm a b) : (skw fm a b).natAbs ≤ 6336000000 := h.allB (Nat.le_refl _)
end
theorem spec_l8Skew_calls (fm : List (List Int)) (a b : List Int) (h : SkOk fm a b) : ACalls Try.prog F.spec_l8Skew [.d (.sh 1 fm.length (rows lS fm)), .d (shI a), .d (shI b)] [] true (fun outs res => outs = [] ∧ res = [.one (D.int (skw fm a b))]) := by
  have hn8 := h.n8
  have hla := h.la
  have hlb := h.lb
  refine ACalls.of_body (C := C.spec_l8Skew) (n := Try.f140.ntmps) tabT folT Try.func140 rfl (by kernel_rfl) rfl (Nat.le_of_ble_eq_true rfl) (by decide) (by kernel_rfl) (by kernel_rfl) rfl (by simp) (by simp) ?_
  simp only [Try.f140]
  refine wseq ?_
  refine wreg fun K hK => ?_
  simp [C.spec_l8Skew]
  refine hK _ ?_; clear hK K
  show AWp _ _ _ _ _
  refine wseq ?_
  refine wreg fun K hK => ?_
  simp [C.spec_l8Skew]
  refine hK _ ?_; clear hK K
  show AWp _ _ _ _ _
  refine wseq ?_
  refine wseq ?_
  refine wreg fun K hK => ?_
  simp [C.spec_l8Skew]
  refine hK _ ?_; clear hK K
  show AWp _ _ _ _ _
  refine wblock ?_
  refine wloop (fun x : Nat => ⟨ofL [(0, .d (.sh 1 fm.length (rows lS fm))), (1, .d (shI a)), (2, .d (shI b)), (7, .int (sm (skR fm a b) x)), (8, .int x)], ofRO []⟩) (fun x => x ≤ fm.length) (fun x => fm.length - x) 0 (by simp [C.spec_l8Skew, sm]) (by simp) ?_
  intro x1 hx1 R1 hR1
  refine wseq ?_
  refine wseq ?_
  refine wreg fun K hK => ?_
  simp [C.spec_l8Skew]
  refine hK _ ?_; clear hK K
  show AWp _ _ _ _ _
  refine wcond _ rfl (fun hc1 => ?_) (fun hc1 => ?_)
  · have h1 : x1 < fm.length := by have := d_t hc1; omega
    have h1a : x1 < a.length := by omega
    refine wskip ?_
    show AWp _ _ _ _ _
    refine wseq ?_
    refine wblock ?_
    refine wseq ?_
    refine wreg fun K hK => ?_
    simp [C.spec_l8Skew]
    refine hK _ ?_; clear hK K
    show AWp _ _ _ _ _
    refine wblock ?_
    refine wloop (fun x : Nat => ⟨ofL [(0, .d (.sh 1 fm.length (rows lS fm))), (1, .d (shI a)), (2, .d (shI b)), (7, .int (sm (skR fm a b) x1 + sm (skT fm a b x1) x)), (8, .int x1), (9, .int x)], ofRO []⟩) (fun x => x ≤ fm.length) (fun x => fm.length - x) 0 (by simp [C.spec_l8Skew, sm]) (by simp) ?_
    intro x2 hx2 R2 hR2
    refine wseq ?_
    refine wseq ?_
    refine wreg fun K hK => ?_
    simp [C.spec_l8Skew]
    refine hK _ ?_; clear hK K
    show AWp _ _ _ _ _
    refine wcond _ rfl (fun hc2 => ?_) (fun hc2 => ?_)
    · have h2 : x2 < fm.length := by have := d_t hc2; omega
      have h2b : x2 < b.length := by omega
      have h12 : x2 < fm[x1].length := by rw [h.row h1]; exact h2
      have q1 := h.half h1 h2
      have q2 := h.t h1 h2
      have q3 := h.rowB h1 (show x2 ≤ fm.length by omega)
      have q4 := h.allB (show x1 ≤ fm.length by omega)
      have e1 : a.getD x1 0 = a[x1] := int_eq h1a
      have e2 : b.getD x2 0 = b[x2] := int_eq h2b
      have e3 : at2 fm x1 x2 = fm[x1][x2] := at2_eq h1 h12
      have e4 : skT fm a b x1 x2 = a[x1] * fm[x1][x2] * b[x2] := by unfold skT; rw [e1, e2, e3]
      rw [e1, e3] at q1
      rw [e4] at q2
      refine wskip ?_
      show AWp _ _ _ _ _
      refine wseq ?_
      refine wblock ?_
      refine wdrawI [(true, 0), (true, 1), (true, 2), (true, 3), (true, 4), (true, 5), (true, 6), (true, 7), (true, 8), (true, 9), (true, 10), (true, 11), (true, 12), (true, 13), (true, 14), (true, 15), (true, 16), (true, 17), (true, 18), (true, 19)] ⟨by kernel_rfl, by kernel_rfl⟩ ([0, 1, 2, 3, 4, 5, 6, 7, 8, 9, 10, 11, 12, 13, 14, 15, 16, 17, 18, 19]) rfl fun K hK => ?_
      refine opsI_end fun L hL => ?_
      simp [C.spec_l8Skew, h1, h1a, h2b, h12, lS_0 h1, get_ints]
      refine hL _ ?_; clear hL L
      simp [C.spec_l8Skew, h1, h1a, h2b, h12, lS_0 h1, get_ints]
      rw [wrapOk (x := a[x1] * fm[x1][x2]) (by omega) (by omega), wrapOk (x := a[x1] * fm[x1][x2] * b[x2]) (by omega) (by omega), wrapOk (x := sm (skR fm a b) x1 + sm (skT fm a b x1) x2 + a[x1] * fm[x1][x2] * b[x2]) (by omega) (by omega)]
      refine hK _ ?_; clear hK K
      show AWp _ _ _ _ _
      refine wreg fun K hK => ?_
      simp [C.spec_l8Skew, wrap_succ (show x2 < 4611686018427387904 by omega)]
      refine hK _ ?_; clear hK K
      simp [C.spec_l8Skew]
      refine cast (congrArg R2 ?_) (hR2 (x2 + 1) h2 (by omega))
      simp [sm, e4, Int.add_assoc]
    · have h2 : x2 = fm.length := by have := d_f hc2; omega
      refine wexit ?_
      show AWp _ _ _ _ _
      refine wreg fun K hK => ?_
      simp [C.spec_l8Skew, wrap_succ (show x1 < 4611686018427387904 by omega)]
      refine hK _ ?_; clear hK K
      simp [C.spec_l8Skew]
      refine cast (congrArg R1 ?_) (hR1 (x1 + 1) h1 (by omega))
      simp [sm, h2, skR]
  · have h1 : x1 = fm.length := by have := d_f hc1; omega
    refine wexit ?_
    show AWp _ _ _ _ _
    refine wseq ?_
    refine wreg fun K hK => ?_
    simp [C.spec_l8Skew]
    refine hK _ ?_; clear hK K
    show AWp _ _ _ _ _
    refine wret ?_
    simp [C.spec_l8Skew, skw, h1]

theorem impl_paired_calls (fm : List (List Int)) (a b : List Int) (h : SkOk fm a b) : ACalls Try.prog F.impl_paired [.d (.sh 1 fm.length (rows lS fm)), .d (shI a), .d (shI b)] [] true (fun outs res => outs = [] ∧ res = [.one (D.int (skw fm a b))]) := by
  have hn8 := h.n8
  have hla := h.la
  have hlb := h.lb
  refine ACalls.of_body (C := C.impl_paired) (n := Try.f81.ntmps) tabT folT Try.func81 rfl (by kernel_rfl) rfl (Nat.le_of_ble_eq_true rfl) (by decide) (by kernel_rfl) (by kernel_rfl) rfl (by simp) (by simp) ?_
  simp only [Try.f81]
  refine wseq ?_
  refine wreg fun K hK => ?_
  simp [C.impl_paired]
  refine hK _ ?_; clear hK K
  show AWp _ _ _ _ _
  refine wseq ?_
  refine wreg fun K hK => ?_
  simp [C.impl_paired]
  refine hK _ ?_; clear hK K
  show AWp _ _ _ _ _
  refine wseq ?_
  refine wseq ?_
  refine wreg fun K hK => ?_
  simp [C.impl_paired]
  refine hK _ ?_; clear hK K
  show AWp _ _ _ _ _
  refine wblock ?_
  refine wloop (fun x : Nat => ⟨ofL [(1, .d (shI a)), (2, .d (shI b)), (7, .int (sm (skR fm a b) x)), (12, .d (.sh 1 fm.length (rows lS fm))), (13, .int fm.length), (14, .int x)], ofRO []⟩) (fun x => x ≤ fm.length) (fun x => fm.length - x) 0 (by simp [C.impl_paired, sm]) (by simp) ?_
  intro x1 hx1 R1 hR1
  refine wseq ?_
  refine wreg fun K hK => ?_
  simp [C.impl_paired]
  refine hK _ ?_; clear hK K
  show AWp _ _ _ _ _
  refine wseq ?_
  refine wcond _ rfl (fun hc1 => ?_) (fun hc1 => ?_)
  · have h1 : x1 < fm.length := by have := d_t hc1; omega
    have h1a : x1 < a.length := by omega
    have hrow := h.row h1
    refine wskip ?_
    show AWp _ _ _ _ _
    refine wseq ?_
    refine wblock ?_
    refine wseq ?_
    refine wreg fun K hK => ?_
    simp [C.impl_paired, h1, lS_0 h1]
    refine hK _ ?_; clear hK K
    show AWp _ _ _ _ _
    refine wseq ?_
    refine wreg fun K hK => ?_
    simp [C.impl_paired]
    refine hK _ ?_; clear hK K
    show AWp _ _ _ _ _
    refine wblock ?_
    refine wloop (fun x : Nat => ⟨ofL [(1, .d (shI a)), (2, .d (shI b)), (7, .int (sm (skR fm a b) x1 + sm (skT fm a b x1) x)), (8, .int x1), (12, .d (.sh 1 fm.length (rows lS fm))), (13, .int fm.length), (14, .int x1), (19, .d (shI fm[x1])), (20, .int fm.length), (21, .int x)], ofRO []⟩) (fun x => x ≤ fm.length) (fun x => fm.length - x) 0 (by simp [C.impl_paired, sm, hrow]) (by simp) ?_
    intro x2 hx2 R2 hR2
    refine wseq ?_
    refine wreg fun K hK => ?_
    simp [C.impl_paired]
    refine hK _ ?_; clear hK K
    show AWp _ _ _ _ _
    refine wseq ?_
    refine wcond _ rfl (fun hc2 => ?_) (fun hc2 => ?_)
    · have h2 : x2 < fm.length := by have := d_t hc2; omega
      have h2b : x2 < b.length := by omega
      have h12 : x2 < fm[x1].length := by rw [h.row h1]; exact h2
      have q1 := h.half h1 h2
      have q2 := h.t h1 h2
      have q3 := h.rowB h1 (show x2 ≤ fm.length by omega)
      have q4 := h.allB (show x1 ≤ fm.length by omega)
      have e1 : a.getD x1 0 = a[x1] := int_eq h1a
      have e2 : b.getD x2 0 = b[x2] := int_eq h2b
      have e3 : at2 fm x1 x2 = fm[x1][x2] := at2_eq h1 h12
      have e4 : skT fm a b x1 x2 = a[x1] * fm[x1][x2] * b[x2] := by unfold skT; rw [e1, e2, e3]
      rw [e1, e3] at q1
      rw [e4] at q2
      refine wskip ?_
      show AWp _ _ _ _ _
      refine wseq ?_
      refine wblock ?_
      refine wseq ?_
      refine wreg fun K hK => ?_
      simp [C.impl_paired, get_ints, h12]
      refine hK _ ?_; clear hK K
      show AWp _ _ _ _ _
      refine wdrawI [(true, 0), (true, 1), (true, 2), (true, 3), (true, 4), (true, 5), (true, 6), (true, 7), (true, 8), (true, 9), (true, 10), (true, 11), (true, 12), (true, 13)] ⟨by kernel_rfl, by kernel_rfl⟩ ([0, 1, 2, 3, 4, 5, 6, 7, 8, 9, 10, 11, 12, 13]) rfl fun K hK => ?_
      refine opsI_end fun L hL => ?_
      simp [C.impl_paired, h1, h1a, h2b, get_ints]
      refine hL _ ?_; clear hL L
      simp [C.impl_paired, h1, h1a, h2b, get_ints]
      rw [wrapOk (x := a[x1] * fm[x1][x2]) (by omega) (by omega), wrapOk (x := a[x1] * fm[x1][x2] * b[x2]) (by omega) (by omega), wrapOk (x := sm (skR fm a b) x1 + sm (skT fm a b x1) x2 + a[x1] * fm[x1][x2] * b[x2]) (by omega) (by omega)]
      refine hK _ ?_; clear hK K
      show AWp _ _ _ _ _
      refine wreg fun K hK => ?_
      simp [C.impl_paired, wrap_succ (show x2 < 4611686018427387904 by omega)]
      refine hK _ ?_; clear hK K
      simp [C.impl_paired]
      refine cast (congrArg R2 ?_) (hR2 (x2 + 1) h2 (by omega))
      simp [sm, e4, Int.add_assoc]
    · have h2 : x2 = fm.length := by have := d_f hc2; omega
      refine wexit ?_
      show AWp _ _ _ _ _
      refine wreg fun K hK => ?_
      simp [C.impl_paired, wrap_succ (show x1 < 4611686018427387904 by omega)]
      refine hK _ ?_; clear hK K
      simp [C.impl_paired]
      refine cast (congrArg R1 ?_) (hR1 (x1 + 1) h1 (by omega))
      simp [sm, h2, skR]
  · have h1 : x1 = fm.length := by have := d_f hc1; omega
    refine wexit ?_
    show AWp _ _ _ _ _
    refine wseq ?_
    refine wreg fun K hK => ?_
    simp [C.impl_paired]
    refine hK _ ?_; clear hK K
    show AWp _ _ _ _ _
    refine wret ?_
    simp [C.impl_paired, skw, h1]

theorem spec_l8Two_calls (fm : List (List Int)) (f g : Qsm) (h0 : fm.length < 4611686018427387904) (hI : I64 fm) (hx : f.ts.length < 4611686018427387904) (hxe : ∀ t ∈ f.ts, t.e.length < 4611686018427387904) (hy : g.ts.length < 4611686018427387904) (hye : ∀ t ∈ g.ts, t.e.length < 4611686018427387904) : ACalls Try.prog F.spec_l8Two [.d (.sh 1 fm.length (rows lS fm)), aQ f, aQ g] [] true (fun outs res => outs = [] ∧ res = [.one (D.bool (decide (FormOk fm ∧ QRight f ∧ QRight g ∧ f.v = fm.length ∧ g.v = fm.length)))]) := by
  refine ACalls.of_body (C := C.spec_l8Two) (n := Try.f86.ntmps) tabT folT Try.func86 rfl (by kernel_rfl) rfl (Nat.le_of_ble_eq_true rfl) (by decide) (by kernel_rfl) (by kernel_rfl) rfl (by simp) (by simp) ?_
  simp only [Try.f86]
  refine wseq ?_
  refine wreg fun K hK => ?_
  simp [C.spec_l8Two, qS]
  refine hK _ ?_; clear hK K
  show AWp _ _ _ _ _
  refine wseq ?_
  refine wregI ([0, 1] ++ ([2, 3, 4] ++ ([5, 6, 7, 8] ++ ([9, 10, 11, 12, 13, 14, 15, 16, 17, 18, 19, 20, 21, 22, 23, 24])))) rfl fun K hK => ?_
  have hJ : K ⟨ofL [(6, .bool (decide (FormOk fm ∧ QRight f ∧ QRight g ∧ f.v = fm.length ∧ g.v = fm.length)))], ofRO []⟩ := by
    refine hK _ ?_; clear hK K
    show AWp _ _ _ _ _
    refine wret ?_
    simp [C.spec_l8Two, qS]
  clear hK
  by_cases ha : FormOk fm
  · by_cases hb : QRight f
    · by_cases hc : QRight g
      · by_cases hd : f.v = fm.length
        · refine opsI_seg fun L hL => ?_
          simp [C.spec_l8Two, qS, ha, hb, hc, hd]
          refine wcall1 (spec_l8Form_calls fm h0 hI) (by simp) (by simp) ?_
          simp [C.spec_l8Two, qS, ha, hb, hc, hd]
          refine hL _ ?_; clear hL L
          refine opsI_seg fun L hL => ?_
          simp [C.spec_l8Two, qS, ha, hb, hc, hd]
          refine wcall1 (spec_QSumOk_calls f hx hxe) (by simp; omega) (by simp) ?_
          simp [C.spec_l8Two, qS, ha, hb, hc, hd]
          refine hL _ ?_; clear hL L
          refine opsI_seg fun L hL => ?_
          simp [C.spec_l8Two, qS, ha, hb, hc, hd]
          refine wcall1 (spec_QSumOk_calls g hy hye) (by simp) (by simp) ?_
          simp [C.spec_l8Two, qS, ha, hb, hc, hd]
          refine hL _ ?_; clear hL L
          refine opsI_end fun L hL => ?_
          simp [C.spec_l8Two, qS, ha, hb, hc, hd]
          refine hL _ ?_; clear hL L
          simp [C.spec_l8Two, qS, ha, hb, hc, hd]
          refine cast (congrArg K ?_) hJ
          simp [ibeq, qS, ha, hb, hc, hd]
        · refine opsI_seg fun L hL => ?_
          simp [C.spec_l8Two, qS, ha, hb, hc, hd]
          refine wcall1 (spec_l8Form_calls fm h0 hI) (by simp) (by simp) ?_
          simp [C.spec_l8Two, qS, ha, hb, hc, hd]
          refine hL _ ?_; clear hL L
          refine opsI_seg fun L hL => ?_
          simp [C.spec_l8Two, qS, ha, hb, hc, hd]
          refine wcall1 (spec_QSumOk_calls f hx hxe) (by simp) (by simp) ?_
          simp [C.spec_l8Two, qS, ha, hb, hc, hd]
          refine hL _ ?_; clear hL L
          refine opsI_seg fun L hL => ?_
          simp [C.spec_l8Two, qS, ha, hb, hc, hd]
          refine wcall1 (spec_QSumOk_calls g hy hye) (by simp) (by simp) ?_
          simp [C.spec_l8Two, qS, ha, hb, hc, hd]
          refine hL _ ?_; clear hL L
          refine opsI_end fun L hL => ?_
          simp [C.spec_l8Two, qS, ha, hb, hc, hd]
          refine hL _ ?_; clear hL L
          simp [C.spec_l8Two, qS, ha, hb, hc, hd]
          refine cast (congrArg K ?_) hJ
          simp [ibeq, qS, ha, hb, hc, hd]
      · refine opsI_seg fun L hL => ?_
        simp [C.spec_l8Two, qS, ha, hb, hc]
        refine wcall1 (spec_l8Form_calls fm h0 hI) (by simp) (by simp) ?_
        simp [C.spec_l8Two, qS, ha, hb, hc]
        refine hL _ ?_; clear hL L
        refine opsI_seg fun L hL => ?_
        simp [C.spec_l8Two, qS, ha, hb, hc]
        refine wcall1 (spec_QSumOk_calls f hx hxe) (by simp) (by simp) ?_
        simp [C.spec_l8Two, qS, ha, hb, hc]
        refine hL _ ?_; clear hL L
        refine opsI_seg fun L hL => ?_
        simp [C.spec_l8Two, qS, ha, hb, hc]
        refine wcall1 (spec_QSumOk_calls g hy hye) (by simp) (by simp) ?_
        simp [C.spec_l8Two, qS, ha, hb, hc]
        refine hL _ ?_; clear hL L
        refine opsI_end fun L hL => ?_
        simp [C.spec_l8Two, qS, ha, hb, hc]
        refine hL _ ?_; clear hL L
        simp [C.spec_l8Two, qS, ha, hb, hc]
        refine cast (congrArg K ?_) hJ
        simp [ibeq, qS, ha, hb, hc]
    · refine opsI_seg fun L hL => ?_
      simp [C.spec_l8Two, qS, ha, hb]
      refine wcall1 (spec_l8Form_calls fm h0 hI) (by simp) (by simp) ?_
      simp [C.spec_l8Two, qS, ha, hb]
      refine hL _ ?_; clear hL L
      refine opsI_seg fun L hL => ?_
      simp [C.spec_l8Two, qS, ha, hb]
      refine wcall1 (spec_QSumOk_calls f hx hxe) (by simp) (by simp) ?_
      simp [C.spec_l8Two, qS, ha, hb]
      refine hL _ ?_; clear hL L
      refine opsI_seg fun L hL => ?_
      simp [C.spec_l8Two, qS, ha, hb]
      refine hL _ ?_; clear hL L
      refine opsI_end fun L hL => ?_
      simp [C.spec_l8Two, qS, ha, hb]
      refine hL _ ?_; clear hL L
      simp [C.spec_l8Two, qS, ha, hb]
      refine cast (congrArg K ?_) hJ
      simp [ibeq, qS, ha, hb]
  · refine opsI_seg fun L hL => ?_
    simp [C.spec_l8Two, qS, ha]
    refine wcall1 (spec_l8Form_calls fm h0 hI) (by simp) (by simp) ?_
    simp [C.spec_l8Two, qS, ha]
    refine hL _ ?_; clear hL L
    refine opsI_seg fun L hL => ?_
    simp [C.spec_l8Two, qS, ha]
    refine hL _ ?_; clear hL L
    refine opsI_seg fun L hL => ?_
    simp [C.spec_l8Two, qS, ha]
    refine hL _ ?_; clear hL L
    refine opsI_end fun L hL => ?_
    simp [C.spec_l8Two, qS, ha]
    refine hL _ ?_; clear hL L
    simp [C.spec_l8Two, qS, ha]
    refine cast (congrArg K ?_) hJ
    simp [ibeq, qS, ha]

theorem impl_multipliable_calls (fm : List (List Int)) (f g : Qsm) (h0 : fm.length < 4611686018427387904) (hI : I64 fm) (hx : f.ts.length < 4611686018427387904) (hxe : ∀ t ∈ f.ts, t.e.length < 4611686018427387904) (hy : g.ts.length < 4611686018427387904) (hye : ∀ t ∈ g.ts, t.e.length < 4611686018427387904) : ACalls Try.prog F.impl_multipliable [.d (.sh 1 fm.length (rows lS fm)), aQ f, aQ g] [] true (fun outs res => outs = [] ∧ res = [.one (D.bool (decide (FormOk fm ∧ QRight f ∧ QRight g ∧ f.v = fm.length ∧ g.v = fm.length)))]) := by
  refine ACalls.of_body (C := C.impl_multipliable) (n := Try.f78.ntmps) tabT folT Try.func78 rfl (by kernel_rfl) rfl (Nat.le_of_ble_eq_true rfl) (by decide) (by kernel_rfl) (by kernel_rfl) rfl (by simp) (by simp) ?_
  simp only [Try.f78]
  refine wseq ?_
  refine wreg fun K hK => ?_
  simp [C.impl_multipliable, qS]
  refine hK _ ?_; clear hK K
  show AWp _ _ _ _ _
  refine wseq ?_
  refine wregI ([0, 1] ++ ([2, 3, 4] ++ ([5, 6, 7, 8] ++ ([9, 10, 11, 12, 13, 14, 15, 16, 17, 18, 19, 20, 21, 22, 23, 24])))) rfl fun K hK => ?_
  have hJ : K ⟨ofL [(6, .bool (decide (FormOk fm ∧ QRight f ∧ QRight g ∧ f.v = fm.length ∧ g.v = fm.length)))], ofRO []⟩ := by
    refine hK _ ?_; clear hK K
    show AWp _ _ _ _ _
    refine wret ?_
    simp [C.impl_multipliable, qS]
  clear hK
  by_cases ha : FormOk fm
  · by_cases hb : QRight f
    · by_cases hc : QRight g
      · by_cases hd : f.v = fm.length
        · refine opsI_seg fun L hL => ?_
          simp [C.impl_multipliable, qS, ha, hb, hc, hd]
          refine wcall1 (impl_IsForm_calls fm h0 hI) (by simp) (by simp) ?_
          simp [C.impl_multipliable, qS, ha, hb, hc, hd]
          refine hL _ ?_; clear hL L
          refine opsI_seg fun L hL => ?_
          simp [C.impl_multipliable, qS, ha, hb, hc, hd]
          refine wcall1 (impl_QSumOk_calls f hx hxe) (by simp; omega) (by simp) ?_
          simp [C.impl_multipliable, qS, ha, hb, hc, hd]
          refine hL _ ?_; clear hL L
          refine opsI_seg fun L hL => ?_
          simp [C.impl_multipliable, qS, ha, hb, hc, hd]
          refine wcall1 (impl_QSumOk_calls g hy hye) (by simp) (by simp) ?_
          simp [C.impl_multipliable, qS, ha, hb, hc, hd]
          refine hL _ ?_; clear hL L
          refine opsI_end fun L hL => ?_
          simp [C.impl_multipliable, qS, ha, hb, hc, hd]
          refine hL _ ?_; clear hL L
          simp [C.impl_multipliable, qS, ha, hb, hc, hd]
          refine cast (congrArg K ?_) hJ
          simp [ibeq, qS, ha, hb, hc, hd]
        · refine opsI_seg fun L hL => ?_
          simp [C.impl_multipliable, qS, ha, hb, hc, hd]
          refine wcall1 (impl_IsForm_calls fm h0 hI) (by simp) (by simp) ?_
          simp [C.impl_multipliable, qS, ha, hb, hc, hd]
          refine hL _ ?_; clear hL L
          refine opsI_seg fun L hL => ?_
          simp [C.impl_multipliable, qS, ha, hb, hc, hd]
          refine wcall1 (impl_QSumOk_calls f hx hxe) (by simp) (by simp) ?_
          simp [C.impl_multipliable, qS, ha, hb, hc, hd]
          refine hL _ ?_; clear hL L
          refine opsI_seg fun L hL => ?_
          simp [C.impl_multipliable, qS, ha, hb, hc, hd]
          refine wcall1 (impl_QSumOk_calls g hy hye) (by simp) (by simp) ?_
          simp [C.impl_multipliable, qS, ha, hb, hc, hd]
          refine hL _ ?_; clear hL L
          refine opsI_end fun L hL => ?_
          simp [C.impl_multipliable, qS, ha, hb, hc, hd]
          refine hL _ ?_; clear hL L
          simp [C.impl_multipliable, qS, ha, hb, hc, hd]
          refine cast (congrArg K ?_) hJ
          simp [ibeq, qS, ha, hb, hc, hd]
      · refine opsI_seg fun L hL => ?_
        simp [C.impl_multipliable, qS, ha, hb, hc]
        refine wcall1 (impl_IsForm_calls fm h0 hI) (by simp) (by simp) ?_
        simp [C.impl_multipliable, qS, ha, hb, hc]
        refine hL _ ?_; clear hL L
        refine opsI_seg fun L hL => ?_
        simp [C.impl_multipliable, qS, ha, hb, hc]
        refine wcall1 (impl_QSumOk_calls f hx hxe) (by simp) (by simp) ?_
        simp [C.impl_multipliable, qS, ha, hb, hc]
        refine hL _ ?_; clear hL L
        refine opsI_seg fun L hL => ?_
        simp [C.impl_multipliable, qS, ha, hb, hc]
        refine wcall1 (impl_QSumOk_calls g hy hye) (by simp) (by simp) ?_
        simp [C.impl_multipliable, qS, ha, hb, hc]
        refine hL _ ?_; clear hL L
        refine opsI_end fun L hL => ?_
        simp [C.impl_multipliable, qS, ha, hb, hc]
        refine hL _ ?_; clear hL L
        simp [C.impl_multipliable, qS, ha, hb, hc]
        refine cast (congrArg K ?_) hJ
        simp [ibeq, qS, ha, hb, hc]
    · refine opsI_seg fun L hL => ?_
      simp [C.impl_multipliable, qS, ha, hb]
      refine wcall1 (impl_IsForm_calls fm h0 hI) (by simp) (by simp) ?_
      simp [C.impl_multipliable, qS, ha, hb]
      refine hL _ ?_; clear hL L
      refine opsI_seg fun L hL => ?_
      simp [C.impl_multipliable, qS, ha, hb]
      refine wcall1 (impl_QSumOk_calls f hx hxe) (by simp) (by simp) ?_
      simp [C.impl_multipliable, qS, ha, hb]
      refine hL _ ?_; clear hL L
      refine opsI_seg fun L hL => ?_
      simp [C.impl_multipliable, qS, ha, hb]
      refine hL _ ?_; clear hL L
      refine opsI_end fun L hL => ?_
      simp [C.impl_multipliable, qS, ha, hb]
      refine hL _ ?_; clear hL L
      simp [C.impl_multipliable, qS, ha, hb]
      refine cast (congrArg K ?_) hJ
      simp [ibeq, qS, ha, hb]
  · refine opsI_seg fun L hL => ?_
    simp [C.impl_multipliable, qS, ha]
    refine wcall1 (impl_IsForm_calls fm h0 hI) (by simp) (by simp) ?_
    simp [C.impl_multipliable, qS, ha]
    refine hL _ ?_; clear hL L
    refine opsI_seg fun L hL => ?_
    simp [C.impl_multipliable, qS, ha]
    refine hL _ ?_; clear hL L
    refine opsI_seg fun L hL => ?_
    simp [C.impl_multipliable, qS, ha]
    refine hL _ ?_; clear hL L
    refine opsI_end fun L hL => ?_
    simp [C.impl_multipliable, qS, ha]
    refine hL _ ?_; clear hL L
    simp [C.impl_multipliable, qS, ha]
    refine cast (congrArg K ?_) hJ
    simp [ibeq, qS, ha]

end Go.Proofs.Ytocknokodgnlbaa.Ab
namespace Go.Proofs.Ytocknokodgnlbaa.Ab
open Go
set_option linter.unusedSimpArgs false
set_option linter.unusedVariables false
set_option linter.unusedSectionVars false
section
variable {K : Type} [DecidableEq K] {lt : K → K → Bool}
def addL (left : List (K × Int)) (x : K × Int) : List (K × Int) :=
  match left.getLast? with
  | some z => if z.1 = x.1 then left.dropLast ++ [(z.1, z.2 + x.2)] else left ++ [x]
  | none => [x]
def combS (left : List (K × Int)) : List (K × Int) → List (K × Int)
  | [] => left
  | x :: r => combS (addL left x) r
theorem co_one (q : K) (x : K × Int) : co q [x] = if x.1 = q then x.2 else 0 := by simp [co]
theorem addL_co (q : K) (left : List (K × Int)) (x : K × Int) : co q (addL left x) = co q left + co q [x] := by
  rcases List.eq_nil_or_concat left with rfl | ⟨l, z, rfl⟩
  · simp [addL, co]
  · simp only [addL, List.concat_eq_append, List.getLast?_append, List.getLast?_singleton, Option.some_or, List.dropLast_concat]
    split
    · rename_i e
      rw [co_append, co_append, co_one, co_one, co_one]
      simp only
      rw [e]
      split <;> omega
    · rw [co_append (l := l ++ [z])]
theorem combS_co (q : K) : ∀ (r left : List (K × Int)), co q (combS left r) = co q left + co q r
  | [], left => by simp [combS, co]
  | x :: r, left => by
    simp only [combS]
    have hx : co q (x :: r) = co q [x] + co q r := by simp [co]
    rw [combS_co q r, addL_co, hx, Int.add_assoc]
theorem descK_snoc {l : List (K × Int)} {x : K × Int} (h : Desc lt l) (hx : ∀ y ∈ l, lt x.1 y.1 = true) : Desc lt (l ++ [x]) := by
  unfold Desc at *
  rw [List.pairwise_append]
  refine ⟨h, List.pairwise_singleton _ _, fun a ha b hb => ?_⟩
  simp only [List.mem_singleton] at hb
  subst hb
  exact hx a ha
theorem combS_desc (ho : Ord lt) : ∀ (r left : List (K × Int)), (r.Pairwise fun a b => lt a.1 b.1 = false) → Desc lt left → (∀ y ∈ left, ∀ z ∈ r, lt y.1 z.1 = false) → Desc lt (combS left r)
  | [], left, _, h, _ => h
  | x :: r, left, hs, h, hc => by
    simp only [combS]
    obtain ⟨hs1, hs2⟩ := List.pairwise_cons.1 hs
    rcases List.eq_nil_or_concat left with rfl | ⟨l, z, rfl⟩
    · refine combS_desc ho r _ hs2 (List.pairwise_singleton _ _) fun y hy z hz => ?_
      simp only [addL, List.getLast?_nil, List.mem_singleton] at hy
      rw [hy]
      exact hs1 z hz
    · simp only [List.concat_eq_append] at h hc ⊢
      simp only [addL, List.getLast?_append, List.getLast?_singleton, Option.some_or, List.dropLast_concat]
      split
      · rename_i e
        refine combS_desc ho r _ hs2 ?_ fun y hy w hw => ?_
        · refine descK_snoc (List.pairwise_append.1 h).1 fun y hy => ?_
          exact (List.pairwise_append.1 h).2.2 y hy z (by simp)
        · rcases List.mem_append.1 hy with hy | hy
          · exact hc y (by simp [hy]) w (by simp [hw])
          · simp only [List.mem_singleton] at hy
            rw [hy]
            exact hc z (by simp) w (by simp [hw])
      · rename_i e
        have hzx : lt x.1 z.1 = true := by
          rcases ho.tot x.1 z.1 with q | q | q
          · exact q
          · exact absurd q.symm e
          · rw [hc z (by simp) x (by simp)] at q
            simp at q
        refine combS_desc ho r _ hs2 (descK_snoc h fun y hy => ?_) fun y hy w hw => ?_
        · rcases List.mem_append.1 hy with hy | hy
          · exact ho.tr _ _ _ hzx ((List.pairwise_append.1 h).2.2 y hy z (by simp))
          · simp only [List.mem_singleton] at hy
            rw [hy]
            exact hzx
        · rcases List.mem_append.1 hy with hy | hy
          · exact hc y hy w (by simp [hw])
          · simp only [List.mem_singleton] at hy
            rw [hy]
            exact hs1 w hw
theorem fil_co (q : K) : ∀ (l : List (K × Int)), co q (l.filter fun x => x.2 ≠ 0) = co q l
  | [] => rfl
  | x :: l => by
    have ih := fil_co q l
    by_cases h : x.2 = 0
    · rw [List.filter_cons_of_neg (by simp [h]), ih]
      simp [co, h]
    · rw [List.filter_cons_of_pos (by simp [h])]
      simp only [co]
      rw [ih]
theorem combS_nf (ho : Ord lt) {out l : List (K × Int)} (hp : out.Perm l) (hs : out.Pairwise fun a b => lt a.1 b.1 = false) : (combS [] out).filter (fun x => x.2 ≠ 0) = nf lt l := by
  refine nf_unique ho ?_ ?_ fun k => ?_
  · exact (combS_desc ho out [] hs List.Pairwise.nil (by simp)).filter _
  · intro x hx
    simpa using (List.mem_filter.1 hx).2
  · rw [fil_co, combS_co, co_perm k hp]
    simp [co]
end
section
variable {α : Type} {le : α → α → Bool}
def sgt (out : List α) (a b : Nat) : List α := (out.drop a).take (b - a)
theorem sgt_cons {out : List α} {a b : Nat} (h : a < b) (h2 : a < out.length) : sgt out a b = out[a] :: sgt out (a + 1) b := by
  unfold sgt
  rw [List.drop_eq_getElem_cons h2, show b - a = (b - (a + 1)) + 1 by omega, List.take_succ_cons]
theorem sgt_nil {out : List α} {a b : Nat} (h : b ≤ a) : sgt out a b = [] := by
  unfold sgt
  rw [show b - a = 0 by omega, List.take_zero]
theorem sgt_runs {out : List α} {size at_ k b : Nat} (hr : Runs le size out) (ha : at_ = size * k) (hb : b = min (at_ + size) out.length) : (sgt out at_ b).Pairwise fun a b => le a b = true := by
  have := hr k
  rw [← ha] at this
  have e : sgt out at_ b = (out.drop at_).take size := by
    unfold sgt
    rw [hb]
    rcases Nat.le_total (at_ + size) out.length with h | h
    · rw [Nat.min_eq_left h, show at_ + size - at_ = size by omega]
    · rw [Nat.min_eq_right h, List.take_of_length_le (by simp), List.take_of_length_le (by simp; omega)]
  rw [e]
  exact this
theorem sgt_take {out : List α} {a b c : Nat} (h1 : a ≤ b) (h2 : b ≤ c) : out.take a ++ (sgt out a b ++ sgt out b c) = out.take c := by
  unfold sgt
  have e1 : out.take b = out.take a ++ (out.drop a).take (b - a) := by
    conv => lhs; rw [show b = a + (b - a) by omega, List.take_add]
  have e2 : out.take c = out.take b ++ (out.drop b).take (c - b) := by
    conv => lhs; rw [show c = b + (c - b) by omega, List.take_add]
  rw [e2, e1, List.append_assoc]
end
def qp (t : Qtm) : (List Int × Int) × Int := (qk t, t.c)
def qt (x : (List Int × Int) × Int) : Qtm := ⟨x.1.1, x.1.2, x.2⟩
theorem map_qt (l : List Qtm) : (l.map qp).map qt = l := by rw [List.map_map]; exact List.map_id _
theorem map_qp (l : List ((List Int × Int) × Int)) : (l.map qt).map qp = l := by rw [List.map_map]; exact List.map_id _
def qle (x y : Qtm) : Bool := !qlt (qk x) (qk y)
theorem qle_trans (a b c : Qtm) (h1 : qle a b = true) (h2 : qle b c = true) : qle a c = true := by
  simp only [qle, Bool.not_eq_true'] at *
  by_cases h : qlt (qk a) (qk c) = true
  · rcases qOrd.tot (qk b) (qk c) with q | q | q
    · rw [q] at h2
      simp at h2
    · rw [q] at h1
      rw [h1] at h
      simp at h
    · rw [qOrd.tr _ _ _ h q] at h1
      simp at h1
  · simpa using h
theorem qle_total (a b : Qtm) : (qle a b || qle b a) = true := by
  simp only [qle, Bool.or_eq_true, Bool.not_eq_true']
  by_cases h : qlt (qk a) (qk b) = true
  · right
    by_cases h2 : qlt (qk b) (qk a) = true
    · have := qOrd.tr _ _ _ h h2
      rw [qOrd.irr] at this
      simp at this
    · simpa using h2
  · left
    simpa using h
theorem mrq_sorted {xs ys : List Qtm} (h1 : xs.Pairwise fun a b => qle a b = true) (h2 : ys.Pairwise fun a b => qle a b = true) : (List.merge xs ys qle).Pairwise fun a b => qle a b = true :=
  List.pairwise_merge qle_trans qle_total xs ys h1 h2
theorem mrq_perm (xs ys : List Qtm) : (List.merge xs ys qle).Perm (xs ++ ys) := List.merge_perm_append qle
def addQ (left : List Qtm) (x : Qtm) : List Qtm :=
  match left.getLast? with
  | some z => if qk z = qk x then left.dropLast ++ [⟨z.e, z.h, z.c + x.c⟩] else left ++ [x]
  | none => [x]
theorem addQ_qp (left : List Qtm) (x : Qtm) : (addQ left x).map qp = addL (left.map qp) (qp x) := by
  rcases List.eq_nil_or_concat left with rfl | ⟨l, z, rfl⟩
  · rfl
  · simp only [addQ, addL, List.concat_eq_append, List.map_append, List.map_cons, List.map_nil, List.getLast?_append, List.getLast?_singleton, Option.some_or, List.dropLast_concat]
    by_cases e : qk z = qk x
    · rw [if_pos e, if_pos (show (qp z).1 = (qp x).1 from e)]
      simp [qp, qk]
    · rw [if_neg e, if_neg (show ¬ (qp z).1 = (qp x).1 from e)]
      simp
def absQ (l : List Qtm) : Nat := (l.map fun x => x.c.natAbs).sum
theorem absQ_append (l r : List Qtm) : absQ (l ++ r) = absQ l + absQ r := by simp [absQ]
theorem absQ_perm {l r : List Qtm} (h : l.Perm r) : absQ l = absQ r := (h.map _).sum_nat
theorem absQ_mem {l : List Qtm} {x : Qtm} (h : x ∈ l) : x.c.natAbs ≤ absQ l := by
  induction l with
  | nil => simp at h
  | cons y l ih =>
    simp only [absQ, List.map_cons, List.sum_cons] at ih ⊢
    rcases List.mem_cons.1 h with rfl | h
    · omega
    · have := ih h; omega
theorem absQ_le {l : List Qtm} {B : Nat} (h : ∀ x ∈ l, x.c.natAbs ≤ B) : absQ l ≤ l.length * B := by
  induction l with
  | nil => simp [absQ]
  | cons x l ih =>
    have h1 := h x (by simp)
    have h2 := ih fun y hy => h y (by simp [hy])
    simp only [absQ, List.map_cons, List.sum_cons, List.length_cons, Nat.add_mul, Nat.one_mul] at h2 ⊢
    omega
theorem absQ_addQ (left : List Qtm) (x : Qtm) : absQ (addQ left x) ≤ absQ left + x.c.natAbs := by
  rcases List.eq_nil_or_concat left with rfl | ⟨l, z, rfl⟩
  · simp [addQ, absQ]
  · simp only [addQ, List.concat_eq_append, List.getLast?_append, List.getLast?_singleton, Option.some_or, List.dropLast_concat]
    split
    · rw [absQ_append, absQ_append]
      simp only [absQ, List.map_cons, List.map_nil, List.sum_cons, List.sum_nil]
      omega
    · rw [absQ_append (l := l ++ [z])]
      simp [absQ]
theorem addQ_same {l : List Qtm} {q : Nat} {x : Qtm} (hl : l.length = q + 1) (e : qk (l[q]'(by omega)) = qk x) : addQ l x = l.set q ⟨(l[q]'(by omega)).e, (l[q]'(by omega)).h, (l[q]'(by omega)).c + x.c⟩ := by
  rcases List.eq_nil_or_concat l with rfl | ⟨l, z, rfl⟩
  · simp at hl
  · simp only [List.concat_eq_append] at *
    have hq : q = l.length := by simp at hl; omega
    subst hq
    simp only [List.getElem_concat_length] at e ⊢
    simp only [addQ, List.getLast?_append, List.getLast?_singleton, Option.some_or, List.dropLast_concat]
    rw [if_pos e]
    simp
theorem addQ_new {l : List Qtm} {x : Qtm} (e : ∀ z, l.getLast? = some z → ¬ qk z = qk x) : addQ l x = l ++ [x] := by
  unfold addQ
  cases h : l.getLast? with
  | none =>
    rw [List.getLast?_eq_none_iff] at h
    simp [h]
  | some z => simp [e z h]
/-- What a list of terms becomes. -/
def gaQ (l : List Qtm) : List Qtm := (nf qlt (l.map qp)).map qt
theorem combS_gaQ {out l : List Qtm} (hp : out.Perm l) (hs : out.Pairwise fun a b => qle a b = true) : ((combS [] (out.map qp)).filter (fun x => x.2 ≠ 0)).map qt = gaQ l := by
  unfold gaQ
  rw [combS_nf qOrd (hp.map qp)]
  rw [List.pairwise_map]
  refine hs.imp fun {a b} h => ?_
  have h2 : qlt (qk a) (qk b) = false := by simpa [qle] using h
  exact h2
end Go.Proofs.Ytocknokodgnlbaa.Ab
namespace Go.Proofs.Ytocknokodgnlbaa.Ab
open Go
set_option linter.unusedSimpArgs false
set_option linter.unusedVariables false
set_option maxRecDepth 10000
set_option maxHeartbeats 2000000
def q0 : Qtm := ⟨[], 0, 0⟩
theorem getQ_at {out : List Qtm} {i : Nat} (h : i < out.length) : out.getD i q0 = out[i] := by
  simp [List.getD_eq_getElem?_getD, h]
theorem qtS_snoc (l : List Qtm) (t : Qtm) : rows qtS l ++ [shI t.e, D.v (.int .i64 t.h), D.v (.int .i64 t.c)] = rows qtS (l ++ [t]) := by
  rw [rows_append]
  rfl
theorem leafL_app : ∀ {a b : List D}, leafL a → leafL b → leafL (a ++ b)
  | [], _, _, h => h
  | _ :: _, _, h1, h => ⟨h1.1, leafL_app h1.2 h⟩
@[simp] theorem qtS_leaf : ∀ l : List Qtm, leafL (rows qtS l)
  | [] => trivial
  | t :: l => leafL_app (a := qtS t) ⟨rfl, rfl, rfl, trivial⟩ (qtS_leaf l)
def mvQ (t : Qtm) : List D := if t.c = 0 then qtO t else [.gone, D.int t.h, D.int t.c]
theorem mvQ_three (t : Qtm) : (mvQ t).length = 3 := by unfold mvQ; split <;> rfl
/-- The terms of a list, those before place k moved away where they are not empty. -/
def mvS (S : List Qtm) (k : Nat) : List D := rows mvQ (S.take k) ++ rows qtO (S.drop k)
@[simp] theorem mvS_length (S : List Qtm) (k : Nat) : (mvS S k).length = 3 * S.length := by
  unfold mvS
  rw [List.length_append, rows_length mvQ_three, rows_length qtO_three, List.length_take, List.length_drop]
  omega
theorem mvS_zero (S : List Qtm) : mvS S 0 = rows qtO S := by simp [mvS, rows]
theorem mvS_get {S : List Qtm} {k : Nat} (h : k < S.length) (j : Nat) (hj : j < 3) : (mvS S k)[3 * k + j]? = (qtO S[k])[j]? := by
  unfold mvS
  have hl : (rows mvQ (S.take k)).length = 3 * k := by rw [rows_length mvQ_three, List.length_take]; omega
  rw [List.getElem?_append_right (by omega), hl, show 3 * k + j - 3 * k = 3 * 0 + j by omega]
  rw [rows_get qtO_three (S.drop k) 0 j (by simp; omega) hj]
  simp
theorem mvS_0 {S : List Qtm} {k : Nat} (h : k < S.length) : (mvS S k)[3 * k]? = some (owI S[k].e) ∧ ∀ h', (mvS S k)[3 * k]'h' = owI S[k].e := twice (mvS_get h 0 (by omega))
theorem mvS_1 {S : List Qtm} {k : Nat} (h : k < S.length) : (mvS S k)[3 * k + 1]? = some (D.int S[k].h) ∧ ∀ h', (mvS S k)[3 * k + 1]'h' = D.int S[k].h := twice (mvS_get h 1 (by omega))
theorem mvS_2 {S : List Qtm} {k : Nat} (h : k < S.length) : (mvS S k)[3 * k + 2]? = some (D.int S[k].c) ∧ ∀ h', (mvS S k)[3 * k + 2]'h' = D.int S[k].c := twice (mvS_get h 2 (by omega))
theorem mvS_stay {S : List Qtm} {k : Nat} (h : k < S.length) (hz : S[k].c = 0) : mvS S (k + 1) = mvS S k := by
  unfold mvS
  rw [List.take_succ_eq_append_getElem h, List.drop_eq_getElem_cons h, rows_append]
  simp [rows, mvQ, hz]
theorem mvS_move {S : List Qtm} {k : Nat} (h : k < S.length) (hz : ¬ S[k].c = 0) : (mvS S k).set (3 * k) .gone = mvS S (k + 1) := by
  unfold mvS
  have hl : (rows mvQ (S.take k)).length = 3 * k := by rw [rows_length mvQ_three, List.length_take]; omega
  rw [List.set_append_right _ _ (by omega), hl, Nat.sub_self, List.take_succ_eq_append_getElem h, List.drop_eq_getElem_cons h, rows_append]
  simp [rows, mvQ, hz, qtO]
theorem spec_l8Gather_calls (l : List Qtm) (hl : l.length ≤ 1000000) (hc : absQ l < 4611686018427387904) (he : ∀ t ∈ l, t.e.length ≤ 8) : ACalls Try.prog F.spec_l8Gather [.d (.sh 3 l.length (rows qtS l))] [] true (fun outs res => outs = [] ∧ res = [.one (.ow 3 (gaQ l).length (rows qtO (gaQ l)))]) := by
  refine ACalls.of_body (C := C.spec_l8Gather) (n := Try.f89.ntmps) tabT folT Try.func89 rfl (by kernel_rfl) rfl (Nat.le_of_ble_eq_true rfl) (by decide) (by kernel_rfl) (by kernel_rfl) rfl (by simp) (by simp) ?_
  simp only [Try.f89]
  refine wseq ?_
  refine wreg fun K hK => ?_
  simp [C.spec_l8Gather]
  refine hK _ ?_; clear hK K
  show AWp _ _ _ _ _
  refine wseq ?_
  refine wreg fun K hK => ?_
  simp [C.spec_l8Gather, show l.length * 40 ≤ 140737488355328 by omega]
  refine hK _ ?_; clear hK K
  show AWp _ _ _ _ _
  refine wseq ?_
  refine wseq ?_
  refine wreg fun K hK => ?_
  simp [C.spec_l8Gather]
  refine hK _ ?_; clear hK K
  show AWp _ _ _ _ _
  refine wblock ?_
  refine wloop (fun x : Nat × List Qtm => ⟨ofL [(3, .al (3, 0) [] 0 l.length), (4, .int x.1)], ofRO [((3, 0), some (.ow 3 l.length (rows qtS x.2)))]⟩) (fun x => x.2.Perm l ∧ Runs qle x.1 x.2 ∧ 1 ≤ x.1 ∧ x.1 ≤ 2 * l.length + 1) (fun x => 2 * l.length + 1 - x.1) (1, l) (by simp [C.spec_l8Gather]) ⟨List.Perm.refl _, runs_one _, by simp, by dsimp only; omega⟩ ?_
  intro x1 hx1 R1 hR1
  obtain ⟨size, out⟩ := x1
  obtain ⟨hperm, hruns, hs1, hs2⟩ := hx1
  dsimp only at hperm hruns hs1 hs2 ⊢
  have hol : out.length = l.length := hperm.length_eq
  have hel : ∀ t ∈ out, t.e.length ≤ 8 := fun t ht => he t (hperm.subset ht)
  refine wseq ?_
  refine wseq ?_
  refine wreg fun K hK => ?_
  simp [C.spec_l8Gather]
  refine hK _ ?_; clear hK K
  show AWp _ _ _ _ _
  refine wcond _ rfl (fun hc1 => ?_) (fun hc1 => ?_)
  · have hlt : size < l.length := by have := d_t hc1; omega
    refine wskip ?_
    show AWp _ _ _ _ _
    refine wseq ?_
    refine wblock ?_
    refine wseq ?_
    refine wreg fun K hK => ?_
    simp [C.spec_l8Gather, show (40 : Int) * l.length ≤ 281474976710656 by omega, show (l.length : Int) ≤ 281474976710656 by omega]
    refine hK _ ?_; clear hK K
    show AWp _ _ _ _ _
    refine wseq ?_
    refine wseq ?_
    refine wreg fun K hK => ?_
    simp [C.spec_l8Gather]
    refine hK _ ?_; clear hK K
    show AWp _ _ _ _ _
    refine wblock ?_
    refine wloop (fun x : Nat × List Qtm × Nat => ⟨ofL [(3, .al (3, 0) [] 0 l.length), (4, .int size), (5, .al (5, 0) [] 0 x.2.2), (6, .int x.1)], ofRO [((3, 0), some (.ow 3 l.length (rows qtS out))), ((5, 0), some (.ow 3 x.2.2 (rows qtS x.2.1)))]⟩) (fun x => (∃ k, x.1 = 2 * size * k) ∧ x.2.2 = x.2.1.length ∧ x.2.1.length = min x.1 l.length ∧ x.2.1.Perm (out.take x.1) ∧ Runs qle (2 * size) x.2.1 ∧ x.1 ≤ l.length + 2 * size) (fun x => l.length + 2 * size - x.1) (0, [], 0) (by simp [C.spec_l8Gather, rows]) ⟨⟨0, rfl⟩, rfl, by simp, by simp, fun k => by simp, by dsimp only; omega⟩ ?_
    intro x2 hx2 R2 hR2
    obtain ⟨at_, next, m⟩ := x2
    obtain ⟨⟨k, hk⟩, hm, hnl, hnp, hnr, hab⟩ := hx2
    dsimp only at hk hm hnl hnp hnr hab ⊢
    refine wseq ?_
    refine wseq ?_
    refine wreg fun K hK => ?_
    simp [C.spec_l8Gather]
    refine hK _ ?_; clear hK K
    show AWp _ _ _ _ _
    refine wcond _ rfl (fun hc2 => ?_) (fun hc2 => ?_)
    · have hat : at_ < l.length := by have := d_t hc2; omega
      have hnl2 : next.length = at_ := by omega
      obtain ⟨mid, hmid⟩ : ∃ mid, mid = min (at_ + size) l.length := ⟨_, rfl⟩
      obtain ⟨en, hen⟩ : ∃ en, en = min (at_ + 2 * size) l.length := ⟨_, rfl⟩
      have hmid2 : min ((at_ : Int) + size) l.length = (mid : Int) := by omega
      have hen2 : min ((at_ : Int) + 2 * size) l.length = (en : Int) := by omega
      refine wskip ?_
      show AWp _ _ _ _ _
      refine wseq ?_
      refine wblock ?_
      refine wseq ?_
      refine wreg fun K hK => ?_
      simp [C.spec_l8Gather]
      refine hK _ ?_; clear hK K
      show AWp _ _ _ _ _
      refine wseq ?_
      refine wreg fun K hK => ?_
      simp [C.spec_l8Gather]
      rw [wrapOk (x := (at_ : Int) + size) (by omega) (by omega), hmid2]
      refine hK _ ?_; clear hK K
      show AWp _ _ _ _ _
      refine wseq ?_
      refine wreg fun K hK => ?_
      simp [C.spec_l8Gather]
      refine hK _ ?_; clear hK K
      show AWp _ _ _ _ _
      refine wseq ?_
      refine wreg fun K hK => ?_
      simp [C.spec_l8Gather]
      rw [wrapOk (x := 2 * (size : Int)) (by omega) (by omega), wrapOk (x := (at_ : Int) + 2 * size) (by omega) (by omega), hen2]
      refine hK _ ?_; clear hK K
      show AWp _ _ _ _ _
      refine wblock ?_
      refine wloop (fun x : Nat × Nat × List Qtm × Nat => ⟨ofL [(3, .al (3, 0) [] 0 l.length), (4, .int size), (5, .al (5, 0) [] 0 x.2.2.2), (6, .int at_), (7, .int x.1), (8, .int mid), (9, .int x.2.1), (10, .int en)], ofRO [((3, 0), some (.ow 3 l.length (rows qtS out))), ((5, 0), some (.ow 3 x.2.2.2 (rows qtS x.2.2.1)))]⟩) (fun x => x.1 ≤ mid ∧ x.2.1 ≤ en ∧ mid ≤ x.2.1 ∧ x.2.2.2 = x.2.2.1.length ∧ x.2.2.2 ≤ 3000000 - ((mid - x.1) + (en - x.2.1)) ∧ ∃ M, x.2.2.1 = next ++ M ∧ M ++ List.merge (sgt out x.1 mid) (sgt out x.2.1 en) qle = List.merge (sgt out at_ mid) (sgt out mid en) qle) (fun x => (mid - x.1) + (en - x.2.1)) (at_, mid, next, m) (by simp [C.spec_l8Gather]) ⟨by dsimp only; omega, by dsimp only; omega, by dsimp only; omega, hm, by dsimp only; omega, [], by simp, by simp⟩ ?_
      intro x3 hx3 R3 hR3
      obtain ⟨i, j, nx, mm⟩ := x3
      obtain ⟨h1, h2, h3, h4, h5, M, h6, h7⟩ := hx3
      dsimp only at h1 h2 h3 h4 h5 h6 h7 ⊢
      refine wseq ?_
      refine wseq ?_
      refine wreg fun K hK => ?_
      have hJ : K ⟨ofL [(3, .al (3, 0) [] 0 l.length), (4, .int size), (5, .al (5, 0) [] 0 mm), (6, .int at_), (7, .int i), (8, .int mid), (9, .int j), (10, .int en), (58, .bool (decide (i < mid ∨ j < en)))], ofRO [((3, 0), some (.ow 3 l.length (rows qtS out))), ((5, 0), some (.ow 3 mm (rows qtS nx)))]⟩ := by
        refine hK _ ?_; clear hK K
        show AWp _ _ _ _ _
        refine wcond _ rfl (fun hc3 => ?_) (fun hc3 => ?_)
        · have hij := d_t hc3
          refine wskip ?_
          show AWp _ _ _ _ _
          refine wblock ?_
          refine wseq ?_
          refine wdrawI [(true, 0), (true, 1), (true, 2), (true, 3), (true, 4), (true, 5), (true, 6), (true, 7), (true, 8), (true, 9), (true, 10), (true, 11), (true, 12), (true, 13), (true, 14), (true, 15), (false, 16), (true, 17), (true, 18), (true, 19)] ⟨by kernel_rfl, by kernel_rfl⟩ ([0, 1, 2, 3, 4, 5, 6, 7, 8, 9, 10, 11, 12, 13, 14, 15, 16] ++ ([17, 18, 19])) rfl fun K hK => ?_
          have hJ : K ⟨ofL [(3, .al (3, 0) [] 0 l.length), (4, .int size), (5, .al (5, 0) [] 0 mm), (6, .int at_), (7, .int i), (8, .int mid), (9, .int j), (10, .int en), (78, .bool (decide (en ≤ j ∨ (i < mid ∧ qle (out.getD i q0) (out.getD j q0) = true))))], ofRO [((3, 0), some (.ow 3 l.length (rows qtS out))), ((5, 0), some (.ow 3 mm (rows qtS nx)))]⟩ := by
            refine hK _ ?_; clear hK K
            show AWp _ _ _ _ _
            refine wcond _ rfl (fun hc4 => ?_) (fun hc4 => ?_)
            · have hcc := d_t hc4
              have him : i < mid := by omega
              have hi : i < out.length := by omega
              have hi' : i < l.length := by omega
              refine wseq ?_
              refine wreg fun K hK => ?_
              simp [C.spec_l8Gather, hi', qtS_0 hi, qtS_1 hi, qtS_2 hi, qtS_snoc, show (mm + 1) * 40 ≤ 140737488355328 by omega]
              refine hK _ ?_; clear hK K
              show AWp _ _ _ _ _
              refine wreg fun K hK => ?_
              simp [C.spec_l8Gather, wrap_succ (show i < 4611686018427387904 by omega)]
              refine hK _ ?_; clear hK K
              simp [C.spec_l8Gather]
              refine hR3 (i + 1, j, _, mm + 1) ⟨him, h2, h3, by dsimp only; rw [h4]; simp, by dsimp only; omega, M ++ [out[i]], by dsimp only; rw [h6, List.append_assoc], ?_⟩ (by dsimp only; omega)
              dsimp only
              rw [← h7, List.append_assoc, sgt_cons him hi]
              rcases Nat.lt_or_ge j en with hje | hje
              · have hj : j < out.length := by omega
                rw [sgt_cons hje hj, mrg_cons]
                have hk' : qle out[i] out[j] = true := by
                  rcases hcc with hcc | ⟨_, hcc⟩
                  · omega
                  · rw [getQ_at hi, getQ_at hj] at hcc
                    exact hcc
                rw [if_pos hk']
                rfl
              · rw [sgt_nil hje, mrg_nil_right, mrg_nil_right]
                rfl
            · have hcc := d_f hc4
              have hje : j < en := by omega
              have hj : j < out.length := by omega
              have hj' : j < l.length := by omega
              refine wseq ?_
              refine wreg fun K hK => ?_
              simp [C.spec_l8Gather, hj', qtS_0 hj, qtS_1 hj, qtS_2 hj, qtS_snoc, show (mm + 1) * 40 ≤ 140737488355328 by omega]
              refine hK _ ?_; clear hK K
              show AWp _ _ _ _ _
              refine wreg fun K hK => ?_
              simp [C.spec_l8Gather, wrap_succ (show j < 4611686018427387904 by omega)]
              refine hK _ ?_; clear hK K
              simp [C.spec_l8Gather]
              refine hR3 (i, j + 1, _, mm + 1) ⟨h1, hje, by dsimp only; omega, by dsimp only; rw [h4]; simp, by dsimp only; omega, M ++ [out[j]], by dsimp only; rw [h6, List.append_assoc], ?_⟩ (by dsimp only; omega)
              dsimp only
              rw [← h7, List.append_assoc, sgt_cons hje hj]
              rcases Nat.lt_or_ge i mid with him | him
              · have hi : i < out.length := by omega
                rw [sgt_cons him hi, mrg_cons]
                have hk' : ¬ qle out[i] out[j] = true := by
                  intro hk'
                  refine hcc (.inr ⟨him, ?_⟩)
                  rw [getQ_at hi, getQ_at hj]
                  exact hk'
                rw [if_neg hk']
                rfl
              · rw [sgt_nil him, mrg_nil_left, mrg_nil_left]
                rfl
          clear hK
          by_cases ha : en ≤ j
          · refine opsI_seg fun L hL => ?_
            simp [C.spec_l8Gather, ha]
            refine hL _ ?_; clear hL L
            refine opsI_end fun L hL => ?_
            simp [C.spec_l8Gather, ha]
            refine hL _ ?_; clear hL L
            simp [C.spec_l8Gather, ha]
            refine cast (congrArg K ?_) hJ
            simp [ha]
          · by_cases hb : i < mid
            · have hi : i < out.length := by omega
              have hj : j < out.length := by omega
              have hi' : i < l.length := by omega
              have hj' : j < l.length := by omega
              refine opsI_seg fun L hL => ?_
              simp [C.spec_l8Gather, hi', hj', qtS_0 hi, qtS_0 hj, qtS_1 hi, qtS_1 hj, qtS_2 hi, qtS_2 hj, ha, hb]
              refine wcall1 (spec_l8Less_calls out[j] out[i] (by have := hel _ (List.getElem_mem hj); omega) (by have := hel _ (List.getElem_mem hi); omega)) (by simp) (by simp) ?_
              simp [C.spec_l8Gather, hi', hj', qtS_0 hi, qtS_0 hj, qtS_1 hi, qtS_1 hj, qtS_2 hi, qtS_2 hj, ha, hb]
              refine hL _ ?_; clear hL L
              refine opsI_end fun L hL => ?_
              simp [C.spec_l8Gather, hi', hj', qtS_0 hi, qtS_0 hj, qtS_1 hi, qtS_1 hj, qtS_2 hi, qtS_2 hj, ha, hb]
              refine hL _ ?_; clear hL L
              simp [C.spec_l8Gather, hi', hj', qtS_0 hi, qtS_0 hj, qtS_1 hi, qtS_1 hj, qtS_2 hi, qtS_2 hj, ha, hb]
              refine cast (congrArg K ?_) hJ
              simp [List.getD_eq_getElem?_getD, hi, hj, qle, ha, hb]
            · refine opsI_seg fun L hL => ?_
              simp [C.spec_l8Gather, ha, hb]
              refine hL _ ?_; clear hL L
              refine opsI_end fun L hL => ?_
              simp [C.spec_l8Gather, ha, hb]
              refine hL _ ?_; clear hL L
              simp [C.spec_l8Gather, ha, hb]
              refine cast (congrArg K ?_) hJ
              simp [ha, hb]
        · have hij := d_f hc3
          have ei : mid ≤ i := by omega
          have ej : en ≤ j := by omega
          rw [sgt_nil ei, sgt_nil ej, mrg_nil_left, List.append_nil] at h7
          refine wexit ?_
          show AWp _ _ _ _ _
          refine wreg fun K hK => ?_
          simp [C.spec_l8Gather]
          rw [wrapOk (x := 2 * (size : Int)) (by omega) (by omega), wrapOk (x := (at_ : Int) + 2 * size) (by omega) (by omega)]
          refine hK _ ?_; clear hK K
          have hA : (sgt out at_ mid).Pairwise fun a b => qle a b = true := sgt_runs (k := 2 * k) hruns (by rw [hk]; rw [Nat.mul_comm 2 size, Nat.mul_assoc]) (by rw [hmid, hol])
          have hB : (sgt out mid en).Pairwise fun a b => qle a b = true := by
            rcases Nat.le_total (at_ + size) l.length with hq | hq
            · have e1 : mid = at_ + size := by omega
              exact sgt_runs (k := 2 * k + 1) hruns (by rw [e1, hk, Nat.mul_succ, Nat.mul_comm 2 size, Nat.mul_assoc]) (by rw [hol, hen, e1]; congr 1; omega)
            · rw [sgt_nil (by omega)]
              exact List.Pairwise.nil
          have hM := mrq_sorted hA hB
          have hMp := mrq_perm (sgt out at_ mid) (sgt out mid en)
          rw [← h7] at hM hMp
          have hMl : M.length = en - at_ := by
            have := hMp.length_eq
            have e2 := congrArg List.length (sgt_take (out := out) (a := at_) (b := mid) (c := en) (by omega) (by omega))
            simp only [List.length_append, List.length_take] at this e2
            omega
          simp [C.spec_l8Gather]
          rw [show (at_ : Int) + 2 * size = ((at_ + 2 * size : Nat) : Int) by omega]
          refine hR2 (at_ + 2 * size, nx, mm) ⟨⟨k + 1, by dsimp only; rw [hk, Nat.mul_succ]⟩, h4, ?_, ?_, ?_, by dsimp only; omega⟩ (by dsimp only; omega)
          · dsimp only
            rw [h6, List.length_append, hMl]
            omega
          · dsimp only
            rw [h6]
            have e3 : out.take (at_ + 2 * size) = out.take en := by
              rw [hen]
              rcases Nat.le_total (at_ + 2 * size) l.length with hq | hq
              · rw [Nat.min_eq_left hq]
              · rw [Nat.min_eq_right hq, List.take_of_length_le (by omega), List.take_of_length_le (by omega)]
            rw [e3, ← sgt_take (out := out) (a := at_) (b := mid) (c := en) (by omega) (by omega)]
            exact hnp.append hMp
          · dsimp only
            rw [h6]
            exact runs_snoc hnr (by rw [hnl2, hk]) hM (by omega)
      clear hK
      by_cases ha : i < mid
      · simp [C.spec_l8Gather, ha]
        refine cast (congrArg K ?_) hJ
        simp [ha]
      · simp [C.spec_l8Gather, ha]
        refine cast (congrArg K ?_) hJ
        simp [ha]
    · have hat : l.length ≤ at_ := by have := d_f hc2; omega
      have hml : m = l.length := by omega
      refine wexit ?_
      show AWp _ _ _ _ _
      refine wreg fun K hK => ?_
      simp [C.spec_l8Gather]
      refine hK _ ?_; clear hK K
      show AWp _ _ _ _ _
      refine wreg fun K hK => ?_
      simp [C.spec_l8Gather]
      rw [wrapOk (x := (size : Int) * 2) (by omega) (by omega)]
      refine hK _ ?_; clear hK K
      simp [C.spec_l8Gather]
      rw [show (size : Int) * 2 = ((2 * size : Nat) : Int) by omega, hml]
      refine hR1 (2 * size, next) ⟨?_, hnr, by dsimp only; omega, by dsimp only; omega⟩ (by dsimp only; omega)
      dsimp only
      rw [List.take_of_length_le (by omega)] at hnp
      exact hnp.trans hperm
  · have hlt : l.length ≤ size := by have := d_f hc1; omega
    have hsort := runs_all hruns (by omega)
    have hga := combS_gaQ hperm hsort
    have habs := absQ_perm hperm
    obtain ⟨T, hT⟩ : ∃ T, T = combS [] (out.map qp) := ⟨_, rfl⟩
    rw [← hT] at hga
    refine wexit ?_
    show AWp _ _ _ _ _
    refine wseq ?_
    refine wreg fun K hK => ?_
    simp [C.spec_l8Gather]
    refine hK _ ?_; clear hK K
    show AWp _ _ _ _ _
    refine wseq ?_
    refine wseq ?_
    refine wreg fun K hK => ?_
    simp [C.spec_l8Gather]
    refine hK _ ?_; clear hK K
    show AWp _ _ _ _ _
    refine wblock ?_
    refine wloop (fun x : Nat × List Qtm => ⟨ofL [(3, .al (3, 0) [] 0 l.length), (11, .al (11, 0) [] 0 x.2.length), (12, .int x.1)], ofRO [((3, 0), some (.ow 3 l.length (rows qtS out))), ((11, 0), some (.ow 3 x.2.length (rows qtO x.2)))]⟩) (fun x => x.1 ≤ l.length ∧ x.2.length ≤ x.1 ∧ combS (x.2.map qp) ((out.drop x.1).map qp) = T ∧ absQ x.2 ≤ absQ (out.take x.1) ∧ ∀ t ∈ x.2, t.e.length ≤ 8) (fun x => l.length - x.1) (0, []) (by simp [C.spec_l8Gather, rows]) ⟨by simp, by simp, by simp [hT], by simp, by simp⟩ ?_
    intro x4 hx4 R4 hR4
    obtain ⟨k, G⟩ := x4
    obtain ⟨g1, g2, g3, g4, g5⟩ := hx4
    dsimp only at g1 g2 g3 g4 g5 ⊢
    refine wseq ?_
    refine wseq ?_
    refine wreg fun K hK => ?_
    simp [C.spec_l8Gather]
    refine hK _ ?_; clear hK K
    show AWp _ _ _ _ _
    refine wcond _ rfl (fun hc5 => ?_) (fun hc5 => ?_)
    · have hk : k < l.length := by have := d_t hc5; omega
      have hko : k < out.length := by omega
      have hokb : (out.take k) ++ [out[k]] = out.take (k + 1) := (List.take_succ_eq_append_getElem hko).symm
      have hab1 : absQ (out.take (k + 1)) = absQ (out.take k) + out[k].c.natAbs := by rw [← hokb, absQ_append]; simp [absQ]
      have hab2 : absQ (out.take (k + 1)) ≤ absQ l := by
        rw [← habs]
        conv => rhs; rw [← List.take_append_drop (k + 1) out, absQ_append]
        omega
      have hg3 : combS ((addQ G out[k]).map qp) ((out.drop (k + 1)).map qp) = T := by
        rw [addQ_qp, ← g3, List.drop_eq_getElem_cons hko]
        rfl
      have hg4 : absQ (addQ G out[k]) ≤ absQ (out.take (k + 1)) := by
        have := absQ_addQ G out[k]
        omega
      have hek := hel _ (List.getElem_mem hko)
      refine wskip ?_
      show AWp _ _ _ _ _
      refine wseq ?_
      refine wblock ?_
      refine wseq ?_
      refine wreg fun K hK => ?_
      simp [C.spec_l8Gather]
      refine hK _ ?_; clear hK K
      show AWp _ _ _ _ _
      refine wseq ?_
      refine wseq ?_
      refine wdrawI [(true, 0), (true, 1), (true, 2), (true, 3), (true, 4), (true, 5), (true, 6), (true, 7), (true, 8), (true, 9), (true, 10), (true, 11), (true, 12), (true, 13), (true, 14), (true, 15), (true, 16), (true, 17), (true, 18), (true, 19), (true, 20), (true, 21), (true, 22), (true, 23), (true, 24), (true, 25), (true, 26), (true, 27), (false, 28), (true, 29)] ⟨by kernel_rfl, by kernel_rfl⟩ ([0, 1, 2, 3, 4, 5, 6, 7, 8, 9, 10, 11, 12, 13, 14, 15, 16, 17, 18, 19, 20, 21, 22, 23, 24, 25, 26, 27, 28] ++ ([29])) rfl fun K hK => ?_
      have hJ : K ⟨ofL [(3, .al (3, 0) [] 0 l.length), (11, .al (11, 0) [] 0 G.length), (12, .int k), (13, .int G.length), (136, .bool (decide (0 < G.length ∧ (G.getD (G.length - 1) q0).h = out[k].h ∧ (G.getD (G.length - 1) q0).e = out[k].e)))], ofRO [((3, 0), some (.ow 3 l.length (rows qtS out))), ((11, 0), some (.ow 3 G.length (rows qtO G)))]⟩ := by
        refine hK _ ?_; clear hK K
        show AWp _ _ _ _ _
        refine wcond _ rfl (fun hc6 => ?_) (fun hc6 => ?_)
        · have hcc := d_t hc6
          obtain ⟨q, hqe⟩ : ∃ q, G.length = q + 1 := ⟨G.length - 1, by omega⟩
          have hq : q < G.length := by omega
          rw [show G.length - 1 = q by omega, getQ_at hq] at hcc
          have hkk : qk G[q] = qk out[k] := by simp [qk, hcc.2.1, hcc.2.2]
          have hGq := absQ_mem (List.getElem_mem hq)
          have hsm := addQ_same hqe hkk
          refine wseq ?_
          refine wdrawI [(true, 0), (true, 1), (true, 2), (true, 3), (true, 4), (true, 5), (true, 6), (true, 7), (true, 8), (true, 9), (true, 10), (true, 11), (true, 12), (true, 13), (true, 14), (true, 15), (true, 16), (false, 17)] ⟨by kernel_rfl, by kernel_rfl⟩ ([0, 1, 2, 3, 4, 5, 6, 7, 8, 9, 10, 11, 12, 13, 14, 15, 16, 17]) rfl fun K hK => ?_
          refine opsI_end fun L hL => ?_
          simp [C.spec_l8Gather, hqe, hk, show ((q : Int) < (q : Int) + 1) by omega, qtO_2 hq, qtS_2 hko, qtO_set2 hq, wrap_nat (show q < 4611686018427387904 by omega), wrapOk (x := G[q].c + out[k].c) (by omega) (by omega)]
          refine hL _ ?_; clear hL L
          simp [C.spec_l8Gather, hqe, hk, show ((q : Int) < (q : Int) + 1) by omega, qtO_2 hq, qtS_2 hko, qtO_set2 hq, wrap_nat (show q < 4611686018427387904 by omega), wrapOk (x := G[q].c + out[k].c) (by omega) (by omega)]
          refine hK _ ?_; clear hK K
          show AWp _ _ _ _ _
          refine wexit ?_
          show AWp _ _ _ _ _
          refine wreg fun K hK => ?_
          simp [C.spec_l8Gather, wrap_succ (show k < 4611686018427387904 by omega)]
          refine hK _ ?_; clear hK K
          simp [C.spec_l8Gather]
          rw [show q + 1 = (addQ G out[k]).length by rw [hsm]; simp [hqe], ← hsm]
          refine hR4 (k + 1, addQ G out[k]) ⟨hk, by dsimp only; rw [hsm]; simp; omega, hg3, hg4, ?_⟩ (by dsimp only; omega)
          dsimp only
          rw [hsm]
          intro t ht
          rcases List.mem_or_eq_of_mem_set ht with ht | ht
          · exact g5 t ht
          · have := g5 _ (List.getElem_mem hq)
            rw [ht]
            exact this
        · have hcc := d_f hc6
          have hnw : addQ G out[k] = G ++ [out[k]] := addQ_new fun z hz e => by
            rw [List.getLast?_eq_getElem?] at hz
            obtain ⟨hq, hz⟩ := List.getElem?_eq_some_iff.1 hz
            refine hcc ⟨by omega, ?_⟩
            rw [getQ_at hq, hz]
            simp only [qk, Prod.mk.injEq] at e
            exact ⟨e.2, e.1⟩
          refine wskip ?_
          show AWp _ _ _ _ _
          refine wdrawI [(true, 0), (true, 1), (true, 2), (true, 3), (true, 4), (true, 5), (true, 7), (true, 8), (true, 9), (true, 10), (true, 11), (true, 12), (true, 13), (true, 14), (true, 15), (true, 16), (false, 6), (true, 17), (false, 18), (false, 19), (true, 20)] ⟨by kernel_rfl, by kernel_rfl⟩ ([0, 1, 2, 3, 4, 5, 7, 8, 9, 10, 11, 12, 13, 14, 15, 16, 6] ++ ([17, 18, 19, 20])) rfl fun K hK => ?_
          refine opsI_seg fun L hL => ?_
          simp [C.spec_l8Gather, hk, qtS_0 hko, qtS_1 hko, qtS_2 hko, qtO_snoc, show (G.length + 1) * 40 ≤ 140737488355328 by omega]
          refine wcall1 (spec_l1Ints_calls out[k].e (by omega)) (by simp) (by simp) ?_
          simp [C.spec_l8Gather, hk, qtS_0 hko, qtS_1 hko, qtS_2 hko, qtO_snoc, show (G.length + 1) * 40 ≤ 140737488355328 by omega]
          refine hL _ ?_; clear hL L
          refine opsI_end fun L hL => ?_
          simp [C.spec_l8Gather, hk, qtS_0 hko, qtS_1 hko, qtS_2 hko, qtO_snoc, show (G.length + 1) * 40 ≤ 140737488355328 by omega]
          refine hL _ ?_; clear hL L
          simp [C.spec_l8Gather, hk, qtS_0 hko, qtS_1 hko, qtS_2 hko, qtO_snoc, show (G.length + 1) * 40 ≤ 140737488355328 by omega]
          refine hK _ ?_; clear hK K
          show AWp _ _ _ _ _
          refine wreg fun K hK => ?_
          simp [C.spec_l8Gather, wrap_succ (show k < 4611686018427387904 by omega)]
          refine hK _ ?_; clear hK K
          simp [C.spec_l8Gather]
          rw [show G.length + 1 = (addQ G out[k]).length by rw [hnw]; simp, ← hnw]
          refine hR4 (k + 1, addQ G out[k]) ⟨hk, by dsimp only; rw [hnw]; simp; omega, hg3, hg4, ?_⟩ (by dsimp only; omega)
          dsimp only
          rw [hnw]
          intro t ht
          rcases List.mem_append.1 ht with ht | ht
          · exact g5 t ht
          · simp only [List.mem_singleton] at ht
            rw [ht]
            exact hek
      clear hK
      by_cases ha : 0 < G.length
      · by_cases hb : (G.getD (G.length - 1) q0).h = out[k].h
        · obtain ⟨q, hqe⟩ : ∃ q, G.length = q + 1 := ⟨G.length - 1, by omega⟩
          have hq : q < G.length := by omega
          rw [hqe, show q + 1 - 1 = q by omega, getQ_at hq] at hb
          refine opsI_seg fun L hL => ?_
          simp [C.spec_l8Gather, hk, qtS_0 hko, qtS_1 hko, qtS_2 hko, hqe, show ((0 : Int) < (q : Int) + 1) by omega, show ((q : Int) < (q : Int) + 1) by omega, qtO_0 hq, qtO_1 hq, wrap_nat (show q < 4611686018427387904 by omega), ha, hb]
          refine wcall1 (spec_l1Same_calls G[q].e out[k].e (by have := g5 _ (List.getElem_mem hq); omega)) (by simp) (by simp) ?_
          simp [C.spec_l8Gather, hk, qtS_0 hko, qtS_1 hko, qtS_2 hko, hqe, show ((0 : Int) < (q : Int) + 1) by omega, show ((q : Int) < (q : Int) + 1) by omega, qtO_0 hq, qtO_1 hq, wrap_nat (show q < 4611686018427387904 by omega), ha, hb]
          refine hL _ ?_; clear hL L
          refine opsI_end fun L hL => ?_
          simp [C.spec_l8Gather, hk, qtS_0 hko, qtS_1 hko, qtS_2 hko, hqe, show ((0 : Int) < (q : Int) + 1) by omega, show ((q : Int) < (q : Int) + 1) by omega, qtO_0 hq, qtO_1 hq, wrap_nat (show q < 4611686018427387904 by omega), ha, hb]
          refine hL _ ?_; clear hL L
          simp [C.spec_l8Gather, hk, qtS_0 hko, qtS_1 hko, qtS_2 hko, hqe, show ((0 : Int) < (q : Int) + 1) by omega, show ((q : Int) < (q : Int) + 1) by omega, qtO_0 hq, qtO_1 hq, wrap_nat (show q < 4611686018427387904 by omega), ha, hb]
          refine cast (congrArg K ?_) hJ
          simp [List.getD_eq_getElem?_getD, hqe, List.getElem?_eq_getElem hq, hb, ha, hb]
        · obtain ⟨q, hqe⟩ : ∃ q, G.length = q + 1 := ⟨G.length - 1, by omega⟩
          have hq : q < G.length := by omega
          rw [hqe, show q + 1 - 1 = q by omega, getQ_at hq] at hb
          refine opsI_seg fun L hL => ?_
          simp [C.spec_l8Gather, hk, qtS_0 hko, qtS_1 hko, qtS_2 hko, hqe, show ((0 : Int) < (q : Int) + 1) by omega, show ((q : Int) < (q : Int) + 1) by omega, qtO_1 hq, wrap_nat (show q < 4611686018427387904 by omega), ha, hb]
          refine hL _ ?_; clear hL L
          refine opsI_end fun L hL => ?_
          simp [C.spec_l8Gather, hk, qtS_0 hko, qtS_1 hko, qtS_2 hko, hqe, show ((0 : Int) < (q : Int) + 1) by omega, show ((q : Int) < (q : Int) + 1) by omega, qtO_1 hq, wrap_nat (show q < 4611686018427387904 by omega), ha, hb]
          refine hL _ ?_; clear hL L
          simp [C.spec_l8Gather, hk, qtS_0 hko, qtS_1 hko, qtS_2 hko, hqe, show ((0 : Int) < (q : Int) + 1) by omega, show ((q : Int) < (q : Int) + 1) by omega, qtO_1 hq, wrap_nat (show q < 4611686018427387904 by omega), ha, hb]
          refine cast (congrArg K ?_) hJ
          simp [List.getD_eq_getElem?_getD, hqe, List.getElem?_eq_getElem hq, hb, ha, hb]
      · refine opsI_seg fun L hL => ?_
        simp [C.spec_l8Gather, hk, qtS_0 hko, qtS_1 hko, qtS_2 hko, ha]
        refine hL _ ?_; clear hL L
        refine opsI_end fun L hL => ?_
        simp [C.spec_l8Gather, hk, qtS_0 hko, qtS_1 hko, qtS_2 hko, ha]
        refine hL _ ?_; clear hL L
        simp [C.spec_l8Gather, hk, qtS_0 hko, qtS_1 hko, qtS_2 hko, ha]
        refine cast (congrArg K ?_) hJ
        simp [ha]
    · have hk : k = l.length := by have := d_f hc5; omega
      have hGT : G.map qp = T := by
        rw [← g3, hk, ← hol, List.drop_length]
        rfl
      have hfin : G.filter (fun t => t.c ≠ 0) = gaQ l := by
        rw [← hga, ← hGT, List.filter_map, map_qt]
        rfl
      refine wexit ?_
      show AWp _ _ _ _ _
      refine wseq ?_
      refine wreg fun K hK => ?_
      simp [C.spec_l8Gather]
      refine hK _ ?_; clear hK K
      show AWp _ _ _ _ _
      refine wseq ?_
      refine wseq ?_
      refine wreg fun K hK => ?_
      simp [C.spec_l8Gather]
      refine hK _ ?_; clear hK K
      show AWp _ _ _ _ _
      refine wblock ?_
      refine wloop (fun x : Nat × List Qtm => ⟨ofL [(11, .al (11, 0) [] 0 G.length), (14, .al (14, 0) [] 0 x.2.length), (15, .int x.1)], ofRO [((11, 0), some (.ow 3 G.length (mvS G x.1))), ((14, 0), some (.ow 3 x.2.length (rows qtO x.2)))]⟩) (fun x => x.1 ≤ G.length ∧ x.2.length ≤ x.1 ∧ x.2 = (G.take x.1).filter (fun t => t.c ≠ 0)) (fun x => G.length - x.1) (0, []) (by simp [C.spec_l8Gather, rows, mvS_zero]) ⟨by simp, by simp, by simp⟩ ?_
      intro x5 hx5 R5 hR5
      obtain ⟨k, L⟩ := x5
      obtain ⟨e1, e2, e3⟩ := hx5
      dsimp only at e1 e2 e3 ⊢
      refine wseq ?_
      refine wseq ?_
      refine wreg fun K hK => ?_
      simp [C.spec_l8Gather]
      refine hK _ ?_; clear hK K
      show AWp _ _ _ _ _
      refine wcond _ rfl (fun hc7 => ?_) (fun hc7 => ?_)
      · have hk2 : k < G.length := by have := d_t hc7; omega
        refine wskip ?_
        show AWp _ _ _ _ _
        refine wseq ?_
        refine wblock ?_
        refine wseq ?_
        refine wreg fun K hK => ?_
        simp [C.spec_l8Gather, hk2, mvS_2 hk2]
        refine hK _ ?_; clear hK K
        show AWp _ _ _ _ _
        refine wcond _ rfl (fun hc8 => ?_) (fun hc8 => ?_)
        · have hz : ¬ G[k].c = 0 := by simpa using hc8
          refine wreg fun K hK => ?_
          simp [C.spec_l8Gather, hk2, mvS_0 hk2, mvS_1 hk2, mvS_2 hk2, modify_const, mvS_move hk2 hz, qtO_snoc, show (L.length + 1) * 40 ≤ 140737488355328 by omega]
          refine hK _ ?_; clear hK K
          show AWp _ _ _ _ _
          refine wreg fun K hK => ?_
          simp [C.spec_l8Gather, wrap_succ (show k < 4611686018427387904 by omega)]
          refine hK _ ?_; clear hK K
          simp [C.spec_l8Gather]
          rw [show L.length + 1 = (L ++ [G[k]]).length by simp]
          refine hR5 (k + 1, L ++ [G[k]]) ⟨hk2, by dsimp only; simp; omega, ?_⟩ (by dsimp only; omega)
          dsimp only
          rw [List.take_succ_eq_append_getElem hk2, List.filter_append, ← e3]
          simp [hz]
        · have hz : G[k].c = 0 := by simpa using hc8
          refine wskip ?_
          show AWp _ _ _ _ _
          refine wreg fun K hK => ?_
          simp [C.spec_l8Gather, wrap_succ (show k < 4611686018427387904 by omega)]
          refine hK _ ?_; clear hK K
          simp [C.spec_l8Gather]
          rw [← mvS_stay hk2 hz]
          refine hR5 (k + 1, L) ⟨hk2, by dsimp only; omega, ?_⟩ (by dsimp only; omega)
          dsimp only
          rw [List.take_succ_eq_append_getElem hk2, List.filter_append, ← e3]
          simp [hz]
      · have hk2 : k = G.length := by have := d_f hc7; omega
        have hL : L = gaQ l := by rw [e3, hk2, List.take_length]; exact hfin
        refine wexit ?_
        show AWp _ _ _ _ _
        refine wseq ?_
        refine wreg fun K hK => ?_
        simp [C.spec_l8Gather]
        refine hK _ ?_; clear hK K
        show AWp _ _ _ _ _
        refine wret ?_
        simp [C.spec_l8Gather, hL]

end Go.Proofs.Ytocknokodgnlbaa.Ab
namespace Go.Proofs.Ytocknokodgnlbaa.Ab
open Go
set_option linter.unusedSimpArgs false
set_option linter.unusedVariables false
set_option maxRecDepth 10000
set_option maxHeartbeats 2000000
@[simp] theorem qtS_share2 (l : List Qtm) : shareL (rows qtS l) = rows qtS l := by
  rw [rows_share]
  congr 1
noncomputable def enQ (v : Int) (ts : List Qtm) : Qsm × Bool := if QRight ⟨v, ts⟩ then (⟨v, ts⟩, true) else (zeroQ, false)
/-- What is left of the terms that were handed in. -/
noncomputable def oQ (v : Int) (ts : List Qtm) : D := if QRight ⟨v, ts⟩ then .gone else .ow 3 ts.length (rows qtO ts)
theorem gaQ_len (l : List Qtm) : (gaQ l).length ≤ l.length := by
  unfold gaQ
  have := nf_len (lt := qlt) (l.map qp)
  simpa using this
theorem gaQ_e {l : List Qtm} {p : List Int → Prop} (h : ∀ t ∈ l, p t.e) : ∀ t ∈ gaQ l, p t.e := fun t ht => by
  unfold gaQ at ht
  obtain ⟨y, hy, rfl⟩ := List.mem_map.1 ht
  obtain ⟨x, hx, e⟩ := nf_mem hy
  obtain ⟨u, hu, rfl⟩ := List.mem_map.1 hx
  have := h u hu
  have e2 : u.e = (qt y).e := congrArg (·.1) e
  rw [← e2]
  exact this
theorem spec_l8Shut_calls (ts : List Qtm) (v : Int) (hx : ts.length < 4611686018427387904) (hxe : ∀ t ∈ ts, t.e.length < 4611686018427387904) : ACalls Try.prog F.spec_l8Shut [.al (0, 0) [] 0 ts.length, .int v] [((0, 0), .ow 3 ts.length (rows qtO ts))] true (fun outs res => outs = [oQ v ts] ∧ WkRs res [.ag (qO (enQ v ts).1), .one (D.bool (enQ v ts).2)]) := by
  refine ACalls.of_body (C := C.spec_l8Shut) (n := Try.f88.ntmps) tabT folT Try.func88 rfl (by kernel_rfl) rfl (Nat.le_of_ble_eq_true rfl) (by decide) (by kernel_rfl) (by kernel_rfl) rfl (by simp) (by simp) ?_
  simp only [Try.f88]
  refine wseq ?_
  refine wreg fun K hK => ?_
  simp [C.spec_l8Shut]
  refine hK _ ?_; clear hK K
  show AWp _ _ _ _ _
  refine wseq ?_
  refine wreg fun K hK => ?_
  simp [C.spec_l8Shut]
  refine hK _ ?_; clear hK K
  show AWp _ _ _ _ _
  refine wseq ?_
  refine wseq ?_
  refine wregI ([0, 1] ++ ([2])) rfl fun K hK => ?_
  refine opsI_seg fun L hL => ?_
  simp [C.spec_l8Shut]
  refine wcall1 (spec_QSumOk_calls ⟨v, ts⟩ hx hxe) (by simp) (by simp) ?_
  simp [C.spec_l8Shut]
  refine hL _ ?_; clear hL L
  refine opsI_end fun L hL => ?_
  simp [C.spec_l8Shut]
  refine hL _ ?_; clear hL L
  simp [C.spec_l8Shut]
  refine hK _ ?_; clear hK K
  show AWp _ _ _ _ _
  refine wcond _ rfl (fun hc1 => ?_) (fun hc1 => ?_)
  · have hr := nd_t hc1
    have hm : enQ v ts = (zeroQ, false) := if_neg hr
    have ho : oQ v ts = .ow 3 ts.length (rows qtO ts) := if_neg hr
    refine wseq ?_
    refine wreg fun K hK => ?_
    simp [C.spec_l8Shut]
    refine hK _ ?_; clear hK K
    show AWp _ _ _ _ _
    refine wret ?_
    simp [C.spec_l8Shut, hm, ho, qO, zeroQ, rows]
  · have hr := nd_f hc1
    have hm : enQ v ts = (⟨v, ts⟩, true) := if_pos hr
    have ho : oQ v ts = .gone := if_pos hr
    refine wskip ?_
    show AWp _ _ _ _ _
    refine wseq ?_
    refine wreg fun K hK => ?_
    simp [C.spec_l8Shut]
    refine hK _ ?_; clear hK K
    show AWp _ _ _ _ _
    refine wret ?_
    simp [C.spec_l8Shut, hm, ho, qO]
theorem l8Shut_calls (ts : List Qtm) (v : Int) (hx : ts.length < 4611686018427387904) (hxe : ∀ t ∈ ts, t.e.length < 4611686018427387904) : ACalls Try.prog F.spec_l8Shut [.al (0, 0) [] 0 ts.length, .int v] [((0, 0), .ow 3 ts.length (rows qtO ts))] true (fun outs res => outs = [.gone] ∧ res = [.ag (qO (enQ v ts).1), .one (D.bool (enQ v ts).2)]) := ACalls.goneOut (spec_l8Shut_calls ts v hx hxe).weak1



end Go.Proofs.Ytocknokodgnlbaa.Ab
namespace Go.Proofs.Ytocknokodgnlbaa.Ab
open Go
set_option linter.unusedSimpArgs false
set_option linter.unusedVariables false
set_option maxRecDepth 10000
set_option maxHeartbeats 2000000
@[simp] theorem lowL_length (ts : List Trm) (n : Nat) : (lowL ts n).length = n := by simp [lowL]
@[simp] theorem highL_length (ts : List Trm) (n : Nat) : (highL ts n).length = n := by simp [highL]
theorem ieq600 (n : Nat) : ((n : Int) == 600) = decide (n = 600) := by
  rw [Bool.eq_iff_iff]; simp; omega
end Go.Proofs.Ytocknokodgnlbaa.Ab
namespace Go.Proofs.Ytocknokodgnlbaa.Ab
open Go
set_option linter.unusedSimpArgs false
set_option linter.unusedVariables false
set_option maxRecDepth 10000
set_option maxHeartbeats 2000000
def mulT2 (fm : List (List Int)) (x y : Qtm) : Qtm := ⟨addE 1 x.e y.e, x.h + y.h + skw fm x.e y.e, x.c * y.c⟩
def prodQ (fm : List (List Int)) (a b : List Qtm) : List Qtm := a.flatMap fun x => b.map (mulT2 fm x)
noncomputable def mulQF (fm : List (List Int)) (f g : Qsm) : Qsm × Bool := if FormOk fm ∧ QRight f ∧ QRight g ∧ f.v = fm.length ∧ g.v = fm.length then enQ f.v (gaQ (prodQ fm f.ts g.ts)) else (zeroQ, false)
/-- Terms of moderate size. -/
def QL (n : Nat) (l : List Qtm) : Prop := l.length ≤ 600 ∧ ∀ t ∈ l, t.e.length = n ∧ (∀ x ∈ t.e, -1000 ≤ x ∧ x ≤ 1000) ∧ (-1000 ≤ t.h ∧ t.h ≤ 1000) ∧ (-1000000 ≤ t.c ∧ t.c ≤ 1000000)
theorem qright_ql {f : Qsm} (h : QRight f) {n : Nat} (hn : f.v = n) : QL n f.ts := ⟨h.2.1, fun t ht => by
  obtain ⟨h1, _, h2, h3, h4⟩ := h.2.2.1 t ht
  exact ⟨by omega, fun x hx => by have := h4 x hx; omega, by omega, h2⟩⟩
theorem QL.sk {fm : List (List Int)} {a b : List Qtm} (hok : FormOk fm) (ha : QL fm.length a) (hb : QL fm.length b) {x y : Qtm} (hx : x ∈ a) (hy : y ∈ b) : SkOk fm x.e y.e :=
  ⟨hok, (ha.2 x hx).1, (hb.2 y hy).1, (ha.2 x hx).2.1, (hb.2 y hy).2.1⟩
theorem addE_tk : ∀ (a b : List Int) (k : Nat) (h1 : k < a.length) (h2 : k < b.length), addE 1 (a.take (k + 1)) (b.take (k + 1)) = addE 1 (a.take k) (b.take k) ++ [a[k] + b[k]]
  | x :: a, y :: b, 0, _, _ => by simp [addE]
  | x :: a, y :: b, k + 1, h1, h2 => by
    have := addE_tk a b k (by simpa using h1) (by simpa using h2)
    simp only [List.take_succ_cons, addE, this, List.getElem_cons_succ, List.cons_append]
theorem ints_snoc1 (xs : List Int) (x : Int) : ints xs ++ [D.v (.int .i64 x)] = ints (xs ++ [x]) := by simp [ints]
theorem prodQ_step {fm : List (List Int)} {a b : List Qtm} {i : Nat} (h : i < a.length) : prodQ fm (a.take (i + 1)) b = prodQ fm (a.take i) b ++ b.map (mulT2 fm a[i]) := by
  unfold prodQ
  rw [List.take_succ_eq_append_getElem h, List.flatMap_append]
  simp
theorem prodQ_len (fm : List (List Int)) (a b : List Qtm) : (prodQ fm a b).length = a.length * b.length := by
  unfold prodQ
  induction a with
  | nil => simp
  | cons x a ih => simp [List.flatMap_cons, ih, Nat.add_mul]; omega
theorem prodQ_mem {fm : List (List Int)} {a b : List Qtm} {t : Qtm} (h : t ∈ prodQ fm a b) : ∃ x ∈ a, ∃ y ∈ b, t = mulT2 fm x y := by
  unfold prodQ at h
  obtain ⟨x, hx, h⟩ := List.mem_flatMap.1 h
  obtain ⟨y, hy, h⟩ := List.mem_map.1 h
  exact ⟨x, hx, y, hy, h.symm⟩
theorem prodQ_abs {fm : List (List Int)} {a b : List Qtm} {n : Nat} (ha : QL n a) (hb : QL n b) : absQ (prodQ fm a b) < 4611686018427387904 := by
  have h1 : absQ (prodQ fm a b) ≤ (prodQ fm a b).length * 1000000000000 := absQ_le fun t ht => by
    obtain ⟨x, hx, y, hy, rfl⟩ := prodQ_mem ht
    have := mul_bd (ha.2 x hx).2.2.2 (hb.2 y hy).2.2.2
    simp only [mulT2]
    omega
  rw [prodQ_len] at h1
  have h2 : a.length * b.length ≤ 600 * 600 := Nat.mul_le_mul ha.1 hb.1
  omega
theorem prodQ_e {fm : List (List Int)} {a b : List Qtm} {n : Nat} (ha : QL n a) (hb : QL n b) : ∀ t ∈ prodQ fm a b, t.e.length = n := fun t ht => by
  obtain ⟨x, hx, y, hy, rfl⟩ := prodQ_mem ht
  simp only [mulT2]
  rw [addE_length _ _ _ (by rw [(ha.2 x hx).1, (hb.2 y hy).1]), (ha.2 x hx).1]
theorem spec_l8Times_calls (fm : List (List Int)) (a b : List Qtm) (hok : FormOk fm) (ha : QL fm.length a) (hb : QL fm.length b) : ACalls Try.prog F.spec_l8Times [.d (.sh 1 fm.length (rows lS fm)), .d (.sh 3 a.length (rows qtS a)), .d (.sh 3 b.length (rows qtS b))] [] true (fun outs res => outs = [] ∧ res = [.one (.ow 3 (gaQ (prodQ fm a b)).length (rows qtO (gaQ (prodQ fm a b))))]) := by
  have hla := ha.1
  have hlb := hb.1
  have hn8 : fm.length ≤ 8 := by have := hok.1; omega
  have hab : a.length * b.length ≤ 600 * 600 := Nat.mul_le_mul hla hlb
  have habz : IntKind.i64.wrap ((a.length : Int) * b.length) = ((a.length * b.length : Nat) : Int) := by
    rw [show (a.length : Int) * b.length = ((a.length * b.length : Nat) : Int) by simp, wrapOk (by omega) (by omega)]
  have hplen := prodQ_len fm a b
  generalize hq : a.length * b.length = q at hab habz hplen
  refine ACalls.of_body (C := C.spec_l8Times) (n := Try.f141.ntmps) tabT folT Try.func141 rfl (by kernel_rfl) rfl (Nat.le_of_ble_eq_true rfl) (by decide) (by kernel_rfl) (by kernel_rfl) rfl (by simp) (by simp) ?_
  simp only [Try.f141]
  refine wseq ?_
  refine wreg fun K hK => ?_
  simp [C.spec_l8Times]
  refine hK _ ?_; clear hK K
  show AWp _ _ _ _ _
  refine wseq ?_
  refine wreg fun K hK => ?_
  simp [C.spec_l8Times, habz, show (40 : Int) * q ≤ 281474976710656 by omega, show (q : Int) ≤ 281474976710656 by omega]
  refine hK _ ?_; clear hK K
  show AWp _ _ _ _ _
  refine wseq ?_
  refine wseq ?_
  refine wreg fun K hK => ?_
  simp [C.spec_l8Times]
  refine hK _ ?_; clear hK K
  show AWp _ _ _ _ _
  refine wblock ?_
  refine wloop (fun x : Nat × List Qtm × Nat => ⟨ofL [(0, .d (.sh 1 fm.length (rows lS fm))), (1, .d (.sh 3 a.length (rows qtS a))), (2, .d (.sh 3 b.length (rows qtS b))), (7, .al (7, 0) [] 0 x.2.2), (8, .int x.1)], ofRO [((7, 0), some (.ow 3 x.2.2 (rows qtO x.2.1)))]⟩) (fun x => x.1 ≤ a.length ∧ x.2.1 = prodQ fm (a.take x.1) b ∧ x.2.2 = x.2.1.length ∧ x.2.2 ≤ x.1 * 600) (fun x => a.length - x.1) (0, [], 0) (by simp [C.spec_l8Times, rows]) (by simp [prodQ]) ?_
  intro x1 hx1 R1 hR1
  obtain ⟨i, out, m⟩ := x1
  obtain ⟨hi, hout, hm, hmb⟩ := hx1
  dsimp only at hi hout hm hmb ⊢
  refine wseq ?_
  refine wseq ?_
  refine wreg fun K hK => ?_
  simp [C.spec_l8Times]
  refine hK _ ?_; clear hK K
  show AWp _ _ _ _ _
  refine wcond _ rfl (fun hc1 => ?_) (fun hc1 => ?_)
  · have hia : i < a.length := by have := d_t hc1; omega
    have hA := ha.2 _ (List.getElem_mem hia)
    refine wskip ?_
    show AWp _ _ _ _ _
    refine wseq ?_
    refine wblock ?_
    refine wseq ?_
    refine wreg fun K hK => ?_
    simp [C.spec_l8Times]
    refine hK _ ?_; clear hK K
    show AWp _ _ _ _ _
    refine wblock ?_
    refine wloop (fun x : Nat × List Qtm × Nat => ⟨ofL [(0, .d (.sh 1 fm.length (rows lS fm))), (1, .d (.sh 3 a.length (rows qtS a))), (2, .d (.sh 3 b.length (rows qtS b))), (7, .al (7, 0) [] 0 x.2.2), (8, .int i), (9, .int x.1)], ofRO [((7, 0), some (.ow 3 x.2.2 (rows qtO x.2.1)))]⟩) (fun x => x.1 ≤ b.length ∧ x.2.1 = out ++ (b.take x.1).map (mulT2 fm a[i]) ∧ x.2.2 = x.2.1.length ∧ x.2.2 ≤ i * 600 + x.1) (fun x => b.length - x.1) (0, out, m) (by simp [C.spec_l8Times]) ⟨by simp, by simp, hm, by dsimp only; omega⟩ ?_
    intro x2 hx2 R2 hR2
    obtain ⟨j, o2, m2⟩ := x2
    obtain ⟨hj, ho2, hm2, hm2b⟩ := hx2
    dsimp only at hj ho2 hm2 hm2b ⊢
    refine wseq ?_
    refine wseq ?_
    refine wreg fun K hK => ?_
    simp [C.spec_l8Times]
    refine hK _ ?_; clear hK K
    show AWp _ _ _ _ _
    refine wcond _ rfl (fun hc2 => ?_) (fun hc2 => ?_)
    · have hjb : j < b.length := by have := d_t hc2; omega
      have hB := hb.2 _ (List.getElem_mem hjb)
      refine wskip ?_
      show AWp _ _ _ _ _
      refine wseq ?_
      refine wblock ?_
      refine wseq ?_
      refine wreg fun K hK => ?_
      simp [C.spec_l8Times]
      refine hK _ ?_; clear hK K
      show AWp _ _ _ _ _
      refine wseq ?_
      refine wseq ?_
      refine wreg fun K hK => ?_
      simp [C.spec_l8Times]
      refine hK _ ?_; clear hK K
      show AWp _ _ _ _ _
      refine wblock ?_
      refine wloop (fun x : Nat => ⟨ofL [(0, .d (.sh 1 fm.length (rows lS fm))), (1, .d (.sh 3 a.length (rows qtS a))), (2, .d (.sh 3 b.length (rows qtS b))), (7, .al (7, 0) [] 0 m2), (8, .int i), (9, .int j), (10, .al (10, 0) [] 0 x), (11, .int x)], ofRO [((7, 0), some (.ow 3 m2 (rows qtO o2))), ((10, 0), some (.ow 1 x (ints (addE 1 (a[i].e.take x) (b[j].e.take x)))))]⟩) (fun x => x ≤ fm.length) (fun x => fm.length - x) 0 (by simp [C.spec_l8Times, addE, ints]) (by simp) ?_
      intro x3 hx3 R3 hR3
      refine wseq ?_
      refine wseq ?_
      refine wreg fun K hK => ?_
      simp [C.spec_l8Times]
      refine hK _ ?_; clear hK K
      show AWp _ _ _ _ _
      refine wcond _ rfl (fun hc3 => ?_) (fun hc3 => ?_)
      · have hk : x3 < fm.length := by have := d_t hc3; omega
        have hka : x3 < a[i].e.length := by omega
        have hkb : x3 < b[j].e.length := by omega
        have q1 := hA.2.1 _ (List.getElem_mem hka)
        have q2 := hB.2.1 _ (List.getElem_mem hkb)
        refine wskip ?_
        show AWp _ _ _ _ _
        refine wseq ?_
        refine wblock ?_
        refine wdrawI [(true, 0), (true, 1), (true, 2), (true, 3), (true, 4), (true, 5), (true, 6), (true, 7), (true, 8), (true, 9), (true, 10), (true, 11), (true, 12), (true, 13), (true, 14), (true, 15), (true, 16), (true, 17), (false, 18), (false, 19), (true, 20)] ⟨by kernel_rfl, by kernel_rfl⟩ ([0, 1, 2, 3, 4, 5, 6, 7, 8, 9, 10, 11, 12, 13, 14, 15, 16, 17, 18, 19, 20]) rfl fun K hK => ?_
        refine opsI_end fun L hL => ?_
        simp [C.spec_l8Times, hia, hjb, qtS_0 hia, qtS_0 hjb, hka, hkb, get_ints, ints_snoc1, ← addE_tk _ _ _ hka hkb, wrapOk (x := a[i].e[x3] + b[j].e[x3]) (by omega) (by omega), show (x3 + 1) * 8 ≤ 140737488355328 by omega]
        refine hL _ ?_; clear hL L
        simp [C.spec_l8Times, hia, hjb, qtS_0 hia, qtS_0 hjb, hka, hkb, get_ints, ints_snoc1, ← addE_tk _ _ _ hka hkb, wrapOk (x := a[i].e[x3] + b[j].e[x3]) (by omega) (by omega), show (x3 + 1) * 8 ≤ 140737488355328 by omega]
        refine hK _ ?_; clear hK K
        show AWp _ _ _ _ _
        refine wreg fun K hK => ?_
        simp [C.spec_l8Times, wrap_succ (show x3 < 4611686018427387904 by omega)]
        refine hK _ ?_; clear hK K
        simp [C.spec_l8Times]
        exact hR3 (x3 + 1) hk (by omega)
      · have hk : x3 = fm.length := by have := d_f hc3; omega
        have ek : addE 1 (a[i].e.take x3) (b[j].e.take x3) = addE 1 a[i].e b[j].e := by rw [List.take_of_length_le (by omega), List.take_of_length_le (by omega)]
        subst hk
        have hsk := QL.sk hok ha hb (List.getElem_mem hia) (List.getElem_mem hjb)
        have hsb := hsk.bd
        have hcc := mul_bd hA.2.2.2 hB.2.2.2
        have hel : (addE 1 a[i].e b[j].e).length = fm.length := by rw [addE_length _ _ _ (by omega)]; omega
        refine wexit ?_
        show AWp _ _ _ _ _
        refine wdrawI [(true, 0), (true, 1), (true, 2), (true, 3), (true, 4), (true, 5), (true, 6), (true, 7), (true, 8), (true, 9), (true, 10), (true, 11), (true, 12), (true, 13), (true, 14), (true, 15), (true, 16), (true, 17), (true, 18), (true, 19), (true, 20), (true, 21), (true, 22), (true, 23), (true, 26), (true, 27), (true, 28), (true, 29), (true, 30), (true, 31), (true, 32), (true, 33), (true, 34), (true, 35), (true, 36), (false, 24), (true, 25), (true, 37), (false, 38), (false, 39), (true, 40)] ⟨by kernel_rfl, by kernel_rfl⟩ ([0, 1, 2, 3, 4, 5, 6, 7, 8, 9, 10, 11, 12, 13, 14, 15, 16, 17, 18, 19, 20, 21, 22, 23, 26, 27, 28, 29, 30, 31, 32, 33, 34, 35, 36, 24] ++ ([25, 37, 38, 39, 40])) rfl fun K hK => ?_
        refine opsI_seg fun L hL => ?_
        simp [C.spec_l8Times, ek, hia, hjb, qtS_0 hia, qtS_0 hjb, qtS_1 hia, qtS_1 hjb, qtS_2 hia, qtS_2 hjb, wrapOk (x := a[i].h + b[j].h) (by omega) (by omega), wrapOk (x := a[i].h + b[j].h + skw fm a[i].e b[j].e) (by omega) (by omega), wrapOk (x := a[i].c * b[j].c) (by omega) (by omega), show (m2 + 1) * 40 ≤ 140737488355328 by omega]
        refine wcall1 (spec_l8Skew_calls fm a[i].e b[j].e hsk) (by simp) (by simp) ?_
        simp [C.spec_l8Times, ek, hia, hjb, qtS_0 hia, qtS_0 hjb, qtS_1 hia, qtS_1 hjb, qtS_2 hia, qtS_2 hjb, wrapOk (x := a[i].h + b[j].h) (by omega) (by omega), wrapOk (x := a[i].h + b[j].h + skw fm a[i].e b[j].e) (by omega) (by omega), wrapOk (x := a[i].c * b[j].c) (by omega) (by omega), show (m2 + 1) * 40 ≤ 140737488355328 by omega]
        refine hL _ ?_; clear hL L
        refine opsI_end fun L hL => ?_
        simp [C.spec_l8Times, ek, hia, hjb, qtS_0 hia, qtS_0 hjb, qtS_1 hia, qtS_1 hjb, qtS_2 hia, qtS_2 hjb, wrapOk (x := a[i].h + b[j].h) (by omega) (by omega), wrapOk (x := a[i].h + b[j].h + skw fm a[i].e b[j].e) (by omega) (by omega), wrapOk (x := a[i].c * b[j].c) (by omega) (by omega), show (m2 + 1) * 40 ≤ 140737488355328 by omega]
        refine hL _ ?_; clear hL L
        simp [C.spec_l8Times, ek, hia, hjb, qtS_0 hia, qtS_0 hjb, qtS_1 hia, qtS_1 hjb, qtS_2 hia, qtS_2 hjb, wrapOk (x := a[i].h + b[j].h) (by omega) (by omega), wrapOk (x := a[i].h + b[j].h + skw fm a[i].e b[j].e) (by omega) (by omega), wrapOk (x := a[i].c * b[j].c) (by omega) (by omega), show (m2 + 1) * 40 ≤ 140737488355328 by omega]
        refine hK _ ?_; clear hK K
        show AWp _ _ _ _ _
        refine wreg fun K hK => ?_
        simp [C.spec_l8Times, wrap_succ (show j < 4611686018427387904 by omega)]
        refine hK _ ?_; clear hK K
        simp [C.spec_l8Times]
        have hrow : rows qtO o2 ++ [D.ow 1 fm.length (ints (addE 1 a[i].e b[j].e)), D.v (.int .i64 (a[i].h + b[j].h + skw fm a[i].e b[j].e)), D.v (.int .i64 (a[i].c * b[j].c))] = rows qtO (o2 ++ [mulT2 fm a[i] b[j]]) := by
          rw [← qtO_snoc]
          simp only [mulT2, hel]
        refine cast (congrArg R2 ?_) (hR2 (j + 1, o2 ++ [mulT2 fm a[i] b[j]], m2 + 1) ⟨hjb, ?_, by dsimp only; rw [hm2]; simp, by dsimp only; omega⟩ (by dsimp only; omega))
        · simp [hrow]
        · dsimp only
          rw [ho2, List.take_succ_eq_append_getElem hjb, List.map_append, List.append_assoc]
          rfl
    · have hjb : j = b.length := by have := d_f hc2; omega
      refine wexit ?_
      show AWp _ _ _ _ _
      refine wreg fun K hK => ?_
      simp [C.spec_l8Times, wrap_succ (show i < 4611686018427387904 by omega)]
      refine hK _ ?_; clear hK K
      simp [C.spec_l8Times]
      refine hR1 (i + 1, o2, m2) ⟨hia, ?_, hm2, by dsimp only; omega⟩ (by dsimp only; omega)
      dsimp only
      rw [prodQ_step hia, ← hout, ho2, hjb, List.take_length]
  · have hia : i = a.length := by have := d_f hc1; omega
    have hfull : out = prodQ fm a b := by rw [hout, hia, List.take_length]
    subst hfull
    subst hm
    refine wexit ?_
    show AWp _ _ _ _ _
    refine wseq ?_
    refine wregI ([0, 1] ++ ([2])) rfl fun K hK => ?_
    refine opsI_seg fun L hL => ?_
    simp [C.spec_l8Times]
    refine wcall1 (spec_l8Gather_calls (prodQ fm a b) (by omega) (prodQ_abs ha hb) (fun t ht => by have := prodQ_e ha hb t ht; omega)) (by simp) (by simp) ?_
    simp [C.spec_l8Times]
    refine hL _ ?_; clear hL L
    refine opsI_end fun L hL => ?_
    simp [C.spec_l8Times]
    refine hL _ ?_; clear hL L
    simp [C.spec_l8Times]
    refine hK _ ?_; clear hK K
    show AWp _ _ _ _ _
    refine wret ?_
    simp [C.spec_l8Times]



end Go.Proofs.Ytocknokodgnlbaa.Ab
namespace Go.Proofs.Ytocknokodgnlbaa.Ab
open Go Go.Proofs
def sortTerm_ren : Go.Shelf.Ren := ⟨fun | 6 => 117 | 15 => 151 | 14 => 150 | 28 => 163 | 29 => 164 | 20 => 155 | 21 => 156 | 22 => 157 | 23 => 158 | 24 => 159 | 25 => 160 | 26 => 161 | 27 => 162 | 46 => 173 | 47 => 174 | 48 => 175 | 49 => 176 | 50 => 177 | 57 => 181 | n => n, fun | 22 => 24 | 24 => 78 | 25 => 139 | 3 => 3 | 39 => 161 | 0 => 0 | 53 => 175 | 55 => 177 | 4 => 4 | 46 => 168 | 45 => 167 | 50 => 172 | 5 => 5 | 9 => 9 | 66 => 183 | 70 => 187 | 76 => 191 | 77 => 192 | n => n, fun | n => n⟩
def sortQTerm_ren : Go.Shelf.Ren := ⟨fun | 6 => 133 | 15 => 151 | 14 => 153 | 28 => 163 | 29 => 164 | 20 => 165 | 21 => 166 | 22 => 167 | 23 => 168 | 24 => 169 | 25 => 170 | 26 => 171 | 27 => 172 | 46 => 178 | 47 => 174 | 48 => 175 | 49 => 179 | 50 => 180 | 57 => 182 | n => n, fun | 22 => 40 | 24 => 104 | 25 => 149 | 3 => 3 | 39 => 161 | 0 => 0 | 53 => 175 | 55 => 177 | 4 => 4 | 46 => 168 | 45 => 167 | 50 => 172 | 5 => 5 | 9 => 9 | 66 => 183 | 70 => 187 | 76 => 191 | 77 => 192 | n => n, fun | n => n⟩
theorem sortQTerm : Go.Proofs.SlLaysF0.n6 Try.prog sortQTerm_ren := {
  mixed := by kernel_rfl,
  f6 := ⟨Try.f133.name, by decide, Try.func133.trans (congrArg some (by kernel_rfl))⟩,
  f14 := ⟨Try.f153.name, by decide, Try.func153.trans (congrArg some (by kernel_rfl))⟩,
  f15 := Try.func151.trans (congrArg some (by kernel_rfl)),
  f20 := ⟨Try.f165.name, by decide, Try.func165.trans (congrArg some (by kernel_rfl))⟩,
  f21 := ⟨Try.f166.name, by decide, Try.func166.trans (congrArg some (by kernel_rfl))⟩,
  f22 := ⟨Try.f167.name, by decide, Try.func167.trans (congrArg some (by kernel_rfl))⟩,
  f23 := ⟨Try.f168.name, by decide, Try.func168.trans (congrArg some (by kernel_rfl))⟩,
  f24 := ⟨Try.f169.name, by decide, Try.func169.trans (congrArg some (by kernel_rfl))⟩,
  f25 := ⟨Try.f170.name, by decide, Try.func170.trans (congrArg some (by kernel_rfl))⟩,
  f26 := ⟨Try.f171.name, by decide, Try.func171.trans (congrArg some (by kernel_rfl))⟩,
  f27 := ⟨Try.f172.name, by decide, Try.func172.trans (congrArg some (by kernel_rfl))⟩,
  f28 := Try.func163.trans (congrArg some (by kernel_rfl)),
  f29 := Try.func164.trans (congrArg some (by kernel_rfl)),
  f46 := ⟨Try.f178.name, by decide, Try.func178.trans (congrArg some (by kernel_rfl))⟩,
  f47 := Try.func174.trans (congrArg some (by kernel_rfl)),
  f48 := Try.func175.trans (congrArg some (by kernel_rfl)),
  f49 := ⟨Try.f179.name, by decide, Try.func179.trans (congrArg some (by kernel_rfl))⟩,
  f50 := ⟨Try.f180.name, by decide, Try.func180.trans (congrArg some (by kernel_rfl))⟩,
  f57 := ⟨Try.f182.name, by decide, Try.func182.trans (congrArg some (by kernel_rfl))⟩,
  t0 := Try.underlying0,
  a0 := Try.isAgg0,
  z0 := Try.sizeOf0,
  v0 := Try.zeroValue0,
  t3 := Try.underlying3,
  a3 := Try.isAgg3,
  z3 := Try.sizeOf3,
  v3 := Try.zeroValue3,
  t4 := Try.underlying4,
  a4 := Try.isAgg4,
  z4 := Try.sizeOf4,
  v4 := Try.zeroValue4,
  t5 := Try.underlying5,
  a5 := Try.isAgg5,
  z5 := Try.sizeOf5,
  v5 := Try.zeroValue5,
  t9 := Try.underlying9,
  a9 := Try.isAgg9,
  z9 := Try.sizeOf9,
  v9 := Try.zeroValue9,
  t22 := Try.underlying40,
  a22 := Try.isAgg40,
  z22 := Try.sizeOf40,
  v22 := Try.zeroValue40,
  t25 := Try.underlying149,
  a25 := Try.isAgg149,
  z25 := Try.sizeOf149,
  v25 := Try.zeroValue149,
  t39 := Try.underlying161,
  a39 := Try.isAgg161,
  z39 := Try.sizeOf161,
  v39 := Try.zeroValue161,
  t45 := Try.underlying167,
  a45 := Try.isAgg167,
  z45 := Try.sizeOf167,
  v45 := Try.zeroValue167,
  t46 := Try.underlying168,
  a46 := Try.isAgg168,
  z46 := Try.sizeOf168,
  v46 := Try.zeroValue168,
  t50 := Try.underlying172,
  a50 := Try.isAgg172,
  z50 := Try.sizeOf172,
  v50 := Try.zeroValue172,
  t53 := Try.underlying175,
  a53 := Try.isAgg175,
  z53 := Try.sizeOf175,
  v53 := Try.zeroValue175,
  t55 := Try.underlying177,
  a55 := Try.isAgg177,
  z55 := Try.sizeOf177,
  v55 := Try.zeroValue177,
  t66 := Try.underlying183,
  a66 := Try.isAgg183,
  z66 := Try.sizeOf183,
  v66 := Try.zeroValue183,
  t70 := Try.underlying187,
  a70 := Try.isAgg187,
  z70 := Try.sizeOf187,
  v70 := Try.zeroValue187,
  t76 := Try.underlying191,
  a76 := Try.isAgg191,
  z76 := Try.sizeOf191,
  v76 := Try.zeroValue191,
  t77 := Try.underlying192,
  a77 := Try.isAgg192,
  z77 := Try.sizeOf192,
  v77 := Try.zeroValue192 }
theorem sortQTerm_t24 : sortQTerm_ren.t 24 = 104 := by kernel_rfl
theorem sortQTerm_f6 : sortQTerm_ren.f 6 = 133 := by kernel_rfl
theorem sortQTerm_agg : ∀ w, (isAgg (sortQTerm_ren.t 24)).run Try.prog w = .ok true w := fun w => by rw [sortQTerm_t24]; exact Try.isAgg104 w
theorem sortQTerm_size : ∀ w, (Go.sizeOf (sortQTerm_ren.t 24)).run Try.prog w = .ok 3 w := fun w => by rw [sortQTerm_t24]; exact Try.sizeOf104 w
end Go.Proofs.Ytocknokodgnlbaa.Ab
namespace Go.Proofs.Ytocknokodgnlbaa.Ab
open Go
set_option linter.unusedSimpArgs false
set_option linter.unusedVariables false
set_option linter.unusedSectionVars false

/-- What a function that sorts promises over worlds. -/
def SfOk (P : Program) (sf k : Nat) : Prop :=
  (∀ (p : Option Addr) (cap : Nat) (fv : Value) (w : World), Calls P sf #[.slice p 0 cap, fv] w fun e w' => e = .returned (.tuple #[]) ∧ w' = w) ∧
  ∀ (α : Type) [Inhabited α] (enc : α → List Value) (hk : ∀ x, (enc x).length = k) (h1 : ∀ x, ∀ v ∈ enc x, v.oneCell' = true) (cf : α → α → Int) (hO : Go.Sort.SWO (ltOf cf)) (g : Nat) (blk off cap : Nat) (d : Array α) (w : World)
    (eg : ∀ args w, (callFunc g args).run P w = .ok (.enter g args) w) (hcmp : CmpLays P g #[] enc k cf blk off d.size w) (hH : Go.Sort.HoldsK enc k w blk off d) (hblk : blk < w.heap.size) (hsz : d.size < 4611686018427387904),
    Calls P sf #[.slice (some ⟨blk, off, none⟩) d.size cap, .func (.func g) #[] #[]] w fun e w' =>
      e = .returned (.tuple #[]) ∧ ∃ d' n os, Go.Sort.PermIn 0 d.size d d' ∧ Go.Sort.SortedIn (ltOf cf) 0 d.size d' ∧ w' = sortWorldK enc k w blk off n d' os

/-! ### Elements -/
structure El (τ : Type) where
  us : List Value
  fp : List Nat
  t : τ
section
variable {τ : Type} {f : τ → List D} {k : Nat} {w : World} {ok : Nat → Prop}
theorem rows_els (hk : ∀ t, (f t).length = k) : ∀ (ts : List τ) (us : List Value) (fp : List Nat), OwVs w ok (rows f ts) us fp →
    ∃ els : List (El τ), els.map (·.t) = ts ∧ us = els.flatMap (·.us) ∧ fp = els.flatMap (·.fp) ∧ ∀ x ∈ els, OwVs w ok (f x.t) x.us x.fp
  | [], us, fp, h => by
    simp only [rows, OwVs] at h
    exact ⟨[], rfl, by simp [h.1], by simp [h.2], by simp⟩
  | t :: ts, us, fp, h => by
    have hl := OwVs_length h
    obtain ⟨f1, f2, e, h1, h2⟩ := OwVs_split k h
    have e1 : (rows f (t :: ts)).take k = f t := by
      simp only [rows]
      rw [List.take_append_of_le_length (by rw [hk]; exact Nat.le_refl _), List.take_of_length_le (by rw [hk]; exact Nat.le_refl _)]
    have e2 : (rows f (t :: ts)).drop k = rows f ts := by
      simp only [rows]
      rw [← hk t, List.drop_left]
    rw [e1] at h1
    rw [e2] at h2
    obtain ⟨els, g1, g2, g3, g4⟩ := rows_els hk ts _ _ h2
    refine ⟨⟨us.take k, f1, t⟩ :: els, by simp [g1], ?_, ?_, fun x hx => ?_⟩
    · simp only [List.flatMap_cons]
      rw [← g2, List.take_append_drop]
    · simp only [List.flatMap_cons]
      rw [← g3, e]
    · rcases List.mem_cons.1 hx with rfl | hx
      · exact h1
      · exact g4 x hx
theorem els_rows : ∀ (els : List (El τ)), (∀ x ∈ els, OwVs w ok (f x.t) x.us x.fp) → OwVs w ok (rows f (els.map (·.t))) (els.flatMap (·.us)) (els.flatMap (·.fp))
  | [], _ => by simp [rows, OwVs]
  | x :: els, h => by
    simp only [List.map_cons, rows, List.flatMap_cons]
    exact OwVs_append (h x (by simp)) (els_rows els fun y hy => h y (by simp [hy]))
end
theorem flat_get {α β : Type} {g : α → List β} {k : Nat} (hk : ∀ x, (g x).length = k) : ∀ (l : List α) (j : Nat) (h : j / k < l.length) (h0 : 0 < k), (l.flatMap g)[j]? = (g (l[j / k]'h))[j % k]?
  | [], j, h, _ => by simp at h
  | x :: l, j, h, h0 => by
    simp only [List.flatMap_cons]
    rcases Nat.lt_or_ge j k with hj | hj
    · rw [List.getElem?_append_left (by rw [hk]; exact hj)]
      simp only [Nat.div_eq_of_lt hj, Nat.mod_eq_of_lt hj, List.getElem_cons_zero]
    · rw [List.getElem?_append_right (by rw [hk]; exact hj), hk]
      obtain ⟨m, rfl⟩ : ∃ m, j = m + k := ⟨j - k, by omega⟩
      simp only [Nat.add_sub_cancel, Nat.add_div_right _ h0, Nat.add_mod_right, Nat.succ_eq_add_one, List.getElem_cons_succ]
      exact flat_get hk l m (by rw [Nat.add_div_right _ h0] at h; simpa using h) h0
theorem flat_len {α β : Type} {g : α → List β} {k : Nat} (hk : ∀ x, (g x).length = k) : ∀ l : List α, (l.flatMap g).length = l.length * k
  | [] => by simp
  | x :: l => by simp only [List.flatMap_cons, List.length_append, hk, flat_len hk l, List.length_cons, Nat.add_mul, Nat.one_mul]; omega
theorem flatK_get {α : Type} [Inhabited α] {enc : α → List Value} {k : Nat} (hk : ∀ x, (enc x).length = k) (d : Array α) (j : Nat) (h : j < d.size * k) : (d.toList.flatMap enc)[j]? = some ((Go.Sort.flatK enc k d)[j]!) := by
  have h0 : 0 < k := by
    rcases Nat.eq_zero_or_pos k with e | e
    · subst e; simp at h
    · exact e
  have hd : j / k < d.size := (Nat.div_lt_iff_lt_mul h0).2 h
  have hm : j % k < k := Nat.mod_lt _ h0
  rw [flat_get hk d.toList j (by simpa using hd) h0, Go.Sort.get_flatK _ _ _ _ h]
  rw [getElem!_pos d (j / k) hd, List.getElem?_eq_getElem (by rw [hk]; exact hm), getElem!_pos _ (j % k) (by rw [hk]; exact hm)]
  simp

theorem done1 {w w' : World} {ok : Nat → Prop} {ρ : Rn → Value} {fp0 : List Nat} {d : D} {fp' : List Nat} (hns : noSh d) (ho : Ow w' ok d (ρ (0, 0)) fp') (hnd : fp'.Nodup)
    (hb : ∀ b ∈ fp', ¬ ok b ∧ (b ∈ fp0 ∨ w.heap.size ≤ b) ∧ b < w'.heap.size) (hf : Keeps w fp0 w') (hok : ∀ b, ok b → b < w.heap.size) :
    Done w ok ρ fp0 [(0, 0)] true [d] [] (.tuple #[]) w' ok (fun _ => fp') [] := by
  have key : ∀ {r : Rn} {e : D}, ofR ([((0, 0) : Rn)].zip [d]) r = some e → r = (0, 0) ∧ e = d := fun {r e} h => by
    simp only [List.zip_cons_cons, List.zip_nil_left, ofR] at h
    split at h
    · rename_i e2
      simp only [Option.some.injEq] at h
      exact ⟨by first | exact e2 | exact e2.symm, h.symm⟩
    · simp at h
  refine ⟨rfl, fun r e he => ?_, fun r r' e e' hne he he' => ?_, ⟨[], rfl, by simp [OwRs]⟩, List.nodup_nil, by simp, by simp, hf, fun _ h => h, fun b h => ⟨.inl h, Nat.lt_of_lt_of_le (hok b h) hf.size⟩⟩
  · obtain ⟨rfl, rfl⟩ := key he
    exact ⟨by simpa using Ow_nosh _ _ _ hns ho, hnd, hb⟩
  · exact absurd ((key he).1.trans (key he').1.symm) hne

/-! ### A comparison in the midst of a sort -/
theorem ShV_d {w : World} {ok : Nat → Prop} {σ : St} {ρ : Rn → Value} : ∀ {ds : List D} {us : List Value}, ShV w ok ds us → FRL w ok σ ρ (ds.map .d) us
  | [], us, h => by simpa [ShV, FRL] using h
  | d :: ds, us, h => by
    simp only [ShV] at h
    obtain ⟨u, vs, rfl, h1, h2⟩ := h
    simp only [List.map_cons, FRL]
    exact ⟨u, vs, rfl, by simpa [FR] using h1, ShV_d h2⟩
theorem ShV_share {w : World} {ok ok' : Nat → Prop} (hk : ∀ b, ok b → ok' b) : ∀ {ds : List D} {us : List Value} {fp : List Nat}, OwVs w ok ds us fp → (∀ b ∈ fp, ok' b) → ShV w ok' (shareL ds) us
  | [], us, fp, h, _ => by
    simp only [OwVs] at h
    simp [shareL, ShV, h.1]
  | d :: ds, us, fp, h, hf => by
    simp only [OwVs] at h
    obtain ⟨u, vs, f1, f2, rfl, rfl, h1, h2⟩ := h
    simp only [shareL, ShV]
    exact ⟨u, vs, rfl, Sh_share hk d u f1 (fun b hb => hf b (by simp [hb])) h1, ShV_share hk h2 fun b hb => hf b (by simp [hb])⟩
theorem OwVs_world {w w' : World} {ok : Nat → Prop} (hk : ∀ b, ok b → w'.heap[b]? = w.heap[b]?) : ∀ {ds : List D} {us : List Value} {fp : List Nat}, OwVs w ok ds us fp → (∀ b ∈ fp, w'.heap[b]? = w.heap[b]?) → OwVs w' ok ds us fp
  | [], us, fp, h, _ => by simpa only [OwVs] using h
  | d :: ds, us, fp, h, hf => by
    simp only [OwVs] at h ⊢
    obtain ⟨u, vs, f1, f2, rfl, rfl, h1, h2⟩ := h
    exact ⟨u, vs, f1, f2, rfl, rfl, Ow_mono (fun b hb => ⟨hb, hk b hb⟩) _ _ _ (fun b hb => hf b (by simp [hb])) h1, OwVs_world hk h2 fun b hb => hf b (by simp [hb])⟩
theorem grow_of_keeps {w w' : World} (h : Keeps w [] w') : ∃ q os', w' = Go.Sort.grow (w.drewN q) os' := by
  refine ⟨w'.drawn - w.drawn, w'.heap.extract w.heap.size w'.heap.size, ?_⟩
  have hh : w'.heap = w.heap ++ w'.heap.extract w.heap.size w'.heap.size := by
    apply Array.ext_getElem?
    intro i
    rw [Array.getElem?_append]
    split
    · rename_i hi
      exact h.old i hi (by simp)
    · rename_i hi
      rw [Array.getElem?_extract]
      have hs := h.size
      rcases Nat.lt_or_ge i w'.heap.size with h1 | h1
      · rw [if_pos (by omega), show w.heap.size + (i - w.heap.size) = i by omega]
      · rw [if_neg (by omega), Array.getElem?_eq_none (by omega)]
  have h1 := h.os
  have h2 := h.out
  have h3 := h.tape
  have h4 := h.drawn
  cases w' with
  | mk heap tape drawn os output =>
    cases w with
    | mk heap2 tape2 drawn2 os2 output2 =>
      simp only at h1 h2 h3 h4 hh
      subst h1; subst h2; subst h3
      simp only [Go.Sort.grow, World.drewN]
      congr 1
      omega
theorem cmp_call {P : Program} {g : Nat} {cx cy : List D} {c : Int} (h : ACalls P g [.ag ((shareL cx).map .d), .ag ((shareL cy).map .d)] [] true (fun outs res => outs = [] ∧ res = [.one (D.int c)])) {w : World} {ok : Nat → Prop} {ux uy : List Value} {fx fy : List Nat}
    (hx : OwVs w ok cx ux fx) (hy : OwVs w ok cy uy fy) (hfx : ∀ b ∈ fx, b < w.heap.size) (hfy : ∀ b ∈ fy, b < w.heap.size) (hok : ∀ b, ok b → b < w.heap.size) :
    Calls P g (#[.agg ux.toArray, .agg uy.toArray] ++ #[]) w fun e w' => e = .returned (.int .i64 c) ∧ ∃ q os', w' = Go.Sort.grow (w.drewN q) os' := by
  have h1 := ShV_share (ok' := fun b => ok b ∨ b ∈ fx ∨ b ∈ fy) (fun b hb => .inl hb) hx (fun b hb => .inr (.inl hb))
  have h2 := ShV_share (ok' := fun b => ok b ∨ b ∈ fx ∨ b ∈ fy) (fun b hb => .inl hb) hy (fun b hb => .inr (.inr hb))
  have := h.2 w [] (fun b => ok b ∨ b ∈ fx ∨ b ∈ fy) [.agg ux.toArray, .agg uy.toArray] (fun _ => undef) (fun _ => []) rfl ⟨fun r d hd => by simp [ofR] at hd, fun r r' d d' _ hd => by simp [ofR] at hd, fun t => by
    match t with
    | 0 =>
      simp only [argEnv, List.getD_cons_zero, FR]
      exact ⟨_, rfl, ShV_d (by simpa using h1)⟩
    | 1 =>
      simp only [argEnv, List.getD_cons_succ, List.getD_cons_zero, FR]
      exact ⟨_, rfl, ShV_d (by simpa using h2)⟩
    | t + 2 => simp [argEnv, FR], fun b hb => by rcases hb with hb | hb | hb; exact hok b hb; exact hfx b hb; exact hfy b hb, Keeps.refl w []⟩
  have e0 : (#[.agg ux.toArray, .agg uy.toArray] ++ #[] : Array Value) = [Value.agg ux.toArray, Value.agg uy.toArray].toArray := by simp
  rw [e0]
  refine Calls.mono this ?_
  rintro e w' ⟨v, outs, res, ok', φ', fr, rfl, ⟨rfl, rfl⟩, hd⟩
  obtain ⟨vs, e1, e2⟩ := hd.res
  simp only [OwRs, OwRV, if_true] at e2
  obtain ⟨u, us, f1, f2, rfl, _, k1, k2, _⟩ := e2
  subst k2
  simp only [Ow] at k1
  refine ⟨?_, grow_of_keeps hd.frm⟩
  rw [e1, k1.2]
  rfl

/-! ### The sort -/
section
variable {α : Type} [Inhabited α] {enc : α → List Value} {k : Nat} {w : World} {b o : Nat}
theorem srt_other (m : Nat) (d : Array α) (os : Array Obj) {c : Nat} (hc : c ≠ b) (hs : c < w.heap.size) : (sortWorldK enc k w b o m d os).heap[c]? = w.heap[c]? := by
  unfold sortWorldK
  rw [Go.Sort.heap_grow_old _ _ (by simpa [Go.Sort.putRowK] using hs)]
  simp [Go.Sort.putRowK, Go.Sort.putRow, Go.Sort.mapBlock, Array.getElem?_modify, Ne.symm hc]
theorem srt_blk (m : Nat) (d : Array α) (os : Array Obj) {arr : Array Value} {T : Nat} {fr : Nat × Nat} (h : w.heap[b]? = some (.cells arr T fr)) : ∃ arr', (sortWorldK enc k w b o m d os).heap[b]? = some (.cells arr' T fr) ∧ arr'.size = arr.size := by
  have hb : b < w.heap.size := by
    rcases Nat.lt_or_ge b w.heap.size with hh | hh
    · exact hh
    · rw [Array.getElem?_eq_none (by omega)] at h; simp at h
  refine ⟨Go.Sort.putCells id o (Go.Sort.flatK enc k d) arr, ?_, by simp [Go.Sort.putCells]⟩
  unfold sortWorldK
  rw [Go.Sort.heap_grow_old _ _ (by simpa [Go.Sort.putRowK] using hb)]
  simp [Go.Sort.putRowK, Go.Sort.putRow, Go.Sort.mapBlock, Array.getElem?_modify, h, Go.Sort.onCells]
theorem srt_keeps (m : Nat) (d : Array α) (os : Array Obj) {fp0 : List Nat} (hb : b ∈ fp0) : Keeps w fp0 (sortWorldK enc k w b o m d os) := by
  refine ⟨rfl, rfl, rfl, ?_, ?_, fun c hc hn => srt_other m d os (fun e => hn (e ▸ hb)) hc⟩
  · show w.drawn ≤ w.drawn + m
    omega
  · simp [sortWorldK, Go.Sort.putRowK]
end
theorem permIn_all {α : Type} [Inhabited α] {d d' : Array α} (h : Go.Sort.PermIn 0 d.size d d') : d'.toList.Perm d.toList := by
  obtain ⟨h1, _, h3⟩ := h
  have e1 : d'.extract 0 d.size = d' := by rw [← h1]; exact Array.extract_size
  rwa [e1, Array.extract_size] at h3
theorem sortedIn_all {α : Type} [Inhabited α] {lt : α → α → Bool} {d d' : Array α} (hs : d'.size = d.size) (h : Go.Sort.SortedIn lt 0 d.size d') : d'.toList.Pairwise fun a b => lt b a = false := by
  rw [List.pairwise_iff_getElem]
  intro i j hi hj hij
  simp only [Array.length_toList] at hi hj
  have := h i j (Nat.zero_le _) hij (by omega)
  rwa [getElem!_pos d' i hi, getElem!_pos d' j hj] at this

theorem ACalls.mono {P : Program} {f : Nat} {args : List FV} {ros : List (Rn × D)} {pure : Bool} {Q Q' : List D → List RV → Prop} (h : ACalls P f args ros pure Q) (hq : ∀ outs res, Q outs res → Q' outs res) : ACalls P f args ros pure Q' :=
  ⟨h.1, fun w fp0 ok vs ρ φ hl hR => (h.2 w fp0 ok vs ρ φ hl hR).mono fun e w' ⟨v, outs, res, ok', φ', fr, he, hQ, hD⟩ => ⟨v, outs, res, ok', φ', fr, he, hq _ _ hQ, hD⟩⟩

/-- **The sort, over a comparison's contract.** -/
theorem sort_calls {P : Program} {sf k g : Nat} (hcl : Callable P sf) (hS : SfOk P sf k) {τ : Type} {f : τ → List D} (hk : ∀ t, (f t).length = k) (hk0 : 0 < k) (hns : ∀ t, noShL (f t)) (hso : ∀ ts, solidL (rows f ts)) (cf : τ → τ → Int)
    (hO : Go.Sort.SWO (ltOf cf)) (ts : List τ) (hlen : ts.length < 4611686018427387904)
    (hcmp : ∀ x ∈ ts, ∀ y ∈ ts, ACalls P g [.ag ((shareL (f x)).map .d), .ag ((shareL (f y)).map .d)] [] true (fun outs res => outs = [] ∧ res = [.one (D.int (cf x y))])) :
    ACalls P sf [.al (0, 0) [] 0 ts.length, .d (.fn g [])] [((0, 0), .ow k ts.length (rows f ts))] true (fun outs res => ∃ r : List τ, r.Perm ts ∧ (r.Pairwise fun a b => ¬ cf b a < 0) ∧ outs = [.ow k ts.length (rows f r)] ∧ res = []) := by
  refine ⟨hcl, fun w fp0 ok vs ρ φ hl hR => ?_⟩
  match vs, hl with
  | [u, fv], _ =>
  have h0 := hR.env 0
  have h1 := hR.env 1
  simp only [argEnv, List.getD_cons_zero, List.getD_cons_succ, FR, Sh] at h0 h1
  obtain ⟨k1, N, cs, hv, ho, hh, hN, hsub⟩ := h0
  simp only [hdr, Option.some.injEq] at hh
  subst hh
  obtain ⟨lb, rfl, hlb⟩ := h1
  simp only [ShV] at hlb
  have hlb2 : lb = #[] := by
    apply Array.ext'
    simpa using hlb
  subst hlb2
  have hown := hR.own (0, 0) (.ow k ts.length (rows f ts)) (by simp [ofR])
  obtain ⟨how, hnd, hbl⟩ := hown
  have hsub2 : ∃ a M c, ρ (0, 0) = .slice a M c ∧ u = .slice a ts.length c := by
    rcases hsub with ⟨_, a, M, c, e1, e2⟩ | ⟨h, _⟩
    · exact ⟨a, M, c, e1, e2⟩
    · omega
  obtain ⟨a, M, c, e1, rfl⟩ := hsub2
  simp only [Ow] at how
  have hns2 : ∀ r : List τ, noSh (.ow k ts.length (rows f r)) := fun r => by
    simp only [noSh]
    exact rows_noSh hns r
  rcases how with ⟨hn0, hcs, hfp, a', e2⟩ | ⟨b, o, c', arr, T, fp', e2, hfp, hheap, hcap, harr, hlc, hOL⟩
  · -- nothing to sort
    have hts : ts = [] := List.eq_nil_of_length_eq_zero hn0
    subst hts
    rw [e1] at e2
    refine Calls.mono (hS.1 a c (.func (.func g) #[] #[]) w) ?_
    rintro e w' ⟨rfl, rfl⟩
    refine ⟨_, [.ow k 0 (rows f [])], [], ok, fun _ => [], [], rfl, ⟨[], List.Perm.nil, List.Pairwise.nil, rfl, rfl⟩, ?_⟩
    refine done1 (hns2 []) ?_ List.nodup_nil (by simp) (Keeps.refl _ fp0) hR.okb
    simp only [Ow, rows]
    exact .inl ⟨trivial, trivial, trivial, a', by rw [e1]; exact e2⟩
  · obtain ⟨us, hul, hus, hov⟩ := OwL_read hOL
    obtain ⟨els, het, heu, hef, heo⟩ := rows_els hk ts us fp' hov
    have hnl : els.length = ts.length := by rw [← het, List.length_map]
    rw [e1] at e2
    have e3 := Value.slice.inj e2
    obtain ⟨rfl, rfl, rfl⟩ := e3
    have hbm := hbl b (by rw [hfp]; simp)
    have hb0 : b ∈ fp0 := by
      rcases hbm.2.1 with h | h
      · exact h
      · omega
    rcases Nat.eq_zero_or_pos ts.length with hz | hpos
    · have hts : ts = [] := List.eq_nil_of_length_eq_zero hz
      subst hts
      refine Calls.mono (hS.1 (some ⟨b, o, none⟩) c (.func (.func g) #[] #[]) w) ?_
      rintro e w' ⟨rfl, rfl⟩
      refine ⟨_, [.ow k 0 (rows f [])], [], ok, fun _ => φ (0, 0), [], rfl, ⟨[], List.Perm.nil, List.Pairwise.nil, rfl, rfl⟩, ?_⟩
      refine done1 (hns2 []) ?_ hnd hbl (Keeps.refl _ fp0) hR.okb
      simp only [Ow]
      exact .inr ⟨b, o, c, arr, T, fp', by rw [e1]; rfl, hfp, hheap, hcap, harr, hlc, hOL⟩
    · have hinh : Inhabited (Fin els.length) := ⟨⟨0, by omega⟩⟩
      let enc : Fin els.length → List Value := fun i => els[i].us
      have henc : ∀ i, (enc i).length = k := fun i => by
        have := OwVs_length (heo els[i] (List.getElem_mem i.2))
        show els[i].us.length = k
        rw [this, hk]
      let d : Array (Fin els.length) := Array.ofFn id
      have hds : d.size = ts.length := by simp [d, hnl]
      have hdl : d.toList.flatMap enc = us := by
        rw [heu]
        show (Array.ofFn id).toList.flatMap enc = _
        rw [Array.toList_ofFn]
        conv => rhs; rw [← List.ofFn_getElem (xs := els)]
        simp only [List.flatMap, List.map_ofFn]
        rfl
      have hco : ∀ i : Fin els.length, cf els[i].t els[i].t = cf els[i].t els[i].t := fun _ => rfl
      have hmem : ∀ i : Fin els.length, els[i].t ∈ ts := fun i => by
        have h9 : els[i].t ∈ els.map (·.t) := List.mem_map.2 ⟨_, List.getElem_mem i.2, rfl⟩
        rwa [het] at h9
      have hO2 : Go.Sort.SWO (ltOf fun i j : Fin els.length => cf els[i].t els[j].t) := ⟨fun x => hO.irrefl _, fun x y z => hO.trans _ _ _, fun x y z => hO.ntrans _ _ _⟩
      have hkk : us.length = d.size * k := by rw [hul, hlc, hds, Nat.mul_comm]
      have hH : Go.Sort.HoldsK enc k w b o d := fun j hj => by
        rw [Go.Sort.size_flatK] at hj
        refine ⟨?_, not_frozen hheap⟩
        have := flatK_get henc d j hj
        rw [hdl] at this
        exact hus j _ this
      have hfne : ∀ x ∈ fp', x ≠ b := fun x hx e => by
        subst e
        rw [hfp] at hnd
        exact (List.nodup_cons.1 hnd).1 hx
      have hfb : ∀ x ∈ fp', x < w.heap.size := fun x hx => (hbl x (by rw [hfp]; simp [hx])).2.2
      have hC : CmpLays P g #[] enc k (fun i j : Fin els.length => cf els[i].t els[j].t) b o d.size w := fun m os dk hdk x y => by
        have hw : ∀ i : Fin els.length, OwVs (sortWorldK enc k w b o m dk os) ok (f els[i].t) (enc i) els[i].fp := fun i => by
          have hsub : ∀ q ∈ els[i].fp, q ∈ fp' := fun q hq => by rw [hef]; exact List.mem_flatMap.2 ⟨_, List.getElem_mem i.2, hq⟩
          refine OwVs_world (fun q hq => srt_other m dk os ?_ (hR.okb q hq)) (heo els[i] (List.getElem_mem i.2)) fun q hq => srt_other m dk os (hfne q (hsub q hq)) (hfb q (hsub q hq))
          rintro rfl
          exact hbm.1 hq
        have hgs := size_sortWorldK_c enc k w b o m dk os
        have hfi : ∀ i : Fin els.length, ∀ q ∈ els[i].fp, q < (sortWorldK enc k w b o m dk os).heap.size := fun i q hq => Nat.lt_of_lt_of_le (hfb q (by rw [hef]; exact List.mem_flatMap.2 ⟨_, List.getElem_mem i.2, hq⟩)) hgs
        exact cmp_call (hcmp _ (hmem x) _ (hmem y)) (hw x) (hw y) (hfi x) (hfi y) fun q hq => Nat.lt_of_lt_of_le (hR.okb q hq) hgs
      obtain ⟨fn, cd, hf1, hf2, hf3⟩ := (hcmp _ (hmem ⟨0, by omega⟩) _ (hmem ⟨0, by omega⟩)).1
      have h1c : ∀ x, ∀ v ∈ enc x, v.oneCell' = true := fun x v hv => by
        refine OwVs_solid ?_ (heo els[x] (List.getElem_mem x.2)) v hv
        have := hso [els[x].t]
        simpa [rows] using this
      have hcall := hS.2 (Fin els.length) enc henc h1c (fun i j => cf els[i].t els[j].t) hO2 g b o c d w (enters_of hf1 hf3 hf2) hC hH hbm.2.2 (by omega)
      rw [hds] at hcall
      refine Calls.mono hcall ?_
      rintro e w' ⟨rfl, d', m, os, hp, hsd, rfl⟩
      have hpl := permIn_all (d := d) (by rw [hds]; exact hp)
      have hdd : d.toList = List.finRange els.length := by
        show (Array.ofFn id).toList = _
        rw [Array.toList_ofFn]
        rfl
      have hsz' : d'.size = ts.length := hp.1.trans hds
      let el2 : List (El τ) := d'.toList.map fun i => els[i]
      have hpe : el2.Perm els := by
        have h2 := hpl.map fun i : Fin els.length => els[i]
        refine h2.trans (List.Perm.of_eq ?_)
        show (Array.ofFn id).toList.map _ = els
        rw [Array.toList_ofFn, List.map_ofFn]
        exact List.ofFn_getElem
      refine ⟨_, [.ow k ts.length (rows f (el2.map (·.t)))], [], ok, fun _ => b :: el2.flatMap (·.fp), [], rfl, ⟨el2.map (·.t), by rw [← het]; exact hpe.map _, ?_, rfl, rfl⟩, ?_⟩
      · have := sortedIn_all hp.1 (by rw [hds]; exact hsd)
        rw [List.pairwise_map, List.pairwise_map]
        refine this.imp fun h => ?_
        simpa [ltOf] using h
      · have hpf : (el2.flatMap (·.fp)).Perm fp' := by rw [hef]; exact hpe.flatMap_right _
        obtain ⟨arr', hb', hsa⟩ := srt_blk (enc := enc) (k := k) (o := o) m d' os hheap
        have hgs := size_sortWorldK_c enc k w b o m d' os
        refine done1 (hns2 _) ?_ ?_ ?_ (srt_keeps m d' os hb0) hR.okb
        · simp only [Ow]
          refine .inr ⟨b, o, c, arr', T, el2.flatMap (·.fp), e1, rfl, hb', hcap, by rw [hsa]; exact harr, ?_, ?_⟩
          · rw [rows_length hk, List.length_map, List.length_map, Array.length_toList, hsz']
          · have hov2 : OwVs w ok (rows f (el2.map (·.t))) (el2.flatMap (·.us)) (el2.flatMap (·.fp)) := els_rows el2 fun x hx => heo x (hpe.subset hx)
            have hflat : el2.flatMap (·.us) = d'.toList.flatMap enc := by
              show (d'.toList.map _).flatMap _ = _
              rw [List.flatMap_map]
            refine OwL_lay (fun q hq => srt_other m d' os ?_ (hR.okb q hq)) hov2 (fun j v hj => ?_) fun q hq => srt_other m d' os (hfne q (hpf.subset hq)) (hfb q (hpf.subset hq))
            · rintro rfl
              exact hbm.1 hq
            · have hHs := holdsK_sortWorldK_c enc k w b o d d' m os hH hbm.2.2 hp.1
              have hj2 : j < d'.size * k := by
                rcases Nat.lt_or_ge j (d'.toList.flatMap enc).length with h | h
                · rwa [flat_len henc, Array.length_toList] at h
                · rw [hflat, List.getElem?_eq_none h] at hj; simp at hj
              rw [hflat, flatK_get henc d' j hj2] at hj
              simp only [Option.some.injEq] at hj
              rw [← hj]
              exact (hHs j (by rw [Go.Sort.size_flatK]; exact hj2)).1
        · refine List.nodup_cons.2 ⟨fun h => hfne b (hpf.subset h) rfl, hpf.nodup_iff.2 ?_⟩
          rw [hfp] at hnd
          exact (List.nodup_cons.1 hnd).2
        · intro q hq
          rcases List.mem_cons.1 hq with rfl | hq
          · exact ⟨hbm.1, .inl hb0, Nat.lt_of_lt_of_le hbm.2.2 hgs⟩
          · have := hbl q (by rw [hfp]; simp [hpf.subset hq])
            exact ⟨this.1, this.2.1, Nat.lt_of_lt_of_le this.2.2 hgs⟩
end Go.Proofs.Ytocknokodgnlbaa.Ab
namespace Go.Proofs.Ytocknokodgnlbaa.Ab
open Go
set_option linter.unusedSimpArgs false
set_option linter.unusedVariables false
abbrev QK := List Int × Int
def kq (k : QK) : List Int := pad k.1 ++ [k.2]
theorem kq_inj {a b : QK} {n : Nat} (ha : a.1.length = n) (hb : b.1.length = n) (h : kq a = kq b) : a = b := by
  unfold kq at h
  obtain ⟨h1, h2⟩ := List.append_inj' h rfl
  have := pad_inj (ha.trans hb.symm) h1
  simp only [List.cons.injEq, and_true] at h2
  exact Prod.ext this h2
theorem kq_length {k : QK} (h : k.1.length ≤ 8) : (kq k).length = 9 := by
  unfold kq
  rw [List.length_append, pad_length h]
  rfl
def uq (n : Nat) (x : List Int) : QK := (x.take n, x.getD 8 0)
theorem uq_kq {k : QK} {n : Nat} (h : k.1.length = n) (h8 : n ≤ 8) : uq n (kq k) = k := by
  have hp := pad_length (e := k.1) (by omega)
  unfold uq kq
  rw [List.take_append_of_le_length (by omega), ← h, pad_take, List.getD_eq_getElem?_getD, List.getElem?_append_right (by omega), hp]
  rfl
/-- The map holds what belongs to each key of the sum. -/
structure MapQ (n : Nat) (es : List (List Int × Int)) (l : List (QK × Int)) : Prop where
  nod : (es.map (·.1)).Nodup
  nz : ∀ x ∈ es, x.2 ≠ 0 ∧ ∃ e : QK, e.1.length = n ∧ x.1 = kq e
  val : ∀ e : QK, e.1.length = n → (mget (kq e) es).getD 0 = co e l
theorem MapQ.nil (n : Nat) : MapQ n [] [] := ⟨by simp, by simp, fun e _ => rfl⟩
theorem MapQ.add {n : Nat} {es : List (List Int × Int)} {l : List (QK × Int)} (h : MapQ n es l) {e : QK} (he : e.1.length = n) (c : Int) : MapQ n (madd es (kq e) c) ((e, c) :: l) := by
  have hv := h.val e he
  unfold madd
  split
  · rename_i hz
    refine ⟨mdel_nodup h.nod, fun x hx => h.nz x (mdel_mem hx), fun q hq => ?_⟩
    rw [mget_mdel _ h.nod]
    by_cases e1 : e = q
    · subst e1
      rw [if_pos rfl]
      simp only [co, if_true, Option.getD_none]
      omega
    · rw [if_neg (fun e2 => e1 (kq_inj he hq e2)), h.val q hq]
      simp [co, e1]
  · rename_i hz
    refine ⟨mset_nodup h.nod, fun x hx => ?_, fun q hq => ?_⟩
    · rcases mset_mem hx with rfl | hx
      · exact ⟨hz, e, he, rfl⟩
      · exact h.nz x hx
    · rw [mget_mset]
      by_cases e1 : e = q
      · subst e1
        rw [if_pos rfl]
        simp only [co, if_true, Option.getD_some]
        omega
      · rw [if_neg (fun e2 => e1 (kq_inj he hq e2)), h.val q hq]
        simp [co, e1]
theorem MapQ.len9 {n : Nat} {es : List (List Int × Int)} {l : List (QK × Int)} (h : MapQ n es l) (hn : n ≤ 8) : mapLen 9 es := fun x hx => by
  obtain ⟨_, e, he, e2⟩ := h.nz x hx
  rw [e2]
  exact kq_length (by omega)
/-- What a term of the map comes to. -/
def unpadQ (n : Nat) (x : List Int × Int) : QK × Int := (uq n x.1, x.2)
theorem unpadQ_co {n : Nat} {es : List (List Int × Int)} {l : List (QK × Int)} (h : MapQ n es l) (h8 : n ≤ 8) (hl : ∀ x ∈ l, x.1.1.length = n) : ∀ q, co q (es.map (unpadQ n)) = co q l := by
  intro q
  by_cases hq : q.1.length = n
  · rw [← h.val q hq]
    have : ∀ (es : List (List Int × Int)), (es.map (·.1)).Nodup → (∀ x ∈ es, ∃ e : QK, e.1.length = n ∧ x.1 = kq e) → co q (es.map (unpadQ n)) = (mget (kq q) es).getD 0 := by
      intro es
      induction es with
      | nil => intro _ _; rfl
      | cons x es ih =>
        intro hn hp
        simp only [List.map_cons, List.nodup_cons] at hn
        obtain ⟨e, he, e2⟩ := hp x (by simp)
        have ht : (unpadQ n x).1 = e := by
          simp only [unpadQ]
          rw [e2, uq_kq he h8]
        simp only [List.map_cons, co, mget]
        rw [ih hn.2 fun y hy => hp y (by simp [hy]), ht]
        by_cases e3 : e = q
        · subst e3
          rw [if_pos rfl, if_pos e2, mget_none fun y hy e4 => hn.1 (by rw [e2, ← e4]; exact List.mem_map.2 ⟨y, hy, rfl⟩)]
          simp [unpadQ]
        · rw [if_neg e3, if_neg (fun e4 => e3 (kq_inj he hq (e2.symm.trans e4)))]
          simp
    exact this es h.nod fun x hx => (h.nz x hx).2
  · rw [co_none q l fun x hx e => hq (e ▸ hl x hx), co_none q _ fun x hx e => hq ?_]
    obtain ⟨y, hy, rfl⟩ := List.mem_map.1 hx
    obtain ⟨_, e', he', e2⟩ := h.nz y hy
    rw [← e]
    simp only [unpadQ]
    rw [e2, uq_kq he' h8]
    exact he'
/-- **Terms of the map in descending order are the sum's normal form.** -/
theorem unpadQ_nf {n : Nat} {es : List (List Int × Int)} {l t : List (QK × Int)} (h : MapQ n es l) (h8 : n ≤ 8) (hl : ∀ x ∈ l, x.1.1.length = n) (hp : t.Perm (es.map (unpadQ n))) (hd : Desc qlt t) : t = nf qlt l := by
  refine nf_unique qOrd hd (fun x hx => ?_) fun k => by rw [co_perm k hp, unpadQ_co h h8 hl]
  obtain ⟨y, hy, rfl⟩ := List.mem_map.1 (hp.mem_iff.1 hx)
  exact (h.nz y hy).1
theorem unpadQ_inj {n : Nat} {es : List (List Int × Int)} {l : List (QK × Int)} (h : MapQ n es l) (h8 : n ≤ 8) : ((es.map (unpadQ n)).map (·.1)).Nodup := by
  have : ∀ es : List (List Int × Int), (es.map (·.1)).Nodup → (∀ x ∈ es, ∃ e : QK, e.1.length = n ∧ x.1 = kq e) → ((es.map (unpadQ n)).map (·.1)).Nodup := by
    intro es
    induction es with
    | nil => intro _ _; simp
    | cons x es ih =>
      intro hn hp
      simp only [List.map_cons, List.nodup_cons] at hn ⊢
      refine ⟨fun hm => ?_, ih hn.2 fun y hy => hp y (by simp [hy])⟩
      obtain ⟨y, hy, e⟩ := List.mem_map.1 hm
      obtain ⟨z, hz, rfl⟩ := List.mem_map.1 hy
      obtain ⟨a, ha, e1⟩ := hp x (by simp)
      obtain ⟨b, hb, e2⟩ := hp z (by simp [hz])
      refine hn.1 (List.mem_map.2 ⟨z, hz, ?_⟩)
      simp only [unpadQ] at e
      rw [e1, e2] at e ⊢
      rw [uq_kq ha h8, uq_kq hb h8] at e
      rw [e]
  exact this es h.nod fun x hx => (h.nz x hx).2
theorem unpadQ_nf2 {n : Nat} {es : List (List Int × Int)} {l : List (QK × Int)} (h : MapQ n es l) (h8 : n ≤ 8) (hl : ∀ x ∈ l, x.1.1.length = n) : nf qlt (es.map (unpadQ n)) = nf qlt l :=
  nf_unique qOrd (nf_desc qOrd _) (nf_nz _) fun k => by rw [nf_co, unpadQ_co h h8 hl]
theorem unpadQ_len {n : Nat} {es : List (List Int × Int)} {l : List (QK × Int)} (h : MapQ n es l) (h8 : n ≤ 8) (hl : ∀ x ∈ l, x.1.1.length = n) : (nf qlt l).length = es.length := by
  rw [← unpadQ_nf2 h h8 hl, nf_len_eq _ (unpadQ_inj h h8), List.length_map]
  intro x hx
  obtain ⟨y, hy, rfl⟩ := List.mem_map.1 hx
  exact (h.nz y hy).1
end Go.Proofs.Ytocknokodgnlbaa.Ab
namespace Go.Proofs.Ytocknokodgnlbaa.Ab
open Go
set_option linter.unusedSimpArgs false
set_option linter.unusedVariables false
set_option maxRecDepth 10000
set_option maxHeartbeats 2000000
attribute [local simp] mapKV flatInt tileB
theorem nine {l : List Int} (h : l.length = 9) : ∃ a b c d e f g k m, l = [a, b, c, d, e, f, g, k, m] := by
  match l, h with
  | [a, b, c, d, e, f, g, k, m], _ => exact ⟨a, b, c, d, e, f, g, k, m, rfl⟩
def SortOkQ : Prop := ∀ (ts : List Qtm), (∀ t ∈ ts, t.e.length < 4611686018427387904) → (ts.map qk).Nodup → ts.length < 4611686018427387904 →
  ACalls Try.prog F.slices_SortFunc_impl_QTerm_impl_QTerm [.al (0, 0) [] 0 ts.length, .d (.fn F.impl_qbuilding_done_1 [])] [((0, 0), .ow 3 ts.length (rows qtO ts))] true (fun outs res => ∃ r : List Qtm, r.Perm ts ∧ DescQ r ∧ outs = [.ow 3 ts.length (rows qtO r)] ∧ res = [])
theorem enQ_many {n : Nat} {es : List (List Int × Int)} {l : List (QK × Int)} (h : MapQ n es l) (h8 : n ≤ 8) (hl : ∀ x ∈ l, x.1.1.length = n) (hm : 600 < es.length) : enQ n ((nf qlt l).map qt) = (zeroQ, false) := by
  unfold enQ
  rw [if_neg]
  intro hr
  have := hr.2.1
  simp only [List.length_map] at this
  rw [unpadQ_len h h8 hl] at this
  omega
theorem sh9 (n : Nat) (k0 k1 k2 k3 k4 k5 k6 k7 k8 : Int) : shareL (List.take n [D.v (.int .i64 k0), D.v (.int .i64 k1), D.v (.int .i64 k2), D.v (.int .i64 k3), D.v (.int .i64 k4), D.v (.int .i64 k5), D.v (.int .i64 k6), D.v (.int .i64 k7), D.v (.int .i64 k8)]) = ints (List.take n [k0, k1, k2, k3, k4, k5, k6, k7, k8]) := by
  rw [show ([D.v (.int .i64 k0), D.v (.int .i64 k1), D.v (.int .i64 k2), D.v (.int .i64 k3), D.v (.int .i64 k4), D.v (.int .i64 k5), D.v (.int .i64 k6), D.v (.int .i64 k7), D.v (.int .i64 k8)] : List D) = ints [k0, k1, k2, k3, k4, k5, k6, k7, k8] from rfl, ints_take, shareL_ints]
theorem impl_newQBuilding_calls (v : Int) : ACalls Try.prog F.impl_newQBuilding [.int v] [] true (fun outs res => outs = [] ∧ res = [.one (.bx [D.int v, .mp []])]) := by
  refine ACalls.of_body (C := C.impl_newQBuilding) (n := Try.f79.ntmps) tabT folT Try.func79 rfl (by kernel_rfl) rfl (Nat.le_of_ble_eq_true rfl) (by decide) (by kernel_rfl) (by kernel_rfl) rfl (by simp) (by simp) ?_
  simp only [Try.f79]
  refine wseq ?_
  refine wreg fun K hK => ?_
  simp [C.impl_newQBuilding]
  refine hK _ ?_; clear hK K
  show AWp _ _ _ _ _
  refine wseq ?_
  refine wreg fun K hK => ?_
  simp [C.impl_newQBuilding]
  refine hK _ ?_; clear hK K
  show AWp _ _ _ _ _
  refine wret ?_
  simp [C.impl_newQBuilding]

theorem impl_qbuilding_add_calls (v c : Int) (es : List (List Int × Int)) (k0 k1 k2 k3 k4 k5 k6 k7 k8 : Int) (hes : mapLen 9 es) (hw : -9223372036854775808 ≤ c + (mget [k0, k1, k2, k3, k4, k5, k6, k7, k8] es).getD 0 ∧ c + (mget [k0, k1, k2, k3, k4, k5, k6, k7, k8] es).getD 0 < 9223372036854775808) : ACalls Try.prog F.impl_qbuilding_add [.pt (0, 0) [] 0, .ag [.int k0, .int k1, .int k2, .int k3, .int k4, .int k5, .int k6, .int k7, .int k8], .int c] [((0, 0), .bx [D.int v, .mp es])] true (fun outs res => outs = [.bx [D.int v, .mp (madd es [k0, k1, k2, k3, k4, k5, k6, k7, k8] c)]] ∧ res = []) := by
  refine ACalls.of_body (C := C.impl_qbuilding_add) (n := Try.f80.ntmps) tabT folT Try.func80 rfl (by kernel_rfl) rfl (Nat.le_of_ble_eq_true rfl) (by decide) (by kernel_rfl) (by kernel_rfl) rfl (by simp) (by simp) ?_
  simp only [Try.f80]
  refine wseq ?_
  refine wreg fun K hK => ?_
  simp [C.impl_qbuilding_add]
  refine hK _ ?_; clear hK K
  show AWp _ _ _ _ _
  refine wseq ?_
  refine wdraw (.take 0 (.take 1 (.take 2 (.take 3 (.take 4 (.take 5 (.take 6 (.take 7 (.take 8 (.done)))))))))) ⟨by kernel_rfl, by kernel_rfl⟩ fun K hK => ?_
  simp [C.impl_qbuilding_add, hes]
  rw [wrapOk (x := c + (mget [k0, k1, k2, k3, k4, k5, k6, k7, k8] es).getD 0) hw.1 hw.2]
  refine hK _ ?_; clear hK K
  show AWp _ _ _ _ _
  refine wseq ?_
  refine wreg fun K hK => ?_
  simp [C.impl_qbuilding_add]
  refine hK _ ?_; clear hK K
  show AWp _ _ _ _ _
  refine wcond _ rfl (fun hc1 => ?_) (fun hc1 => ?_)
  · have hz : c + (mget [k0, k1, k2, k3, k4, k5, k6, k7, k8] es).getD 0 = 0 := by simpa using hc1
    refine wdraw (.take 0 (.take 1 (.take 2 (.take 3 (.take 4 (.all [(5, .done)])))))) ⟨by kernel_rfl, by kernel_rfl⟩ fun K hK => ?_
    simp [C.impl_qbuilding_add, hes]
    refine hK _ ?_; clear hK K
    simp [C.impl_qbuilding_add, madd, hz]
  · have hz : ¬ c + (mget [k0, k1, k2, k3, k4, k5, k6, k7, k8] es).getD 0 = 0 := by simpa using hc1
    refine wdraw (.take 0 (.take 1 (.take 2 (.take 3 (.take 4 (.take 5 (.all [(6, .done)]))))))) ⟨by kernel_rfl, by kernel_rfl⟩ fun K hK => ?_
    simp [C.impl_qbuilding_add, hes]
    refine hK _ ?_; clear hK K
    simp [C.impl_qbuilding_add, madd, hz]

theorem impl_qbuilding_done_1_calls (x y : Qtm) (hx : x.e.length < 4611686018427387904) (hy : y.e.length < 4611686018427387904) : ACalls Try.prog F.impl_qbuilding_done_1 [aQT x, aQT y] [] true (fun outs res => outs = [] ∧ res = [.one (D.int (cmpQ x.e x.h y.e y.h))]) := by
  refine ACalls.of_body (C := C.impl_qbuilding_done_1) (n := Try.f134.ntmps) tabT folT Try.func134 rfl (by kernel_rfl) rfl (Nat.le_of_ble_eq_true rfl) (by decide) (by kernel_rfl) (by kernel_rfl) rfl (by simp) (by simp) ?_
  simp only [Try.f134]
  refine wseq ?_
  refine wreg fun K hK => ?_
  simp [C.impl_qbuilding_done_1]
  refine hK _ ?_; clear hK K
  show AWp _ _ _ _ _
  refine wseq ?_
  refine wregI ([0, 1, 2, 3, 4, 5, 6, 7, 8] ++ ([9])) rfl fun K hK => ?_
  refine opsI_seg fun L hL => ?_
  simp [C.impl_qbuilding_done_1]
  refine wcall1 (impl_descending_calls x.e x.h y.e y.h hy) (by simp) (by simp) ?_
  simp [C.impl_qbuilding_done_1]
  refine hL _ ?_; clear hL L
  refine opsI_end fun L hL => ?_
  simp [C.impl_qbuilding_done_1]
  refine hL _ ?_; clear hL L
  simp [C.impl_qbuilding_done_1]
  refine hK _ ?_; clear hK K
  show AWp _ _ _ _ _
  refine wret ?_
  simp [C.impl_qbuilding_done_1]

theorem impl_qbuilding_done_calls (hSort : SortOkQ) (n : Nat) (es : List (List Int × Int)) (l : List (QK × Int)) (hM : MapQ n es l) (hl : ∀ x ∈ l, x.1.1.length = n) (h1 : 1 ≤ n) (h8 : n ≤ 8) (hL : l.length ≤ 1000000) : ACalls Try.prog F.impl_qbuilding_done [.pt (0, 0) [] 0] [((0, 0), .bx [D.int n, .mp es])] true (fun outs res => outs = [.bx [D.int n, .mp es]] ∧ WkRs res [.ag (qO (enQ n ((nf qlt l).map qt)).1), .one (D.bool (enQ n ((nf qlt l).map qt)).2)]) := by
  refine ACalls.of_body (C := C.impl_qbuilding_done) (n := Try.f82.ntmps) tabT folT Try.func82 rfl (by kernel_rfl) rfl (Nat.le_of_ble_eq_true rfl) (by decide) (by kernel_rfl) (by kernel_rfl) rfl (by simp) (by simp) ?_
  simp only [Try.f82]
  refine wseq ?_
  refine wreg fun K hK => ?_
  simp [C.impl_qbuilding_done]
  refine hK _ ?_; clear hK K
  show AWp _ _ _ _ _
  refine wseq ?_
  refine wseq ?_
  refine wreg fun K hK => ?_
  simp [C.impl_qbuilding_done]
  refine hK _ ?_; clear hK K
  show AWp _ _ _ _ _
  refine wcond _ rfl (fun hc1 => ?_) (fun hc1 => ?_)
  · have hm := enQ_many hM h8 hl (by have := d_t hc1; omega)
    refine wseq ?_
    refine wreg fun K hK => ?_
    simp [C.impl_qbuilding_done]
    refine hK _ ?_; clear hK K
    show AWp _ _ _ _ _
    refine wret ?_
    simp [C.impl_qbuilding_done, hm, qO, zeroQ, rows]
  · have h600 : es.length ≤ 600 := by have := d_f hc1; omega
    refine wskip ?_
    show AWp _ _ _ _ _
    refine wseq ?_
    refine wreg fun K hK => ?_
    simp [C.impl_qbuilding_done]
    refine hK _ ?_; clear hK K
    show AWp _ _ _ _ _
    refine wseq ?_
    refine wseq ?_
    refine wreg fun K hK => ?_
    simp [C.impl_qbuilding_done]
    refine hK _ ?_; clear hK K
    show AWp _ _ _ _ _
    refine wblock ?_
    refine wloopW (fun x : List Qtm × List (List Int × Int) × Option (List Int × Int) => ⟨ofL [(0, .pt (0, 0) [] 0), (2, .pt (2, 0) [] 0), (4, .pt (4, 0) [] 0), (23, .it (23, 0) (0, 0) [1] x.2.1 x.2.2), (1000, .pt (0, 0) [] 0)], ofRO [((0, 0), some (.bx [D.int n, .mp es])), ((2, 0), some (.bx [D.int 0, .v (.slice none 0 0)])), ((4, 0), some (.bx [D.int n, .ow 3 x.1.length (rows qtO x.1)])), ((23, 0), some .itr)]⟩) (fun x => (x.1.map qp ++ x.2.1.map (unpadQ n)).Perm (es.map (unpadQ n)) ∧ ∀ y ∈ x.2.1, y ∈ es) (fun x => x.2.1.length) ([], es, none) [.cell (4, 0) [] 1 3] (by simp [C.impl_qbuilding_done, rows]; funext q; by_cases e4 : q = (4, 0); (subst e4; rfl); by_cases e9 : q = (9999, 0); (subst e9; rfl); simp [ofRO, e4, e9, Ne.symm e4]) ⟨by simp, fun y hy => hy⟩ ?_
    intro x1 hx1 R1 hR1
    obtain ⟨q, rest, cur⟩ := x1
    obtain ⟨hq, hin⟩ := hx1
    dsimp only at hq hin ⊢
    refine wseq ?_
    refine wreg fun K hK => ?_
    simp [C.impl_qbuilding_done]
    refine ⟨fun hrest => ?_, fun i xk xc hx => ?_⟩
    · refine hK _ ?_; clear hK K
      show AWp _ _ _ _ _
      refine wseq ?_
      refine wcond _ rfl (fun hc2 => ?_) (fun hc2 => ?_)
      · simp at hc2
      · subst hrest
        have hq2 : (q.map qp).Perm (es.map (unpadQ n)) := by simpa using hq
        have hqe : ∀ t ∈ q, t.e.length = n := fun t ht => by
          have h3 := hq2.subset (List.mem_map.2 ⟨t, ht, rfl⟩)
          obtain ⟨y, hy, e⟩ := List.mem_map.1 h3
          have e2 : t.e = y.1.take n := by
            have := congrArg (fun z : QK × Int => z.1.1) e
            simpa [qp, qk, unpadQ, uq] using this.symm
          rw [e2, List.length_take, hM.len9 h8 y hy]
          omega
        have hqn : (q.map qk).Nodup := by
          have h3 := (hq2.map (·.1)).nodup_iff.2 (unpadQ_inj hM h8)
          rw [List.map_map] at h3
          exact h3
        have hql : q.length = es.length := by simpa using hq2.length_eq
        refine wexit ?_
        show AWp _ _ _ _ _
        refine wseq ?_
        refine wregI ([0, 1, 2] ++ ([])) rfl fun K hK => ?_
        refine opsI_seg fun L hL => ?_
        simp [C.impl_qbuilding_done]
        refine wcall (hSort q (fun t ht => by have := hqe t ht; omega) hqn (by omega)) (by simp) (by simp) (by simp) ?_
        rintro outs res ⟨r, hr, hd, rfl, rfl⟩
        simp [C.impl_qbuilding_done]
        refine hL _ ?_; clear hL L
        refine opsI_end fun L hL => ?_
        simp only [AOpsI]
        refine hL _ ?_; clear hL L
        simp [C.impl_qbuilding_done]
        refine hK _ ?_; clear hK K
        show AWp _ _ _ _ _
        refine wseq ?_
        refine wseq ?_
        have hrl : r.length = q.length := hr.length_eq
        have hrn : r.map qp = nf qlt l := unpadQ_nf hM h8 hl ((hr.map qp).trans hq2) (by
          unfold Desc
          rw [List.pairwise_map]
          exact hd)
        have hrt : (nf qlt l).map qt = r := by
          rw [← hrn, map_qt]
        refine wregI ([0, 1] ++ ([2])) rfl fun K hK => ?_
        refine opsI_seg fun L hL => ?_
        simp [C.impl_qbuilding_done, hrl]
        refine wcall1 (impl_QSumOk_calls ⟨n, r⟩ (by dsimp only; omega) (fun t ht => by have := hqe t (hr.subset ht); omega)) (by simp [hrl]) (by simp) ?_
        simp [C.impl_qbuilding_done, hrl]
        refine hL _ ?_; clear hL L
        refine opsI_end fun L hL => ?_
        simp [C.impl_qbuilding_done, hrl]
        refine hL _ ?_; clear hL L
        simp [C.impl_qbuilding_done, hrl]
        refine hK _ ?_; clear hK K
        show AWp _ _ _ _ _
        refine wcond _ rfl (fun hc3 => ?_) (fun hc3 => ?_)
        · have hR : ¬ QRight ⟨n, r⟩ := by simpa using hc3
          have hm : enQ n ((nf qlt l).map qt) = (zeroQ, false) := by rw [hrt]; exact if_neg hR
          refine wseq ?_
          refine wreg fun K hK => ?_
          simp [C.impl_qbuilding_done]
          refine hK _ ?_; clear hK K
          show AWp _ _ _ _ _
          refine wret ?_
          simp [C.impl_qbuilding_done, hm, qO, zeroQ, rows]
        · have hR : QRight ⟨n, r⟩ := by simpa using hc3
          have hm : enQ n ((nf qlt l).map qt) = (⟨n, r⟩, true) := by rw [hrt]; exact if_pos hR
          refine wskip ?_
          show AWp _ _ _ _ _
          refine wseq ?_
          refine wreg fun K hK => ?_
          simp [C.impl_qbuilding_done]
          refine hK _ ?_; clear hK K
          show AWp _ _ _ _ _
          refine wret ?_
          simp [C.impl_qbuilding_done, hm, qO, hrl]
    · refine hK _ ?_; clear hK K
      show AWp _ _ _ _ _
      refine wseq ?_
      refine wcond _ rfl (fun hc4 => ?_) (fun hc4 => ?_)
      · have hxm : (xk, xc) ∈ rest := List.mem_of_getElem? hx
        have hxl := hM.len9 h8 _ (hin _ hxm)
        dsimp only at hxl
        obtain ⟨k0, k1, k2, k3, k4, k5, k6, k7, k8, rfl⟩ := nine hxl
        have hql : q.length + rest.length = es.length := by simpa using hq.length_eq
        have hil : i < rest.length := by
          rcases Nat.lt_or_ge i rest.length with h | h
          · exact h
          · rw [List.getElem?_eq_none h] at hx; simp at hx
        refine wskip ?_
        show AWp _ _ _ _ _
        refine wblock ?_
        refine wseq ?_
        refine wreg fun K hK => ?_
        simp [C.impl_qbuilding_done]
        refine hK _ ?_; clear hK K
        show AWp _ _ _ _ _
        refine wdrawI [(true, 0), (true, 1), (true, 2), (true, 3), (true, 4), (true, 5), (true, 6), (true, 7), (true, 9), (true, 10), (true, 11), (false, 8), (true, 12), (false, 13), (false, 14), (true, 15), (false, 16)] ⟨by kernel_rfl, by kernel_rfl⟩ ([0, 1, 2, 3, 4, 5, 6, 7, 9, 10, 11, 8] ++ ([12, 13, 14, 15, 16])) rfl fun K hK => ?_
        refine opsI_seg fun L hL => ?_
        simp [C.impl_qbuilding_done, qtO_snoc, show ((n : Int) ≤ 8) by omega, h8, Nat.min_eq_left h8, Nat.min_eq_left (show n ≤ 9 by omega), sh9, show (q.length + 1) * 40 ≤ 140737488355328 by omega]
        refine wcall1 (clone_calls ([k0, k1, k2, k3, k4, k5, k6, k7, k8].take n) (by simp; omega)) (by simp [qtO_snoc, show ((n : Int) ≤ 8) by omega, h8, Nat.min_eq_left h8, Nat.min_eq_left (show n ≤ 9 by omega), sh9, show (q.length + 1) * 40 ≤ 140737488355328 by omega]) (by simp) ?_
        simp [C.impl_qbuilding_done, qtO_snoc, show ((n : Int) ≤ 8) by omega, h8, Nat.min_eq_left h8, Nat.min_eq_left (show n ≤ 9 by omega), sh9, show (q.length + 1) * 40 ≤ 140737488355328 by omega]
        refine hL _ ?_; clear hL L
        refine opsI_end fun L hL => ?_
        simp [C.impl_qbuilding_done, qtO_snoc, show ((n : Int) ≤ 8) by omega, h8, Nat.min_eq_left h8, Nat.min_eq_left (show n ≤ 9 by omega), sh9, show (q.length + 1) * 40 ≤ 140737488355328 by omega]
        refine hL _ ?_; clear hL L
        simp [C.impl_qbuilding_done, qtO_snoc, show ((n : Int) ≤ 8) by omega, h8, Nat.min_eq_left h8, Nat.min_eq_left (show n ≤ 9 by omega), sh9, show (q.length + 1) * 40 ≤ 140737488355328 by omega]
        refine hK _ ?_; clear hK K
        simp [C.impl_qbuilding_done]
        have htl : ([k0, k1, k2, k3, k4, k5, k6, k7, k8].take n).length = n := by simp; omega
        have hrow : rows qtO q ++ [D.ow 1 n (ints (List.take n [k0, k1, k2, k3, k4, k5, k6, k7, k8])), D.v (.int .i64 k8), D.v (.int .i64 xc)] = rows qtO (q ++ [⟨List.take n [k0, k1, k2, k3, k4, k5, k6, k7, k8], k8, xc⟩]) := by
          rw [← qtO_snoc]
          simp only [htl]
        refine cast (congrArg R1 ?_) (hR1 (q ++ [⟨List.take n [k0, k1, k2, k3, k4, k5, k6, k7, k8], k8, xc⟩], rest.eraseIdx i, some ([k0, k1, k2, k3, k4, k5, k6, k7, k8], xc)) ⟨?_, ?_⟩ ?_)
        · simp [hrow]
        · dsimp only
          have hget : rest[i] = ([k0, k1, k2, k3, k4, k5, k6, k7, k8], xc) := by
            rw [List.getElem?_eq_getElem hil] at hx
            injection hx
          have hper := erase_perm rest i hil
          rw [hget] at hper
          refine List.Perm.trans ?_ hq
          rw [List.map_append, List.append_assoc]
          exact List.Perm.append_left _ (hper.map (unpadQ n))
        · exact fun y hy => hin y (List.mem_of_mem_eraseIdx hy)
        · dsimp only
          rw [List.length_eraseIdx_of_lt hil]
          omega
      · simp at hc4

end Go.Proofs.Ytocknokodgnlbaa.Ab
namespace Go.Proofs.Ytocknokodgnlbaa.Ab
open Go
set_option linter.unusedSimpArgs false
set_option linter.unusedVariables false
theorem sfQ : SfOk Try.prog F.slices_SortFunc_impl_QTerm_impl_QTerm 3 := by
  refine ⟨fun p cap fv w => ?_, fun α _ enc hk h1 cf hO g blk off cap d w eg hcmp hH hblk hsz => ?_⟩
  · have h := AnyF.slices_SortFunc_none sortQTerm p cap fv w
    rw [sortQTerm_f6] at h
    exact h
  · have h := AnyQ.slices_SortFunc sortQTerm 3 sortQTerm_agg sortQTerm_size enc hk h1 cf hO g #[] blk off cap d w eg hcmp hH hblk hsz
    rw [sortQTerm_f6] at h
    exact h
theorem qlt_ntrans (a b c : QK) (h1 : qlt a b = false) (h2 : qlt b c = false) : qlt a c = false := by
  cases h : qlt a c with
  | false => rfl
  | true =>
    exfalso
    rcases qOrd.tot a b with h3 | h3 | h3
    · rw [h1] at h3; simp at h3
    · subst h3
      rw [h2] at h; simp at h
    · have := qOrd.tr b a c h3 h
      rw [h2] at this; simp at this
theorem cmpQ_neg (a : List Int) (ah : Int) (b : List Int) (bh : Int) : decide (cmpQ a ah b bh < 0) = qlt (b, bh) (a, ah) := by
  have h := cmpQ_pos a ah b bh
  by_cases q : cmpQ a ah b bh < 0
  · have : ¬ 0 ≤ cmpQ a ah b bh := by omega
    rw [decide_eq_false this] at h
    rw [decide_eq_true q]
    simpa using h
  · have : 0 ≤ cmpQ a ah b bh := by omega
    rw [decide_eq_true this] at h
    rw [decide_eq_false q]
    simpa using h
theorem swoQ : Go.Sort.SWO (ltOf fun x y : Qtm => cmpQ x.e x.h y.e y.h) where
  irrefl x := by unfold ltOf; rw [cmpQ_neg]; exact qOrd.irr _
  trans x y z h1 h2 := by
    unfold ltOf at *
    rw [cmpQ_neg] at *
    exact qOrd.tr _ _ _ h2 h1
  ntrans x y z h1 h2 := by
    unfold ltOf at *
    rw [cmpQ_neg] at *
    exact qlt_ntrans _ _ _ h2 h1
theorem sortOkQ : SortOkQ := by
  intro ts hts hnd hlen
  have h := sort_calls (P := Try.prog) (g := F.impl_qbuilding_done_1) ⟨Try.f133, _, Try.func133, rfl, by kernel_rfl⟩ sfQ qtO_three (by omega) (fun t => by simp [qtO, noShL, noSh]) (fun l => by
    induction l with
    | nil => trivial
    | cons x l ih =>
      simp only [rows, qtO, List.cons_append, List.nil_append, solidL]
      exact ⟨rfl, rfl, rfl, ih⟩) (fun x y : Qtm => cmpQ x.e x.h y.e y.h) swoQ ts hlen (fun x hx y hy => by
    have := impl_qbuilding_done_1_calls x y (hts x hx) (hts y hy)
    simpa [qtO, shareL, share, shareL_ints] using this)
  refine ACalls.mono h ?_
  rintro outs res ⟨r, h1, h2, h3, h4⟩
  refine ⟨r, h1, ?_, h3, h4⟩
  have hnr : (r.map qk).Nodup := (h1.map qk).nodup_iff.2 hnd
  unfold DescQ
  rw [List.Nodup, List.pairwise_map] at hnr
  refine (h2.and hnr).imp ?_
  rintro a b ⟨h5, h6⟩
  have h7 : qlt (qk a) (qk b) = false := by
    have := cmpQ_neg b.e b.h a.e a.h
    show qlt (a.e, a.h) (b.e, b.h) = false
    rw [← this]
    simpa using h5
  rcases qOrd.tot (qk a) (qk b) with h8 | h8 | h8
  · rw [h7] at h8; simp at h8
  · exact absurd h8 h6
  · exact h8
def DoneOkQ : Prop := ∀ (n : Nat) (es : List (List Int × Int)) (l : List (QK × Int)), MapQ n es l → (∀ x ∈ l, x.1.1.length = n) → 1 ≤ n → n ≤ 8 → l.length ≤ 1000000 →
  ACalls Try.prog F.impl_qbuilding_done [.pt (0, 0) [] 0] [((0, 0), .bx [D.int n, .mp es])] true (fun outs res => outs = [.bx [D.int n, .mp es]] ∧ res = [.ag (qO (enQ n ((nf qlt l).map qt)).1), .one (D.bool (enQ n ((nf qlt l).map qt)).2)])
theorem doneOkQ : DoneOkQ := fun n es l hM hl h1 h8 hL => (impl_qbuilding_done_calls sortOkQ n es l hM hl h1 h8 hL).weak1
end Go.Proofs.Ytocknokodgnlbaa.Ab
namespace Go.Proofs.Ytocknokodgnlbaa.Ab
open Go
set_option linter.unusedSimpArgs false
set_option linter.unusedVariables false
set_option maxRecDepth 10000
set_option maxHeartbeats 2000000
def absQK (l : List (QK × Int)) : Nat := (l.map fun x => x.2.natAbs).sum
theorem coK_abs (k : QK) : ∀ l : List (QK × Int), (co k l).natAbs ≤ absQK l
  | [] => by simp [co]
  | x :: l => by
    have := coK_abs k l
    simp only [co, absQK, List.map_cons, List.sum_cons] at this ⊢
    split <;> omega
theorem nfQ_perm {l r : List (QK × Int)} (h : l.Perm r) : nf qlt l = nf qlt r :=
  nf_unique qOrd (nf_desc qOrd l) (nf_nz l) fun k => by rw [nf_co, co_perm k h]
theorem impl_MulQSums_calls (hDone : DoneOkQ) (fm : List (List Int)) (f g : Qsm) (h0 : fm.length < 4611686018427387904) (hI : I64 fm) (hx : f.ts.length < 4611686018427387904) (hxe : ∀ t ∈ f.ts, t.e.length < 4611686018427387904) (hy : g.ts.length < 4611686018427387904) (hye : ∀ t ∈ g.ts, t.e.length < 4611686018427387904) : ACalls Try.prog F.impl_MulQSums [.d (.sh 1 fm.length (rows lS fm)), aQ f, aQ g] [] true (fun outs res => outs = [] ∧ WkRs res [.ag (qO (mulQF fm f g).1), .one (D.bool (mulQF fm f g).2)]) := by
  refine ACalls.of_body (C := C.impl_MulQSums) (n := Try.f24.ntmps) tabT folT Try.func24 rfl (by kernel_rfl) rfl (Nat.le_of_ble_eq_true rfl) (by decide) (by kernel_rfl) (by kernel_rfl) rfl (by simp) (by simp) ?_
  simp only [Try.f24]
  refine wseq ?_
  refine wreg fun K hK => ?_
  simp [C.impl_MulQSums, qS]
  refine hK _ ?_; clear hK K
  show AWp _ _ _ _ _
  refine wseq ?_
  refine wseq ?_
  refine wregI ([0, 1, 2, 3] ++ ([4])) rfl fun K hK => ?_
  refine opsI_seg fun L hL => ?_
  simp [C.impl_MulQSums, qS]
  refine wcall1 (impl_multipliable_calls fm f g h0 hI hx hxe hy hye) (by simp) (by simp) ?_
  simp [C.impl_MulQSums, qS]
  refine hL _ ?_; clear hL L
  refine opsI_end fun L hL => ?_
  simp [C.impl_MulQSums, qS]
  refine hL _ ?_; clear hL L
  simp [C.impl_MulQSums, qS]
  refine hK _ ?_; clear hK K
  show AWp _ _ _ _ _
  refine wcond _ rfl (fun hc1 => ?_) (fun hc1 => ?_)
  · have hr : ¬ (FormOk fm ∧ QRight f ∧ QRight g ∧ f.v = fm.length ∧ g.v = fm.length) := by
      intro ⟨q1, q2, q3, q4, q5⟩
      simp [q1, q2, q3, q4, q5] at hc1
    have hm : mulQF fm f g = (zeroQ, false) := if_neg hr
    refine wseq ?_
    refine wreg fun K hK => ?_
    simp [C.impl_MulQSums, qS]
    refine hK _ ?_; clear hK K
    show AWp _ _ _ _ _
    refine wret ?_
    simp [C.impl_MulQSums, qS, hm, qO, zeroQ, rows]
  · have hr : FormOk fm ∧ QRight f ∧ QRight g ∧ f.v = fm.length ∧ g.v = fm.length := by simpa using hc1
    obtain ⟨hok, hf, hg, hfv, hgv⟩ := hr
    have hfq := qright_ql hf hfv
    have hgq := qright_ql hg hgv
    obtain ⟨n, hn0⟩ : ∃ n, n = fm.length := ⟨_, rfl⟩
    have hn : f.v = n := by rw [hn0]; exact hfv
    have hn2 : g.v = n := by rw [hn0]; exact hgv
    have hn1 : 1 ≤ n ∧ n ≤ 8 := by have := hok.1; omega
    have hn8 := hn1.2
    have hfl := hf.2.1
    have hgl := hg.2.1
    have hm : mulQF fm f g = enQ n (gaQ (prodQ fm f.ts g.ts)) := by
      rw [← hn]
      exact if_pos ⟨hok, hf, hg, hfv, hgv⟩
    refine wskip ?_
    show AWp _ _ _ _ _
    refine wseq ?_
    refine wregI ([0, 1, 2] ++ ([3])) rfl fun K hK => ?_
    refine opsI_seg fun L hL => ?_
    simp [C.impl_MulQSums, qS, hn]
    refine wcall1 (impl_newQBuilding_calls n) (by simp) (by simp) ?_
    simp [C.impl_MulQSums, qS, hn]
    refine hL _ ?_; clear hL L
    refine opsI_end fun L hL => ?_
    simp [C.impl_MulQSums, qS, hn]
    refine hL _ ?_; clear hL L
    simp [C.impl_MulQSums, qS, hn]
    refine hK _ ?_; clear hK K
    show AWp _ _ _ _ _
    refine wseq ?_
    refine wseq ?_
    refine wreg fun K hK => ?_
    simp [C.impl_MulQSums, qS]
    refine hK _ ?_; clear hK K
    show AWp _ _ _ _ _
    refine wblock ?_
    refine wloop (fun x : Nat × List (List Int × Int) × List (QK × Int) => ⟨ofL [(0, .d (.sh 1 fm.length (rows lS fm))), (5, .pt (5, 0) [] 0), (6, .pt (6, 0) [] 0), (8, .pt (8, 0) [] 0), (23, .d (.sh 3 f.ts.length (rows qtS f.ts))), (24, .int f.ts.length), (25, .int x.1)], ofRO [((5, 0), some (.bx (qS g))), ((6, 0), some (.bx [D.int 0, .v (.slice none 0 0)])), ((8, 0), some (.bx [D.int n, .mp x.2.1]))]⟩) (fun x => x.1 ≤ f.ts.length ∧ MapQ n x.2.1 x.2.2 ∧ x.2.2.Perm ((prodQ fm (f.ts.take x.1) g.ts).map qp) ∧ x.2.2.length ≤ x.1 * 600 ∧ absQK x.2.2 ≤ (x.1 * 600) * 1000000000000) (fun x => f.ts.length - x.1) (0, [], []) (by simp [C.impl_MulQSums, qS]) ⟨by simp, MapQ.nil n, by simp [prodQ], by simp, by simp [absQK]⟩ ?_
    intro x1 hx1 R1 hR1
    obtain ⟨i, es, l⟩ := x1
    obtain ⟨hi, hM, hP, hL, hA⟩ := hx1
    dsimp only at hi hM hP hL hA ⊢
    refine wseq ?_
    refine wreg fun K hK => ?_
    simp [C.impl_MulQSums, qS]
    refine hK _ ?_; clear hK K
    show AWp _ _ _ _ _
    refine wseq ?_
    refine wcond _ rfl (fun hc2 => ?_) (fun hc2 => ?_)
    · have hif : i < f.ts.length := by have := d_t hc2; omega
      have hT := hfq.2 _ (List.getElem_mem hif)
      have hT20 := (hf.2.2.1 _ (List.getElem_mem hif)).2.2.2.2
      refine wskip ?_
      show AWp _ _ _ _ _
      refine wseq ?_
      refine wblock ?_
      refine wseq ?_
      refine wreg fun K hK => ?_
      simp [C.impl_MulQSums, qS, hif, qtS_0 hif, qtS_1 hif, qtS_2 hif]
      refine hK _ ?_; clear hK K
      show AWp _ _ _ _ _
      refine wseq ?_
      refine wreg fun K hK => ?_
      simp [C.impl_MulQSums, qS]
      refine hK _ ?_; clear hK K
      show AWp _ _ _ _ _
      refine wblock ?_
      refine wloop (fun x : Nat × List (List Int × Int) × List (QK × Int) => ⟨ofL [(0, .d (.sh 1 fm.length (rows lS fm))), (5, .pt (5, 0) [] 0), (6, .pt (6, 0) [] 0), (8, .pt (8, 0) [] 0), (10, .pt (10, 0) [] 0), (23, .d (.sh 3 f.ts.length (rows qtS f.ts))), (24, .int f.ts.length), (25, .int i), (30, .d (.sh 3 g.ts.length (rows qtS g.ts))), (31, .int g.ts.length), (32, .int x.1)], ofRO [((5, 0), some (.bx (qS g))), ((6, 0), some (.bx [D.int 0, .v (.slice none 0 0)])), ((8, 0), some (.bx [D.int n, .mp x.2.1])), ((10, 0), some (.bx (qtS f.ts[i])))]⟩) (fun x => x.1 ≤ g.ts.length ∧ MapQ n x.2.1 x.2.2 ∧ x.2.2.Perm ((prodQ fm (f.ts.take i) g.ts ++ (g.ts.take x.1).map (mulT2 fm f.ts[i])).map qp) ∧ x.2.2.length ≤ i * 600 + x.1 ∧ absQK x.2.2 ≤ (i * 600 + x.1) * 1000000000000) (fun x => g.ts.length - x.1) (0, es, l) (by simp [C.impl_MulQSums, qS, qtS]) ⟨by simp, hM, by simpa using hP, by dsimp only; omega, by dsimp only; omega⟩ ?_
      intro x2 hx2 R2 hR2
      obtain ⟨j, es2, l2⟩ := x2
      obtain ⟨hj, hM2, hP2, hL2, hA2⟩ := hx2
      dsimp only at hj hM2 hP2 hL2 hA2 ⊢
      refine wseq ?_
      refine wreg fun K hK => ?_
      simp [C.impl_MulQSums, qS]
      refine hK _ ?_; clear hK K
      show AWp _ _ _ _ _
      refine wseq ?_
      refine wcond _ rfl (fun hc3 => ?_) (fun hc3 => ?_)
      · have hjg : j < g.ts.length := by have := d_t hc3; omega
        have hU := hgq.2 _ (List.getElem_mem hjg)
        have hU20 := (hg.2.2.1 _ (List.getElem_mem hjg)).2.2.2.2
        refine wskip ?_
        show AWp _ _ _ _ _
        refine wseq ?_
        refine wblock ?_
        refine wseq ?_
        refine wreg fun K hK => ?_
        simp [C.impl_MulQSums, qS, hjg, qtS_0 hjg, qtS_1 hjg, qtS_2 hjg]
        refine hK _ ?_; clear hK K
        show AWp _ _ _ _ _
        obtain ⟨a0, a1, a2, a3, a4, a5, a6, a7, hpa⟩ := eight (pad_length (e := f.ts[i].e) (by omega))
        obtain ⟨b0, b1, b2, b3, b4, b5, b6, b7, hpb⟩ := eight (pad_length (e := g.ts[j].e) (by omega))
        have hba := pad_bd hT20
        have hbb := pad_bd hU20
        rw [hpa] at hba
        rw [hpb] at hbb
        have hsk := QL.sk hok hfq hgq (List.getElem_mem hif) (List.getElem_mem hjg)
        have hsb := hsk.bd
        have hadd : [a0 + b0, a1 + b1, a2 + b2, a3 + b3, a4 + b4, a5 + b5, a6 + b6, a7 + b7, f.ts[i].h + g.ts[j].h + skw fm f.ts[i].e g.ts[j].e] = kq (qk (mulT2 fm f.ts[i] g.ts[j])) := by
          simp only [kq, qk, mulT2]
          rw [← pad_add (by omega), hpa, hpb]
          simp [addE]
        have hel : (qk (mulT2 fm f.ts[i] g.ts[j])).1.length = n := by simp only [qk, mulT2]; rw [addE_length _ _ _ (by omega)]; omega
        have hcc := mul_bd hT.2.2.2 hU.2.2.2
        have hval := hM2.val _ hel
        have hco := coK_abs (qk (mulT2 fm f.ts[i] g.ts[j])) l2
        refine wdrawI [(true, 0), (true, 1), (true, 2), (true, 4), (true, 5), (true, 8), (true, 9), (true, 10), (true, 11), (true, 12), (true, 13), (true, 14), (true, 15), (true, 16), (true, 17), (true, 21), (true, 22), (true, 23), (true, 24), (true, 25), (false, 3), (false, 6), (false, 7), (false, 18), (true, 19), (true, 20), (false, 26)] ⟨by kernel_rfl, by kernel_rfl⟩ ([0, 1, 2, 4, 5, 8, 9, 10, 11, 12, 13, 14, 15, 16, 17, 21, 22, 23, 24, 25, 3] ++ ([6] ++ ([7] ++ ([18] ++ ([19, 20, 26] ++ ([])))))) rfl fun K hK => ?_
        refine opsI_seg fun L hL => ?_
        simp [C.impl_MulQSums, qS, qtS, wrapOk (x := f.ts[i].c * g.ts[j].c) (by omega) (by omega), wrapOk (x := f.ts[i].h + g.ts[j].h) (by omega) (by omega), wrapOk (x := f.ts[i].h + g.ts[j].h + skw fm f.ts[i].e g.ts[j].e) (by omega) (by omega)]
        refine wcall1 (impl_keyOf_calls f.ts[i].e (by omega) a0 a1 a2 a3 a4 a5 a6 a7 hpa) (by simp) (by simp) ?_
        simp [C.impl_MulQSums, qS, qtS, wrapOk (x := f.ts[i].c * g.ts[j].c) (by omega) (by omega), wrapOk (x := f.ts[i].h + g.ts[j].h) (by omega) (by omega), wrapOk (x := f.ts[i].h + g.ts[j].h + skw fm f.ts[i].e g.ts[j].e) (by omega) (by omega)]
        refine hL _ ?_; clear hL L
        refine opsI_seg fun L hL => ?_
        simp [C.impl_MulQSums, qS, qtS, wrapOk (x := f.ts[i].c * g.ts[j].c) (by omega) (by omega), wrapOk (x := f.ts[i].h + g.ts[j].h) (by omega) (by omega), wrapOk (x := f.ts[i].h + g.ts[j].h + skw fm f.ts[i].e g.ts[j].e) (by omega) (by omega)]
        refine wcall1 (impl_keyOf_calls g.ts[j].e (by omega) b0 b1 b2 b3 b4 b5 b6 b7 hpb) (by simp) (by simp) ?_
        simp [C.impl_MulQSums, qS, qtS, wrapOk (x := f.ts[i].c * g.ts[j].c) (by omega) (by omega), wrapOk (x := f.ts[i].h + g.ts[j].h) (by omega) (by omega), wrapOk (x := f.ts[i].h + g.ts[j].h + skw fm f.ts[i].e g.ts[j].e) (by omega) (by omega)]
        refine hL _ ?_; clear hL L
        refine opsI_seg fun L hL => ?_
        simp [C.impl_MulQSums, qS, qtS, wrapOk (x := f.ts[i].c * g.ts[j].c) (by omega) (by omega), wrapOk (x := f.ts[i].h + g.ts[j].h) (by omega) (by omega), wrapOk (x := f.ts[i].h + g.ts[j].h + skw fm f.ts[i].e g.ts[j].e) (by omega) (by omega)]
        refine wcall1 (impl_plusExp_calls 1 a0 a1 a2 a3 a4 a5 a6 a7 b0 b1 b2 b3 b4 b5 b6 b7 (by omega) hba hbb) (by simp) (by simp) ?_
        simp [C.impl_MulQSums, qS, qtS, wrapOk (x := f.ts[i].c * g.ts[j].c) (by omega) (by omega), wrapOk (x := f.ts[i].h + g.ts[j].h) (by omega) (by omega), wrapOk (x := f.ts[i].h + g.ts[j].h + skw fm f.ts[i].e g.ts[j].e) (by omega) (by omega)]
        refine hL _ ?_; clear hL L
        refine opsI_seg fun L hL => ?_
        simp [C.impl_MulQSums, qS, qtS, wrapOk (x := f.ts[i].c * g.ts[j].c) (by omega) (by omega), wrapOk (x := f.ts[i].h + g.ts[j].h) (by omega) (by omega), wrapOk (x := f.ts[i].h + g.ts[j].h + skw fm f.ts[i].e g.ts[j].e) (by omega) (by omega)]
        refine wcall1 (impl_paired_calls fm f.ts[i].e g.ts[j].e hsk) (by simp) (by simp) ?_
        simp [C.impl_MulQSums, qS, qtS, wrapOk (x := f.ts[i].c * g.ts[j].c) (by omega) (by omega), wrapOk (x := f.ts[i].h + g.ts[j].h) (by omega) (by omega), wrapOk (x := f.ts[i].h + g.ts[j].h + skw fm f.ts[i].e g.ts[j].e) (by omega) (by omega)]
        refine hL _ ?_; clear hL L
        refine opsI_seg fun L hL => ?_
        simp [C.impl_MulQSums, qS, qtS, wrapOk (x := f.ts[i].c * g.ts[j].c) (by omega) (by omega), wrapOk (x := f.ts[i].h + g.ts[j].h) (by omega) (by omega), wrapOk (x := f.ts[i].h + g.ts[j].h + skw fm f.ts[i].e g.ts[j].e) (by omega) (by omega)]
        refine wcall1 (impl_qbuilding_add_calls n (f.ts[i].c * g.ts[j].c) es2 (a0 + 1 * b0) (a1 + 1 * b1) (a2 + 1 * b2) (a3 + 1 * b3) (a4 + 1 * b4) (a5 + 1 * b5) (a6 + 1 * b6) (a7 + 1 * b7) (f.ts[i].h + g.ts[j].h + skw fm f.ts[i].e g.ts[j].e) (hM2.len9 hn8) (by simp only [Int.one_mul]; rw [hadd, hval]; omega)) (by simp) (by simp) ?_
        simp [C.impl_MulQSums, qS, qtS, wrapOk (x := f.ts[i].c * g.ts[j].c) (by omega) (by omega), wrapOk (x := f.ts[i].h + g.ts[j].h) (by omega) (by omega), wrapOk (x := f.ts[i].h + g.ts[j].h + skw fm f.ts[i].e g.ts[j].e) (by omega) (by omega)]
        refine hL _ ?_; clear hL L
        refine opsI_end fun L hL => ?_
        simp only [AOpsI]
        refine hL _ ?_; clear hL L
        simp [C.impl_MulQSums, qS, qtS, wrapOk (x := f.ts[i].c * g.ts[j].c) (by omega) (by omega), wrapOk (x := f.ts[i].h + g.ts[j].h) (by omega) (by omega), wrapOk (x := f.ts[i].h + g.ts[j].h + skw fm f.ts[i].e g.ts[j].e) (by omega) (by omega)]
        rw [hadd]
        refine hK _ ?_; clear hK K
        show AWp _ _ _ _ _
        refine wreg fun K hK => ?_
        simp [C.impl_MulQSums, qS, wrap_succ (show j < 4611686018427387904 by omega)]
        refine hK _ ?_; clear hK K
        simp [C.impl_MulQSums, qS]
        refine hR2 (j + 1, _, (qk (mulT2 fm f.ts[i] g.ts[j]), f.ts[i].c * g.ts[j].c) :: l2) ⟨hjg, hM2.add hel _, ?_, by dsimp only [List.length_cons]; omega, ?_⟩ (by dsimp only; omega)
        · dsimp only
          rw [List.take_succ_eq_append_getElem hjg]
          simp only [List.map_append] at hP2 ⊢
          rw [← List.append_assoc]
          refine (List.Perm.cons _ hP2).trans ?_
          exact (List.perm_append_singleton _ _).symm
        · have := natAbs_bd hcc
          simp only [absQK, List.map_cons, List.sum_cons] at hA2 ⊢
          omega
      · have hjg : j = g.ts.length := by have := d_f hc3; omega
        refine wexit ?_
        show AWp _ _ _ _ _
        refine wreg fun K hK => ?_
        simp [C.impl_MulQSums, qS, wrap_succ (show i < 4611686018427387904 by omega)]
        refine hK _ ?_; clear hK K
        simp [C.impl_MulQSums, qS]
        refine hR1 (i + 1, es2, l2) ⟨hif, hM2, ?_, by dsimp only; omega, absB hA2 (by omega)⟩ (by dsimp only; omega)
        dsimp only
        rw [prodQ_step hif]
        rw [hjg, List.take_length] at hP2
        exact hP2
    · have hif : i = f.ts.length := by have := d_f hc2; omega
      have hall : l.Perm ((prodQ fm f.ts g.ts).map qp) := by
        rw [hif, List.take_length] at hP
        exact hP
      have hlen : ∀ x ∈ l, x.1.1.length = n := fun x hx => by
        have := hall.subset hx
        obtain ⟨t, ht, rfl⟩ := List.mem_map.1 this
        rw [hn0]
        exact prodQ_e hfq hgq t ht
      have hs : (nf qlt l).map qt = gaQ (prodQ fm f.ts g.ts) := by
        unfold gaQ
        rw [nfQ_perm hall]
      refine wexit ?_
      show AWp _ _ _ _ _
      refine wseq ?_
      refine wregI ([0, 1] ++ ([2, 3, 4, 5])) rfl fun K hK => ?_
      refine opsI_seg fun L hL => ?_
      simp [C.impl_MulQSums, qS]
      refine wcall1 (hDone n es l hM hlen hn1.1 hn8 (by omega)) (by simp) (by simp) ?_
      simp [C.impl_MulQSums, qS]
      refine hL _ ?_; clear hL L
      refine opsI_end fun L hL => ?_
      simp [C.impl_MulQSums, qS]
      refine hL _ ?_; clear hL L
      simp [C.impl_MulQSums, qS]
      refine hK _ ?_; clear hK K
      show AWp _ _ _ _ _
      refine wret ?_
      simp [C.impl_MulQSums, qS, hm, ← hs, qO]
theorem iMulQ_calls (hDone : DoneOkQ) (fm : List (List Int)) (f g : Qsm) (h0 : fm.length < 4611686018427387904) (hI : I64 fm) (hx : f.ts.length < 4611686018427387904) (hxe : ∀ t ∈ f.ts, t.e.length < 4611686018427387904) (hy : g.ts.length < 4611686018427387904) (hye : ∀ t ∈ g.ts, t.e.length < 4611686018427387904) : ACalls Try.prog F.impl_MulQSums [.d (.sh 1 fm.length (rows lS fm)), aQ f, aQ g] [] true (fun outs res => outs = [] ∧ res = [.ag (qO (mulQF fm f g).1), .one (D.bool (mulQF fm f g).2)]) := (impl_MulQSums_calls hDone fm f g h0 hI hx hxe hy hye).weak1
end Go.Proofs.Ytocknokodgnlbaa.Ab
namespace Go.Proofs.Ytocknokodgnlbaa.Ab
open Go
set_option linter.unusedSimpArgs false
set_option linter.unusedVariables false
theorem addE_com : ∀ (a b : List Int), a.length = b.length → addE 1 a b = addE 1 b a
  | [], [], _ => rfl
  | [], _ :: _, h => by simp at h
  | _ :: _, [], h => by simp at h
  | x :: a, y :: b, h => by
    simp only [addE, addE_com a b (by simpa using h)]
    congr 1
    omega
theorem qlt_iff (a b : QK) : qlt a b = true ↔ (a.1 = b.1 ∧ a.2 < b.2) ∨ lexlt a.1 b.1 = true := by
  unfold qlt
  by_cases e : a.1 = b.1
  · rw [if_pos e]
    simp [e, lexlt_irr]
  · rw [if_neg e]
    simp [e]
def qmul (fm : List (List Int)) (e b : QK) : QK := (addE 1 b.1 e.1, b.2 + e.2 + skw fm b.1 e.1)
def qdv (fm : List (List Int)) (a b : QK) : QK := (addE (-1) a.1 b.1, a.2 - b.2 - skw fm b.1 (addE (-1) a.1 b.1))
theorem qAct (fm : List (List Int)) (n : Nat) : Act qlt (qmul fm) (qdv fm) (fun k => k.1.length = n) where
  mul_dv a b h1 h2 := by
    unfold qmul qdv
    refine Prod.ext ?_ ?_
    · show addE 1 b.1 (addE (-1) a.1 b.1) = a.1
      rw [addE_com _ _ (by rw [addE_length _ _ _ (h1.trans h2.symm)]; exact h2.trans h1.symm), addE_dv a.1 b.1 (h1.trans h2.symm)]
    · show b.2 + (a.2 - b.2 - skw fm b.1 (addE (-1) a.1 b.1)) + skw fm b.1 (addE (-1) a.1 b.1) = a.2
      omega
  dv_lt x y b h1 h2 h3 h := by
    rw [qlt_iff] at h ⊢
    rcases h with ⟨e, h⟩ | h
    · left
      refine ⟨by simp only [qdv, e], ?_⟩
      simp only [qdv, e]
      omega
    · right
      simp only [qdv]
      rw [lexlt_addE _ _ _ _ (h1.trans h3.symm) (h2.trans h3.symm)]
      exact h
  mul_lt e x y h1 h2 h3 h := by
    rw [qlt_iff] at h ⊢
    rcases h with ⟨q, h⟩ | h
    · left
      refine ⟨by simp only [qmul, q], ?_⟩
      simp only [qmul, q]
      omega
    · right
      simp only [qmul]
      rw [addE_com x.1 _ (h2.trans h1.symm), addE_com y.1 _ (h3.trans h1.symm), lexlt_addE2 _ _ _ (h1.trans h2.symm) (h1.trans h3.symm)]
      exact h
  dmul a b h1 h2 := by simp only [qmul]; rw [addE_length _ _ _ (h2.trans h1.symm)]; exact h2
  ddv a b h1 h2 := by simp only [qdv]; rw [addE_length _ _ _ (h1.trans h2.symm)]; exact h1
/-- A number by which the outermost term is told. -/
def weiQ (s : Int) (i : Nat) (k : QK) : Int := wei s i k.1 * 1000 + k.2
theorem outerQ (fm : List (List Int)) {s : Int} (hs : s = 1 ∨ s = -1) {n i : Nat} (h8 : n ≤ 8) {F O g : List (QK × Int)} (hO : Desc qlt O) (hg : Desc qlt g) (hOz : Nz O) (hgz : Nz g) (hne : g ≠ [])
    (hOD : ∀ x ∈ O, (x.1.1.length = n ∧ Dig x.1.1) ∧ -200 ≤ x.1.2 ∧ x.1.2 ≤ 200) (hgD : ∀ x ∈ g, (x.1.1.length = n ∧ Dig x.1.1) ∧ -200 ≤ x.1.2 ∧ x.1.2 ≤ 200)
    (hF : ∀ q, co q F = co q (prodK (qmul fm) O g)) : ∀ x ∈ O, ∃ t ∈ F, ∃ y ∈ g, (∀ z ∈ g, s * y.1.1.getD i 0 ≤ s * z.1.1.getD i 0) ∧ s * t.1.1.getD i 0 ≤ s * x.1.1.getD i 0 + s * y.1.1.getD i 0 := by
  intro x hx
  obtain ⟨a, haO, ham⟩ := least_of (fun u : QK × Int => weiQ s i u.1) O (fun e => by rw [e] at hx; simp at hx)
  obtain ⟨y, hyg, hym⟩ := least_of (fun u : QK × Int => weiQ s i u.1) g hne
  have ha := hOD a haO
  have hy := hgD y hyg
  have le1 : ∀ u ∈ O, wei s i a.1.1 ≤ wei s i u.1.1 ∧ (wei s i a.1.1 = wei s i u.1.1 → a.1.2 ≤ u.1.2) := fun u hu => by
    have h1 := ham u hu
    have h2 := hOD u hu
    simp only [weiQ] at h1
    omega
  have le2 : ∀ v ∈ g, wei s i y.1.1 ≤ wei s i v.1.1 ∧ (wei s i y.1.1 = wei s i v.1.1 → y.1.2 ≤ v.1.2) := fun v hv => by
    have h1 := hym v hv
    have h2 := hgD v hv
    simp only [weiQ] at h1
    omega
  have huniq : ∀ u ∈ O, ∀ v ∈ g, qmul fm u.1 v.1 = qmul fm a.1 y.1 → u = a ∧ v = y := by
    intro u hu v hv e
    have h1 := hOD u hu
    have h2 := hgD v hv
    have ee : addE 1 v.1.1 u.1.1 = addE 1 y.1.1 a.1.1 := congrArg Prod.fst e
    have eh : v.1.2 + u.1.2 + skw fm v.1.1 u.1.1 = y.1.2 + a.1.2 + skw fm y.1.1 a.1.1 := congrArg Prod.snd e
    have e1 := wei_add s i v.1.1 u.1.1 (h2.1.1.trans h1.1.1.symm)
    have e2 := wei_add s i y.1.1 a.1.1 (hy.1.1.trans ha.1.1.symm)
    rw [ee, e2, h2.1.1, hy.1.1] at e1
    obtain ⟨m1, m1'⟩ := le1 u hu
    obtain ⟨m2, m2'⟩ := le2 v hv
    have w1 : wei s i a.1.1 = wei s i u.1.1 := by omega
    have w2 : wei s i y.1.1 = wei s i v.1.1 := by omega
    have k1 : u.1.1 = a.1.1 := wei_inj (i := i) hs (h1.1.1.trans ha.1.1.symm) h1.1.2 ha.1.2 (by omega) w1.symm
    have k2 : v.1.1 = y.1.1 := wei_inj (i := i) hs (h2.1.1.trans hy.1.1.symm) h2.1.2 hy.1.2 (by omega) w2.symm
    rw [k1, k2] at eh
    have q1 := m1' w1
    have q2 := m2' w2
    have ku : u.1 = a.1 := Prod.ext k1 (by omega)
    have kv : v.1 = y.1 := Prod.ext k2 (by omega)
    have c1 := co_single qOrd hO hu
    have c2 := co_single qOrd hO haO
    have c3 := co_single qOrd hg hv
    have c4 := co_single qOrd hg hyg
    rw [ku] at c1
    rw [kv] at c3
    exact ⟨Prod.ext ku (c1.symm.trans c2), Prod.ext kv (c3.symm.trans c4)⟩
  have hc := co_pair2 (mul := qmul fm) qOrd hO hg haO hyg huniq
  have hnz : co (qmul fm a.1 y.1) F ≠ 0 := by
    rw [hF, hc]
    exact Int.mul_ne_zero (hOz a haO) (hgz y hyg)
  obtain ⟨t, ht, et⟩ := co_mem hnz
  refine ⟨t, ht, y, hyg, fun z hz => wei_le hs hy.1.2 (hgD z hz).1.2 (by omega) (by have := (hgD z hz).1.1; omega) (le2 z hz).1, ?_⟩
  have et1 : t.1.1 = addE 1 y.1.1 a.1.1 := congrArg Prod.fst et
  rw [et1, getD_addE 1 i _ _ (hy.1.1.trans ha.1.1.symm)]
  have := wei_le hs ha.1.2 (hOD x hx).1.2 (by omega) (by have := (hOD x hx).1.1; omega) (le1 x hx).1
  rw [Int.one_mul, Int.mul_add]
  omega
/-! ### The two divisions -/
def tT (t : Qtm) : Trm := ⟨t.e, t.c⟩
def chkIQ (e : QK) (q : Int) : Bool := decide ((∀ x ∈ e.1, -20 ≤ x ∧ x ≤ 20) ∧ (-200 ≤ e.2 ∧ e.2 ≤ 200) ∧ q ≠ 0 ∧ -1000000 ≤ q ∧ q ≤ 1000000)
def inBoxQ (f g : Qsm) (n : Nat) (e : List Int) : Prop := ∀ i, i < n → (lowL (f.ts.map tT) n).getD i 0 - (lowL (g.ts.map tT) n).getD i 0 ≤ e.getD i 0 ∧ e.getD i 0 ≤ (highL (f.ts.map tT) n).getD i 0 - (highL (g.ts.map tT) n).getD i 0
instance (f g : Qsm) (n : Nat) (e : List Int) : Decidable (inBoxQ f g n e) := Nat.decidableBallLT n _
def chkSQ (f g : Qsm) (n : Nat) (e : QK) (q : Int) : Bool := decide (inBoxQ f g n e.1 ∧ (-200 ≤ e.2 ∧ e.2 ≤ 200) ∧ -1000000 ≤ q ∧ q ≤ 1000000)
def leadQ (g : Qsm) : QK := match g.ts with | [] => ([], 0) | t :: _ => (t.e, t.h)
def leadQC (g : Qsm) : Int := match g.ts with | [] => 1 | t :: _ => t.c
def divQ (fm : List (List Int)) (chk : QK → Int → Bool) (g : Qsm) (k : Nat) (R : List (QK × Int)) : Option (List (QK × Int)) := divGo qlt (qmul fm) (qdv fm) chk (g.ts.map qp) (leadQ g) (leadQC g) k R
noncomputable def endQd (v : Int) : Option (List (QK × Int)) → Qsm × Bool
  | some O => enQ v (O.map qt)
  | none => (zeroQ, false)
def QFit (fm : List (List Int)) (f g : Qsm) : Prop := (FormOk fm ∧ QRight f ∧ QRight g ∧ f.v = fm.length ∧ g.v = fm.length) ∧ g.ts ≠ []
noncomputable instance (fm : List (List Int)) (f g : Qsm) : Decidable (QFit fm f g) := Classical.propDecidable _
noncomputable def divQF (fm : List (List Int)) (f g : Qsm) : Qsm × Bool := if QFit fm f g then endQd f.v (divQ fm chkIQ g 600 (f.ts.map qp)) else (zeroQ, false)
noncomputable def divQS (fm : List (List Int)) (f g : Qsm) : Qsm × Bool := if QFit fm f g then endQd f.v (divQ fm (chkSQ f g fm.length) g 600 (f.ts.map qp)) else (zeroQ, false)
theorem qp_desc {f : Qsm} (h : QRight f) : Desc qlt (f.ts.map qp) := by
  unfold Desc
  rw [List.pairwise_map]
  exact h.2.2.2
theorem qp_nz {f : Qsm} (h : QRight f) : Nz (f.ts.map qp) := fun x hx => by
  obtain ⟨t, ht, rfl⟩ := List.mem_map.1 hx
  exact (h.2.2.1 t ht).2.1
theorem qright_he {f : Qsm} {n : Nat} (h : QRight f) (hn : f.v = n) : ∀ t ∈ f.ts, t.e.length = n ∧ (∀ x ∈ t.e, -20 ≤ x ∧ x ≤ 20) ∧ (-200 ≤ t.h ∧ t.h ≤ 200) ∧ -1000000 ≤ t.c ∧ t.c ≤ 1000000 ∧ t.c ≠ 0 := fun t ht => by
  obtain ⟨h1, h2, h3, h4, h5⟩ := h.2.2.1 t ht
  exact ⟨by omega, h5, h4, h3.1, h3.2, h2⟩
theorem qp_dig {f : Qsm} {n : Nat} (h : QRight f) (hn : f.v = n) : ∀ x ∈ f.ts.map qp, (x.1.1.length = n ∧ Dig x.1.1) ∧ -200 ≤ x.1.2 ∧ x.1.2 ≤ 200 := fun x hx => by
  obtain ⟨t, ht, rfl⟩ := List.mem_map.1 hx
  have := qright_he h hn t ht
  exact ⟨⟨this.1, fun y hy => by have := this.2.1 y hy; omega⟩, this.2.2.1⟩
theorem leadQ_map {g : Qsm} (hne : g.ts ≠ []) : g.ts.map qp = (leadQ g, leadQC g) :: (g.ts.tail.map qp) := by
  unfold leadQ leadQC
  match hh : g.ts, hne with
  | t :: ts, _ => rfl
theorem divGo_nz {K : Type} [DecidableEq K] {lt : K → K → Bool} {mul dv : K → K → K} {chk : K → Int → Bool} {g : List (K × Int)} {b : K} {d : Int} : ∀ (k : Nat) (R O : List (K × Int)), divGo lt mul dv chk g b d k R = some O → Nz R → Nz O
  | k, [], O, h, _ => by
    have e : O = [] := by cases k <;> simp [divGo] at h <;> exact h
    subst e
    simp [Nz]
  | 0, x :: R, O, h, _ => by simp [divGo] at h
  | k + 1, x :: R, O, h, hR => by
    simp only [divGo] at h
    split at h
    · rename_i h1
      obtain ⟨O', h2, h3⟩ := Option.map_eq_some_iff.1 h
      subst h3
      have h4 := divGo_nz k _ O' h2 (nf_nz _)
      intro y hy
      rcases List.mem_cons.1 hy with rfl | hy
      · have h5 := tmod_tdiv h1.1
        have h6 := hR x (by simp)
        dsimp only
        intro e
        rw [e] at h5
        simp at h5
        exact h6 h5.symm
      · exact h4 y hy
    · simp at h
theorem divQ_good {fm : List (List Int)} {chk : QK → Int → Bool} {f g : Qsm} (h : QFit fm f g) {O : List (QK × Int)} (hd : divQ fm chk g 600 (f.ts.map qp) = some O) : Desc qlt O ∧ Nz O ∧ (∀ x ∈ O, x.1.1.length = fm.length) ∧ (∀ x ∈ O, chk x.1 x.2 = true) ∧ O.length ≤ 600 ∧ ∀ q, co q (f.ts.map qp) = co q (prodK (qmul fm) O (g.ts.map qp)) := by
  obtain ⟨⟨hfm, hf, hg, hn, hgn⟩, hne⟩ := h
  have hgd := qp_desc hg
  have hgD := qp_dig hg hgn
  unfold divQ at hd
  have h1 := divGo_all _ _ _ hd
  have h2 := divGo_exact _ _ _ hd
  have h3 := divGo_nz _ _ _ hd (qp_nz hf)
  rw [leadQ_map hne] at hgd hgD hd
  have h4 := divGo_desc (chk := chk) qOrd (qAct fm fm.length) hgd (fun y hy => (hgD y hy).1.1) 600 _ O hd (qp_desc hf) fun y hy => (qp_dig hf hn y hy).1.1
  exact ⟨h4.1, h3, h4.2.1, h1.1, h1.2, h2⟩
theorem tT_he {f : Qsm} {n : Nat} (h : QRight f) (hn : f.v = n) : ∀ t ∈ f.ts.map tT, t.e.length = n ∧ ∀ x ∈ t.e, -20 ≤ x ∧ x ≤ 20 := fun t ht => by
  obtain ⟨u, hu, rfl⟩ := List.mem_map.1 ht
  have := qright_he h hn u hu
  exact ⟨this.1, this.2.1⟩
theorem divQS_eq (fm : List (List Int)) (f g : Qsm) : divQS fm f g = divQF fm f g := by
  unfold divQS divQF
  split
  · rename_i hfit
    have hfit' := hfit
    obtain ⟨⟨hfm, hf, hg, hn, hgn⟩, hne⟩ := hfit
    have h8 : fm.length ≤ 8 := by have := hfm.1; omega
    cases hI : divQ fm chkIQ g 600 (f.ts.map qp) with
    | some O =>
      obtain ⟨hOd, hOz, hOl, hch, _, hex⟩ := divQ_good hfit' hI
      have hS : divQ fm (chkSQ f g fm.length) g 600 (f.ts.map qp) = some O := by
        refine divGo_chk _ _ _ hI fun x hx => ?_
        have hcx := hch x hx
        simp only [chkIQ, decide_eq_true_eq] at hcx
        simp only [chkSQ, decide_eq_true_eq]
        refine ⟨fun i hi => ?_, hcx.2.1, hcx.2.2.2⟩
        have hOD : ∀ x ∈ O, (x.1.1.length = fm.length ∧ Dig x.1.1) ∧ -200 ≤ x.1.2 ∧ x.1.2 ≤ 200 := fun x hx => by
          have := hch x hx
          simp only [chkIQ, decide_eq_true_eq] at this
          exact ⟨⟨hOl x hx, fun z hz => by have := this.1 z hz; omega⟩, this.2.1⟩
        have hgnp : g.ts.map qp ≠ [] := by simpa using hne
        have hfne : f.ts.map tT ≠ [] := by
          rintro e
          have := outerQ fm (s := 1) (i := i) (.inl rfl) h8 hOd (qp_desc hg) hOz (qp_nz hg) hgnp hOD (qp_dig hg hgn) hex x hx
          obtain ⟨t, ht, _⟩ := this
          simp only [List.map_eq_nil_iff] at e
          rw [e] at ht
          simp at ht
        have hgne : g.ts.map tT ≠ [] := by simpa using hne
        obtain ⟨lf1, _⟩ := lowL_at hfne hi
        obtain ⟨_, tl, htl, lg2⟩ := lowL_at hgne hi
        obtain ⟨hf1, _⟩ := highL_at hfne hi
        obtain ⟨_, th, hth, hg2⟩ := highL_at hgne hi
        obtain ⟨t, ht, y, hy, m1, m2⟩ := outerQ fm (s := 1) (i := i) (.inl rfl) h8 hOd (qp_desc hg) hOz (qp_nz hg) hgnp hOD (qp_dig hg hgn) hex x hx
        obtain ⟨t', ht', y', hy', m1', m2'⟩ := outerQ fm (s := -1) (i := i) (.inr rfl) h8 hOd (qp_desc hg) hOz (qp_nz hg) hgnp hOD (qp_dig hg hgn) hex x hx
        obtain ⟨u, hu, rfl⟩ := List.mem_map.1 ht
        obtain ⟨u', hu', rfl⟩ := List.mem_map.1 ht'
        obtain ⟨ul, hul, rfl⟩ := List.mem_map.1 htl
        obtain ⟨uh, huh, rfl⟩ := List.mem_map.1 hth
        have a1 := lf1 (tT u) (List.mem_map.2 ⟨u, hu, rfl⟩)
        have a2 := m1 (qp ul) (List.mem_map.2 ⟨ul, hul, rfl⟩)
        have a3 := hf1 (tT u') (List.mem_map.2 ⟨u', hu', rfl⟩)
        have a4 := m1' (qp uh) (List.mem_map.2 ⟨uh, huh, rfl⟩)
        simp only [qp, qk, tT] at m2 m2' a1 a2 a3 a4 lg2 hg2
        constructor <;> omega
      rw [hS]
    | none =>
      cases hS : divQ fm (chkSQ f g fm.length) g 600 (f.ts.map qp) with
      | none => rfl
      | some O =>
        simp only [endQd]
        unfold enQ
        rw [if_neg]
        intro hr
        have : divQ fm chkIQ g 600 (f.ts.map qp) = some O := by
          refine divGo_chk _ _ _ hS fun x hx => ?_
          obtain ⟨h1, h2, h3, h4, h5⟩ := hr.2.2.1 (qt x) (List.mem_map.2 ⟨x, hx, rfl⟩)
          simp only [chkIQ, decide_eq_true_eq]
          exact ⟨h5, h4, h2, h3⟩
        rw [hI] at this
        simp at this
  · rfl
theorem enQ_ga {v : Int} {O : List (QK × Int)} (hd : Desc qlt O) (hz : Nz O) : enQ v (gaQ (O.map qt)) = endQd v (some O) := by
  simp only [endQd, gaQ]
  rw [map_qp, ← nf_unique qOrd hd hz fun k => rfl]
end Go.Proofs.Ytocknokodgnlbaa.Ab
