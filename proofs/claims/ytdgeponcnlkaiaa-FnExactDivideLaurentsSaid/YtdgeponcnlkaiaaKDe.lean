/- The sort of terms by their exponents, greatest first, at this program. The program's sums: all contracts without a premise left. Division of sums by their greatest terms, over any keys: what it finds, what it keeps, and that it does not matter which of two tests it makes. Powers of sums: the program's are the reference's, fresh at each call. Seeds and sessions: what is equal, marks. The first seed and the first session, on both sides. Least exponents, denominators, numerators. Division of sums in variables: two ways to test whether to go on lead to the same. What a division keeps from step to step. Division by maps: the greatest key, and what a step does. Greatest exponents, sums of coded terms, division: the reference's side. Division: both sides. Division of the program's sums. No condition. -/
import Derived.Shelf.SlSortCmp.NoneTotal
import Derived.Test.YtdgeponcnlkaiaaKDc
import Derived.Test.YtdgeponcnlkaiaaKDd
namespace Go.Proofs.Ytdgeponcnlkaiaa.Ab
open Go
set_option linter.unusedSimpArgs false
set_option linter.unusedVariables false
theorem sfTerm : SfOk Try.prog F.slices_SortFunc_impl_Term_impl_Term 2 := by
  refine ⟨fun p cap fv w => ?_, fun α _ enc hk h1 cf hO g blk off cap d w eg hcmp hH hblk hsz => ?_⟩
  · have h := AnyF.slices_SortFunc_none sortTerm p cap fv w
    rw [sortTerm_f6] at h
    exact h
  · have h := AnyQ.slices_SortFunc sortTerm 2 sortTerm_agg sortTerm_size enc hk h1 cf hO g #[] blk off cap d w eg hcmp hH hblk hsz
    rw [sortTerm_f6] at h
    exact h
theorem lexlt_ntrans (a b c : List Int) (h1 : lexlt a b = false) (h2 : lexlt b c = false) : lexlt a c = false := by
  cases h : lexlt a c with
  | false => rfl
  | true =>
    exfalso
    rcases lexlt_tot a b with h3 | h3 | h3
    · rw [h1] at h3; simp at h3
    · subst h3
      rw [h2] at h; simp at h
    · have := lexlt_tr b a c h3 h
      rw [h2] at this; simp at this
theorem swoTerm : Go.Sort.SWO (ltOf fun x y : Trm => cmpL y.e x.e) where
  irrefl x := by unfold ltOf; rw [cmpL_neg]; exact lexlt_irr _
  trans x y z h1 h2 := by
    unfold ltOf at *
    rw [cmpL_neg] at *
    exact lexlt_tr _ _ _ h2 h1
  ntrans x y z h1 h2 := by
    unfold ltOf at *
    rw [cmpL_neg] at *
    exact lexlt_ntrans _ _ _ h2 h1
theorem sortOk : SortOk := by
  intro ts hts hnd hlen
  have h := sort_calls (P := Try.prog) (g := F.impl_building_done_1) ⟨Try.f189, _, Try.func189, rfl, by kernel_rfl⟩ sfTerm tO_two (by omega) (fun t => by simp [tO, noShL, noSh]) (fun l => by
    induction l with
    | nil => trivial
    | cons x l ih =>
      simp only [rows, tO, List.cons_append, List.nil_append, solidL]
      exact ⟨rfl, rfl, ih⟩) (fun x y : Trm => cmpL y.e x.e) swoTerm ts hlen (fun x hx y hy => by
    have := impl_building_done_1_calls x y (hts x hx) (hts y hy)
    simpa [tO, shareL, share, shareL_ints] using this)
  refine ACalls.mono h ?_
  rintro outs res ⟨r, h1, h2, h3, h4⟩
  refine ⟨r, h1, ?_, h3, h4⟩
  have hnr : (r.map (·.e)).Nodup := (h1.map (·.e)).nodup_iff.2 hnd
  unfold DescT
  rw [List.Nodup, List.pairwise_map] at hnr
  refine (h2.and hnr).imp ?_
  rintro a b ⟨h5, h6⟩
  have h7 : lexlt a.e b.e = false := by
    rw [← cmpL_neg]
    simpa using h5
  rcases lexlt_tot a.e b.e with h8 | h8 | h8
  · rw [h7] at h8; simp at h8
  · exact absurd h8 h6
  · exact h8
end Go.Proofs.Ytdgeponcnlkaiaa.Ab
namespace Go.Proofs.Ytdgeponcnlkaiaa.Ab
open Go
theorem doneOk : DoneOk := fun n es l hM hl h1 h8 hL => (impl_building_done_calls sortOk n es l hM hl h1 h8 hL).weak1
theorem mulOk : MulOk := iMul_calls doneOk
end Go.Proofs.Ytdgeponcnlkaiaa.Ab
namespace Go.Proofs.Ytdgeponcnlkaiaa.Ab
open Go
set_option linter.unusedSimpArgs false
set_option linter.unusedVariables false
set_option linter.unusedSectionVars false

section
variable {K : Type} [DecidableEq K]
structure Act (lt : K → K → Bool) (mul dv : K → K → K) (D : K → Prop) : Prop where
  mul_dv : ∀ a b, D a → D b → mul (dv a b) b = a
  dv_lt : ∀ x y b, D x → D y → D b → lt x y = true → lt (dv x b) (dv y b) = true
  mul_lt : ∀ e x y, D e → D x → D y → lt x y = true → lt (mul e x) (mul e y) = true
  dmul : ∀ a b, D a → D b → D (mul a b)
  ddv : ∀ a b, D a → D b → D (dv a b)
/-- A term times a sum. -/
def mulT (mul : K → K → K) (e : K) (q : Int) (g : List (K × Int)) : List (K × Int) := g.map fun y => (mul e y.1, q * y.2)
def prodK (mul : K → K → K) (a g : List (K × Int)) : List (K × Int) := a.flatMap fun x => mulT mul x.1 x.2 g
def divGo (lt : K → K → Bool) (mul dv : K → K → K) (chk : K → Int → Bool) (g : List (K × Int)) (b : K) (d : Int) : Nat → List (K × Int) → Option (List (K × Int))
  | _, [] => some []
  | 0, _ :: _ => none
  | k + 1, x :: R => if x.2.tmod d = 0 ∧ chk (dv x.1 b) (x.2.tdiv d) = true then
      (divGo lt mul dv chk g b d k (nf lt (x :: R ++ mulT mul (dv x.1 b) (-(x.2.tdiv d)) g))).map ((dv x.1 b, x.2.tdiv d) :: ·) else none

variable {lt : K → K → Bool} {mul dv : K → K → K} {D : K → Prop} {chk chk' : K → Int → Bool} {g : List (K × Int)} {b : K} {d : Int}
theorem co_mulT_neg (mul : K → K → K) (k e : K) (q : Int) : ∀ g : List (K × Int), co k (mulT mul e (-q) g) = -co k (mulT mul e q g)
  | [] => rfl
  | y :: g => by
    simp only [mulT, List.map_cons, co]
    have := co_mulT_neg mul k e q g
    simp only [mulT] at this
    rw [this]
    split
    · rw [Int.neg_mul]; omega
    · omega
/-- Whether a term is let in decides; where all are let in by another test too, that one leads to the same. -/
theorem divGo_chk : ∀ (k : Nat) (R O : List (K × Int)), divGo lt mul dv chk g b d k R = some O → (∀ x ∈ O, chk' x.1 x.2 = true) → divGo lt mul dv chk' g b d k R = some O
  | k, [], O, h, _ => by cases k <;> exact h
  | 0, x :: R, O, h, _ => by simp [divGo] at h
  | k + 1, x :: R, O, h, hc => by
    simp only [divGo] at h ⊢
    split at h
    · rename_i h1
      obtain ⟨O', h2, h3⟩ := Option.map_eq_some_iff.1 h
      subst h3
      rw [if_pos ⟨h1.1, hc (dv x.1 b, x.2.tdiv d) (List.mem_cons_self ..)⟩, divGo_chk k _ O' h2 fun y hy => hc y (by simp [hy])]
      rfl
    · simp at h
theorem divGo_all : ∀ (k : Nat) (R O : List (K × Int)), divGo lt mul dv chk g b d k R = some O → (∀ x ∈ O, chk x.1 x.2 = true) ∧ O.length ≤ k
  | k, [], O, h => by
    cases k <;> simp [divGo] at h <;> subst h <;> simp
  | 0, x :: R, O, h => by simp [divGo] at h
  | k + 1, x :: R, O, h => by
    simp only [divGo] at h
    split at h
    · rename_i h1
      obtain ⟨O', h2, h3⟩ := Option.map_eq_some_iff.1 h
      subst h3
      obtain ⟨h4, h5⟩ := divGo_all k _ O' h2
      refine ⟨fun y hy => ?_, by simp; omega⟩
      rcases List.mem_cons.1 hy with rfl | hy
      · exact h1.2
      · exact h4 y hy
    · simp at h
/-- What is found, times the divisor, is what was divided. -/
theorem divGo_exact : ∀ (k : Nat) (R O : List (K × Int)), divGo lt mul dv chk g b d k R = some O → ∀ q, co q R = co q (prodK mul O g)
  | k, [], O, h, q => by
    cases k <;> simp [divGo] at h <;> subst h <;> rfl
  | 0, x :: R, O, h, _ => by simp [divGo] at h
  | k + 1, x :: R, O, h, q => by
    simp only [divGo] at h
    split at h
    · obtain ⟨O', h2, h3⟩ := Option.map_eq_some_iff.1 h
      subst h3
      have h4 := divGo_exact k _ O' h2 q
      rw [nf_co, co_append, co_mulT_neg] at h4
      simp only [prodK, List.flatMap_cons, co_append]
      simp only [prodK] at h4
      omega
    · simp at h
theorem tmod_tdiv {a d : Int} (h : a.tmod d = 0) : a.tdiv d * d = a := by
  have := Int.mul_tdiv_add_tmod a d
  rw [h, Int.mul_comm] at this
  omega
/-- Behind a step all keys are less. -/
theorem step_less (ho : Ord lt) (ha : Act lt mul dv D) {x : K × Int} {R : List (K × Int)} {G : List (K × Int)} (hR : Desc lt (x :: R)) (hRD : ∀ y ∈ x :: R, D y.1) (hg : Desc lt ((b, d) :: G)) (hgD : ∀ y ∈ (b, d) :: G, D y.1) (hm : x.2.tmod d = 0) :
    (∀ y ∈ nf lt (x :: R ++ mulT mul (dv x.1 b) (-(x.2.tdiv d)) ((b, d) :: G)), lt y.1 x.1 = true ∧ D y.1) := by
  intro y hy
  have hb := hgD (b, d) (by simp)
  have hx := hRD x (by simp)
  have hdv := ha.ddv x.1 b hx hb
  have key : D y.1 ∧ (y.1 = x.1 ∨ lt y.1 x.1 = true) := by
    obtain ⟨z, hz, e⟩ := nf_mem hy
    rw [← e]
    rcases List.mem_append.1 hz with hz | hz
    · refine ⟨hRD z hz, ?_⟩
      rcases List.mem_cons.1 hz with rfl | hz
      · exact .inl rfl
      · exact .inr (List.rel_of_pairwise_cons hR hz)
    · obtain ⟨u, hu, rfl⟩ := List.mem_map.1 hz
      refine ⟨ha.dmul _ _ hdv (hgD u hu), ?_⟩
      rcases List.mem_cons.1 hu with rfl | hu2
      · exact .inl (ha.mul_dv _ _ hx hb)
      · right
        have := ha.mul_lt (dv x.1 b) u.1 b hdv (hgD u hu) hb (List.rel_of_pairwise_cons hg hu2)
        rwa [ha.mul_dv _ _ hx hb] at this
  refine ⟨?_, key.1⟩
  rcases key.2 with e | h
  · exfalso
    have hz := nf_nz _ y hy
    have h1 : co y.1 (nf lt (x :: R ++ mulT mul (dv x.1 b) (-(x.2.tdiv d)) ((b, d) :: G))) = y.2 := by
      have hd := nf_desc ho (x :: R ++ mulT mul (dv x.1 b) (-(x.2.tdiv d)) ((b, d) :: G))
      generalize nf lt (x :: R ++ mulT mul (dv x.1 b) (-(x.2.tdiv d)) ((b, d) :: G)) = N at hy hd
      clear hz e key
      induction N with
      | nil => simp at hy
      | cons z N ih =>
        simp only [co]
        rcases List.mem_cons.1 hy with rfl | hy2
        · rw [if_pos rfl, co_none _ _ (desc_tail_ne ho hd)]
          omega
        · rw [if_neg (fun e => desc_tail_ne ho hd y hy2 e.symm), ih hy2 (List.Pairwise.of_cons hd)]
          omega
    rw [nf_co, co_append, co_mulT_neg, e] at h1
    simp only [co, if_pos, mulT, List.map_cons, ha.mul_dv _ _ hx hb] at h1
    rw [co_none _ R (desc_tail_ne ho hR), co_none x.1 _ (fun z hz => ?_), tmod_tdiv hm] at h1
    · exact hz (by omega)
    · obtain ⟨u, hu, rfl⟩ := List.mem_map.1 hz
      have h2 := ha.mul_lt (dv x.1 b) u.1 b hdv (hgD u (by simp [hu])) hb (List.rel_of_pairwise_cons hg hu)
      rw [ha.mul_dv _ _ hx hb] at h2
      intro e3
      simp only at e3
      rw [e3, ho.irr] at h2
      simp at h2
  · exact h
/-- What is found descends, and lies below what was divided. -/
theorem divGo_desc (ho : Ord lt) (ha : Act lt mul dv D) {G : List (K × Int)} (hg : Desc lt ((b, d) :: G)) (hgD : ∀ y ∈ (b, d) :: G, D y.1) : ∀ (k : Nat) (R O : List (K × Int)), divGo lt mul dv chk ((b, d) :: G) b d k R = some O → Desc lt R → (∀ y ∈ R, D y.1) →
    Desc lt O ∧ (∀ x ∈ O, D x.1) ∧ ∀ u, D u → (∀ y ∈ R, lt y.1 u = true) → ∀ x ∈ O, lt x.1 (dv u b) = true
  | k, [], O, h, _, _ => by
    have e : O = [] := by cases k <;> simp [divGo] at h <;> exact h
    subst e
    exact ⟨List.Pairwise.nil, by simp, by simp⟩
  | 0, x :: R, O, h, _, _ => by simp [divGo] at h
  | k + 1, x :: R, O, h, hR, hRD => by
    simp only [divGo] at h
    split at h
    · rename_i h1
      obtain ⟨O', h2, h3⟩ := Option.map_eq_some_iff.1 h
      subst h3
      have hl := step_less ho ha hR hRD hg hgD h1.1
      have hb := hgD (b, d) (by simp)
      have hx := hRD x (by simp)
      obtain ⟨i1, i2, i3⟩ := divGo_desc ho ha hg hgD k _ O' h2 (nf_desc ho _) fun y hy => (hl y hy).2
      have i4 := i3 x.1 hx fun y hy => (hl y hy).1
      refine ⟨List.Pairwise.cons (fun y hy => i4 y hy) i1, fun y hy => ?_, fun u hu hlu y hy => ?_⟩
      · rcases List.mem_cons.1 hy with rfl | hy
        · exact ha.ddv _ _ hx hb
        · exact i2 y hy
      · have h5 := ha.dv_lt x.1 u b hx hu hb (hlu x (by simp))
        rcases List.mem_cons.1 hy with rfl | hy
        · exact h5
        · exact ho.tr _ _ _ (i4 y hy) h5
    · simp at h
theorem co_single (ho : Ord lt) : ∀ {l : List (K × Int)} {x : K × Int}, Desc lt l → x ∈ l → co x.1 l = x.2
  | [], x, _, h => by simp at h
  | z :: l, x, hd, h => by
    simp only [co]
    rcases List.mem_cons.1 h with rfl | h2
    · rw [if_pos rfl, co_none _ _ (desc_tail_ne ho hd)]
      omega
    · rw [if_neg (fun e => desc_tail_ne ho hd x h2 e.symm), co_single ho (List.Pairwise.of_cons hd) h2]
      omega
/-- Where just one pair of terms makes a key, that key's number is the product. -/
theorem co_pair2 (ho : Ord lt) : ∀ {O g : List (K × Int)} {x y : K × Int}, Desc lt O → Desc lt g → x ∈ O → y ∈ g → (∀ u ∈ O, ∀ v ∈ g, mul u.1 v.1 = mul x.1 y.1 → u = x ∧ v = y) → co (mul x.1 y.1) (prodK mul O g) = x.2 * y.2 := by
  intro O g x y hO hg hx hy hu
  have row : ∀ u ∈ O, co (mul x.1 y.1) (mulT mul u.1 u.2 g) = if u = x then x.2 * y.2 else 0 := by
    intro u huO
    by_cases e : u = x
    · rw [if_pos e]
      subst e
      have : ∀ l : List (K × Int), Desc lt l → (∀ v ∈ l, v ∈ g) → co (mul u.1 y.1) (mulT mul u.1 u.2 l) = if y ∈ l then u.2 * y.2 else 0 := by
        intro l
        induction l with
        | nil => intro _ _; simp [mulT, co]
        | cons z l ih =>
          intro hd hs
          have h1 := ih (List.Pairwise.of_cons hd) fun v hv => hs v (by simp [hv])
          simp only [mulT, List.map_cons, co] at h1 ⊢
          rw [h1]
          by_cases e2 : z = y
          · subst e2
            have : z ∉ l := fun hz => desc_tail_ne ho hd z hz rfl
            rw [if_pos rfl, if_neg this, if_pos (by simp)]
            omega
          · rw [if_neg (fun e3 => e2 (hu u hx z (hs z (by simp)) e3).2)]
            by_cases e4 : y ∈ l
            · rw [if_pos e4, if_pos (by simp [e4])]; omega
            · rw [if_neg e4, if_neg (by simp [e4, Ne.symm e2])]; rfl
      rw [this g hg fun _ h => h, if_pos hy]
    · rw [if_neg e]
      refine co_none _ _ fun z hz => ?_
      obtain ⟨v, hv, rfl⟩ := List.mem_map.1 hz
      exact fun e3 => e (hu u huO v hv e3).1
  have : ∀ l : List (K × Int), Desc lt l → (∀ u ∈ l, u ∈ O) → co (mul x.1 y.1) (prodK mul l g) = if x ∈ l then x.2 * y.2 else 0 := by
    intro l
    induction l with
    | nil => intro _ _; simp [prodK, co]
    | cons z l ih =>
      intro hd hs
      have h1 := ih (List.Pairwise.of_cons hd) fun v hv => hs v (by simp [hv])
      simp only [prodK, List.flatMap_cons, co_append] at h1 ⊢
      rw [h1, row z (hs z (by simp))]
      by_cases e2 : z = x
      · subst e2
        have : z ∉ l := fun hz => desc_tail_ne ho hd z hz rfl
        rw [if_pos rfl, if_neg this, if_pos (by simp)]
        omega
      · rw [if_neg e2]
        by_cases e4 : x ∈ l
        · rw [if_pos e4, if_pos (by simp [e4])]; omega
        · rw [if_neg e4, if_neg (by simp [e4, Ne.symm e2])]; rfl
  rw [this O hO fun _ h => h, if_pos hx]
/-! ### How great numbers become -/
def absK (l : List (K × Int)) : Nat := (l.map fun x => x.2.natAbs).sum
theorem absK_append (l r : List (K × Int)) : absK (l ++ r) = absK l + absK r := by simp [absK]
theorem insK_abs (k : K) (c : Int) : ∀ l : List (K × Int), absK (insK lt k c l) ≤ c.natAbs + absK l ∧ (insK lt k c l).length ≤ l.length + 1
  | [] => by
    simp only [insK]
    split <;> simp [absK]
  | x :: l => by
    have ih := insK_abs k c l
    simp only [insK]
    split
    · split
      · simp [absK]; omega
      · simp [absK]; omega
    · split
      · split
        · simp [absK]
        · simp [absK]
      · simp only [absK, List.map_cons, List.sum_cons, List.length_cons] at ih ⊢
        omega
theorem nf_abs : ∀ l : List (K × Int), absK (nf lt l) ≤ absK l ∧ (nf lt l).length ≤ l.length
  | [] => by simp [nf, absK]
  | x :: l => by
    have ih := nf_abs l
    have h := insK_abs (lt := lt) x.1 x.2 (nf lt l)
    simp only [nf]
    simp only [absK, List.map_cons, List.sum_cons, List.length_cons] at ih h ⊢
    omega
theorem mulT_abs (e : K) (q : Int) : ∀ g : List (K × Int), absK (mulT mul e q g) = q.natAbs * absK g
  | [] => rfl
  | y :: g => by
    have := mulT_abs e q g
    simp only [absK, mulT, List.map_cons, List.sum_cons, List.map_map] at this ⊢
    rw [Int.natAbs_mul, Nat.mul_add]
    omega
@[simp] theorem mulT_length (e : K) (q : Int) (g : List (K × Int)) : (mulT mul e q g).length = g.length := by simp [mulT]
end
end Go.Proofs.Ytdgeponcnlkaiaa.Ab
namespace Go.Proofs.Ytdgeponcnlkaiaa.Ab
open Go
set_option linter.unusedSimpArgs false
set_option linter.unusedVariables false
set_option maxRecDepth 10000
set_option maxHeartbeats 2000000
theorem sz_small {ts : List Trm} {r : Int} (h0 : 0 ≤ r) (h : r + szT ts = 1048576) : ts.length ≤ 1048576 ∧ ∀ t ∈ ts, t.e.length ≤ 1048576 := by
  unfold szT at h
  refine ⟨by omega, fun t ht => ?_⟩
  have : t.e.length ≤ cntL (fun t : Trm => t.e.length) ts := by
    clear h
    induction ts with
    | nil => simp at ht
    | cons x ts ih =>
      simp only [cntL]
      rcases List.mem_cons.1 ht with rfl | ht
      · omega
      · have := ih ht; omega
  omega
theorem sz_cnt {ts : List Trm} {r : Int} (h0 : 0 ≤ r) (h : r + szT ts = 1048576) : cntL cntT ts ≤ 1048576 := by
  have : ∀ ts : List Trm, cntL cntT ts = szT ts := fun ts => by
    induction ts with
    | nil => rfl
    | cons x ts ih =>
      simp only [szT, cntL, cntT, List.length_cons] at ih ⊢
      omega
  rw [this]
  omega
theorem sz_small2 {ts : List Trm} {r : Int} (h0 : 0 ≤ r) (h : r + szT ts ≤ 1048576) : ts.length ≤ 1048576 ∧ ∀ t ∈ ts, t.e.length ≤ 1048576 := by
  have := sz_small (ts := ts) (r := 1048576 - szT ts) (by omega) (by omega)
  exact this
theorem sz_cnt2 {ts : List Trm} {r : Int} (h0 : 0 ≤ r) (h : r + szT ts ≤ 1048576) : cntL cntT ts ≤ 1048576 := sz_cnt (r := 1048576 - szT ts) (by omega) (by omega)
def SmallF (g : Lau) : Prop := g.ts.length ≤ 600 ∧ (∀ t ∈ g.ts, t.e.length ≤ 8) ∧ cntL cntT g.ts ≤ 5400
theorem small_right {g : Lau} (h : Right g) : SmallF g := by
  have he : ∀ t ∈ g.ts, t.e.length ≤ 8 := fun t ht => by have := (h.2.2.1 t ht).1; have := h.1; omega
  refine ⟨h.2.1, he, ?_⟩
  have : ∀ ts : List Trm, (∀ t ∈ ts, t.e.length ≤ 8) → cntL cntT ts ≤ ts.length * 9 := fun ts => by
    induction ts with
    | nil => intro _; simp [cntL]
    | cons x ts ih =>
      intro h
      have h1 := h x (by simp)
      have h2 := ih fun y hy => h y (by simp [hy])
      simp only [cntL, cntT, List.length_cons]
      omega
  have h2 := this g.ts he
  have := h.2.1
  omega
theorem small_zero : SmallF zeroF := by simp [SmallF, zeroF, cntL]
theorem powF_right (f : Lau) (n : Int) : Right (powF f n).1 ∨ powF f n = (zeroF, false) := by
  unfold powF
  split
  · rename_i h
    split
    · rename_i g hg
      exact .inl (powL_right h.1 _ g hg)
    · exact .inr rfl
  · exact .inr rfl
theorem powF_small (f : Lau) (n : Int) : SmallF (powF f n).1 := by
  rcases powF_right f n with h | h
  · exact small_right h
  · rw [h]; exact small_zero
theorem laws_FnExactPowerLaurent_calls (hMul : MulOk) (f : Lau) (n : Int) (hx : f.ts.length < 4611686018427387904) (hxe : ∀ t ∈ f.ts, t.e.length < 4611686018427387904) : ACalls Try.prog F.laws_FnExactPowerLaurent [aF f, .int n] [] true (fun outs res => outs = [] ∧ res = [.one (D.bool true)]) := by
  have hgs := powF_small f n
  have hw := sPow_calls f n hx hxe
  have hg := iPow_calls hMul f n hx hxe
  generalize powF f n = g at hgs hw hg
  obtain ⟨g, b⟩ := g
  obtain ⟨hg1, hg2, hg3⟩ := hgs
  dsimp only at hg1 hg2 hg3 hw hg
  refine ACalls.of_body (C := C.laws_FnExactPowerLaurent) (n := Try.f8.ntmps) tabT folT Try.func8 rfl (by kernel_rfl) rfl (Nat.le_of_ble_eq_true rfl) (by decide) (by kernel_rfl) (by kernel_rfl) rfl (by simp) (by simp) ?_
  simp only [Try.f8]
  refine wseq ?_
  refine wreg fun K hK => ?_
  simp [C.laws_FnExactPowerLaurent, fO]
  refine hK _ ?_; clear hK K
  show AWp _ _ _ _ _
  refine wseq ?_
  refine wreg fun K hK => ?_
  simp [C.laws_FnExactPowerLaurent, fO]
  refine hK _ ?_; clear hK K
  show AWp _ _ _ _ _
  refine wseq ?_
  refine wregI ([0, 1, 2] ++ ([3])) rfl fun K hK => ?_
  refine opsI_seg fun L hL => ?_
  simp [C.laws_FnExactPowerLaurent, fO]
  refine wcall (laws_szLaurent_calls f 1048576 (by omega) (by omega) hx hxe) (by simp) (by simp) (by simp) ?_
  rintro outs res ⟨rfl, r, rfl, hr⟩
  simp [C.laws_FnExactPowerLaurent, fO]
  refine hL _ ?_; clear hL L
  refine opsI_end fun L hL => ?_
  simp [C.laws_FnExactPowerLaurent, fO]
  refine hL _ ?_; clear hL L
  simp [C.laws_FnExactPowerLaurent, fO]
  refine hK _ ?_; clear hK K
  show AWp _ _ _ _ _
  refine wseq ?_
  refine wseq ?_
  refine wreg fun K hK => ?_
  simp [C.laws_FnExactPowerLaurent, fO]
  refine hK _ ?_; clear hK K
  show AWp _ _ _ _ _
  refine wcond _ rfl (fun hc1 => ?_) (fun hc1 => ?_)
  · refine wseq ?_
    refine wreg fun K hK => ?_
    simp [C.laws_FnExactPowerLaurent, fO]
    refine hK _ ?_; clear hK K
    show AWp _ _ _ _ _
    refine wret ?_
    simp [C.laws_FnExactPowerLaurent, fO]
  · have hr0 : 0 ≤ r := by have := d_f hc1; omega
    obtain ⟨hl, he⟩ := sz_small (ts := f.ts) hr0 (by omega)
    have hk : cntL cntT f.ts ≤ 1048576 := sz_cnt hr0 (by omega)
    refine wskip ?_
    show AWp _ _ _ _ _
    refine wseq ?_
    refine wregI ([0, 1] ++ ([2, 3] ++ ([4, 5, 6, 7, 8, 9]))) rfl fun K hK => ?_
    refine opsI_seg fun L hL => ?_
    simp [C.laws_FnExactPowerLaurent, fO]
    refine wcall1 (laws_toLaurent_calls f hl he) (by simp) (by simp) ?_
    simp [C.laws_FnExactPowerLaurent, fO]
    refine hL _ ?_; clear hL L
    refine opsI_seg fun L hL => ?_
    simp [C.laws_FnExactPowerLaurent, fO]
    refine wcall1 (hw) (by simp) (by simp) ?_
    simp [C.laws_FnExactPowerLaurent, fO]
    refine hL _ ?_; clear hL L
    refine opsI_end fun L hL => ?_
    simp [C.laws_FnExactPowerLaurent, fO]
    refine hL _ ?_; clear hL L
    simp [C.laws_FnExactPowerLaurent, fO]
    refine hK _ ?_; clear hK K
    show AWp _ _ _ _ _
    refine wseq ?_
    refine wregI ([0, 1] ++ ([2, 3])) rfl fun K hK => ?_
    refine opsI_seg fun L hL => ?_
    simp [C.laws_FnExactPowerLaurent, fO]
    refine wcall1 (laws_toLaurent_calls f hl he) (by simp) (by simp) ?_
    simp [C.laws_FnExactPowerLaurent, fO]
    refine hL _ ?_; clear hL L
    refine opsI_end fun L hL => ?_
    simp [C.laws_FnExactPowerLaurent, fO]
    refine hL _ ?_; clear hL L
    simp [C.laws_FnExactPowerLaurent, fO]
    refine hK _ ?_; clear hK K
    show AWp _ _ _ _ _
    refine wseq ?_
    refine wregI ([0, 1, 2] ++ ([3, 4, 5, 6, 7, 8])) rfl fun K hK => ?_
    refine opsI_seg fun L hL => ?_
    simp [C.laws_FnExactPowerLaurent, fO]
    refine wcall1 (hg) (by simp) (by simp) ?_
    simp [C.laws_FnExactPowerLaurent, fO]
    refine hL _ ?_; clear hL L
    refine opsI_end fun L hL => ?_
    simp [C.laws_FnExactPowerLaurent, fO]
    refine hL _ ?_; clear hL L
    simp [C.laws_FnExactPowerLaurent, fO]
    refine hK _ ?_; clear hK K
    show AWp _ _ _ _ _
    refine wseq ?_
    refine wseq ?_
    refine wregI ([0, 1, 2] ++ ([3, 4, 5, 6, 7, 8])) rfl fun K hK => ?_
    refine opsI_seg fun L hL => ?_
    simp [C.laws_FnExactPowerLaurent, fO]
    refine wcall1 (laws_eqLaurent_calls g g (by omega) (fun t ht => by have := hg2 t ht; omega)) (by simp) (by simp) ?_
    simp [C.laws_FnExactPowerLaurent, fO]
    refine hL _ ?_; clear hL L
    refine opsI_end fun L hL => ?_
    simp [C.laws_FnExactPowerLaurent, fO]
    refine hL _ ?_; clear hL L
    simp [C.laws_FnExactPowerLaurent, fO]
    refine hK _ ?_; clear hK K
    show AWp _ _ _ _ _
    refine wcond _ rfl (fun hc2 => ?_) (fun hc2 => ?_)
    · simp at hc2
    · refine wskip ?_
      show AWp _ _ _ _ _
      refine wseq ?_
      refine wseq ?_
      refine wdrawI [(true, 0), (true, 1), (false, 2), (false, 3), (true, 4)] ⟨by kernel_rfl, by kernel_rfl⟩ ([0, 1, 2] ++ ([3] ++ ([4]))) rfl fun K hK => ?_
      refine opsI_seg fun L hL => ?_
      simp [C.laws_FnExactPowerLaurent, fO]
      refine wcall1 (laws_toLaurent_calls f hl he) (by simp) (by simp) ?_
      simp [C.laws_FnExactPowerLaurent, fO]
      refine hL _ ?_; clear hL L
      refine opsI_seg fun L hL => ?_
      simp [C.laws_FnExactPowerLaurent, fO]
      refine wcall1 (laws_eqLaurent_calls f f hx hxe) (by simp) (by simp) ?_
      simp [C.laws_FnExactPowerLaurent, fO]
      refine hL _ ?_; clear hL L
      refine opsI_end fun L hL => ?_
      simp [C.laws_FnExactPowerLaurent, fO]
      refine hL _ ?_; clear hL L
      simp [C.laws_FnExactPowerLaurent, fO]
      refine hK _ ?_; clear hK K
      show AWp _ _ _ _ _
      refine wcond _ rfl (fun hc3 => ?_) (fun hc3 => ?_)
      · simp at hc3
      · refine wskip ?_
        show AWp _ _ _ _ _
        refine wseq ?_
        refine wreg fun K hK => ?_
        simp [C.laws_FnExactPowerLaurent, fO]
        refine hK _ ?_; clear hK K
        show AWp _ _ _ _ _
        refine wseq ?_
        refine wregI ([0, 1, 2] ++ ([3])) rfl fun K hK => ?_
        refine opsI_seg fun L hL => ?_
        simp [C.laws_FnExactPowerLaurent, fO]
        refine wcall1 (laws_markLaurent_calls f 1 (by omega) (by omega) hx) (by simp) (by simp) ?_
        simp [C.laws_FnExactPowerLaurent, fO]
        refine hL _ ?_; clear hL L
        refine opsI_end fun L hL => ?_
        simp [C.laws_FnExactPowerLaurent, fO]
        refine hL _ ?_; clear hL L
        simp [C.laws_FnExactPowerLaurent, fO]
        refine hK _ ?_; clear hK K
        show AWp _ _ _ _ _
        refine wseq ?_
        refine wseq ?_
        refine wregI ([0, 1, 2, 3, 4, 5] ++ ([6, 7, 8, 9, 10, 11, 12])) rfl fun K hK => ?_
        refine opsI_seg fun L hL => ?_
        simp [C.laws_FnExactPowerLaurent, fO, show (0 : Int) ≤ 1 + (cntL cntT f.ts : Nat) by omega, show ¬ ((1 : Int) + (cntL cntT f.ts : Nat) < 0) by omega]
        refine wcall1 (laws_eqLaurent_calls g g (by omega) (fun t ht => by have := hg2 t ht; omega)) (by simp) (by simp) ?_
        simp [C.laws_FnExactPowerLaurent, fO, show (0 : Int) ≤ 1 + (cntL cntT f.ts : Nat) by omega, show ¬ ((1 : Int) + (cntL cntT f.ts : Nat) < 0) by omega]
        refine hL _ ?_; clear hL L
        refine opsI_end fun L hL => ?_
        simp [C.laws_FnExactPowerLaurent, fO, show (0 : Int) ≤ 1 + (cntL cntT f.ts : Nat) by omega, show ¬ ((1 : Int) + (cntL cntT f.ts : Nat) < 0) by omega]
        refine hL _ ?_; clear hL L
        simp [C.laws_FnExactPowerLaurent, fO, show (0 : Int) ≤ 1 + (cntL cntT f.ts : Nat) by omega, show ¬ ((1 : Int) + (cntL cntT f.ts : Nat) < 0) by omega]
        refine hK _ ?_; clear hK K
        show AWp _ _ _ _ _
        refine wcond _ rfl (fun hc4 => ?_) (fun hc4 => ?_)
        · simp at hc4
        · refine wskip ?_
          show AWp _ _ _ _ _
          refine wseq ?_
          refine wreg fun K hK => ?_
          simp [C.laws_FnExactPowerLaurent, fO]
          refine hK _ ?_; clear hK K
          show AWp _ _ _ _ _
          refine wseq ?_
          refine wregI ([0, 1, 2] ++ ([3])) rfl fun K hK => ?_
          refine opsI_seg fun L hL => ?_
          simp [C.laws_FnExactPowerLaurent, fO]
          refine wcall1 (laws_markLaurent_calls g 1 (by omega) (by omega) (by omega)) (by simp) (by simp) ?_
          simp [C.laws_FnExactPowerLaurent, fO]
          refine hL _ ?_; clear hL L
          refine opsI_end fun L hL => ?_
          simp [C.laws_FnExactPowerLaurent, fO]
          refine hL _ ?_; clear hL L
          simp [C.laws_FnExactPowerLaurent, fO]
          refine hK _ ?_; clear hK K
          show AWp _ _ _ _ _
          refine wseq ?_
          refine wreg fun K hK => ?_
          simp [C.laws_FnExactPowerLaurent, fO]
          refine hK _ ?_; clear hK K
          show AWp _ _ _ _ _
          refine wseq ?_
          refine wregI ([0, 1, 2] ++ ([3])) rfl fun K hK => ?_
          refine opsI_seg fun L hL => ?_
          simp [C.laws_FnExactPowerLaurent, fO]
          refine wcall1 (laws_heldLaurent_calls g.v g.ts 1 (by omega) (by omega) (by omega)) (by simp) (by simp) ?_
          simp [C.laws_FnExactPowerLaurent, fO]
          refine hL _ ?_; clear hL L
          refine opsI_end fun L hL => ?_
          simp [C.laws_FnExactPowerLaurent, fO]
          refine hL _ ?_; clear hL L
          simp [C.laws_FnExactPowerLaurent, fO]
          refine hK _ ?_; clear hK K
          show AWp _ _ _ _ _
          refine wseq ?_
          refine wseq ?_
          refine wreg fun K hK => ?_
          simp [C.laws_FnExactPowerLaurent, fO]
          refine hK _ ?_; clear hK K
          show AWp _ _ _ _ _
          refine wcond _ rfl (fun hc5 => ?_) (fun hc5 => ?_)
          · have := d_t hc5; omega
          · refine wskip ?_
            show AWp _ _ _ _ _
            refine wseq ?_
            refine wseq ?_
            refine wreg fun K hK => ?_
            simp [C.laws_FnExactPowerLaurent, fO]
            refine hK _ ?_; clear hK K
            show AWp _ _ _ _ _
            refine wcond _ rfl (fun hc6 => ?_) (fun hc6 => ?_)
            · simp at hc6
            · refine wskip ?_
              show AWp _ _ _ _ _
              refine wseq ?_
              refine wregI ([0, 1] ++ ([2, 3] ++ ([4, 5, 6, 7, 8, 9]))) rfl fun K hK => ?_
              refine opsI_seg fun L hL => ?_
              simp [C.laws_FnExactPowerLaurent, fO]
              refine wcall1 (laws_toLaurent_calls f hl he) (by simp) (by simp) ?_
              simp [C.laws_FnExactPowerLaurent, fO]
              refine hL _ ?_; clear hL L
              refine opsI_seg fun L hL => ?_
              simp [C.laws_FnExactPowerLaurent, fO]
              refine wcall1 (hg) (by simp) (by simp) ?_
              simp [C.laws_FnExactPowerLaurent, fO]
              refine hL _ ?_; clear hL L
              refine opsI_end fun L hL => ?_
              simp [C.laws_FnExactPowerLaurent, fO]
              refine hL _ ?_; clear hL L
              simp [C.laws_FnExactPowerLaurent, fO]
              refine hK _ ?_; clear hK K
              show AWp _ _ _ _ _
              refine wseq ?_
              refine wseq ?_
              refine wregI ([0, 1, 2] ++ ([3, 4, 5, 6, 7, 8])) rfl fun K hK => ?_
              refine opsI_seg fun L hL => ?_
              simp [C.laws_FnExactPowerLaurent, fO]
              refine wcall1 (laws_eqLaurent_calls g g (by omega) (fun t ht => by have := hg2 t ht; omega)) (by simp) (by simp) ?_
              simp [C.laws_FnExactPowerLaurent, fO]
              refine hL _ ?_; clear hL L
              refine opsI_end fun L hL => ?_
              simp [C.laws_FnExactPowerLaurent, fO]
              refine hL _ ?_; clear hL L
              simp [C.laws_FnExactPowerLaurent, fO]
              refine hK _ ?_; clear hK K
              show AWp _ _ _ _ _
              refine wcond _ rfl (fun hc7 => ?_) (fun hc7 => ?_)
              · simp at hc7
              · refine wskip ?_
                show AWp _ _ _ _ _
                refine wseq ?_
                refine wreg fun K hK => ?_
                simp [C.laws_FnExactPowerLaurent, fO]
                refine hK _ ?_; clear hK K
                show AWp _ _ _ _ _
                refine wseq ?_
                refine wregI ([0, 1, 2] ++ ([3])) rfl fun K hK => ?_
                refine opsI_seg fun L hL => ?_
                simp [C.laws_FnExactPowerLaurent, fO]
                refine wcall1 (laws_heldLaurent_calls g.v g.ts 1 (by omega) (by omega) (by omega)) (by simp) (by simp) ?_
                simp [C.laws_FnExactPowerLaurent, fO]
                refine hL _ ?_; clear hL L
                refine opsI_end fun L hL => ?_
                simp [C.laws_FnExactPowerLaurent, fO]
                refine hL _ ?_; clear hL L
                simp [C.laws_FnExactPowerLaurent, fO]
                refine hK _ ?_; clear hK K
                show AWp _ _ _ _ _
                refine wseq ?_
                refine wseq ?_
                refine wreg fun K hK => ?_
                simp [C.laws_FnExactPowerLaurent, fO]
                refine hK _ ?_; clear hK K
                show AWp _ _ _ _ _
                refine wcond _ rfl (fun hc8 => ?_) (fun hc8 => ?_)
                · have := d_t hc8; omega
                · refine wskip ?_
                  show AWp _ _ _ _ _
                  refine wseq ?_
                  refine wseq ?_
                  refine wreg fun K hK => ?_
                  simp [C.laws_FnExactPowerLaurent, fO]
                  refine hK _ ?_; clear hK K
                  show AWp _ _ _ _ _
                  refine wcond _ rfl (fun hc9 => ?_) (fun hc9 => ?_)
                  · simp at hc9
                  · refine wskip ?_
                    show AWp _ _ _ _ _
                    refine wseq ?_
                    refine wreg fun K hK => ?_
                    simp [C.laws_FnExactPowerLaurent, fO]
                    refine hK _ ?_; clear hK K
                    show AWp _ _ _ _ _
                    refine wret ?_
                    simp [C.laws_FnExactPowerLaurent, fO]

end Go.Proofs.Ytdgeponcnlkaiaa.Ab
namespace Go.Proofs.Ytdgeponcnlkaiaa.Ab
open Go
set_option linter.unusedSimpArgs false
set_option linter.unusedVariables false
set_option maxRecDepth 10000
set_option maxHeartbeats 1000000
abbrev aM (m : Mat) : FV := .ag [.int m.n, .int m.r, .d (shI m.d)]
abbrev aS (s : Sed) : FV := .ag [.int s.m.n, .int s.m.r, .d (shI s.m.d), .d (.sh 2 s.f.length (rows fS s.f))]
abbrev aZ (z : Ses) : FV := .ag [.int z.a.n, .int z.a.r, .d (shI z.a.d), .d (shI z.k), .int z.s.m.n, .int z.s.m.r, .d (shI z.s.m.d), .d (.sh 2 z.s.f.length (rows fS z.s.f))]
theorem mat_eq {a b : Mat} : a = b ↔ a.n = b.n ∧ a.r = b.r ∧ a.d = b.d := by
  cases a; cases b; simp
theorem sed_eq {a b : Sed} : a = b ↔ a.m = b.m ∧ a.f = b.f := by
  cases a; cases b; simp
theorem ses_eq {a b : Ses} : a = b ↔ a.a = b.a ∧ a.k = b.k ∧ a.s = b.s := by
  cases a; cases b; simp
def SmF (f : Lau) : Prop := f.ts.length < 4611686018427387904 ∧ ∀ t ∈ f.ts, t.e.length < 4611686018427387904
def SmS (s : Sed) : Prop := s.m.d.length < 4611686018427387904 ∧ s.f.length < 4611686018427387904 ∧ ∀ f ∈ s.f, SmF f
def SmZ (z : Ses) : Prop := z.a.d.length < 4611686018427387904 ∧ z.k.length < 4611686018427387904 ∧ SmS z.s
theorem laws_eqMatrix_calls (a b : Mat) (hx : a.d.length < 4611686018427387904) : ACalls Try.prog F.laws_eqMatrix [aM a, aM b] [] true (fun outs res => outs = [] ∧ res = [.one (D.bool (decide (a = b)))]) := by
  refine ACalls.of_body (C := C.laws_eqMatrix) (n := Try.f78.ntmps) tabT folT Try.func78 rfl (by kernel_rfl) rfl (Nat.le_of_ble_eq_true rfl) (by decide) (by kernel_rfl) (by kernel_rfl) rfl (by simp) (by simp) ?_
  simp only [Try.f78]
  refine wseq ?_
  refine wreg fun K hK => ?_
  simp [C.laws_eqMatrix]
  refine hK _ ?_; clear hK K
  show AWp _ _ _ _ _
  refine wseq ?_
  refine wseq ?_
  refine wreg fun K hK => ?_
  simp [C.laws_eqMatrix]
  refine hK _ ?_; clear hK K
  show AWp _ _ _ _ _
  refine wcond _ rfl (fun hc1 => ?_) (fun hc1 => ?_)
  · refine wseq ?_
    refine wreg fun K hK => ?_
    simp [C.laws_eqMatrix]
    refine hK _ ?_; clear hK K
    show AWp _ _ _ _ _
    refine wret ?_
    simp at hc1
    simp [C.laws_eqMatrix, mat_eq, hc1]
  · refine wskip ?_
    show AWp _ _ _ _ _
    refine wseq ?_
    refine wseq ?_
    refine wreg fun K hK => ?_
    simp [C.laws_eqMatrix]
    refine hK _ ?_; clear hK K
    show AWp _ _ _ _ _
    refine wcond _ rfl (fun hc2 => ?_) (fun hc2 => ?_)
    · refine wseq ?_
      refine wreg fun K hK => ?_
      simp [C.laws_eqMatrix]
      refine hK _ ?_; clear hK K
      show AWp _ _ _ _ _
      refine wret ?_
      simp at hc2
      simp [C.laws_eqMatrix, mat_eq, hc2]
    · refine wskip ?_
      show AWp _ _ _ _ _
      refine wseq ?_
      refine wseq ?_
      refine wregI ([0, 1, 2, 3, 4] ++ ([5])) rfl fun K hK => ?_
      refine opsI_seg fun L hL => ?_
      simp [C.laws_eqMatrix]
      refine wcall1 (laws_eqIntS_calls a.d b.d hx) (by simp) (by simp) ?_
      simp [C.laws_eqMatrix]
      refine hL _ ?_; clear hL L
      refine opsI_end fun L hL => ?_
      simp [C.laws_eqMatrix]
      refine hL _ ?_; clear hL L
      simp [C.laws_eqMatrix]
      refine hK _ ?_; clear hK K
      show AWp _ _ _ _ _
      refine wcond _ rfl (fun hc3 => ?_) (fun hc3 => ?_)
      · refine wseq ?_
        refine wreg fun K hK => ?_
        simp [C.laws_eqMatrix]
        refine hK _ ?_; clear hK K
        show AWp _ _ _ _ _
        refine wret ?_
        simp at hc3
        simp [C.laws_eqMatrix, mat_eq, hc3]
      · refine wskip ?_
        show AWp _ _ _ _ _
        refine wseq ?_
        refine wreg fun K hK => ?_
        simp [C.laws_eqMatrix]
        refine hK _ ?_; clear hK K
        show AWp _ _ _ _ _
        refine wret ?_
        simp at hc1 hc2 hc3
        simp [C.laws_eqMatrix, mat_eq, hc1, hc2, hc3]

theorem laws_eqLaurentS_calls (xs ys : List Lau) (hx : xs.length < 4611686018427387904) (hx2 : ∀ t ∈ xs, SmF t) : ACalls Try.prog F.laws_eqLaurentS [.d (.sh 2 xs.length (rows fS xs)), .d (.sh 2 ys.length (rows fS ys))] [] true (fun outs res => outs = [] ∧ res = [.one (D.bool (decide (xs = ys)))]) := by
  refine ACalls.of_body (C := C.laws_eqLaurentS) (n := Try.f170.ntmps) tabT folT Try.func170 rfl (by kernel_rfl) rfl (Nat.le_of_ble_eq_true rfl) (by decide) (by kernel_rfl) (by kernel_rfl) rfl (by simp) (by simp) ?_
  simp only [Try.f170]
  refine wseq ?_
  refine wreg fun K hK => ?_
  simp [C.laws_eqLaurentS]
  refine hK _ ?_; clear hK K
  show AWp _ _ _ _ _
  refine wseq ?_
  refine wseq ?_
  refine wreg fun K hK => ?_
  simp [C.laws_eqLaurentS]
  refine hK _ ?_; clear hK K
  show AWp _ _ _ _ _
  refine wcond _ rfl (fun hc1 => ?_) (fun hc1 => ?_)
  · refine wseq ?_
    refine wreg fun K hK => ?_
    simp [C.laws_eqLaurentS]
    refine hK _ ?_; clear hK K
    show AWp _ _ _ _ _
    refine wret ?_
    simp at hc1
    simp [C.laws_eqLaurentS]
    intro e; simp [e] at hc1
  · refine wskip ?_
    show AWp _ _ _ _ _
    refine wseq ?_
    refine wseq ?_
    refine wreg fun K hK => ?_
    simp [C.laws_eqLaurentS]
    refine hK _ ?_; clear hK K
    show AWp _ _ _ _ _
    refine wblock ?_
    have e : xs.length = ys.length := by simp at hc1; omega
    refine wloop (fun k : Nat => ⟨ofL [(0, .d (.sh 2 xs.length (rows fS xs))), (1, .d (.sh 2 ys.length (rows fS ys))), (5, FV.int k)], ofRO []⟩) (fun k => k ≤ xs.length ∧ xs.take k = ys.take k) (fun k => xs.length - k) 0 (by simp [C.laws_eqLaurentS]) (by simp) ?_
    intro x1 hx1 R1 hR1
    obtain ⟨hk, ht⟩ := hx1
    refine wseq ?_
    refine wseq ?_
    refine wreg fun K hK => ?_
    simp [C.laws_eqLaurentS]
    refine hK _ ?_; clear hK K
    show AWp _ _ _ _ _
    refine wcond _ rfl (fun hc2 => ?_) (fun hc2 => ?_)
    · refine wskip ?_
      show AWp _ _ _ _ _
      refine wseq ?_
      refine wblock ?_
      refine wseq ?_
      have h1 : x1 < xs.length := by simpa using hc2
      have h2 : x1 < ys.length := by omega
      refine wdrawI [(true, 0), (true, 1), (true, 2), (true, 3), (true, 4), (true, 5), (true, 6), (true, 7), (false, 8), (true, 9)] ⟨by kernel_rfl, by kernel_rfl⟩ ([0, 1, 2, 3, 4, 5, 6, 7, 8] ++ ([9])) rfl fun K hK => ?_
      refine opsI_seg fun L hL => ?_
      simp [C.laws_eqLaurentS, h1, h2, fS_0 h1, fS_1 h1, fS_0 h2, fS_1 h2]
      refine wcall1 (laws_eqLaurent_calls xs[x1] ys[x1] (hx2 _ (List.getElem_mem h1)).1 (hx2 _ (List.getElem_mem h1)).2) (by simp) (by simp) ?_
      simp [C.laws_eqLaurentS, h1, h2, fS_0 h1, fS_1 h1, fS_0 h2, fS_1 h2]
      refine hL _ ?_; clear hL L
      refine opsI_end fun L hL => ?_
      simp [C.laws_eqLaurentS, h1, h2, fS_0 h1, fS_1 h1, fS_0 h2, fS_1 h2]
      refine hL _ ?_; clear hL L
      simp [C.laws_eqLaurentS, h1, h2, fS_0 h1, fS_1 h1, fS_0 h2, fS_1 h2]
      refine hK _ ?_; clear hK K
      show AWp _ _ _ _ _
      refine wcond _ rfl (fun hc3 => ?_) (fun hc3 => ?_)
      · refine wseq ?_
        refine wreg fun K hK => ?_
        simp [C.laws_eqLaurentS]
        refine hK _ ?_; clear hK K
        show AWp _ _ _ _ _
        refine wret ?_
        simp at hc3
        simp [C.laws_eqLaurentS]
        intro e; simp [e] at hc3
      · refine wskip ?_
        show AWp _ _ _ _ _
        refine wreg fun K hK => ?_
        simp [C.laws_eqLaurentS, wrap_succ (show x1 < 4611686018427387904 by omega)]
        refine hK _ ?_; clear hK K
        simp [C.laws_eqLaurentS]
        simp at hc3
        refine hR1 (x1 + 1) ⟨h1, ?_⟩ (by omega)
        rw [List.take_succ_eq_append_getElem h1, List.take_succ_eq_append_getElem h2, ht, hc3]
    · refine wexit ?_
      show AWp _ _ _ _ _
      refine wseq ?_
      refine wreg fun K hK => ?_
      simp [C.laws_eqLaurentS]
      refine hK _ ?_; clear hK K
      show AWp _ _ _ _ _
      refine wret ?_
      have hk2 : x1 = xs.length := by simp at hc2; omega
      simp [C.laws_eqLaurentS]
      rw [hk2, List.take_length, e, List.take_length] at ht
      exact ht

theorem laws_eqSeed_calls (a b : Sed) (hx : SmS a) : ACalls Try.prog F.laws_eqSeed [aS a, aS b] [] true (fun outs res => outs = [] ∧ res = [.one (D.bool (decide (a = b)))]) := by
  refine ACalls.of_body (C := C.laws_eqSeed) (n := Try.f80.ntmps) tabT folT Try.func80 rfl (by kernel_rfl) rfl (Nat.le_of_ble_eq_true rfl) (by decide) (by kernel_rfl) (by kernel_rfl) rfl (by simp) (by simp) ?_
  simp only [Try.f80]
  refine wseq ?_
  refine wreg fun K hK => ?_
  simp [C.laws_eqSeed]
  refine hK _ ?_; clear hK K
  show AWp _ _ _ _ _
  refine wseq ?_
  refine wseq ?_
  refine wregI ([0, 1, 2, 3, 4] ++ ([5])) rfl fun K hK => ?_
  refine opsI_seg fun L hL => ?_
  simp [C.laws_eqSeed]
  refine wcall1 (laws_eqMatrix_calls a.m b.m hx.1) (by simp) (by simp) ?_
  simp [C.laws_eqSeed]
  refine hL _ ?_; clear hL L
  refine opsI_end fun L hL => ?_
  simp [C.laws_eqSeed]
  refine hL _ ?_; clear hL L
  simp [C.laws_eqSeed]
  refine hK _ ?_; clear hK K
  show AWp _ _ _ _ _
  refine wcond _ rfl (fun hc1 => ?_) (fun hc1 => ?_)
  · refine wseq ?_
    refine wreg fun K hK => ?_
    simp [C.laws_eqSeed]
    refine hK _ ?_; clear hK K
    show AWp _ _ _ _ _
    refine wret ?_
    simp at hc1
    simp [C.laws_eqSeed, sed_eq, hc1]
  · refine wskip ?_
    show AWp _ _ _ _ _
    refine wseq ?_
    refine wseq ?_
    refine wregI ([0, 1, 2, 3, 4] ++ ([5])) rfl fun K hK => ?_
    refine opsI_seg fun L hL => ?_
    simp [C.laws_eqSeed]
    refine wcall1 (laws_eqLaurentS_calls a.f b.f hx.2.1 hx.2.2) (by simp) (by simp) ?_
    simp [C.laws_eqSeed]
    refine hL _ ?_; clear hL L
    refine opsI_end fun L hL => ?_
    simp [C.laws_eqSeed]
    refine hL _ ?_; clear hL L
    simp [C.laws_eqSeed]
    refine hK _ ?_; clear hK K
    show AWp _ _ _ _ _
    refine wcond _ rfl (fun hc2 => ?_) (fun hc2 => ?_)
    · refine wseq ?_
      refine wreg fun K hK => ?_
      simp [C.laws_eqSeed]
      refine hK _ ?_; clear hK K
      show AWp _ _ _ _ _
      refine wret ?_
      simp at hc2
      simp [C.laws_eqSeed, sed_eq, hc2]
    · refine wskip ?_
      show AWp _ _ _ _ _
      refine wseq ?_
      refine wreg fun K hK => ?_
      simp [C.laws_eqSeed]
      refine hK _ ?_; clear hK K
      show AWp _ _ _ _ _
      refine wret ?_
      simp at hc1 hc2
      simp [C.laws_eqSeed, sed_eq, hc1, hc2]

theorem laws_eqSession_calls (a b : Ses) (hx : SmZ a) : ACalls Try.prog F.laws_eqSession [aZ a, aZ b] [] true (fun outs res => outs = [] ∧ res = [.one (D.bool (decide (a = b)))]) := by
  refine ACalls.of_body (C := C.laws_eqSession) (n := Try.f17.ntmps) tabT folT Try.func17 rfl (by kernel_rfl) rfl (Nat.le_of_ble_eq_true rfl) (by decide) (by kernel_rfl) (by kernel_rfl) rfl (by simp) (by simp) ?_
  simp only [Try.f17]
  refine wseq ?_
  refine wreg fun K hK => ?_
  simp [C.laws_eqSession]
  refine hK _ ?_; clear hK K
  show AWp _ _ _ _ _
  refine wseq ?_
  refine wseq ?_
  refine wregI ([0, 1, 2, 3, 4] ++ ([5])) rfl fun K hK => ?_
  refine opsI_seg fun L hL => ?_
  simp [C.laws_eqSession]
  refine wcall1 (laws_eqMatrix_calls a.a b.a hx.1) (by simp) (by simp) ?_
  simp [C.laws_eqSession]
  refine hL _ ?_; clear hL L
  refine opsI_end fun L hL => ?_
  simp [C.laws_eqSession]
  refine hL _ ?_; clear hL L
  simp [C.laws_eqSession]
  refine hK _ ?_; clear hK K
  show AWp _ _ _ _ _
  refine wcond _ rfl (fun hc1 => ?_) (fun hc1 => ?_)
  · refine wseq ?_
    refine wreg fun K hK => ?_
    simp [C.laws_eqSession]
    refine hK _ ?_; clear hK K
    show AWp _ _ _ _ _
    refine wret ?_
    simp at hc1
    simp [C.laws_eqSession, ses_eq, hc1]
  · refine wskip ?_
    show AWp _ _ _ _ _
    refine wseq ?_
    refine wseq ?_
    refine wregI ([0, 1, 2, 3, 4] ++ ([5])) rfl fun K hK => ?_
    refine opsI_seg fun L hL => ?_
    simp [C.laws_eqSession]
    refine wcall1 (laws_eqIntS_calls a.k b.k hx.2.1) (by simp) (by simp) ?_
    simp [C.laws_eqSession]
    refine hL _ ?_; clear hL L
    refine opsI_end fun L hL => ?_
    simp [C.laws_eqSession]
    refine hL _ ?_; clear hL L
    simp [C.laws_eqSession]
    refine hK _ ?_; clear hK K
    show AWp _ _ _ _ _
    refine wcond _ rfl (fun hc2 => ?_) (fun hc2 => ?_)
    · refine wseq ?_
      refine wreg fun K hK => ?_
      simp [C.laws_eqSession]
      refine hK _ ?_; clear hK K
      show AWp _ _ _ _ _
      refine wret ?_
      simp at hc2
      simp [C.laws_eqSession, ses_eq, hc2]
    · refine wskip ?_
      show AWp _ _ _ _ _
      refine wseq ?_
      refine wseq ?_
      refine wregI ([0, 1, 2, 3, 4] ++ ([5])) rfl fun K hK => ?_
      refine opsI_seg fun L hL => ?_
      simp [C.laws_eqSession]
      refine wcall1 (laws_eqSeed_calls a.s b.s hx.2.2) (by simp) (by simp) ?_
      simp [C.laws_eqSession]
      refine hL _ ?_; clear hL L
      refine opsI_end fun L hL => ?_
      simp [C.laws_eqSession]
      refine hL _ ?_; clear hL L
      simp [C.laws_eqSession]
      refine hK _ ?_; clear hK K
      show AWp _ _ _ _ _
      refine wcond _ rfl (fun hc3 => ?_) (fun hc3 => ?_)
      · refine wseq ?_
        refine wreg fun K hK => ?_
        simp [C.laws_eqSession]
        refine hK _ ?_; clear hK K
        show AWp _ _ _ _ _
        refine wret ?_
        simp at hc3
        simp [C.laws_eqSession, ses_eq, hc3]
      · refine wskip ?_
        show AWp _ _ _ _ _
        refine wseq ?_
        refine wreg fun K hK => ?_
        simp [C.laws_eqSession]
        refine hK _ ?_; clear hK K
        show AWp _ _ _ _ _
        refine wret ?_
        simp at hc1 hc2 hc3
        simp [C.laws_eqSession, ses_eq, hc1, hc2, hc3]

theorem laws_markMatrix_calls (m : Mat) (k : Int) (hk0 : 0 ≤ k) (hk : k + m.d.length < 4611686018427387904) : ACalls Try.prog F.laws_markMatrix [.ag [.int m.n, .int m.r, .al (0, 2) [] 0 m.d.length], .int k] [((0, 2), owI m.d)] true (fun outs res => outs = [.ow 1 m.d.length (ints (marks k m.d.length))] ∧ res = [.one (D.int (k + m.d.length))]) := by
  refine ACalls.of_body (C := C.laws_markMatrix) (n := Try.f81.ntmps) tabT folT Try.func81 rfl (by kernel_rfl) rfl (Nat.le_of_ble_eq_true rfl) (by decide) (by kernel_rfl) (by kernel_rfl) rfl (by simp) (by simp) ?_
  simp only [Try.f81]
  refine wseq ?_
  refine wreg fun K hK => ?_
  simp [C.laws_markMatrix]
  refine hK _ ?_; clear hK K
  show AWp _ _ _ _ _
  refine wseq ?_
  refine wregI ([0, 1, 2, 3] ++ ([4])) rfl fun K hK => ?_
  refine opsI_seg fun L hL => ?_
  simp [C.laws_markMatrix, modify_const]
  refine wcall1 (laws_markIntS_calls m.d k hk0 hk) (by simp) (by simp) ?_
  simp [C.laws_markMatrix, modify_const]
  refine hL _ ?_; clear hL L
  refine opsI_end fun L hL => ?_
  simp [C.laws_markMatrix, modify_const]
  refine hL _ ?_; clear hL L
  simp [C.laws_markMatrix, modify_const]
  refine hK _ ?_; clear hK K
  show AWp _ _ _ _ _
  refine wseq ?_
  refine wreg fun K hK => ?_
  simp [C.laws_markMatrix]
  refine hK _ ?_; clear hK K
  show AWp _ _ _ _ _
  refine wret ?_
  simp [C.laws_markMatrix]

theorem laws_markLaurentS_calls (fs : List Lau) (k : Int) (hk0 : 0 ≤ k) (hk : k + cntL cntF fs < 4611686018427387904) (hx : fs.length < 4611686018427387904) (hx2 : ∀ f ∈ fs, SmF f) : ACalls Try.prog F.laws_markLaurentS [.al (0, 0) [] 0 fs.length, .int k] [((0, 0), .ow 2 fs.length (rows fO fs))] true (fun outs res => outs = [.ow 2 fs.length (rows fO (mkL cntF mkF fs k))] ∧ res = [.one (D.int (k + cntL cntF fs))]) := by
  refine ACalls.of_body (C := C.laws_markLaurentS) (n := Try.f171.ntmps) tabT folT Try.func171 rfl (by kernel_rfl) rfl (Nat.le_of_ble_eq_true rfl) (by decide) (by kernel_rfl) (by kernel_rfl) rfl (by simp) (by simp) ?_
  simp only [Try.f171]
  refine wseq ?_
  refine wreg fun K hK => ?_
  simp [C.laws_markLaurentS]
  refine hK _ ?_; clear hK K
  show AWp _ _ _ _ _
  refine wseq ?_
  refine wseq ?_
  refine wreg fun K hK => ?_
  simp [C.laws_markLaurentS]
  refine hK _ ?_; clear hK K
  show AWp _ _ _ _ _
  refine wblock ?_
  refine wloop (fun x : Nat × List Lau × Int => ⟨ofL [(0, .al (0, 0) [] 0 fs.length), (1, .int x.2.2), (5, .int x.1), (1000, .al (0, 0) [] 0 fs.length)], ofRO [((0, 0), some (.ow 2 fs.length (rows fO x.2.1)))]⟩) (fun x => x.1 ≤ fs.length ∧ x.2.1 = mkL cntF mkF (fs.take x.1) k ++ fs.drop x.1 ∧ x.2.2 = k + cntL cntF (fs.take x.1)) (fun x => fs.length - x.1) (0, fs, k) (by simp [C.laws_markLaurentS]) (by simp [mkL, cntL]) ?_
  intro x1 hx1 R1 hR1
  obtain ⟨j, gs, kk⟩ := x1
  obtain ⟨h0, hg, he⟩ := hx1
  dsimp only at h0 hg he ⊢
  refine wseq ?_
  refine wseq ?_
  refine wreg fun K hK => ?_
  simp [C.laws_markLaurentS]
  refine hK _ ?_; clear hK K
  show AWp _ _ _ _ _
  refine wcond _ rfl (fun hc1 => ?_) (fun hc1 => ?_)
  · refine wskip ?_
    show AWp _ _ _ _ _
    refine wseq ?_
    refine wblock ?_
    refine wseq ?_
    have h1 : j < fs.length := by simpa using hc1
    have hl : gs.length = fs.length := by rw [hg]; simp; omega
    have h2 : j < gs.length := by omega
    have hge : gs[j] = fs[j] := by
      have := mkL_get2 cntF mkF fs k j h1
      rw [← hg, List.getElem?_eq_getElem h2] at this
      injection this
    have hb := cntL_le1 cntF fs j h1
    have hcj : cntF fs[j] = 1 + cntL cntT fs[j].ts := rfl
    refine wreg fun K hK => ?_
    simp [C.laws_markLaurentS, hl, h1, h2, hge, fO_0 h2, fO_1 h2]
    refine hK _ ?_; clear hK K
    show AWp _ _ _ _ _
    refine wseq ?_
    refine wreg fun K hK => ?_
    simp [C.laws_markLaurentS]
    rw [wrapOk (x := kk + 1) (by omega) (by omega)]
    refine hK _ ?_; clear hK K
    show AWp _ _ _ _ _
    refine wregI ([0, 1, 2, 3, 4, 5, 6] ++ ([7])) rfl fun K hK => ?_
    refine opsI_seg fun L hL => ?_
    simp [C.laws_markLaurentS, hl, h1, h2, hge, fO_0 h2, fO_1 h2, modify_const]
    refine wcall1 (laws_markTermS_calls fs[j].ts (kk + 1) (by omega) (by omega) (hx2 _ (List.getElem_mem h1)).1) (by simp) (by simp) ?_
    simp [C.laws_markLaurentS, hl, h1, h2, hge, fO_0 h2, fO_1 h2, modify_const]
    refine hL _ ?_; clear hL L
    refine opsI_end fun L hL => ?_
    simp [C.laws_markLaurentS, hl, h1, h2, hge, fO_0 h2, fO_1 h2, modify_const]
    refine hL _ ?_; clear hL L
    simp [C.laws_markLaurentS, hl, h1, h2, hge, fO_0 h2, fO_1 h2, modify_const]
    refine hK _ ?_; clear hK K
    show AWp _ _ _ _ _
    refine wreg fun K hK => ?_
    simp [C.laws_markLaurentS, wrap_succ (show j < 4611686018427387904 by omega)]
    refine hK _ ?_; clear hK K
    simp [C.laws_markLaurentS]
    rw [fO_set2 h2 _ _ (by simp)]
    refine hR1 (j + 1, _, _) ⟨h1, ?_, ?_⟩ (by dsimp only; omega)
    · dsimp only
      rw [hg, he]
      exact mkL_step cntF mkF fs k j h1
    · dsimp only
      rw [cntL_step _ _ _ h1]
      omega
  · refine wexit ?_
    show AWp _ _ _ _ _
    refine wseq ?_
    refine wreg fun K hK => ?_
    simp [C.laws_markLaurentS]
    refine hK _ ?_; clear hK K
    show AWp _ _ _ _ _
    refine wret ?_
    have hj2 : j = fs.length := by simp at hc1; omega
    simp [C.laws_markLaurentS, hj2, hg, he]

theorem laws_markSeed_calls (s : Sed) (k : Int) (hk0 : 0 ≤ k) (hk : k + cntS s < 4611686018427387904) (hx : SmS s) : ACalls Try.prog F.laws_markSeed [.ag [.int s.m.n, .int s.m.r, .al (0, 2) [] 0 s.m.d.length, .al (0, 3) [] 0 s.f.length], .int k] [((0, 2), owI s.m.d), ((0, 3), .ow 2 s.f.length (rows fO s.f))] true (fun outs res => outs = [.ow 1 s.m.d.length (ints (marks k s.m.d.length)), .ow 2 s.f.length (rows fO (mkL cntF mkF s.f (k + s.m.d.length)))] ∧ res = [.one (D.int (k + cntS s))]) := by
  refine ACalls.of_body (C := C.laws_markSeed) (n := Try.f83.ntmps) tabT folT Try.func83 rfl (by kernel_rfl) rfl (Nat.le_of_ble_eq_true rfl) (by decide) (by kernel_rfl) (by kernel_rfl) rfl (by simp) (by simp) ?_
  simp only [Try.f83]
  refine wseq ?_
  refine wreg fun K hK => ?_
  simp [C.laws_markSeed]
  refine hK _ ?_; clear hK K
  show AWp _ _ _ _ _
  refine wseq ?_
  have hcs : cntS s = s.m.d.length + cntL cntF s.f := rfl
  refine wregI ([0, 1, 2, 3] ++ ([4])) rfl fun K hK => ?_
  refine opsI_seg fun L hL => ?_
  simp [C.laws_markSeed, modify_const]
  refine wcall1 (laws_markMatrix_calls s.m k hk0 (by omega)) (by simp) (by simp) ?_
  simp [C.laws_markSeed, modify_const]
  refine hL _ ?_; clear hL L
  refine opsI_end fun L hL => ?_
  simp [C.laws_markSeed, modify_const]
  refine hL _ ?_; clear hL L
  simp [C.laws_markSeed, modify_const]
  refine hK _ ?_; clear hK K
  show AWp _ _ _ _ _
  refine wseq ?_
  refine wregI ([0, 1, 2, 3] ++ ([4])) rfl fun K hK => ?_
  refine opsI_seg fun L hL => ?_
  simp [C.laws_markSeed, modify_const]
  refine wcall1 (laws_markLaurentS_calls s.f (k + s.m.d.length) (by omega) (by omega) hx.2.1 hx.2.2) (by simp) (by simp) ?_
  simp [C.laws_markSeed, modify_const]
  refine hL _ ?_; clear hL L
  refine opsI_end fun L hL => ?_
  simp [C.laws_markSeed, modify_const]
  refine hL _ ?_; clear hL L
  simp [C.laws_markSeed, modify_const]
  refine hK _ ?_; clear hK K
  show AWp _ _ _ _ _
  refine wseq ?_
  refine wreg fun K hK => ?_
  simp [C.laws_markSeed]
  refine hK _ ?_; clear hK K
  show AWp _ _ _ _ _
  refine wret ?_
  simp [C.laws_markSeed]
  omega

theorem laws_markSession_calls (z : Ses) (k : Int) (hk0 : 0 ≤ k) (hk : k + cntZ z < 4611686018427387904) (hx : SmZ z) : ACalls Try.prog F.laws_markSession [.ag [.int z.a.n, .int z.a.r, .al (0, 2) [] 0 z.a.d.length, .al (0, 3) [] 0 z.k.length, .int z.s.m.n, .int z.s.m.r, .al (0, 6) [] 0 z.s.m.d.length, .al (0, 7) [] 0 z.s.f.length], .int k] [((0, 2), owI z.a.d), ((0, 3), owI z.k), ((0, 6), owI z.s.m.d), ((0, 7), .ow 2 z.s.f.length (rows fO z.s.f))] true (fun outs res => outs = [.ow 1 z.a.d.length (ints (marks k z.a.d.length)), .ow 1 z.k.length (ints (marks (k + z.a.d.length) z.k.length)), .ow 1 z.s.m.d.length (ints (marks (k + z.a.d.length + z.k.length) z.s.m.d.length)), .ow 2 z.s.f.length (rows fO (mkL cntF mkF z.s.f (k + z.a.d.length + z.k.length + z.s.m.d.length)))] ∧ res = [.one (D.int (k + cntZ z))]) := by
  refine ACalls.of_body (C := C.laws_markSession) (n := Try.f18.ntmps) tabT folT Try.func18 rfl (by kernel_rfl) rfl (Nat.le_of_ble_eq_true rfl) (by decide) (by kernel_rfl) (by kernel_rfl) rfl (by simp) (by simp) ?_
  simp only [Try.f18]
  refine wseq ?_
  refine wreg fun K hK => ?_
  simp [C.laws_markSession]
  refine hK _ ?_; clear hK K
  show AWp _ _ _ _ _
  refine wseq ?_
  have hcz : cntZ z = z.a.d.length + z.k.length + cntS z.s := rfl
  refine wregI ([0, 1, 2, 3] ++ ([4])) rfl fun K hK => ?_
  refine opsI_seg fun L hL => ?_
  simp [C.laws_markSession]
  refine wcall1 (laws_markMatrix_calls z.a k hk0 (by omega)) (by simp) (by simp) ?_
  simp [C.laws_markSession]
  refine hL _ ?_; clear hL L
  refine opsI_end fun L hL => ?_
  simp [C.laws_markSession]
  refine hL _ ?_; clear hL L
  simp [C.laws_markSession]
  refine hK _ ?_; clear hK K
  show AWp _ _ _ _ _
  refine wseq ?_
  refine wregI ([0, 1, 2, 3] ++ ([4])) rfl fun K hK => ?_
  refine opsI_seg fun L hL => ?_
  simp [C.laws_markSession]
  refine wcall1 (laws_markIntS_calls z.k (k + z.a.d.length) (by omega) (by omega)) (by simp) (by simp) ?_
  simp [C.laws_markSession]
  refine hL _ ?_; clear hL L
  refine opsI_end fun L hL => ?_
  simp [C.laws_markSession]
  refine hL _ ?_; clear hL L
  simp [C.laws_markSession]
  refine hK _ ?_; clear hK K
  show AWp _ _ _ _ _
  refine wseq ?_
  refine wregI ([0, 1, 2, 3] ++ ([4])) rfl fun K hK => ?_
  refine opsI_seg fun L hL => ?_
  simp [C.laws_markSession]
  refine wcall1 (laws_markSeed_calls z.s (k + z.a.d.length + z.k.length) (by omega) (by omega) hx.2.2) (by simp) (by simp) ?_
  simp [C.laws_markSession]
  refine hL _ ?_; clear hL L
  refine opsI_end fun L hL => ?_
  simp [C.laws_markSession]
  refine hL _ ?_; clear hL L
  simp [C.laws_markSession]
  refine hK _ ?_; clear hK K
  show AWp _ _ _ _ _
  refine wseq ?_
  refine wreg fun K hK => ?_
  simp [C.laws_markSession]
  refine hK _ ?_; clear hK K
  show AWp _ _ _ _ _
  refine wret ?_
  simp [C.laws_markSession]
  omega

theorem laws_heldMatrix_calls (n r : Int) (l : Nat) (k : Int) (hk0 : 0 ≤ k) (hk : k + l < 4611686018427387904) : ACalls Try.prog F.laws_heldMatrix [.ag [.int n, .int r, .d (.sh 1 l (ints (marks k l)))], .int k] [] true (fun outs res => outs = [] ∧ res = [.one (D.int (k + l))]) := by
  refine ACalls.of_body (C := C.laws_heldMatrix) (n := Try.f84.ntmps) tabT folT Try.func84 rfl (by kernel_rfl) rfl (Nat.le_of_ble_eq_true rfl) (by decide) (by kernel_rfl) (by kernel_rfl) rfl (by simp) (by simp) ?_
  simp only [Try.f84]
  refine wseq ?_
  refine wreg fun K hK => ?_
  simp [C.laws_heldMatrix]
  refine hK _ ?_; clear hK K
  show AWp _ _ _ _ _
  refine wseq ?_
  refine wregI ([0, 1, 2, 3] ++ ([4])) rfl fun K hK => ?_
  refine opsI_seg fun L hL => ?_
  simp [C.laws_heldMatrix]
  refine wcall1 (laws_heldIntS_calls l k hk0 hk) (by simp) (by simp) ?_
  simp [C.laws_heldMatrix]
  refine hL _ ?_; clear hL L
  refine opsI_end fun L hL => ?_
  simp [C.laws_heldMatrix]
  refine hL _ ?_; clear hL L
  simp [C.laws_heldMatrix]
  refine hK _ ?_; clear hK K
  show AWp _ _ _ _ _
  refine wseq ?_
  refine wseq ?_
  refine wreg fun K hK => ?_
  simp [C.laws_heldMatrix]
  refine hK _ ?_; clear hK K
  show AWp _ _ _ _ _
  refine wcond _ rfl (fun hc1 => ?_) (fun hc1 => ?_)
  · simp at hc1; omega
  · refine wskip ?_
    show AWp _ _ _ _ _
    refine wseq ?_
    refine wreg fun K hK => ?_
    simp [C.laws_heldMatrix]
    refine hK _ ?_; clear hK K
    show AWp _ _ _ _ _
    refine wret ?_
    simp [C.laws_heldMatrix]

theorem laws_heldLaurentS_calls (fs : List Lau) (k : Int) (hk0 : 0 ≤ k) (hk : k + cntL cntF fs < 4611686018427387904) (hx : fs.length < 4611686018427387904) (hx2 : ∀ f ∈ fs, SmF f) : ACalls Try.prog F.laws_heldLaurentS [.d (.sh 2 fs.length (rows fS (mkL cntF mkF fs k))), .int k] [] true (fun outs res => outs = [] ∧ res = [.one (D.int (k + cntL cntF fs))]) := by
  refine ACalls.of_body (C := C.laws_heldLaurentS) (n := Try.f172.ntmps) tabT folT Try.func172 rfl (by kernel_rfl) rfl (Nat.le_of_ble_eq_true rfl) (by decide) (by kernel_rfl) (by kernel_rfl) rfl (by simp) (by simp) ?_
  simp only [Try.f172]
  refine wseq ?_
  refine wreg fun K hK => ?_
  simp [C.laws_heldLaurentS]
  refine hK _ ?_; clear hK K
  show AWp _ _ _ _ _
  refine wseq ?_
  refine wseq ?_
  refine wreg fun K hK => ?_
  simp [C.laws_heldLaurentS]
  refine hK _ ?_; clear hK K
  show AWp _ _ _ _ _
  refine wblock ?_
  refine wloop (fun x : Nat × Int => ⟨ofL [(0, .d (.sh 2 fs.length (rows fS (mkL cntF mkF fs k)))), (1, .int x.2), (5, .int x.1)], ofRO []⟩) (fun x => x.1 ≤ fs.length ∧ x.2 = k + cntL cntF (fs.take x.1)) (fun x => fs.length - x.1) (0, k) (by simp [C.laws_heldLaurentS]) (by simp [cntL]) ?_
  intro x1 hx1 R1 hR1
  obtain ⟨j, kk⟩ := x1
  obtain ⟨h0, he⟩ := hx1
  dsimp only at h0 he ⊢
  refine wseq ?_
  refine wseq ?_
  refine wreg fun K hK => ?_
  simp [C.laws_heldLaurentS]
  refine hK _ ?_; clear hK K
  show AWp _ _ _ _ _
  refine wcond _ rfl (fun hc1 => ?_) (fun hc1 => ?_)
  · refine wskip ?_
    show AWp _ _ _ _ _
    refine wseq ?_
    refine wblock ?_
    refine wseq ?_
    refine wseq ?_
    have h1 : j < fs.length := by simpa using hc1
    have h2 : j < (mkL cntF mkF fs k).length := by simpa using h1
    have hge : (mkL cntF mkF fs k)[j] = ⟨kk, mkL cntT mkT fs[j].ts (kk + 1)⟩ := by
      rw [mkL_get1 _ _ _ _ _ h1, he]
      rfl
    have hb := cntL_le1 cntF fs j h1
    have hcj : cntF fs[j] = 1 + cntL cntT fs[j].ts := rfl
    refine wreg fun K hK => ?_
    simp [C.laws_heldLaurentS, h1, h2, hge, fS_0 h2, fS_1 h2]
    refine hK _ ?_; clear hK K
    show AWp _ _ _ _ _
    refine wcond _ rfl (fun hc2 => ?_) (fun hc2 => ?_)
    · simp at hc2
    · refine wskip ?_
      show AWp _ _ _ _ _
      refine wseq ?_
      refine wreg fun K hK => ?_
      simp [C.laws_heldLaurentS]
      rw [wrapOk (x := kk + 1) (by omega) (by omega)]
      refine hK _ ?_; clear hK K
      show AWp _ _ _ _ _
      refine wseq ?_
      refine wregI ([0, 1, 2, 3, 4, 5, 6] ++ ([7])) rfl fun K hK => ?_
      refine opsI_seg fun L hL => ?_
      simp [C.laws_heldLaurentS, h1, h2, hge, fS_0 h2, fS_1 h2]
      refine wcall1 (laws_heldTermS_calls fs[j].ts (kk + 1) (by omega) (by omega) (hx2 _ (List.getElem_mem h1)).1) (by simp) (by simp) ?_
      simp [C.laws_heldLaurentS, h1, h2, hge, fS_0 h2, fS_1 h2]
      refine hL _ ?_; clear hL L
      refine opsI_end fun L hL => ?_
      simp [C.laws_heldLaurentS, h1, h2, hge, fS_0 h2, fS_1 h2]
      refine hL _ ?_; clear hL L
      simp [C.laws_heldLaurentS, h1, h2, hge, fS_0 h2, fS_1 h2]
      refine hK _ ?_; clear hK K
      show AWp _ _ _ _ _
      refine wseq ?_
      refine wreg fun K hK => ?_
      simp [C.laws_heldLaurentS]
      refine hK _ ?_; clear hK K
      show AWp _ _ _ _ _
      refine wcond _ rfl (fun hc3 => ?_) (fun hc3 => ?_)
      · simp at hc3; omega
      · refine wskip ?_
        show AWp _ _ _ _ _
        refine wreg fun K hK => ?_
        simp [C.laws_heldLaurentS, wrap_succ (show j < 4611686018427387904 by omega)]
        refine hK _ ?_; clear hK K
        simp [C.laws_heldLaurentS]
        refine hR1 (j + 1, _) ⟨h1, ?_⟩ (by dsimp only; omega)
        dsimp only
        rw [cntL_step _ _ _ h1]
        omega
  · refine wexit ?_
    show AWp _ _ _ _ _
    refine wseq ?_
    refine wreg fun K hK => ?_
    simp [C.laws_heldLaurentS]
    refine hK _ ?_; clear hK K
    show AWp _ _ _ _ _
    refine wret ?_
    have hj2 : j = fs.length := by simp at hc1; omega
    simp [C.laws_heldLaurentS, hj2, he]

theorem laws_heldSeed_calls (s : Sed) (n r : Int) (k : Int) (hk0 : 0 ≤ k) (hk : k + cntS s < 4611686018427387904) (hx : SmS s) : ACalls Try.prog F.laws_heldSeed [.ag [.int n, .int r, .d (.sh 1 s.m.d.length (ints (marks k s.m.d.length))), .d (.sh 2 s.f.length (rows fS (mkL cntF mkF s.f (k + s.m.d.length))))], .int k] [] true (fun outs res => outs = [] ∧ res = [.one (D.int (k + cntS s))]) := by
  refine ACalls.of_body (C := C.laws_heldSeed) (n := Try.f86.ntmps) tabT folT Try.func86 rfl (by kernel_rfl) rfl (Nat.le_of_ble_eq_true rfl) (by decide) (by kernel_rfl) (by kernel_rfl) rfl (by simp) (by simp) ?_
  simp only [Try.f86]
  refine wseq ?_
  refine wreg fun K hK => ?_
  simp [C.laws_heldSeed]
  refine hK _ ?_; clear hK K
  show AWp _ _ _ _ _
  refine wseq ?_
  have hcs : cntS s = s.m.d.length + cntL cntF s.f := rfl
  refine wregI ([0, 1, 2, 3] ++ ([4])) rfl fun K hK => ?_
  refine opsI_seg fun L hL => ?_
  simp [C.laws_heldSeed]
  refine wcall1 (laws_heldMatrix_calls n r s.m.d.length k hk0 (by omega)) (by simp) (by simp) ?_
  simp [C.laws_heldSeed]
  refine hL _ ?_; clear hL L
  refine opsI_end fun L hL => ?_
  simp [C.laws_heldSeed]
  refine hL _ ?_; clear hL L
  simp [C.laws_heldSeed]
  refine hK _ ?_; clear hK K
  show AWp _ _ _ _ _
  refine wseq ?_
  refine wseq ?_
  refine wreg fun K hK => ?_
  simp [C.laws_heldSeed]
  refine hK _ ?_; clear hK K
  show AWp _ _ _ _ _
  refine wcond _ rfl (fun hc1 => ?_) (fun hc1 => ?_)
  · simp at hc1; omega
  · refine wskip ?_
    show AWp _ _ _ _ _
    refine wseq ?_
    refine wregI ([0, 1, 2, 3] ++ ([4])) rfl fun K hK => ?_
    refine opsI_seg fun L hL => ?_
    simp [C.laws_heldSeed]
    refine wcall1 (laws_heldLaurentS_calls s.f (k + s.m.d.length) (by omega) (by omega) hx.2.1 hx.2.2) (by simp) (by simp) ?_
    simp [C.laws_heldSeed]
    refine hL _ ?_; clear hL L
    refine opsI_end fun L hL => ?_
    simp [C.laws_heldSeed]
    refine hL _ ?_; clear hL L
    simp [C.laws_heldSeed]
    refine hK _ ?_; clear hK K
    show AWp _ _ _ _ _
    refine wseq ?_
    refine wseq ?_
    refine wreg fun K hK => ?_
    simp [C.laws_heldSeed]
    refine hK _ ?_; clear hK K
    show AWp _ _ _ _ _
    refine wcond _ rfl (fun hc2 => ?_) (fun hc2 => ?_)
    · simp at hc2; omega
    · refine wskip ?_
      show AWp _ _ _ _ _
      refine wseq ?_
      refine wreg fun K hK => ?_
      simp [C.laws_heldSeed]
      refine hK _ ?_; clear hK K
      show AWp _ _ _ _ _
      refine wret ?_
      simp [C.laws_heldSeed]
      omega

theorem laws_heldSession_calls (z : Ses) (n r n2 r2 : Int) (k : Int) (hk0 : 0 ≤ k) (hk : k + cntZ z < 4611686018427387904) (hx : SmZ z) : ACalls Try.prog F.laws_heldSession [.ag [.int n, .int r, .d (.sh 1 z.a.d.length (ints (marks k z.a.d.length))), .d (.sh 1 z.k.length (ints (marks (k + z.a.d.length) z.k.length))), .int n2, .int r2, .d (.sh 1 z.s.m.d.length (ints (marks (k + z.a.d.length + z.k.length) z.s.m.d.length))), .d (.sh 2 z.s.f.length (rows fS (mkL cntF mkF z.s.f (k + z.a.d.length + z.k.length + z.s.m.d.length))))], .int k] [] true (fun outs res => outs = [] ∧ res = [.one (D.int (k + cntZ z))]) := by
  refine ACalls.of_body (C := C.laws_heldSession) (n := Try.f19.ntmps) tabT folT Try.func19 rfl (by kernel_rfl) rfl (Nat.le_of_ble_eq_true rfl) (by decide) (by kernel_rfl) (by kernel_rfl) rfl (by simp) (by simp) ?_
  simp only [Try.f19]
  refine wseq ?_
  refine wreg fun K hK => ?_
  simp [C.laws_heldSession]
  refine hK _ ?_; clear hK K
  show AWp _ _ _ _ _
  refine wseq ?_
  have hcz : cntZ z = z.a.d.length + z.k.length + cntS z.s := rfl
  refine wregI ([0, 1, 2, 3] ++ ([4])) rfl fun K hK => ?_
  refine opsI_seg fun L hL => ?_
  simp [C.laws_heldSession]
  refine wcall1 (laws_heldMatrix_calls n r z.a.d.length k hk0 (by omega)) (by simp) (by simp) ?_
  simp [C.laws_heldSession]
  refine hL _ ?_; clear hL L
  refine opsI_end fun L hL => ?_
  simp [C.laws_heldSession]
  refine hL _ ?_; clear hL L
  simp [C.laws_heldSession]
  refine hK _ ?_; clear hK K
  show AWp _ _ _ _ _
  refine wseq ?_
  refine wseq ?_
  refine wreg fun K hK => ?_
  simp [C.laws_heldSession]
  refine hK _ ?_; clear hK K
  show AWp _ _ _ _ _
  refine wcond _ rfl (fun hc1 => ?_) (fun hc1 => ?_)
  · simp at hc1; omega
  · refine wskip ?_
    show AWp _ _ _ _ _
    refine wseq ?_
    refine wregI ([0, 1, 2, 3] ++ ([4])) rfl fun K hK => ?_
    refine opsI_seg fun L hL => ?_
    simp [C.laws_heldSession]
    refine wcall1 (laws_heldIntS_calls z.k.length (k + z.a.d.length) (by omega) (by omega)) (by simp) (by simp) ?_
    simp [C.laws_heldSession]
    refine hL _ ?_; clear hL L
    refine opsI_end fun L hL => ?_
    simp [C.laws_heldSession]
    refine hL _ ?_; clear hL L
    simp [C.laws_heldSession]
    refine hK _ ?_; clear hK K
    show AWp _ _ _ _ _
    refine wseq ?_
    refine wseq ?_
    refine wreg fun K hK => ?_
    simp [C.laws_heldSession]
    refine hK _ ?_; clear hK K
    show AWp _ _ _ _ _
    refine wcond _ rfl (fun hc2 => ?_) (fun hc2 => ?_)
    · simp at hc2; omega
    · refine wskip ?_
      show AWp _ _ _ _ _
      refine wseq ?_
      refine wregI ([0, 1, 2, 3] ++ ([4])) rfl fun K hK => ?_
      refine opsI_seg fun L hL => ?_
      simp [C.laws_heldSession]
      refine wcall1 (laws_heldSeed_calls z.s n2 r2 (k + z.a.d.length + z.k.length) (by omega) (by omega) hx.2.2) (by simp) (by simp) ?_
      simp [C.laws_heldSession]
      refine hL _ ?_; clear hL L
      refine opsI_end fun L hL => ?_
      simp [C.laws_heldSession]
      refine hL _ ?_; clear hL L
      simp [C.laws_heldSession]
      refine hK _ ?_; clear hK K
      show AWp _ _ _ _ _
      refine wseq ?_
      refine wseq ?_
      refine wreg fun K hK => ?_
      simp [C.laws_heldSession]
      refine hK _ ?_; clear hK K
      show AWp _ _ _ _ _
      refine wcond _ rfl (fun hc3 => ?_) (fun hc3 => ?_)
      · simp at hc3; omega
      · refine wskip ?_
        show AWp _ _ _ _ _
        refine wseq ?_
        refine wreg fun K hK => ?_
        simp [C.laws_heldSession]
        refine hK _ ?_; clear hK K
        show AWp _ _ _ _ _
        refine wret ?_
        simp [C.laws_heldSession]
        omega

end Go.Proofs.Ytdgeponcnlkaiaa.Ab
namespace Go.Proofs.Ytdgeponcnlkaiaa.Ab
open Go
set_option linter.unusedSimpArgs false
set_option linter.unusedVariables false
set_option maxRecDepth 10000
set_option maxHeartbeats 2000000
def unitL (n i : Nat) : List Int := (List.replicate n 0).set i 1
theorem unitL_length (n i : Nat) : (unitL n i).length = n := by simp [unitL]
noncomputable def monoF (e : List Int) : Lau := if Right ⟨e.length, [⟨e, 1⟩]⟩ then ⟨e.length, [⟨e, 1⟩]⟩ else zeroF
noncomputable def varsL (r : Nat) : List Lau := (List.range r).map fun i => monoF (unitL r i)
theorem fO_snoc (l : List Lau) (f : Lau) : rows fO l ++ [D.v (.int .i64 f.v), D.ow 2 f.ts.length (rows tO f.ts)] = rows fO (l ++ [f]) := by
  rw [rows_append]
  rfl
theorem mono_right {e : List Int} : Right ⟨e.length, [⟨e, 1⟩]⟩ ↔ (1 ≤ (e.length : Int) ∧ (e.length : Int) ≤ 8) ∧ okE e e.length = true := by
  rw [okE_iff]
  unfold Right Good DescT
  simp
theorem spec_l1CopyMatrix_calls (m : Mat) (hx : m.d.length < 17592186044416) : ACalls Try.prog F.spec_l1CopyMatrix [aM m] [] true (fun outs res => outs = [] ∧ res = [.ag (mO m)]) := by
  refine ACalls.of_body (C := C.spec_l1CopyMatrix) (n := Try.f166.ntmps) tabT folT Try.func166 rfl (by kernel_rfl) rfl (Nat.le_of_ble_eq_true rfl) (by decide) (by kernel_rfl) (by kernel_rfl) rfl (by simp) (by simp) ?_
  simp only [Try.f166]
  refine wseq ?_
  refine wreg fun K hK => ?_
  simp [C.spec_l1CopyMatrix]
  refine hK _ ?_; clear hK K
  show AWp _ _ _ _ _
  refine wseq ?_
  refine wdrawI [(true, 0), (true, 1), (true, 2), (true, 3), (true, 4), (true, 5), (false, 6), (true, 7), (false, 8)] ⟨by kernel_rfl, by kernel_rfl⟩ ([0, 1, 2, 3, 4, 5, 6] ++ ([7, 8])) rfl fun K hK => ?_
  refine opsI_seg fun L hL => ?_
  simp [C.spec_l1CopyMatrix]
  refine wcall1 (spec_l1Ints_calls m.d hx) (by simp) (by simp) ?_
  simp [C.spec_l1CopyMatrix]
  refine hL _ ?_; clear hL L
  refine opsI_end fun L hL => ?_
  simp [C.spec_l1CopyMatrix]
  refine hL _ ?_; clear hL L
  simp [C.spec_l1CopyMatrix]
  refine hK _ ?_; clear hK K
  show AWp _ _ _ _ _
  refine wret ?_
  simp [C.spec_l1CopyMatrix, mO]

theorem spec_l3Unit_calls (n i : Nat) (hn : n ≤ 8) (hi : i < n) : ACalls Try.prog F.spec_l3Unit [.int n, .int i] [] true (fun outs res => outs = [] ∧ res = [.one (owI (unitL n i))]) := by
  refine ACalls.of_body (C := C.spec_l3Unit) (n := Try.f167.ntmps) tabT folT Try.func167 rfl (by kernel_rfl) rfl (Nat.le_of_ble_eq_true rfl) (by decide) (by kernel_rfl) (by kernel_rfl) rfl (by simp) (by simp) ?_
  simp only [Try.f167]
  refine wseq ?_
  refine wreg fun K hK => ?_
  simp [C.spec_l3Unit]
  refine hK _ ?_; clear hK K
  show AWp _ _ _ _ _
  refine wseq ?_
  refine wreg fun K hK => ?_
  simp [C.spec_l3Unit, zeros_ints, show (8 : Int) * n ≤ 281474976710656 by omega, show (n : Int) ≤ 281474976710656 by omega]
  refine hK _ ?_; clear hK K
  show AWp _ _ _ _ _
  refine wseq ?_
  refine wreg fun K hK => ?_
  simp [C.spec_l3Unit, hi]
  refine hK _ ?_; clear hK K
  show AWp _ _ _ _ _
  refine wseq ?_
  refine wreg fun K hK => ?_
  simp [C.spec_l3Unit]
  refine hK _ ?_; clear hK K
  show AWp _ _ _ _ _
  refine wret ?_
  simp [C.spec_l3Unit, unitL]

theorem impl_unit_calls (n i : Nat) (hn : n ≤ 8) (hi : i < n) : ACalls Try.prog F.impl_unit [.int n, .int i] [] true (fun outs res => outs = [] ∧ res = [.one (owI (unitL n i))]) := by
  refine ACalls.of_body (C := C.impl_unit) (n := Try.f97.ntmps) tabT folT Try.func97 rfl (by kernel_rfl) rfl (Nat.le_of_ble_eq_true rfl) (by decide) (by kernel_rfl) (by kernel_rfl) rfl (by simp) (by simp) ?_
  simp only [Try.f97]
  refine wseq ?_
  refine wreg fun K hK => ?_
  simp [C.impl_unit]
  refine hK _ ?_; clear hK K
  show AWp _ _ _ _ _
  refine wseq ?_
  refine wreg fun K hK => ?_
  simp [C.impl_unit, zeros_ints, show (8 : Int) * n ≤ 281474976710656 by omega, show (n : Int) ≤ 281474976710656 by omega]
  refine hK _ ?_; clear hK K
  show AWp _ _ _ _ _
  refine wseq ?_
  refine wreg fun K hK => ?_
  simp [C.impl_unit, hi]
  refine hK _ ?_; clear hK K
  show AWp _ _ _ _ _
  refine wseq ?_
  refine wreg fun K hK => ?_
  simp [C.impl_unit]
  refine hK _ ?_; clear hK K
  show AWp _ _ _ _ _
  refine wret ?_
  simp [C.impl_unit, unitL]

theorem spec_MonomialLaurent_calls (e : List Int) (hx : e.length < 17592186044416) : ACalls Try.prog F.spec_MonomialLaurent [.d (shI e)] [] true (fun outs res => outs = [] ∧ WkRs res [.ag (fO (monoF e))]) := by
  refine ACalls.of_body (C := C.spec_MonomialLaurent) (n := Try.f151.ntmps) tabT folT Try.func151 rfl (by kernel_rfl) rfl (Nat.le_of_ble_eq_true rfl) (by decide) (by kernel_rfl) (by kernel_rfl) rfl (by simp) (by simp) ?_
  simp only [Try.f151]
  refine wseq ?_
  refine wreg fun K hK => ?_
  simp [C.spec_MonomialLaurent]
  refine hK _ ?_; clear hK K
  show AWp _ _ _ _ _
  refine wseq ?_
  refine wregI ([0, 1, 2, 3] ++ ([4, 5, 6, 7, 8])) rfl fun K hK => ?_
  refine opsI_seg fun L hL => ?_
  simp [C.spec_MonomialLaurent]
  refine wcall1 (spec_l1Ints_calls e hx) (by simp) (by simp) ?_
  simp [C.spec_MonomialLaurent]
  refine hL _ ?_; clear hL L
  refine opsI_end fun L hL => ?_
  simp [C.spec_MonomialLaurent]
  refine hL _ ?_; clear hL L
  simp [C.spec_MonomialLaurent]
  refine hK _ ?_; clear hK K
  show AWp _ _ _ _ _
  refine wseq ?_
  refine wseq ?_
  refine wregI ([0, 1] ++ ([2])) rfl fun K hK => ?_
  refine opsI_seg fun L hL => ?_
  simp [C.spec_MonomialLaurent, rows, tO, tS]
  refine wcall1 (spec_l2Right_calls ⟨e.length, [⟨e, 1⟩]⟩ (by simp) (by simp; omega)) (by simp [rows, tO, tS]) (by simp) ?_
  simp [C.spec_MonomialLaurent, rows, tO, tS]
  refine hL _ ?_; clear hL L
  refine opsI_end fun L hL => ?_
  simp [C.spec_MonomialLaurent, rows, tO, tS]
  refine hL _ ?_; clear hL L
  simp [C.spec_MonomialLaurent, rows, tO, tS]
  refine hK _ ?_; clear hK K
  show AWp _ _ _ _ _
  refine wcond _ rfl (fun hc1 => ?_) (fun hc1 => ?_)
  · have hr := nd_t hc1
    refine wseq ?_
    refine wreg fun K hK => ?_
    simp [C.spec_MonomialLaurent]
    refine hK _ ?_; clear hK K
    show AWp _ _ _ _ _
    refine wret ?_
    simp [C.spec_MonomialLaurent, monoF, hr, fO, zeroF, rows]
  · have hr := nd_f hc1
    refine wskip ?_
    show AWp _ _ _ _ _
    refine wseq ?_
    refine wreg fun K hK => ?_
    simp [C.spec_MonomialLaurent]
    refine hK _ ?_; clear hK K
    show AWp _ _ _ _ _
    refine wret ?_
    simp [C.spec_MonomialLaurent, monoF, hr, fO, rows, tO]
theorem sMono_calls (e : List Int) (hx : e.length < 17592186044416) : ACalls Try.prog F.spec_MonomialLaurent [.d (shI e)] [] true (fun outs res => outs = [] ∧ res = [.ag (fO (monoF e))]) := (spec_MonomialLaurent_calls e hx).weak1

theorem impl_MonomialLaurent_calls (e : List Int) (hx : e.length < 17592186044416) : ACalls Try.prog F.impl_MonomialLaurent [.d (shI e)] [] true (fun outs res => outs = [] ∧ WkRs res [.ag (fO (monoF e))]) := by
  refine ACalls.of_body (C := C.impl_MonomialLaurent) (n := Try.f153.ntmps) tabT folT Try.func153 rfl (by kernel_rfl) rfl (Nat.le_of_ble_eq_true rfl) (by decide) (by kernel_rfl) (by kernel_rfl) rfl (by simp) (by simp) ?_
  simp only [Try.f153]
  refine wseq ?_
  refine wreg fun K hK => ?_
  simp [C.impl_MonomialLaurent]
  refine hK _ ?_; clear hK K
  show AWp _ _ _ _ _
  refine wseq ?_
  refine wseq ?_
  refine wregI ([0, 1, 2] ++ ([3, 4, 5, 6, 7, 8] ++ ([9, 10]))) rfl fun K hK => ?_
  have hJ : K ⟨ofL [(0, .d (shI e)), (2, .pt (2, 0) [] 0), (13, .bool (!decide ((1 ≤ (e.length : Int) ∧ (e.length : Int) ≤ 8) ∧ okE e e.length = true)))], ofRO [((2, 0), some (.bx [D.int 0, .v (.slice none 0 0)]))]⟩ := by
    refine hK _ ?_; clear hK K
    show AWp _ _ _ _ _
    refine wcond _ rfl (fun hc1 => ?_) (fun hc1 => ?_)
    · have hr : ¬ Right ⟨e.length, [⟨e, 1⟩]⟩ := fun h => nd_t hc1 (mono_right.1 h)
      refine wseq ?_
      refine wreg fun K hK => ?_
      simp [C.impl_MonomialLaurent]
      refine hK _ ?_; clear hK K
      show AWp _ _ _ _ _
      refine wret ?_
      simp [C.impl_MonomialLaurent, monoF, hr, fO, zeroF, rows]
    · have hr : Right ⟨e.length, [⟨e, 1⟩]⟩ := mono_right.2 (nd_f hc1)
      refine wskip ?_
      show AWp _ _ _ _ _
      refine wseq ?_
      refine wregI ([0, 1, 2, 3] ++ ([4, 5, 6, 7])) rfl fun K hK => ?_
      refine opsI_seg fun L hL => ?_
      simp [C.impl_MonomialLaurent]
      refine wcall1 (clone_calls e hx) (by simp) (by simp) ?_
      simp [C.impl_MonomialLaurent]
      refine hL _ ?_; clear hL L
      refine opsI_end fun L hL => ?_
      simp [C.impl_MonomialLaurent]
      refine hL _ ?_; clear hL L
      simp [C.impl_MonomialLaurent]
      refine hK _ ?_; clear hK K
      show AWp _ _ _ _ _
      refine wret ?_
      simp [C.impl_MonomialLaurent, monoF, hr, fO, rows, tO]
  clear hK
  by_cases ha : 1 ≤ (e.length : Int) ∧ (e.length : Int) ≤ 8
  · refine opsI_seg fun L hL => ?_
    simp [C.impl_MonomialLaurent, ha]
    refine wcall1 (impl_within_calls e.length 1 8) (by simp) (by simp) ?_
    simp [C.impl_MonomialLaurent, ha]
    refine hL _ ?_; clear hL L
    refine opsI_seg fun L hL => ?_
    simp [C.impl_MonomialLaurent, ha]
    refine wcall1 (impl_expOk_calls e e.length (by omega)) (by simp) (by simp) ?_
    simp [C.impl_MonomialLaurent, ha]
    refine hL _ ?_; clear hL L
    refine opsI_end fun L hL => ?_
    simp [C.impl_MonomialLaurent, ha]
    refine hL _ ?_; clear hL L
    simp [C.impl_MonomialLaurent, ha]
    refine cast (congrArg K ?_) hJ
    simp [Bool.not_and, ha]
  · refine opsI_seg fun L hL => ?_
    simp [C.impl_MonomialLaurent, ha]
    refine wcall1 (impl_within_calls e.length 1 8) (by simp) (by simp) ?_
    simp [C.impl_MonomialLaurent, ha]
    refine hL _ ?_; clear hL L
    refine opsI_seg fun L hL => ?_
    simp [C.impl_MonomialLaurent, ha]
    refine hL _ ?_; clear hL L
    refine opsI_end fun L hL => ?_
    simp [C.impl_MonomialLaurent, ha]
    refine hL _ ?_; clear hL L
    simp [C.impl_MonomialLaurent, ha]
    refine cast (congrArg K ?_) hJ
    simp [Bool.not_and, ha]
theorem iMono_calls (e : List Int) (hx : e.length < 17592186044416) : ACalls Try.prog F.impl_MonomialLaurent [.d (shI e)] [] true (fun outs res => outs = [] ∧ res = [.ag (fO (monoF e))]) := (impl_MonomialLaurent_calls e hx).weak1

theorem spec_l3Initial_calls (n : Int) (r : Nat) (d : List Int) (hr : r ≤ 8) (hx : d.length < 17592186044416) : ACalls Try.prog F.spec_l3Initial [.ag [.int n, .int r, .d (shI d)]] [] true (fun outs res => outs = [] ∧ res = [.ag (sO ⟨⟨n, r, d⟩, varsL r⟩)]) := by
  refine ACalls.of_body (C := C.spec_l3Initial) (n := Try.f76.ntmps) tabT folT Try.func76 rfl (by kernel_rfl) rfl (Nat.le_of_ble_eq_true rfl) (by decide) (by kernel_rfl) (by kernel_rfl) rfl (by simp) (by simp) ?_
  simp only [Try.f76]
  refine wseq ?_
  refine wreg fun K hK => ?_
  simp [C.spec_l3Initial]
  refine hK _ ?_; clear hK K
  show AWp _ _ _ _ _
  refine wseq ?_
  refine wregI ([0, 1] ++ ([2, 3, 4])) rfl fun K hK => ?_
  refine opsI_seg fun L hL => ?_
  simp [C.spec_l3Initial, mO]
  refine wcall1 (spec_l1CopyMatrix_calls ⟨n, r, d⟩ hx) (by simp) (by simp) ?_
  simp [C.spec_l3Initial, mO]
  refine hL _ ?_; clear hL L
  refine opsI_end fun L hL => ?_
  simp [C.spec_l3Initial, mO]
  refine hL _ ?_; clear hL L
  simp [C.spec_l3Initial, mO]
  refine hK _ ?_; clear hK K
  show AWp _ _ _ _ _
  refine wseq ?_
  refine wseq ?_
  refine wreg fun K hK => ?_
  simp [C.spec_l3Initial]
  refine hK _ ?_; clear hK K
  show AWp _ _ _ _ _
  refine wblock ?_
  refine wloopW (fun x : Nat × List Lau => ⟨ofL [(1, .pt (1, 0) [] 0), (2, .pt (2, 0) [] 0), (3, .pt (3, 0) [] 0), (4, .int x.1)], ofRO [((1, 0), some (.bx [D.int n, D.int r, shI d])), ((2, 0), some (.bx [D.int 0, D.int 0, .v (.slice none 0 0), .v (.slice none 0 0)])), ((3, 0), some (.bx [D.int n, D.int r, owI d, .ow 2 x.1 (rows fO x.2)]))]⟩) (fun x => x.1 ≤ r ∧ x.2 = (List.range x.1).map fun i => monoF (unitL r i)) (fun x => r - x.1) (0, []) [.cell (3, 0) [] 3 2] (by simp [C.spec_l3Initial, rows]; (first | (constructor <;> funext t) | funext t) <;> simp only [ofL, ofRO] <;> (repeat' (first | rfl | split)) <;> simp_all) (by simp) ?_
  intro x1 hx1 R1 hR1
  obtain ⟨j, gs⟩ := x1
  obtain ⟨hj, hg⟩ := hx1
  dsimp only at hj hg ⊢
  refine wseq ?_
  refine wseq ?_
  refine wreg fun K hK => ?_
  simp [C.spec_l3Initial]
  refine hK _ ?_; clear hK K
  show AWp _ _ _ _ _
  refine wcond _ rfl (fun hc1 => ?_) (fun hc1 => ?_)
  · have h1 : j < r := by have := d_t hc1; omega
    have hgl : gs.length = j := by rw [hg]; simp
    refine wskip ?_
    show AWp _ _ _ _ _
    refine wseq ?_
    refine wblock ?_
    refine wdrawI [(true, 0), (true, 1), (true, 2), (true, 3), (true, 4), (false, 5), (false, 6), (false, 7), (false, 8), (true, 9), (false, 10)] ⟨by kernel_rfl, by kernel_rfl⟩ ([0, 1, 2, 3, 4, 5] ++ ([6] ++ ([7, 8, 9, 10]))) rfl fun K hK => ?_
    refine opsI_seg fun L hL => ?_
    simp [C.spec_l3Initial, fO, fO_snoc, show (j + 1) * 32 ≤ 140737488355328 by omega]
    refine wcall1 (spec_l3Unit_calls r j hr h1) (by simp) (by simp) ?_
    simp [C.spec_l3Initial, fO, fO_snoc, show (j + 1) * 32 ≤ 140737488355328 by omega]
    refine hL _ ?_; clear hL L
    refine opsI_seg fun L hL => ?_
    simp [C.spec_l3Initial, fO, fO_snoc, show (j + 1) * 32 ≤ 140737488355328 by omega]
    refine wcall1 (sMono_calls (unitL r j) (by rw [unitL_length]; omega)) (by simp) (by simp) ?_
    simp [C.spec_l3Initial, fO, fO_snoc, show (j + 1) * 32 ≤ 140737488355328 by omega]
    refine hL _ ?_; clear hL L
    refine opsI_end fun L hL => ?_
    simp [C.spec_l3Initial, fO, fO_snoc, show (j + 1) * 32 ≤ 140737488355328 by omega]
    refine hL _ ?_; clear hL L
    simp [C.spec_l3Initial, fO, fO_snoc, show (j + 1) * 32 ≤ 140737488355328 by omega]
    refine hK _ ?_; clear hK K
    show AWp _ _ _ _ _
    refine wreg fun K hK => ?_
    simp [C.spec_l3Initial, wrap_succ (show j < 4611686018427387904 by omega)]
    refine hK _ ?_; clear hK K
    simp [C.spec_l3Initial]
    refine hR1 (j + 1, _) ⟨h1, ?_⟩ (by dsimp only; omega)
    dsimp only
    rw [hg, List.range_succ, List.map_append]
    rfl
  · have h1 : j = r := by have := d_f hc1; omega
    subst h1
    refine wexit ?_
    show AWp _ _ _ _ _
    refine wseq ?_
    refine wreg fun K hK => ?_
    simp [C.spec_l3Initial]
    refine hK _ ?_; clear hK K
    show AWp _ _ _ _ _
    refine wret ?_
    simp [C.spec_l3Initial, hg, sO, varsL]

abbrev m0 : Mat := ⟨2, 2, [0, 1, -1, 0]⟩
noncomputable abbrev z0 : Ses := ⟨m0, [], ⟨m0, varsL 2⟩⟩
theorem ints0 : [D.v (.int .i64 0), D.v (.int .i64 1), D.v (.int .i64 (-1)), D.v (.int .i64 0)] = ints [0, 1, -1, 0] := rfl
theorem spec_NewSession_calls : ACalls Try.prog F.spec_NewSession [] [] true (fun outs res => outs = [] ∧ res = [.ag (zO z0)]) := by
  refine ACalls.of_body (C := C.spec_NewSession) (n := Try.f15.ntmps) tabT folT Try.func15 rfl (by kernel_rfl) rfl (Nat.le_of_ble_eq_true rfl) (by decide) (by kernel_rfl) (by kernel_rfl) rfl (by simp) (by simp) ?_
  simp only [Try.f15]
  refine wseq ?_
  refine wreg fun K hK => ?_
  simp [C.spec_NewSession]
  refine hK _ ?_; clear hK K
  show AWp _ _ _ _ _
  refine wseq ?_
  refine wreg fun K hK => ?_
  simp [C.spec_NewSession, ints0]
  refine hK _ ?_; clear hK K
  show AWp _ _ _ _ _
  refine wseq ?_
  refine wdraw (.take 0 (.take 2 (.all [(1, .all [(3, .take 4 (.all [(5, .done)]))]), (3, .all [(1, .take 4 (.all [(5, .done)]))])]))) ⟨by kernel_rfl, by kernel_rfl⟩ fun K hK => ?_
  have hJ : K ⟨ofL [(0, .pt (0, 0) [] 0)], ofRO [((0, 0), some (.bx (zO z0)))]⟩ := by
    refine hK _ ?_; clear hK K
    show AWp _ _ _ _ _
    refine wret ?_
    simp [C.spec_NewSession, zO]
  clear hK
  simp [C.spec_NewSession]
  refine ⟨?_, ?_⟩
  · refine wcall1 (spec_l3Initial_calls 2 2 [0, 1, -1, 0] (by omega) (by simp)) (by simp) (by simp) ?_
    simp [C.spec_NewSession, sO]
    refine cast (congrArg K ?_) hJ
    rfl
  · refine wcall1 (spec_l3Initial_calls 2 2 [0, 1, -1, 0] (by omega) (by simp)) (by simp) (by simp) ?_
    simp [C.spec_NewSession, sO]
    refine cast (congrArg K ?_) hJ
    rfl

theorem impl_InitialSeed_calls (n : Int) (r : Nat) (d : List Int) (hr : r ≤ 8) (hx : d.length < 17592186044416) (hok : ACalls Try.prog F.impl_MatrixOk [.ag [.int n, .int r, .d (shI d)]] [] true (fun outs res => outs = [] ∧ res = [.one (D.bool true)])) : ACalls Try.prog F.impl_InitialSeed [.ag [.int n, .int r, .d (shI d)]] [] true (fun outs res => outs = [] ∧ res = [.ag (sO ⟨⟨n, r, d⟩, varsL r⟩), .one (D.bool true)]) := by
  refine ACalls.of_body (C := C.impl_InitialSeed) (n := Try.f168.ntmps) tabT folT Try.func168 rfl (by kernel_rfl) rfl (Nat.le_of_ble_eq_true rfl) (by decide) (by kernel_rfl) (by kernel_rfl) rfl (by simp) (by simp) ?_
  simp only [Try.f168]
  refine wseq ?_
  refine wreg fun K hK => ?_
  simp [C.impl_InitialSeed]
  refine hK _ ?_; clear hK K
  show AWp _ _ _ _ _
  refine wseq ?_
  refine wseq ?_
  refine wregI ([0, 1] ++ ([2])) rfl fun K hK => ?_
  refine opsI_seg fun L hL => ?_
  simp [C.impl_InitialSeed]
  refine wcall1 (hok) (by simp) (by simp) ?_
  simp [C.impl_InitialSeed]
  refine hL _ ?_; clear hL L
  refine opsI_end fun L hL => ?_
  simp [C.impl_InitialSeed]
  refine hL _ ?_; clear hL L
  simp [C.impl_InitialSeed]
  refine hK _ ?_; clear hK K
  show AWp _ _ _ _ _
  refine wcond _ rfl (fun hc1 => ?_) (fun hc1 => ?_)
  · simp at hc1
  · refine wskip ?_
    show AWp _ _ _ _ _
    refine wseq ?_
    refine wdraw (.take 0 (.take 1 (.take 2 (.take 3 (.take 4 (.take 5 (.all [(6, .take 7 (.take 8 (.all [(9, .all [(10, .done)])]))), (9, .all [(6, .take 7 (.take 8 (.all [(10, .done)])))])]))))))) ⟨by kernel_rfl, by kernel_rfl⟩ fun K hK => ?_
    have hJ : K ⟨ofL [(1, .pt (1, 0) [] 0), (2, .pt (2, 0) [] 0), (4, .pt (4, 0) [] 0)], ofRO [((1, 0), some (.bx [D.int n, D.int r, shI d])), ((2, 0), some (.bx [D.int 0, D.int 0, .v (.slice none 0 0), .v (.slice none 0 0)])), ((4, 0), some (.bx [D.int n, D.int r, owI d, .v (.slice none 0 0)]))]⟩ := by
      refine hK _ ?_; clear hK K
      show AWp _ _ _ _ _
      refine wseq ?_
      refine wseq ?_
      refine wreg fun K hK => ?_
      simp [C.impl_InitialSeed]
      refine hK _ ?_; clear hK K
      show AWp _ _ _ _ _
      refine wblock ?_
      refine wloopW (fun x : Nat × List Lau => ⟨ofL [(1, .pt (1, 0) [] 0), (2, .pt (2, 0) [] 0), (4, .pt (4, 0) [] 0), (5, .int x.1)], ofRO [((1, 0), some (.bx [D.int n, D.int r, shI d])), ((2, 0), some (.bx [D.int 0, D.int 0, .v (.slice none 0 0), .v (.slice none 0 0)])), ((4, 0), some (.bx [D.int n, D.int r, owI d, .ow 2 x.1 (rows fO x.2)]))]⟩) (fun x => x.1 ≤ r ∧ x.2 = (List.range x.1).map fun i => monoF (unitL r i)) (fun x => r - x.1) (0, []) [.cell (4, 0) [] 3 2] (by simp [C.impl_InitialSeed, rows]; (first | (constructor <;> funext t) | funext t) <;> simp only [ofL, ofRO] <;> (repeat' (first | rfl | split)) <;> simp_all) (by simp) ?_
      intro x1 hx1 R1 hR1
      obtain ⟨j, gs⟩ := x1
      obtain ⟨hj, hg⟩ := hx1
      dsimp only at hj hg ⊢
      refine wseq ?_
      refine wseq ?_
      refine wreg fun K hK => ?_
      simp [C.impl_InitialSeed]
      refine hK _ ?_; clear hK K
      show AWp _ _ _ _ _
      refine wcond _ rfl (fun hc2 => ?_) (fun hc2 => ?_)
      · have h1 : j < r := by have := d_t hc2; omega
        have hgl : gs.length = j := by rw [hg]; simp
        refine wskip ?_
        show AWp _ _ _ _ _
        refine wseq ?_
        refine wblock ?_
        refine wdrawI [(true, 0), (true, 1), (true, 2), (true, 3), (true, 4), (false, 5), (false, 6), (false, 7), (false, 8), (true, 9), (false, 10)] ⟨by kernel_rfl, by kernel_rfl⟩ ([0, 1, 2, 3, 4, 5] ++ ([6] ++ ([7, 8, 9, 10]))) rfl fun K hK => ?_
        refine opsI_seg fun L hL => ?_
        simp [C.impl_InitialSeed, fO, fO_snoc, show (j + 1) * 32 ≤ 140737488355328 by omega]
        refine wcall1 (impl_unit_calls r j hr h1) (by simp) (by simp) ?_
        simp [C.impl_InitialSeed, fO, fO_snoc, show (j + 1) * 32 ≤ 140737488355328 by omega]
        refine hL _ ?_; clear hL L
        refine opsI_seg fun L hL => ?_
        simp [C.impl_InitialSeed, fO, fO_snoc, show (j + 1) * 32 ≤ 140737488355328 by omega]
        refine wcall1 (iMono_calls (unitL r j) (by rw [unitL_length]; omega)) (by simp) (by simp) ?_
        simp [C.impl_InitialSeed, fO, fO_snoc, show (j + 1) * 32 ≤ 140737488355328 by omega]
        refine hL _ ?_; clear hL L
        refine opsI_end fun L hL => ?_
        simp [C.impl_InitialSeed, fO, fO_snoc, show (j + 1) * 32 ≤ 140737488355328 by omega]
        refine hL _ ?_; clear hL L
        simp [C.impl_InitialSeed, fO, fO_snoc, show (j + 1) * 32 ≤ 140737488355328 by omega]
        refine hK _ ?_; clear hK K
        show AWp _ _ _ _ _
        refine wreg fun K hK => ?_
        simp [C.impl_InitialSeed, wrap_succ (show j < 4611686018427387904 by omega)]
        refine hK _ ?_; clear hK K
        simp [C.impl_InitialSeed]
        refine hR1 (j + 1, _) ⟨h1, ?_⟩ (by dsimp only; omega)
        dsimp only
        rw [hg, List.range_succ, List.map_append]
        rfl
      · have h1 : j = r := by have := d_f hc2; omega
        subst h1
        refine wexit ?_
        show AWp _ _ _ _ _
        refine wseq ?_
        refine wreg fun K hK => ?_
        simp [C.impl_InitialSeed]
        refine hK _ ?_; clear hK K
        show AWp _ _ _ _ _
        refine wret ?_
        simp [C.impl_InitialSeed, hg, sO, varsL]
    clear hK
    simp [C.impl_InitialSeed]
    refine ⟨?_, ?_⟩
    · refine wcall1 (clone_calls d hx) (by simp) (by simp) ?_
      simp [C.impl_InitialSeed]
      exact hJ
    · refine wcall1 (clone_calls d hx) (by simp) (by simp) ?_
      simp [C.impl_InitialSeed]
      exact hJ

theorem impl_copyLaurent_calls (f : Lau) (hl : f.ts.length ≤ 1000000) (he : ∀ t ∈ f.ts, t.e.length < 17592186044416) : ACalls Try.prog F.impl_copyLaurent [aF f] [] true (fun outs res => outs = [] ∧ res = [.ag (fO f)]) := by
  refine ACalls.of_body (C := C.impl_copyLaurent) (n := Try.f218.ntmps) tabT folT Try.func218 rfl (by kernel_rfl) rfl (Nat.le_of_ble_eq_true rfl) (by decide) (by kernel_rfl) (by kernel_rfl) rfl (by simp) (by simp) ?_
  simp only [Try.f218]
  refine wseq ?_
  refine wreg fun K hK => ?_
  simp [C.impl_copyLaurent]
  refine hK _ ?_; clear hK K
  show AWp _ _ _ _ _
  refine wseq ?_
  refine wreg fun K hK => ?_
  simp [C.impl_copyLaurent]
  refine hK _ ?_; clear hK K
  show AWp _ _ _ _ _
  refine wseq ?_
  refine wseq ?_
  refine wreg fun K hK => ?_
  simp [C.impl_copyLaurent]
  refine hK _ ?_; clear hK K
  show AWp _ _ _ _ _
  refine wblock ?_
  refine wloopW (fun x : Nat × List Trm => ⟨ofL [(2, .pt (2, 0) [] 0), (3, .pt (3, 0) [] 0), (10, .d (.sh 2 f.ts.length (rows tS f.ts))), (11, .int f.ts.length), (12, .int x.1)], ofRO [((2, 0), some (.bx [D.int 0, .v (.slice none 0 0)])), ((3, 0), some (.bx [D.int f.v, .ow 2 x.1 (rows tO x.2)]))]⟩) (fun x => x.1 ≤ f.ts.length ∧ x.2 = f.ts.take x.1) (fun x => f.ts.length - x.1) (0, []) [.cell (3, 0) [] 1 2] (by simp [C.impl_copyLaurent, rows]; (first | (constructor <;> funext t) | funext t) <;> simp only [ofL, ofRO] <;> (repeat' (first | rfl | split)) <;> simp_all) (by simp) ?_
  intro x1 hx1 R1 hR1
  obtain ⟨j, gs⟩ := x1
  obtain ⟨hj, hg⟩ := hx1
  dsimp only at hj hg ⊢
  refine wseq ?_
  refine wreg fun K hK => ?_
  simp [C.impl_copyLaurent]
  refine hK _ ?_; clear hK K
  show AWp _ _ _ _ _
  refine wseq ?_
  refine wcond _ rfl (fun hc1 => ?_) (fun hc1 => ?_)
  · have h1 : j < f.ts.length := by have := d_t hc1; omega
    have hgl : gs.length = j := by rw [hg]; simp; omega
    refine wskip ?_
    show AWp _ _ _ _ _
    refine wseq ?_
    refine wblock ?_
    refine wseq ?_
    refine wreg fun K hK => ?_
    simp [C.impl_copyLaurent, h1, tS_0 h1, tS_1 h1]
    refine hK _ ?_; clear hK K
    show AWp _ _ _ _ _
    refine wdrawI [(true, 0), (true, 1), (true, 2), (true, 3), (true, 5), (true, 6), (false, 4), (true, 7), (false, 8), (false, 9), (true, 10), (false, 11)] ⟨by kernel_rfl, by kernel_rfl⟩ ([0, 1, 2, 3, 5, 6, 4] ++ ([7, 8, 9, 10, 11])) rfl fun K hK => ?_
    refine opsI_seg fun L hL => ?_
    simp [C.impl_copyLaurent, h1, tO_snoc, show (j + 1) * 32 ≤ 140737488355328 by omega]
    refine wcall1 (clone_calls f.ts[j].e (he _ (List.getElem_mem h1))) (by simp) (by simp) ?_
    simp [C.impl_copyLaurent, h1, tO_snoc, show (j + 1) * 32 ≤ 140737488355328 by omega]
    refine hL _ ?_; clear hL L
    refine opsI_end fun L hL => ?_
    simp [C.impl_copyLaurent, h1, tO_snoc, show (j + 1) * 32 ≤ 140737488355328 by omega]
    refine hL _ ?_; clear hL L
    simp [C.impl_copyLaurent, h1, tO_snoc, show (j + 1) * 32 ≤ 140737488355328 by omega]
    refine hK _ ?_; clear hK K
    show AWp _ _ _ _ _
    refine wreg fun K hK => ?_
    simp [C.impl_copyLaurent, wrap_succ (show j < 4611686018427387904 by omega)]
    refine hK _ ?_; clear hK K
    simp [C.impl_copyLaurent]
    refine hR1 (j + 1, _) ⟨h1, ?_⟩ (by dsimp only; omega)
    dsimp only
    rw [hg, List.take_succ_eq_append_getElem h1]
  · have h1 : j = f.ts.length := by have := d_f hc1; omega
    refine wexit ?_
    show AWp _ _ _ _ _
    refine wseq ?_
    refine wreg fun K hK => ?_
    simp [C.impl_copyLaurent]
    refine hK _ ?_; clear hK K
    show AWp _ _ _ _ _
    refine wret ?_
    simp [C.impl_copyLaurent, hg, h1, fO]

theorem impl_copySeed_calls (s : Sed) (hx : s.m.d.length < 17592186044416) (hl : s.f.length ≤ 1000000) (hf : ∀ f ∈ s.f, f.ts.length ≤ 1000000 ∧ ∀ t ∈ f.ts, t.e.length < 17592186044416) : ACalls Try.prog F.impl_copySeed [aS s] [] true (fun outs res => outs = [] ∧ res = [.ag (sO s)]) := by
  refine ACalls.of_body (C := C.impl_copySeed) (n := Try.f169.ntmps) tabT folT Try.func169 rfl (by kernel_rfl) rfl (Nat.le_of_ble_eq_true rfl) (by decide) (by kernel_rfl) (by kernel_rfl) rfl (by simp) (by simp) ?_
  simp only [Try.f169]
  refine wseq ?_
  refine wreg fun K hK => ?_
  simp [C.impl_copySeed, sS]
  refine hK _ ?_; clear hK K
  show AWp _ _ _ _ _
  refine wseq ?_
  refine wdraw (.take 0 (.take 1 (.take 2 (.take 3 (.take 4 (.take 5 (.take 6 (.take 7 (.take 8 (.all [(9, .take 10 (.take 11 (.all [(12, .all [(13, .done)])]))), (12, .all [(9, .take 10 (.take 11 (.all [(13, .done)])))])])))))))))) ⟨by kernel_rfl, by kernel_rfl⟩ fun K hK => ?_
  have hJ : K ⟨ofL [(1, .pt (1, 0) [] 0), (2, .pt (2, 0) [] 0), (3, .pt (3, 0) [] 0)], ofRO [((1, 0), some (.bx (sS s))), ((2, 0), some (.bx [D.int 0, D.int 0, .v (.slice none 0 0), .v (.slice none 0 0)])), ((3, 0), some (.bx [D.int s.m.n, D.int s.m.r, owI s.m.d, .v (.slice none 0 0)]))]⟩ := by
    refine hK _ ?_; clear hK K
    show AWp _ _ _ _ _
    refine wseq ?_
    refine wseq ?_
    refine wreg fun K hK => ?_
    simp [C.impl_copySeed, sS]
    refine hK _ ?_; clear hK K
    show AWp _ _ _ _ _
    refine wblock ?_
    refine wloopW (fun x : Nat × List Lau => ⟨ofL [(2, .pt (2, 0) [] 0), (3, .pt (3, 0) [] 0), (19, .d (.sh 2 s.f.length (rows fS s.f))), (20, .int s.f.length), (21, .int x.1)], ofRO [((2, 0), some (.bx [D.int 0, D.int 0, .v (.slice none 0 0), .v (.slice none 0 0)])), ((3, 0), some (.bx [D.int s.m.n, D.int s.m.r, owI s.m.d, .ow 2 x.1 (rows fO x.2)]))]⟩) (fun x => x.1 ≤ s.f.length ∧ x.2 = s.f.take x.1) (fun x => s.f.length - x.1) (0, []) [.cell (3, 0) [] 3 2] (by simp [C.impl_copySeed, rows]; (first | (constructor <;> funext t) | funext t) <;> simp only [ofL, ofRO] <;> (repeat' (first | rfl | split)) <;> simp_all) (by simp) ?_
    intro x1 hx1 R1 hR1
    obtain ⟨j, gs⟩ := x1
    obtain ⟨hj, hg⟩ := hx1
    dsimp only at hj hg ⊢
    refine wseq ?_
    refine wreg fun K hK => ?_
    simp [C.impl_copySeed, sS]
    refine hK _ ?_; clear hK K
    show AWp _ _ _ _ _
    refine wseq ?_
    refine wcond _ rfl (fun hc1 => ?_) (fun hc1 => ?_)
    · have h1 : j < s.f.length := by have := d_t hc1; omega
      have hgl : gs.length = j := by rw [hg]; simp; omega
      refine wskip ?_
      show AWp _ _ _ _ _
      refine wseq ?_
      refine wblock ?_
      refine wseq ?_
      refine wreg fun K hK => ?_
      simp [C.impl_copySeed, sS, h1, fS_0 h1, fS_1 h1]
      refine hK _ ?_; clear hK K
      show AWp _ _ _ _ _
      refine wdrawI [(true, 0), (true, 1), (true, 2), (false, 3), (false, 4), (false, 5), (true, 6), (false, 7)] ⟨by kernel_rfl, by kernel_rfl⟩ ([0, 1, 2, 3] ++ ([4, 5, 6, 7])) rfl fun K hK => ?_
      refine opsI_seg fun L hL => ?_
      simp [C.impl_copySeed, sS, h1, fO, fO_snoc, show (j + 1) * 32 ≤ 140737488355328 by omega]
      refine wcall1 (impl_copyLaurent_calls s.f[j] (hf _ (List.getElem_mem h1)).1 (hf _ (List.getElem_mem h1)).2) (by simp) (by simp) ?_
      simp [C.impl_copySeed, sS, h1, fO, fO_snoc, show (j + 1) * 32 ≤ 140737488355328 by omega]
      refine hL _ ?_; clear hL L
      refine opsI_end fun L hL => ?_
      simp [C.impl_copySeed, sS, h1, fO, fO_snoc, show (j + 1) * 32 ≤ 140737488355328 by omega]
      refine hL _ ?_; clear hL L
      simp [C.impl_copySeed, sS, h1, fO, fO_snoc, show (j + 1) * 32 ≤ 140737488355328 by omega]
      refine hK _ ?_; clear hK K
      show AWp _ _ _ _ _
      refine wreg fun K hK => ?_
      simp [C.impl_copySeed, sS, wrap_succ (show j < 4611686018427387904 by omega)]
      refine hK _ ?_; clear hK K
      simp [C.impl_copySeed, sS]
      refine hR1 (j + 1, _) ⟨h1, ?_⟩ (by dsimp only; omega)
      dsimp only
      rw [hg, List.take_succ_eq_append_getElem h1]
    · have h1 : j = s.f.length := by have := d_f hc1; omega
      refine wexit ?_
      show AWp _ _ _ _ _
      refine wseq ?_
      refine wreg fun K hK => ?_
      simp [C.impl_copySeed, sS]
      refine hK _ ?_; clear hK K
      show AWp _ _ _ _ _
      refine wret ?_
      simp [C.impl_copySeed, sS, hg, h1, sO]
  clear hK
  simp [C.impl_copySeed]
  refine ⟨?_, ?_⟩
  · refine wcall1 (clone_calls s.m.d hx) (by simp) (by simp) ?_
    simp [C.impl_copySeed]
    exact hJ
  · refine wcall1 (clone_calls s.m.d hx) (by simp) (by simp) ?_
    simp [C.impl_copySeed]
    exact hJ

end Go.Proofs.Ytdgeponcnlkaiaa.Ab
namespace Go.Proofs.Ytdgeponcnlkaiaa.Ab
open Go
set_option linter.unusedSimpArgs false
set_option linter.unusedVariables false
set_option maxRecDepth 10000
set_option maxHeartbeats 2000000
def minF (x : Int) (ts : List Trm) (i : Nat) : Int := ts.foldl (fun m t => min m (t.e.getD i 0)) x
theorem minF_snoc (x : Int) (ts : List Trm) (t : Trm) (i : Nat) : minF x (ts ++ [t]) i = min (minF x ts i) (t.e.getD i 0) := by simp [minF, List.foldl_append]
theorem minF_le (x : Int) (i : Nat) : ∀ ts : List Trm, minF x ts i ≤ x ∧ (∀ t ∈ ts, minF x ts i ≤ t.e.getD i 0) ∧ (minF x ts i = x ∨ ∃ t ∈ ts, minF x ts i = t.e.getD i 0) := by
  intro ts
  induction ts generalizing x with
  | nil => simp [minF]
  | cons t ts ih =>
    obtain ⟨h1, h2, h3⟩ := ih (min x (t.e.getD i 0))
    have e : minF x (t :: ts) i = minF (min x (t.e.getD i 0)) ts i := rfl
    rw [e]
    refine ⟨by omega, fun u hu => ?_, ?_⟩
    · rcases List.mem_cons.1 hu with rfl | hu
      · omega
      · exact h2 u hu
    · rcases h3 with h3 | ⟨u, hu, h3⟩
      · by_cases hle : x ≤ t.e.getD i 0
        · exact .inl (by rw [h3]; omega)
        · exact .inr ⟨t, by simp, by rw [h3]; omega⟩
      · exact .inr ⟨u, by simp [hu], h3⟩
def lowA (x : Nat → Int) (ts : List Trm) (n : Nat) : List Int := (List.range n).map fun i => minF (x i) ts i
@[simp] theorem lowA_length (x : Nat → Int) (ts : List Trm) (n : Nat) : (lowA x ts n).length = n := by simp [lowA]
theorem lowA_get (x : Nat → Int) (ts : List Trm) (n i : Nat) (h : i < n) : (lowA x ts n)[i]'(by simpa using h) = minF (x i) ts i := by simp [lowA]
theorem getD_eq {l : List Int} {i : Nat} (h : i < l.length) : l.getD i 0 = l[i] := by simp [List.getD, h]
theorem mix_set {α : Type} (xs ys : List α) (i : Nat) (h : i < xs.length) (hl : xs.length = ys.length) : (xs.take i ++ ys.drop i).set i xs[i] = xs.take (i + 1) ++ ys.drop (i + 1) := by
  rw [List.set_append_right _ _ (by simp; omega), List.take_succ_eq_append_getElem h]
  simp only [List.length_take, Nat.min_eq_left (Nat.le_of_lt h), Nat.sub_self]
  rw [List.drop_eq_getElem_cons (by omega), List.set_cons_zero, List.append_assoc]
  rfl
theorem mix_get {α : Type} (xs ys : List α) (i : Nat) (h : i < ys.length) (hl : xs.length = ys.length) : (xs.take i ++ ys.drop i)[i]? = some ys[i] := by
  rw [List.getElem?_append_right (by simp; omega)]
  simp [Nat.min_eq_left (show i ≤ xs.length by omega), h]
def headE (ts : List Trm) (i : Nat) : Int := match ts with | [] => 0 | t :: _ => t.e.getD i 0
theorem lowA_start (ts : List Trm) (n : Nat) (h : 0 < ts.length) (he : ∀ t ∈ ts, t.e.length = n) : lowA (headE ts) [] n = (ts[0]'h).e := by
  match ts, h with
  | t :: ts, _ =>
    have h1 := he t (by simp)
    apply List.ext_getElem
    · simp [h1]
    · intro i h2 h3
      rw [lowA_get _ _ _ _ (by simpa using h2)]
      simp only [minF, List.foldl_nil, headE, List.getElem_cons_zero]
      exact getD_eq h3
def lowL (ts : List Trm) (n : Nat) : List Int := lowA (headE ts) ts n
theorem lowL_20 {ts : List Trm} {n : Nat} (h : 0 < ts.length) (he : ∀ t ∈ ts, t.e.length = n ∧ ∀ x ∈ t.e, -20 ≤ x ∧ x ≤ 20) : lowL ts n = lowA (fun _ => 20) ts n := by
  unfold lowL lowA
  apply List.map_congr_left
  intro i hi
  have hi2 : i < n := by simpa using hi
  match ts, h with
  | t :: ts, _ =>
    have h1 := he t (by simp)
    have h2 := h1.2 _ (List.getElem_mem (show i < t.e.length by omega))
    simp only [minF, List.foldl_cons, headE, getD_eq (show i < t.e.length by omega)]
    rw [show min (20 : Int) t.e[i] = t.e[i] by omega, show min t.e[i] t.e[i] = t.e[i] by omega]
theorem lowA_bd {ts : List Trm} {n : Nat} (he : ∀ t ∈ ts, t.e.length = n ∧ ∀ x ∈ t.e, -20 ≤ x ∧ x ≤ 20) : ∀ x ∈ lowA (fun _ => 20) ts n, -20 ≤ x ∧ x ≤ 20 := by
  intro x hx
  unfold lowA at hx
  obtain ⟨i, hi, rfl⟩ := List.mem_map.1 hx
  have hi2 : i < n := by simpa using hi
  obtain ⟨h1, _, h3⟩ := minF_le 20 i ts
  show -20 ≤ minF 20 ts i ∧ minF 20 ts i ≤ 20
  refine ⟨?_, h1⟩
  rcases h3 with h3 | ⟨t, ht, h3⟩
  · omega
  · have h4 := he t ht
    rw [h3, getD_eq (by omega)]
    exact (h4.2 _ (List.getElem_mem _)).1
theorem spec_l2Least_calls (f : Lau) (n : Nat) (hn : f.v = n) (hn8 : n ≤ 8) (h0 : 0 < f.ts.length) (hl : f.ts.length ≤ 600) (he : ∀ t ∈ f.ts, t.e.length = n) : ACalls Try.prog F.spec_l2Least [aF f] [] true (fun outs res => outs = [] ∧ res = [.one (owI (lowL f.ts n))]) := by
  have h0e := he _ (List.getElem_mem h0)
  refine ACalls.of_body (C := C.spec_l2Least) (n := Try.f195.ntmps) tabT folT Try.func195 rfl (by kernel_rfl) rfl (Nat.le_of_ble_eq_true rfl) (by decide) (by kernel_rfl) (by kernel_rfl) rfl (by simp) (by simp) ?_
  simp only [Try.f195]
  refine wseq ?_
  refine wreg fun K hK => ?_
  simp [C.spec_l2Least, fS, hn]
  refine hK _ ?_; clear hK K
  show AWp _ _ _ _ _
  refine wseq ?_
  refine wregI ([0, 1, 2, 3, 4, 5] ++ ([6])) rfl fun K hK => ?_
  refine opsI_seg fun L hL => ?_
  simp [C.spec_l2Least, fS, hn, h0, tS_0 h0]
  refine wcall1 (spec_l1Ints_calls f.ts[0].e (by omega)) (by simp) (by simp) ?_
  simp [C.spec_l2Least, fS, hn, h0, tS_0 h0]
  refine hL _ ?_; clear hL L
  refine opsI_end fun L hL => ?_
  simp [C.spec_l2Least, fS, hn, h0, tS_0 h0]
  refine hL _ ?_; clear hL L
  simp [C.spec_l2Least, fS, hn, h0, tS_0 h0]
  refine hK _ ?_; clear hK K
  show AWp _ _ _ _ _
  refine wseq ?_
  refine wseq ?_
  refine wreg fun K hK => ?_
  simp [C.spec_l2Least, fS, hn]
  refine hK _ ?_; clear hK K
  show AWp _ _ _ _ _
  refine wblock ?_
  refine wloop (fun x : Nat => ⟨ofL [(1, .pt (1, 0) [] 0), (3, .al (3, 0) [] 0 n), (4, .int x)], ofRO [((1, 0), some (.bx (fS f))), ((3, 0), some (.ow 1 n (ints (lowA (headE f.ts) (f.ts.take x) n))))]⟩) (fun x => x ≤ f.ts.length) (fun x => f.ts.length - x) 0 (by simp [C.spec_l2Least, fS, hn, lowA_start f.ts n h0 he, h0e]) (by simp) ?_
  intro x1 hx1 R1 hR1
  refine wseq ?_
  refine wseq ?_
  refine wreg fun K hK => ?_
  simp [C.spec_l2Least, fS, hn]
  refine hK _ ?_; clear hK K
  show AWp _ _ _ _ _
  refine wcond _ rfl (fun hc1 => ?_) (fun hc1 => ?_)
  · have h1 : x1 < f.ts.length := d_t hc1
    have h1e := he _ (List.getElem_mem h1)
    refine wskip ?_
    show AWp _ _ _ _ _
    refine wseq ?_
    refine wblock ?_
    refine wseq ?_
    refine wreg fun K hK => ?_
    simp [C.spec_l2Least, fS, hn]
    refine hK _ ?_; clear hK K
    show AWp _ _ _ _ _
    refine wblock ?_
    refine wloop (fun x : Nat => ⟨ofL [(1, .pt (1, 0) [] 0), (3, .al (3, 0) [] 0 n), (4, .int x1), (5, .int x)], ofRO [((1, 0), some (.bx (fS f))), ((3, 0), some (.ow 1 n (ints ((lowA (headE f.ts) (f.ts.take (x1 + 1)) n).take x ++ (lowA (headE f.ts) (f.ts.take x1) n).drop x))))]⟩) (fun x => x ≤ n) (fun x => n - x) 0 (by simp [C.spec_l2Least, fS, hn]) (by simp) ?_
    intro x2 hx2 R2 hR2
    refine wseq ?_
    refine wseq ?_
    refine wreg fun K hK => ?_
    simp [C.spec_l2Least, fS, hn]
    refine hK _ ?_; clear hK K
    show AWp _ _ _ _ _
    refine wcond _ rfl (fun hc2 => ?_) (fun hc2 => ?_)
    · have h2 : x2 < n := by have := d_t hc2; omega
      have hg1 := mix_get (lowA (headE f.ts) (f.ts.take (x1 + 1)) n) (lowA (headE f.ts) (f.ts.take x1) n) x2 (by simpa using h2) (by simp)
      have hg2 : minF (headE f.ts x2) (f.ts.take (x1 + 1)) x2 = min (minF (headE f.ts x2) (f.ts.take x1) x2) (f.ts[x1].e[x2]'(by omega)) := by
        rw [List.take_succ_eq_append_getElem h1, minF_snoc, getD_eq (by omega)]
      have hset := mix_set (lowA (headE f.ts) (f.ts.take (x1 + 1)) n) (lowA (headE f.ts) (f.ts.take x1) n) x2 (by simpa using h2) (by simp)
      rw [lowA_get _ _ _ _ h2] at hset hg1
      rw [hg2] at hset
      have hlen : ((lowA (headE f.ts) (f.ts.take (x1 + 1)) n).take x2 ++ (lowA (headE f.ts) (f.ts.take x1) n).drop x2).length = n := by simp; omega
      generalize hM : (lowA (headE f.ts) (f.ts.take (x1 + 1)) n).take x2 ++ (lowA (headE f.ts) (f.ts.take x1) n).drop x2 = M at hset hg1 hlen
      have h2M : x2 < M.length := by omega
      rw [List.getElem?_eq_getElem h2M] at hg1
      have hg3 : M[x2] = minF (headE f.ts x2) (f.ts.take x1) x2 := by injection hg1
      rw [← hg3] at hset
      refine wskip ?_
      show AWp _ _ _ _ _
      refine wseq ?_
      refine wblock ?_
      refine wdrawI [(true, 0), (true, 1), (true, 2), (true, 3), (true, 4), (true, 5), (true, 6), (true, 7), (true, 8), (true, 9), (true, 10), (true, 11), (true, 12), (true, 13), (true, 14), (true, 15), (true, 16), (false, 17)] ⟨by kernel_rfl, by kernel_rfl⟩ ([0, 1, 2, 3, 4, 5, 6, 7, 8, 9, 10, 11, 12, 13, 14, 15, 16, 17]) rfl fun K hK => ?_
      refine opsI_end fun L hL => ?_
      simp [C.spec_l2Least, fS, hn, h1, tS_0 h1, h1e, h2, hlen, get_ints, h2M]
      refine hL _ ?_; clear hL L
      simp [C.spec_l2Least, fS, hn, h1, tS_0 h1, h1e, h2, hlen, get_ints, h2M]
      refine hK _ ?_; clear hK K
      show AWp _ _ _ _ _
      refine wreg fun K hK => ?_
      simp [C.spec_l2Least, fS, hn, wrap_succ (show x2 < 4611686018427387904 by omega), hset, modify_const, ints_set]
      refine hK _ ?_; clear hK K
      simp [C.spec_l2Least, fS, hn]
      refine cast (congrArg R2 ?_) (hR2 (x2 + 1) h2 (by omega))
      simp [fS, hn]
    · have h2 : x2 = n := by have := d_f hc2; omega
      refine wexit ?_
      show AWp _ _ _ _ _
      refine wreg fun K hK => ?_
      simp [C.spec_l2Least, fS, hn, wrap_succ (show x1 < 4611686018427387904 by omega)]
      refine hK _ ?_; clear hK K
      simp [C.spec_l2Least, fS, hn]
      refine cast (congrArg R1 ?_) (hR1 (x1 + 1) h1 (by omega))
      simp [fS, hn, h2, List.take_of_length_le, List.drop_of_length_le]
  · have h1 : x1 = f.ts.length := by have := d_f hc1; omega
    refine wexit ?_
    show AWp _ _ _ _ _
    refine wseq ?_
    refine wreg fun K hK => ?_
    simp [C.spec_l2Least, fS, hn]
    refine hK _ ?_; clear hK K
    show AWp _ _ _ _ _
    refine wret ?_
    simp [C.spec_l2Least, fS, hn, h1, lowL]

def denL (f : Lau) : List Int := (lowL f.ts f.v.toNat).map fun x => -x
@[simp] theorem denL_length (f : Lau) : (denL f).length = f.v.toNat := by simp [denL, lowL]
noncomputable def denD (f : Lau) : D := if Right f ∧ f.ts ≠ [] then owI (denL f) else .v (.slice none 0 0)
theorem right_he {f : Lau} {n : Nat} (h : Right f) (hn : f.v = n) : ∀ t ∈ f.ts, t.e.length = n ∧ ∀ x ∈ t.e, -20 ≤ x ∧ x ≤ 20 := fun t ht => by
  have := h.2.2.1 t ht
  exact ⟨by have := this.1; omega, this.2.2.2⟩
theorem map_mix (xs : List Int) (i : Nat) (h : i < xs.length) : ((xs.map fun x => -x).take i ++ xs.drop i).set i (-xs[i]) = (xs.map fun x => -x).take (i + 1) ++ xs.drop (i + 1) := by
  have := mix_set (xs.map fun x => -x) xs i (by simpa using h) (by simp)
  simpa using this
theorem ieq0 (n : Nat) : ((n : Int) == 0) = decide (n = 0) := by
  rw [Bool.eq_iff_iff]; simp
theorem spec_DenominatorOf_calls (f : Lau) (hx : f.ts.length < 4611686018427387904) (hxe : ∀ t ∈ f.ts, t.e.length < 4611686018427387904) : ACalls Try.prog F.spec_DenominatorOf [aF f] [] true (fun outs res => outs = [] ∧ res = [.one (denD f)]) := by
  refine ACalls.of_body (C := C.spec_DenominatorOf) (n := Try.f150.ntmps) tabT folT Try.func150 rfl (by kernel_rfl) rfl (Nat.le_of_ble_eq_true rfl) (by decide) (by kernel_rfl) (by kernel_rfl) rfl (by simp) (by simp) ?_
  simp only [Try.f150]
  refine wseq ?_
  refine wreg fun K hK => ?_
  simp [C.spec_DenominatorOf, fS]
  refine hK _ ?_; clear hK K
  show AWp _ _ _ _ _
  refine wseq ?_
  refine wseq ?_
  refine wregI ([0, 1] ++ ([2, 3, 4, 5, 6, 7, 8])) rfl fun K hK => ?_
  have hJ : K ⟨ofL [(1, .pt (1, 0) [] 0), (13, .bool (!decide (Right f ∧ f.ts ≠ [])))], ofRO [((1, 0), some (.bx (fS f)))]⟩ := by
    refine hK _ ?_; clear hK K
    show AWp _ _ _ _ _
    refine wcond _ rfl (fun hc1 => ?_) (fun hc1 => ?_)
    · have hr := nd_t hc1
      have hm : denD f = .v (.slice none 0 0) := if_neg hr
      refine wseq ?_
      refine wreg fun K hK => ?_
      simp [C.spec_DenominatorOf, fS]
      refine hK _ ?_; clear hK K
      show AWp _ _ _ _ _
      refine wret ?_
      simp [C.spec_DenominatorOf, fS, hm]
    · obtain ⟨hf, hne⟩ := nd_f hc1
      obtain ⟨n, hn⟩ : ∃ n : Nat, f.v = n := ⟨f.v.toNat, by have := hf.1; omega⟩
      have hm : denD f = owI (denL f) := if_pos ⟨hf, hne⟩
      have hv := hf.1
      have hl := hf.2.1
      have he := right_he hf hn
      have h0 : 0 < f.ts.length := List.length_pos_iff.2 hne
      have hd : denL f = (lowL f.ts n).map fun x => -x := by unfold denL; rw [hn]; rfl
      have hll : (lowL f.ts n).length = n := by simp [lowL]
      have hlb := lowA_bd he
      rw [← lowL_20 h0 he] at hlb
      refine wskip ?_
      show AWp _ _ _ _ _
      refine wseq ?_
      refine wregI ([0, 1] ++ ([2])) rfl fun K hK => ?_
      refine opsI_seg fun L hL => ?_
      simp [C.spec_DenominatorOf, fS, hn]
      refine wcall1 (spec_l2Least_calls f n hn (by omega) h0 hl (fun t ht => (he t ht).1)) (by simp [fS, hn]) (by simp) ?_
      simp [C.spec_DenominatorOf, fS, hn]
      refine hL _ ?_; clear hL L
      refine opsI_end fun L hL => ?_
      simp [C.spec_DenominatorOf, fS, hn]
      refine hL _ ?_; clear hL L
      simp [C.spec_DenominatorOf, fS, hn]
      refine hK _ ?_; clear hK K
      show AWp _ _ _ _ _
      refine wseq ?_
      refine wseq ?_
      refine wreg fun K hK => ?_
      simp [C.spec_DenominatorOf, fS]
      refine hK _ ?_; clear hK K
      show AWp _ _ _ _ _
      refine wblock ?_
      refine wloop (fun x : Nat => ⟨ofL [(1, .pt (1, 0) [] 0), (3, .al (3, 0) [] 0 n), (4, .int x)], ofRO [((1, 0), some (.bx (fS f))), ((3, 0), some (.ow 1 n (ints (((lowL f.ts n).map fun x => -x).take x ++ (lowL f.ts n).drop x))))]⟩) (fun x => x ≤ n) (fun x => n - x) 0 (by simp [C.spec_DenominatorOf, fS, hn, hll]) (by simp) ?_
      intro x1 hx1 R1 hR1
      refine wseq ?_
      refine wseq ?_
      refine wreg fun K hK => ?_
      simp [C.spec_DenominatorOf, fS]
      refine hK _ ?_; clear hK K
      show AWp _ _ _ _ _
      refine wcond _ rfl (fun hc2 => ?_) (fun hc2 => ?_)
      · have h2 : x1 < n := by have := d_t hc2; omega
        have hx1l : x1 < (lowL f.ts n).length := by omega
        have hset := map_mix (lowL f.ts n) x1 hx1l
        have hg1 := mix_get ((lowL f.ts n).map fun x => -x) (lowL f.ts n) x1 hx1l (by simp)
        have hb := hlb _ (List.getElem_mem hx1l)
        have hlen : (((lowL f.ts n).map fun x => -x).take x1 ++ (lowL f.ts n).drop x1).length = n := by simp; omega
        generalize hM : ((lowL f.ts n).map fun x => -x).take x1 ++ (lowL f.ts n).drop x1 = M at hset hg1 hlen
        have h2M : x1 < M.length := by omega
        rw [List.getElem?_eq_getElem h2M] at hg1
        have hg3 : M[x1] = (lowL f.ts n)[x1]'hx1l := by injection hg1
        rw [← hg3] at hset hb
        refine wskip ?_
        show AWp _ _ _ _ _
        refine wseq ?_
        refine wblock ?_
        refine wreg fun K hK => ?_
        simp [C.spec_DenominatorOf, fS, h2, hlen, get_ints, h2M, wrapOk (x := -M[x1]) (by omega) (by omega), hset, modify_const, ints_set]
        refine hK _ ?_; clear hK K
        show AWp _ _ _ _ _
        refine wreg fun K hK => ?_
        simp [C.spec_DenominatorOf, fS, wrap_succ (show x1 < 4611686018427387904 by omega)]
        refine hK _ ?_; clear hK K
        simp [C.spec_DenominatorOf, fS]
        refine cast (congrArg R1 ?_) (hR1 (x1 + 1) h2 (by omega))
        simp [fS, hn]
      · have h2 : x1 = n := by have := d_f hc2; omega
        refine wexit ?_
        show AWp _ _ _ _ _
        refine wseq ?_
        refine wreg fun K hK => ?_
        simp [C.spec_DenominatorOf, fS]
        refine hK _ ?_; clear hK K
        show AWp _ _ _ _ _
        refine wret ?_
        simp [C.spec_DenominatorOf, fS, hm, h2, hd, hll, List.take_of_length_le, List.drop_of_length_le]
  clear hK
  by_cases ha : Right f
  · refine opsI_seg fun L hL => ?_
    simp [C.spec_DenominatorOf, fS, ha]
    refine wcall1 (spec_l2Right_calls f hx hxe) (by simp) (by simp) ?_
    simp [C.spec_DenominatorOf, fS, ha]
    refine hL _ ?_; clear hL L
    refine opsI_end fun L hL => ?_
    simp [C.spec_DenominatorOf, fS, ha]
    refine hL _ ?_; clear hL L
    simp [C.spec_DenominatorOf, fS, ha]
    refine cast (congrArg K ?_) hJ
    simp [ieq0, fS, ha]
  · refine opsI_seg fun L hL => ?_
    simp [C.spec_DenominatorOf, fS, ha]
    refine wcall1 (spec_l2Right_calls f hx hxe) (by simp) (by simp) ?_
    simp [C.spec_DenominatorOf, fS, ha]
    refine hL _ ?_; clear hL L
    refine opsI_end fun L hL => ?_
    simp [C.spec_DenominatorOf, fS, ha]
    refine hL _ ?_; clear hL L
    simp [C.spec_DenominatorOf, fS, ha]
    refine cast (congrArg K ?_) hJ
    simp [ieq0, fS, ha]

theorem impl_DenominatorOf_calls (f : Lau) (hx : f.ts.length < 4611686018427387904) (hxe : ∀ t ∈ f.ts, t.e.length < 4611686018427387904) : ACalls Try.prog F.impl_DenominatorOf [aF f] [] true (fun outs res => outs = [] ∧ res = [.one (denD f)]) := by
  refine ACalls.of_body (C := C.impl_DenominatorOf) (n := Try.f152.ntmps) tabT folT Try.func152 rfl (by kernel_rfl) rfl (Nat.le_of_ble_eq_true rfl) (by decide) (by kernel_rfl) (by kernel_rfl) rfl (by simp) (by simp) ?_
  simp only [Try.f152]
  refine wseq ?_
  refine wreg fun K hK => ?_
  simp [C.impl_DenominatorOf, fS]
  refine hK _ ?_; clear hK K
  show AWp _ _ _ _ _
  refine wseq ?_
  refine wseq ?_
  refine wregI ([0, 1] ++ ([2, 3, 4, 5, 6, 7, 8])) rfl fun K hK => ?_
  have hJ : K ⟨ofL [(1, .pt (1, 0) [] 0), (16, .bool (!decide (Right f ∧ f.ts ≠ [])))], ofRO [((1, 0), some (.bx (fS f)))]⟩ := by
    refine hK _ ?_; clear hK K
    show AWp _ _ _ _ _
    refine wcond _ rfl (fun hc1 => ?_) (fun hc1 => ?_)
    · have hr := nd_t hc1
      have hm : denD f = .v (.slice none 0 0) := if_neg hr
      refine wseq ?_
      refine wreg fun K hK => ?_
      simp [C.impl_DenominatorOf, fS]
      refine hK _ ?_; clear hK K
      show AWp _ _ _ _ _
      refine wret ?_
      simp [C.impl_DenominatorOf, fS, hm]
    · obtain ⟨hf, hne⟩ := nd_f hc1
      obtain ⟨n, hn⟩ : ∃ n : Nat, f.v = n := ⟨f.v.toNat, by have := hf.1; omega⟩
      have hm : denD f = owI (denL f) := if_pos ⟨hf, hne⟩
      have hv := hf.1
      have hl := hf.2.1
      have he := right_he hf hn
      have h0 : 0 < f.ts.length := List.length_pos_iff.2 hne
      have hd : denL f = (lowA (fun _ => 20) f.ts n).map fun x => -x := by unfold denL; rw [hn, ← lowL_20 h0 he]; rfl
      have hlb := lowA_bd he
      refine wskip ?_
      show AWp _ _ _ _ _
      refine wseq ?_
      refine wreg fun K hK => ?_
      simp [C.impl_DenominatorOf, fS, hn, show (8 : Int) * n ≤ 281474976710656 by omega, show (n : Int) ≤ 281474976710656 by omega, zeros_ints]
      refine hK _ ?_; clear hK K
      show AWp _ _ _ _ _
      refine wseq ?_
      refine wseq ?_
      refine wreg fun K hK => ?_
      simp [C.impl_DenominatorOf, fS]
      refine hK _ ?_; clear hK K
      show AWp _ _ _ _ _
      refine wblock ?_
      refine wloop (fun x : Nat => ⟨ofL [(1, .pt (1, 0) [] 0), (3, .al (3, 0) [] 0 n), (21, .int n), (22, .int x)], ofRO [((1, 0), some (.bx (fS f))), ((3, 0), some (.ow 1 n (ints (((lowA (fun _ => 20) f.ts n).map fun x => -x).take x ++ List.replicate (n - x) 0))))]⟩) (fun x => x ≤ n) (fun x => n - x) 0 (by simp [C.impl_DenominatorOf, fS, hn]) (by simp) ?_
      intro x1 hx1 R1 hR1
      refine wseq ?_
      refine wreg fun K hK => ?_
      simp [C.impl_DenominatorOf, fS]
      refine hK _ ?_; clear hK K
      show AWp _ _ _ _ _
      refine wseq ?_
      refine wcond _ rfl (fun hc2 => ?_) (fun hc2 => ?_)
      · have h2 : x1 < n := by have := d_t hc2; omega
        refine wskip ?_
        show AWp _ _ _ _ _
        refine wseq ?_
        refine wblock ?_
        refine wseq ?_
        refine wreg fun K hK => ?_
        simp [C.impl_DenominatorOf, fS]
        refine hK _ ?_; clear hK K
        show AWp _ _ _ _ _
        refine wseq ?_
        refine wreg fun K hK => ?_
        simp [C.impl_DenominatorOf, fS]
        refine hK _ ?_; clear hK K
        show AWp _ _ _ _ _
        refine wseq ?_
        refine wseq ?_
        refine wreg fun K hK => ?_
        simp [C.impl_DenominatorOf, fS]
        refine hK _ ?_; clear hK K
        show AWp _ _ _ _ _
        refine wblock ?_
        refine wloop (fun x : Nat => ⟨ofL [(1, .pt (1, 0) [] 0), (3, .al (3, 0) [] 0 n), (4, .int x1), (5, .int (minF 20 (f.ts.take x) x1)), (21, .int n), (22, .int x1), (26, .d (.sh 2 f.ts.length (rows tS f.ts))), (27, .int f.ts.length), (28, .int x)], ofRO [((1, 0), some (.bx (fS f))), ((3, 0), some (.ow 1 n (ints (((lowA (fun _ => 20) f.ts n).map fun x => -x).take x1 ++ List.replicate (n - x1) 0))))]⟩) (fun x => x ≤ f.ts.length) (fun x => f.ts.length - x) 0 (by simp [C.impl_DenominatorOf, fS, hn, minF]) (by simp) ?_
        intro x2 hx2 R2 hR2
        refine wseq ?_
        refine wreg fun K hK => ?_
        simp [C.impl_DenominatorOf, fS]
        refine hK _ ?_; clear hK K
        show AWp _ _ _ _ _
        refine wseq ?_
        refine wcond _ rfl (fun hc3 => ?_) (fun hc3 => ?_)
        · have h3 : x2 < f.ts.length := by have := d_t hc3; omega
          have h3e := (he _ (List.getElem_mem h3)).1
          have hmin : minF 20 (f.ts.take (x2 + 1)) x1 = min (minF 20 (f.ts.take x2) x1) (f.ts[x2].e[x1]'(by omega)) := by
            rw [List.take_succ_eq_append_getElem h3, minF_snoc, getD_eq (by omega)]
          refine wskip ?_
          show AWp _ _ _ _ _
          refine wseq ?_
          refine wblock ?_
          refine wseq ?_
          refine wreg fun K hK => ?_
          simp [C.impl_DenominatorOf, fS, h3, tS_0 h3, tS_1 h3]
          refine hK _ ?_; clear hK K
          show AWp _ _ _ _ _
          refine wreg fun K hK => ?_
          simp [C.impl_DenominatorOf, fS, get_ints, h3e, h2]
          refine hK _ ?_; clear hK K
          show AWp _ _ _ _ _
          refine wreg fun K hK => ?_
          simp [C.impl_DenominatorOf, fS, wrap_succ (show x2 < 4611686018427387904 by omega)]
          refine hK _ ?_; clear hK K
          simp [C.impl_DenominatorOf, fS]
          refine cast (congrArg R2 ?_) (hR2 (x2 + 1) h3 (by omega))
          simp [fS, hn, hmin]
        · have h3 : x2 = f.ts.length := by have := d_f hc3; omega
          subst h3
          have hgl : minF 20 f.ts x1 = (lowA (fun _ => 20) f.ts n)[x1]'(by simpa using h2) := (lowA_get (fun _ => 20) f.ts n x1 h2).symm
          have hb := hlb _ (List.getElem_mem (show x1 < (lowA (fun _ => 20) f.ts n).length by simpa using h2))
          rw [← hgl] at hb
          have hfs := fill_step ((lowA (fun _ => 20) f.ts n).map fun x => -x) x1 (by simpa using h2) 0
          simp only [List.length_map, lowA_length, List.getElem_map, ← hgl] at hfs
          have hlen : (((lowA (fun _ => 20) f.ts n).map fun x => -x).take x1 ++ List.replicate (n - x1) 0).length = n := by simp; omega
          refine wexit ?_
          show AWp _ _ _ _ _
          refine wreg fun K hK => ?_
          simp [C.impl_DenominatorOf, fS, List.take_length, wrapOk (x := -(minF 20 f.ts x1)) (by omega) (by omega), h2, hlen, hfs, modify_const, ints_set]
          refine hK _ ?_; clear hK K
          show AWp _ _ _ _ _
          refine wreg fun K hK => ?_
          simp [C.impl_DenominatorOf, fS, wrap_succ (show x1 < 4611686018427387904 by omega)]
          refine hK _ ?_; clear hK K
          simp [C.impl_DenominatorOf, fS]
          refine cast (congrArg R1 ?_) (hR1 (x1 + 1) h2 (by omega))
          simp [fS, hn]
      · have h2 : x1 = n := by have := d_f hc2; omega
        refine wexit ?_
        show AWp _ _ _ _ _
        refine wseq ?_
        refine wreg fun K hK => ?_
        simp [C.impl_DenominatorOf, fS]
        refine hK _ ?_; clear hK K
        show AWp _ _ _ _ _
        refine wret ?_
        simp [C.impl_DenominatorOf, fS, hm, h2, hd, List.take_of_length_le, List.drop_of_length_le]
  clear hK
  by_cases ha : Right f
  · refine opsI_seg fun L hL => ?_
    simp [C.impl_DenominatorOf, fS, ha]
    refine wcall1 (impl_LaurentOk_calls f hx hxe) (by simp) (by simp) ?_
    simp [C.impl_DenominatorOf, fS, ha]
    refine hL _ ?_; clear hL L
    refine opsI_end fun L hL => ?_
    simp [C.impl_DenominatorOf, fS, ha]
    refine hL _ ?_; clear hL L
    simp [C.impl_DenominatorOf, fS, ha]
    refine cast (congrArg K ?_) hJ
    simp [ieq0, fS, ha]
  · refine opsI_seg fun L hL => ?_
    simp [C.impl_DenominatorOf, fS, ha]
    refine wcall1 (impl_LaurentOk_calls f hx hxe) (by simp) (by simp) ?_
    simp [C.impl_DenominatorOf, fS, ha]
    refine hL _ ?_; clear hL L
    refine opsI_end fun L hL => ?_
    simp [C.impl_DenominatorOf, fS, ha]
    refine hL _ ?_; clear hL L
    simp [C.impl_DenominatorOf, fS, ha]
    refine cast (congrArg K ?_) hJ
    simp [ieq0, fS, ha]
theorem sDen_some (f : Lau) (hx : f.ts.length < 4611686018427387904) (hxe : ∀ t ∈ f.ts, t.e.length < 4611686018427387904) (h : Right f ∧ f.ts ≠ []) : ACalls Try.prog F.spec_DenominatorOf [aF f] [] true (fun outs res => outs = [] ∧ res = [.one (owI (denL f))]) := by
  have := spec_DenominatorOf_calls f hx hxe
  rwa [show denD f = owI (denL f) from if_pos h] at this
theorem sDen_none (f : Lau) (hx : f.ts.length < 4611686018427387904) (hxe : ∀ t ∈ f.ts, t.e.length < 4611686018427387904) (h : ¬ (Right f ∧ f.ts ≠ [])) : ACalls Try.prog F.spec_DenominatorOf [aF f] [] true (fun outs res => outs = [] ∧ res = [.one (.v (.slice none 0 0))]) := by
  have := spec_DenominatorOf_calls f hx hxe
  rwa [show denD f = .v (.slice none 0 0) from if_neg h] at this
theorem iDen_some (f : Lau) (hx : f.ts.length < 4611686018427387904) (hxe : ∀ t ∈ f.ts, t.e.length < 4611686018427387904) (h : Right f ∧ f.ts ≠ []) : ACalls Try.prog F.impl_DenominatorOf [aF f] [] true (fun outs res => outs = [] ∧ res = [.one (owI (denL f))]) := by
  have := impl_DenominatorOf_calls f hx hxe
  rwa [show denD f = owI (denL f) from if_pos h] at this
theorem iDen_none (f : Lau) (hx : f.ts.length < 4611686018427387904) (hxe : ∀ t ∈ f.ts, t.e.length < 4611686018427387904) (h : ¬ (Right f ∧ f.ts ≠ [])) : ACalls Try.prog F.impl_DenominatorOf [aF f] [] true (fun outs res => outs = [] ∧ res = [.one (.v (.slice none 0 0))]) := by
  have := impl_DenominatorOf_calls f hx hxe
  rwa [show denD f = .v (.slice none 0 0) from if_neg h] at this
theorem mono_sm (e : List Int) : (monoF e).ts.length ≤ 1 ∧ ∀ t ∈ (monoF e).ts, t.e.length ≤ e.length := by
  unfold monoF
  split
  · simp
  · simp [zeroF]
theorem denL_sm {f : Lau} (h : Right f) : (denL f).length ≤ 8 := by rw [denL_length]; have := h.1; omega
noncomputable def numF (f : Lau) : Lau × Bool := if Right f ∧ f.ts ≠ [] then mulF f (monoF (denL f)) else (zeroF, false)

theorem spec_NumeratorOf_calls (f : Lau) (hx : f.ts.length < 4611686018427387904) (hxe : ∀ t ∈ f.ts, t.e.length < 4611686018427387904) : ACalls Try.prog F.spec_NumeratorOf [aF f] [] true (fun outs res => outs = [] ∧ WkRs res [.ag (fO (numF f).1), .one (D.bool (numF f).2)]) := by
  refine ACalls.of_body (C := C.spec_NumeratorOf) (n := Try.f59.ntmps) tabT folT Try.func59 rfl (by kernel_rfl) rfl (Nat.le_of_ble_eq_true rfl) (by decide) (by kernel_rfl) (by kernel_rfl) rfl (by simp) (by simp) ?_
  simp only [Try.f59]
  refine wseq ?_
  refine wreg fun K hK => ?_
  simp [C.spec_NumeratorOf, fS]
  refine hK _ ?_; clear hK K
  show AWp _ _ _ _ _
  refine wseq ?_
  refine wregI ([0, 1] ++ ([2])) rfl fun K hK => ?_
  by_cases hr : Right f ∧ f.ts ≠ []
  · refine opsI_seg fun L hL => ?_
    simp [C.spec_NumeratorOf, fS, hr]
    refine wcall1 (sDen_some f hx hxe hr) (by simp) (by simp) ?_
    simp [C.spec_NumeratorOf, fS, hr]
    refine hL _ ?_; clear hL L
    refine opsI_end fun L hL => ?_
    simp [C.spec_NumeratorOf, fS, hr]
    refine hL _ ?_; clear hL L
    simp [C.spec_NumeratorOf, fS, hr]
    have hm : numF f = mulF f (monoF (denL f)) := if_pos hr
    have hv := hr.1.1
    have hd8 := denL_sm hr.1
    have hms := mono_sm (denL f)
    refine hK _ ?_; clear hK K
    show AWp _ _ _ _ _
    refine wseq ?_
    refine wseq ?_
    refine wreg fun K hK => ?_
    simp [C.spec_NumeratorOf, fS]
    refine hK _ ?_; clear hK K
    show AWp _ _ _ _ _
    refine wcond _ rfl (fun hc1 => ?_) (fun hc1 => ?_)
    · exfalso
      simp at hc1
      omega
    · refine wskip ?_
      show AWp _ _ _ _ _
      refine wseq ?_
      refine wdrawI [(true, 0), (true, 1), (false, 2), (false, 3), (true, 4), (true, 5), (false, 6), (true, 7)] ⟨by kernel_rfl, by kernel_rfl⟩ ([0, 1, 2] ++ ([3] ++ ([4, 5, 6, 7]))) rfl fun K hK => ?_
      refine opsI_seg fun L hL => ?_
      simp [C.spec_NumeratorOf, fS, denL_length]
      refine wcall1 (sMono_calls (denL f) (by omega)) (by simp [fS, denL_length]) (by simp) ?_
      simp [C.spec_NumeratorOf, fS, denL_length]
      refine hL _ ?_; clear hL L
      refine opsI_seg fun L hL => ?_
      simp [C.spec_NumeratorOf, fS, denL_length]
      refine wcall1 (sMul_calls f (monoF (denL f)) hx hxe (by omega) (fun t ht => by have := hms.2 t ht; omega)) (by simp) (by simp) ?_
      simp [C.spec_NumeratorOf, fS, denL_length]
      refine hL _ ?_; clear hL L
      refine opsI_end fun L hL => ?_
      simp [C.spec_NumeratorOf, fS, denL_length]
      refine hL _ ?_; clear hL L
      simp [C.spec_NumeratorOf, fS, denL_length]
      refine hK _ ?_; clear hK K
      show AWp _ _ _ _ _
      refine wret ?_
      simp [C.spec_NumeratorOf, fS, hm, fO]
  · refine opsI_seg fun L hL => ?_
    simp [C.spec_NumeratorOf, fS, hr]
    refine wcall1 (sDen_none f hx hxe hr) (by simp) (by simp) ?_
    simp [C.spec_NumeratorOf, fS, hr]
    refine hL _ ?_; clear hL L
    refine opsI_end fun L hL => ?_
    simp [C.spec_NumeratorOf, fS, hr]
    refine hL _ ?_; clear hL L
    simp [C.spec_NumeratorOf, fS, hr]
    have hm : numF f = (zeroF, false) := if_neg hr
    refine hK _ ?_; clear hK K
    show AWp _ _ _ _ _
    refine wseq ?_
    refine wseq ?_
    refine wreg fun K hK => ?_
    simp [C.spec_NumeratorOf, fS]
    refine hK _ ?_; clear hK K
    show AWp _ _ _ _ _
    refine wcond _ rfl (fun hc2 => ?_) (fun hc2 => ?_)
    · refine wseq ?_
      refine wreg fun K hK => ?_
      simp [C.spec_NumeratorOf, fS]
      refine hK _ ?_; clear hK K
      show AWp _ _ _ _ _
      refine wret ?_
      simp [C.spec_NumeratorOf, fS, hm, zeroF, fO, rows]
    · simp at hc2

theorem impl_NumeratorOf_calls (hMul : MulOk) (f : Lau) (hx : f.ts.length < 4611686018427387904) (hxe : ∀ t ∈ f.ts, t.e.length < 4611686018427387904) : ACalls Try.prog F.impl_NumeratorOf [aF f] [] true (fun outs res => outs = [] ∧ WkRs res [.ag (fO (numF f).1), .one (D.bool (numF f).2)]) := by
  refine ACalls.of_body (C := C.impl_NumeratorOf) (n := Try.f60.ntmps) tabT folT Try.func60 rfl (by kernel_rfl) rfl (Nat.le_of_ble_eq_true rfl) (by decide) (by kernel_rfl) (by kernel_rfl) rfl (by simp) (by simp) ?_
  simp only [Try.f60]
  refine wseq ?_
  refine wreg fun K hK => ?_
  simp [C.impl_NumeratorOf, fS]
  refine hK _ ?_; clear hK K
  show AWp _ _ _ _ _
  refine wseq ?_
  refine wregI ([0, 1] ++ ([2])) rfl fun K hK => ?_
  by_cases hr : Right f ∧ f.ts ≠ []
  · refine opsI_seg fun L hL => ?_
    simp [C.impl_NumeratorOf, fS, hr]
    refine wcall1 (iDen_some f hx hxe hr) (by simp) (by simp) ?_
    simp [C.impl_NumeratorOf, fS, hr]
    refine hL _ ?_; clear hL L
    refine opsI_end fun L hL => ?_
    simp [C.impl_NumeratorOf, fS, hr]
    refine hL _ ?_; clear hL L
    simp [C.impl_NumeratorOf, fS, hr]
    have hm : numF f = mulF f (monoF (denL f)) := if_pos hr
    have hv := hr.1.1
    have hd8 := denL_sm hr.1
    have hms := mono_sm (denL f)
    refine hK _ ?_; clear hK K
    show AWp _ _ _ _ _
    refine wseq ?_
    refine wseq ?_
    refine wreg fun K hK => ?_
    simp [C.impl_NumeratorOf, fS]
    refine ⟨?_, fun h9 => absurd h9 (by omega)⟩
    refine hK _ ?_; clear hK K
    show AWp _ _ _ _ _
    refine wcond _ rfl (fun hc1 => ?_) (fun hc1 => ?_)
    · simp at hc1
    · refine wskip ?_
      show AWp _ _ _ _ _
      refine wseq ?_
      refine wdrawI [(true, 0), (true, 1), (false, 2), (false, 3), (true, 4), (true, 5), (false, 6), (true, 7)] ⟨by kernel_rfl, by kernel_rfl⟩ ([0, 1, 2] ++ ([3] ++ ([4, 5, 6, 7]))) rfl fun K hK => ?_
      refine opsI_seg fun L hL => ?_
      simp [C.impl_NumeratorOf, fS, denL_length]
      refine wcall1 (iMono_calls (denL f) (by omega)) (by simp [fS, denL_length]) (by simp) ?_
      simp [C.impl_NumeratorOf, fS, denL_length]
      refine hL _ ?_; clear hL L
      refine opsI_seg fun L hL => ?_
      simp [C.impl_NumeratorOf, fS, denL_length]
      refine wcall1 (hMul f (monoF (denL f)) hx hxe (by omega) (fun t ht => by have := hms.2 t ht; omega)) (by simp) (by simp) ?_
      simp [C.impl_NumeratorOf, fS, denL_length]
      refine hL _ ?_; clear hL L
      refine opsI_end fun L hL => ?_
      simp [C.impl_NumeratorOf, fS, denL_length]
      refine hL _ ?_; clear hL L
      simp [C.impl_NumeratorOf, fS, denL_length]
      refine hK _ ?_; clear hK K
      show AWp _ _ _ _ _
      refine wret ?_
      simp [C.impl_NumeratorOf, fS, hm, fO]
  · refine opsI_seg fun L hL => ?_
    simp [C.impl_NumeratorOf, fS, hr]
    refine wcall1 (iDen_none f hx hxe hr) (by simp) (by simp) ?_
    simp [C.impl_NumeratorOf, fS, hr]
    refine hL _ ?_; clear hL L
    refine opsI_end fun L hL => ?_
    simp [C.impl_NumeratorOf, fS, hr]
    refine hL _ ?_; clear hL L
    simp [C.impl_NumeratorOf, fS, hr]
    have hm : numF f = (zeroF, false) := if_neg hr
    refine hK _ ?_; clear hK K
    show AWp _ _ _ _ _
    refine wseq ?_
    refine wseq ?_
    refine wreg fun K hK => ?_
    simp [C.impl_NumeratorOf, fS]
    refine hK _ ?_; clear hK K
    show AWp _ _ _ _ _
    refine wcond _ rfl (fun hc2 => ?_) (fun hc2 => ?_)
    · refine wseq ?_
      refine wreg fun K hK => ?_
      simp [C.impl_NumeratorOf, fS]
      refine hK _ ?_; clear hK K
      show AWp _ _ _ _ _
      refine wret ?_
      simp [C.impl_NumeratorOf, fS, hm, zeroF, fO, rows]
    · simp at hc2
theorem sNum_calls (f : Lau) (hx : f.ts.length < 4611686018427387904) (hxe : ∀ t ∈ f.ts, t.e.length < 4611686018427387904) : ACalls Try.prog F.spec_NumeratorOf [aF f] [] true (fun outs res => outs = [] ∧ res = [.ag (fO (numF f).1), .one (D.bool (numF f).2)]) := (spec_NumeratorOf_calls f hx hxe).weak1
theorem iNum_calls (hMul : MulOk) (f : Lau) (hx : f.ts.length < 4611686018427387904) (hxe : ∀ t ∈ f.ts, t.e.length < 4611686018427387904) : ACalls Try.prog F.impl_NumeratorOf [aF f] [] true (fun outs res => outs = [] ∧ res = [.ag (fO (numF f).1), .one (D.bool (numF f).2)]) := (impl_NumeratorOf_calls hMul f hx hxe).weak1
theorem numF_small (f : Lau) : SmallF (numF f).1 := by
  unfold numF
  split
  · rcases mulF_right f (monoF (denL f)) with h | h
    · exact small_right h
    · rw [h]; exact small_zero
  · exact small_zero

end Go.Proofs.Ytdgeponcnlkaiaa.Ab
namespace Go.Proofs.Ytdgeponcnlkaiaa.Ab
open Go
set_option linter.unusedSimpArgs false
set_option linter.unusedVariables false
theorem addE_dv : ∀ (a b : List Int), a.length = b.length → addE 1 (addE (-1) a b) b = a
  | [], [], _ => rfl
  | x :: a, y :: b, h => by
    simp only [addE, addE_dv a b (by simpa using h)]
    congr 1
    omega
  | [], _ :: _, h => by simp at h
  | _ :: _, [], h => by simp at h
theorem lexlt_addE (k : Int) : ∀ (x y b : List Int), x.length = b.length → y.length = b.length → lexlt (addE k x b) (addE k y b) = lexlt x y
  | [], [], [], _, _ => rfl
  | u :: x, v :: y, w :: b, h1, h2 => by
    simp only [addE, lexlt, lexlt_addE k x y b (by simpa using h1) (by simpa using h2)]
    by_cases e : u = v
    · rw [if_pos e, if_pos (by omega)]
    · rw [if_neg e, if_neg (by omega)]
      congr 1
      simp only [eq_iff_iff]
      omega
  | [], _ :: _, _, h1, h2 => by simp at h1 h2; omega
  | _ :: _, [], _, h1, h2 => by simp at h1 h2; omega
  | _ :: _, _ :: _, [], h1, _ => by simp at h1
  | [], [], _ :: _, h1, _ => by simp at h1
theorem lexlt_addE2 : ∀ (e x y : List Int), e.length = x.length → e.length = y.length → lexlt (addE 1 e x) (addE 1 e y) = lexlt x y
  | [], [], [], _, _ => rfl
  | w :: e, u :: x, v :: y, h1, h2 => by
    simp only [addE, lexlt, lexlt_addE2 e x y (by simpa using h1) (by simpa using h2)]
    by_cases e : u = v
    · rw [if_pos e, if_pos (by omega)]
    · rw [if_neg e, if_neg (by omega)]
      congr 1
      simp only [eq_iff_iff]
      omega
  | [], _ :: _, _, h1, _ => by simp at h1
  | _ :: _, [], _, h1, _ => by simp at h1
  | [], [], _ :: _, _, h2 => by simp at h2
  | _ :: _, _ :: _, [], _, h2 => by simp at h2
theorem lauAct (n : Nat) : Act lexlt (addE 1) (addE (-1)) (fun e => e.length = n) where
  mul_dv a b h1 h2 := addE_dv a b (h1.trans h2.symm)
  dv_lt x y b h1 h2 h3 h := by rw [lexlt_addE _ _ _ _ (h1.trans h3.symm) (h2.trans h3.symm)]; exact h
  mul_lt e x y h1 h2 h3 h := by rw [lexlt_addE2 _ _ _ (h1.trans h2.symm) (h1.trans h3.symm)]; exact h
  dmul a b h1 h2 := by rw [addE_length _ _ _ (h1.trans h2.symm)]; exact h1
  ddv a b h1 h2 := by rw [addE_length _ _ _ (h1.trans h2.symm)]; exact h1
/-! ### Greatest and least exponents -/
theorem least_of {α : Type} (f : α → Int) : ∀ l : List α, l ≠ [] → ∃ x ∈ l, ∀ y ∈ l, f x ≤ f y
  | [], h => absurd rfl h
  | [x], _ => ⟨x, by simp, by simp⟩
  | x :: y :: l, _ => by
    obtain ⟨z, hz, hm⟩ := least_of f (y :: l) (by simp)
    by_cases h : f x ≤ f z
    · refine ⟨x, by simp, fun u hu => ?_⟩
      rcases List.mem_cons.1 hu with rfl | hu
      · omega
      · have := hm u hu; omega
    · refine ⟨z, by simp [hz], fun u hu => ?_⟩
      rcases List.mem_cons.1 hu with rfl | hu
      · omega
      · exact hm u hu
theorem getD_addE (k : Int) (i : Nat) : ∀ (a b : List Int), a.length = b.length → (addE k a b).getD i 0 = a.getD i 0 + k * b.getD i 0 := by
  induction i with
  | zero =>
    intro a b h
    match a, b, h with
    | [], [], _ => simp [addE]
    | x :: a, y :: b, _ => simp [addE]
  | succ i ih =>
    intro a b h
    match a, b, h with
    | [], [], _ => simp [addE]
    | x :: a, y :: b, h =>
      have := ih a b (by simpa using h)
      simpa [addE, List.getD_cons_succ] using this
/-- A number that tells exponents apart, goes with sums, and goes by the i-th exponent first. -/
def wei (s : Int) (i : Nat) (e : List Int) : Int := s * (e.getD i 0 * 144115188075855872 + keyA 0 e)
theorem wei_add (s : Int) (i : Nat) (a b : List Int) (h : a.length = b.length) : wei s i (addE 1 a b) = wei s i a + wei s i b - s * keyA 0 (List.replicate a.length 0) := by
  unfold wei
  have := keyA_add a b 0 0 0 h
  simp only [Int.add_zero, Int.sub_zero] at this
  rw [this, getD_addE 1 i a b h, ← Int.mul_add, ← Int.mul_sub]
  congr 1
  omega
theorem wei_bd {e : List Int} (hd : Dig e) (h8 : e.length ≤ 8) : 0 ≤ keyA 0 e ∧ keyA 0 e < 144115188075855872 := by
  have := keyA_key hd h8
  omega
theorem wei_inj {s : Int} (hs : s = 1 ∨ s = -1) {i : Nat} {a b : List Int} (hl : a.length = b.length) (ha : Dig a) (hb : Dig b) (h8 : a.length ≤ 8) (h : wei s i a = wei s i b) : a = b := by
  have h1 := wei_bd ha h8
  have h2 := wei_bd hb (by omega)
  refine keyA_inj hl ha hb (p := 0) ?_
  unfold wei at h
  rcases hs with rfl | rfl <;> omega
theorem wei_le {s : Int} (hs : s = 1 ∨ s = -1) {i : Nat} {a b : List Int} (ha : Dig a) (hb : Dig b) (h8 : a.length ≤ 8) (h8b : b.length ≤ 8) (h : wei s i a ≤ wei s i b) : s * a.getD i 0 ≤ s * b.getD i 0 := by
  have h1 := wei_bd ha h8
  have h2 := wei_bd hb h8b
  unfold wei at h
  rcases hs with rfl | rfl <;> omega
theorem mem_of_co {k : List Int} {l : List (List Int × Int)} (h : co k l ≠ 0) : ∃ x ∈ l, x.1 = k := co_mem h
/-- An outermost exponent of a product is the sum of outermost ones. -/
theorem outer {s : Int} (hs : s = 1 ∨ s = -1) {n i : Nat} (h8 : n ≤ 8) {F O g : List (List Int × Int)} (hO : Desc lexlt O) (hg : Desc lexlt g) (hOz : Nz O) (hgz : Nz g) (hne : g ≠ []) (hOD : ∀ x ∈ O, x.1.length = n ∧ Dig x.1) (hgD : ∀ x ∈ g, x.1.length = n ∧ Dig x.1)
    (hF : ∀ q, co q F = co q (prodK (addE 1) O g)) : ∀ x ∈ O, ∃ t ∈ F, ∃ y ∈ g, (∀ z ∈ g, s * y.1.getD i 0 ≤ s * z.1.getD i 0) ∧ s * t.1.getD i 0 ≤ s * x.1.getD i 0 + s * y.1.getD i 0 := by
  intro x hx
  obtain ⟨a, haO, ham⟩ := least_of (fun u : List Int × Int => wei s i u.1) O (fun e => by rw [e] at hx; simp at hx)
  obtain ⟨y, hyg, hym⟩ := least_of (fun u : List Int × Int => wei s i u.1) g hne
  have ha := hOD a haO
  have hy := hgD y hyg
  have huniq : ∀ u ∈ O, ∀ v ∈ g, addE 1 u.1 v.1 = addE 1 a.1 y.1 → u = a ∧ v = y := by
    intro u hu v hv e
    have h1 := hOD u hu
    have h2 := hgD v hv
    have e1 := wei_add s i u.1 v.1 (h1.1.trans h2.1.symm)
    have e2 := wei_add s i a.1 y.1 (ha.1.trans hy.1.symm)
    rw [e, e2, h1.1, ha.1] at e1
    have m1 : wei s i a.1 ≤ wei s i u.1 := ham u hu
    have m2 : wei s i y.1 ≤ wei s i v.1 := hym v hv
    have k1 : u.1 = a.1 := wei_inj (i := i) hs (h1.1.trans ha.1.symm) h1.2 ha.2 (by omega) (by omega)
    have k2 : v.1 = y.1 := wei_inj (i := i) hs (h2.1.trans hy.1.symm) h2.2 hy.2 (by omega) (by omega)
    have c1 := co_single lexOrd hO hu
    have c2 := co_single lexOrd hO haO
    have c3 := co_single lexOrd hg hv
    have c4 := co_single lexOrd hg hyg
    rw [k1] at c1
    rw [k2] at c3
    exact ⟨Prod.ext k1 (c1.symm.trans c2), Prod.ext k2 (c3.symm.trans c4)⟩
  have hc := co_pair2 (mul := addE 1) lexOrd hO hg haO hyg huniq
  have hnz : co (addE 1 a.1 y.1) F ≠ 0 := by
    rw [hF, hc]
    exact Int.mul_ne_zero (hOz a haO) (hgz y hyg)
  obtain ⟨t, ht, et⟩ := co_mem hnz
  refine ⟨t, ht, y, hyg, fun z hz => wei_le hs hy.2 (hgD z hz).2 (by omega) (by have := (hgD z hz).1; omega) (hym z hz), ?_⟩
  rw [et, getD_addE 1 i _ _ (ha.1.trans hy.1.symm)]
  have := wei_le hs ha.2 (hOD x hx).2 (by omega) (by have := (hOD x hx).1; omega) (ham x hx)
  rw [Int.one_mul, Int.mul_add]
  omega

/-! ### Greatest exponents of terms -/
def maxF (x : Int) (ts : List Trm) (i : Nat) : Int := ts.foldl (fun m t => max m (t.e.getD i 0)) x
theorem maxF_snoc (x : Int) (ts : List Trm) (t : Trm) (i : Nat) : maxF x (ts ++ [t]) i = max (maxF x ts i) (t.e.getD i 0) := by simp [maxF, List.foldl_append]
theorem maxF_ge (x : Int) (i : Nat) : ∀ ts : List Trm, x ≤ maxF x ts i ∧ (∀ t ∈ ts, t.e.getD i 0 ≤ maxF x ts i) ∧ (maxF x ts i = x ∨ ∃ t ∈ ts, maxF x ts i = t.e.getD i 0) := by
  intro ts
  induction ts generalizing x with
  | nil => simp [maxF]
  | cons t ts ih =>
    obtain ⟨h1, h2, h3⟩ := ih (max x (t.e.getD i 0))
    have e : maxF x (t :: ts) i = maxF (max x (t.e.getD i 0)) ts i := rfl
    rw [e]
    refine ⟨by omega, fun u hu => ?_, ?_⟩
    · rcases List.mem_cons.1 hu with rfl | hu
      · omega
      · exact h2 u hu
    · rcases h3 with h3 | ⟨u, hu, h3⟩
      · by_cases hle : t.e.getD i 0 ≤ x
        · exact .inl (by rw [h3]; omega)
        · exact .inr ⟨t, by simp, by rw [h3]; omega⟩
      · exact .inr ⟨u, by simp [hu], h3⟩
def highA (x : Nat → Int) (ts : List Trm) (n : Nat) : List Int := (List.range n).map fun i => maxF (x i) ts i
@[simp] theorem highA_length (x : Nat → Int) (ts : List Trm) (n : Nat) : (highA x ts n).length = n := by simp [highA]
theorem highA_get (x : Nat → Int) (ts : List Trm) (n i : Nat) (h : i < n) : (highA x ts n)[i]'(by simpa using h) = maxF (x i) ts i := by simp [highA]
theorem highA_start (ts : List Trm) (n : Nat) (h : 0 < ts.length) (he : ∀ t ∈ ts, t.e.length = n) : highA (headE ts) [] n = (ts[0]'h).e := by
  have := lowA_start ts n h he
  rw [← this]
  unfold highA lowA minF maxF
  rfl
def highL (ts : List Trm) (n : Nat) : List Int := highA (headE ts) ts n
theorem headE_mem {ts : List Trm} (h : ts ≠ []) (i : Nat) : ∃ t ∈ ts, headE ts i = t.e.getD i 0 := by
  match ts, h with
  | t :: ts, _ => exact ⟨t, by simp, rfl⟩
theorem lowL_at {ts : List Trm} (h : ts ≠ []) {n i : Nat} (hi : i < n) : (∀ t ∈ ts, (lowL ts n).getD i 0 ≤ t.e.getD i 0) ∧ ∃ t ∈ ts, (lowL ts n).getD i 0 = t.e.getD i 0 := by
  have e : (lowL ts n).getD i 0 = minF (headE ts i) ts i := by
    rw [getD_eq (by simpa [lowL] using hi)]
    exact lowA_get _ _ _ _ hi
  rw [e]
  obtain ⟨_, h2, h3⟩ := minF_le (headE ts i) i ts
  refine ⟨h2, ?_⟩
  rcases h3 with h3 | h3
  · rw [h3]; exact headE_mem h i
  · exact h3
theorem highL_at {ts : List Trm} (h : ts ≠ []) {n i : Nat} (hi : i < n) : (∀ t ∈ ts, t.e.getD i 0 ≤ (highL ts n).getD i 0) ∧ ∃ t ∈ ts, (highL ts n).getD i 0 = t.e.getD i 0 := by
  have e : (highL ts n).getD i 0 = maxF (headE ts i) ts i := by
    rw [getD_eq (by simpa [highL] using hi)]
    exact highA_get _ _ _ _ hi
  rw [e]
  obtain ⟨_, h2, h3⟩ := maxF_ge (headE ts i) i ts
  refine ⟨h2, ?_⟩
  rcases h3 with h3 | h3
  · rw [h3]; exact headE_mem h i
  · exact h3

/-! ### The two divisions -/
def chkI (e : List Int) (q : Int) : Bool := decide ((∀ x ∈ e, -20 ≤ x ∧ x ≤ 20) ∧ q ≠ 0 ∧ -1000000 ≤ q ∧ q ≤ 1000000)
def inBox (f g : Lau) (n : Nat) (e : List Int) : Prop := ∀ i, i < n → (lowL f.ts n).getD i 0 - (lowL g.ts n).getD i 0 ≤ e.getD i 0 ∧ e.getD i 0 ≤ (highL f.ts n).getD i 0 - (highL g.ts n).getD i 0
instance (f g : Lau) (n : Nat) (e : List Int) : Decidable (inBox f g n e) := Nat.decidableBallLT n _
def chkS (f g : Lau) (n : Nat) (e : List Int) (q : Int) : Bool := decide (inBox f g n e ∧ -1000000 ≤ q ∧ q ≤ 1000000)
def leadE (g : Lau) : List Int := match g.ts with | [] => [] | t :: _ => t.e
def leadC (g : Lau) : Int := match g.ts with | [] => 1 | t :: _ => t.c
def divL (chk : List Int → Int → Bool) (g : Lau) (k : Nat) (R : List (List Int × Int)) : Option (List (List Int × Int)) := divGo lexlt (addE 1) (addE (-1)) chk (g.ts.map pr) (leadE g) (leadC g) k R
noncomputable def endF (v : Int) : Option (List (List Int × Int)) → Lau × Bool
  | some O => if Right ⟨v, O.map tm⟩ then (⟨v, O.map tm⟩, true) else (zeroF, false)
  | none => (zeroF, false)
noncomputable def divF (f g : Lau) : Lau × Bool := if (Right f ∧ Right g ∧ f.v = g.v) ∧ g.ts ≠ [] then endF f.v (divL chkI g 600 (f.ts.map pr)) else (zeroF, false)
noncomputable def divS (f g : Lau) : Lau × Bool := if (Right f ∧ Right g ∧ f.v = g.v) ∧ g.ts ≠ [] then endF f.v (divL (chkS f g f.v.toNat) g 600 (f.ts.map pr)) else (zeroF, false)
theorem pr_desc {f : Lau} (h : Right f) : Desc lexlt (f.ts.map pr) := by
  unfold Desc
  rw [List.pairwise_map]
  exact h.2.2.2
theorem pr_nz {f : Lau} (h : Right f) : Nz (f.ts.map pr) := fun x hx => by
  obtain ⟨t, ht, rfl⟩ := List.mem_map.1 hx
  exact (h.2.2.1 t ht).2.1
theorem pr_dig {f : Lau} {n : Nat} (h : Right f) (hn : f.v = n) : ∀ x ∈ f.ts.map pr, x.1.length = n ∧ Dig x.1 := fun x hx => by
  obtain ⟨t, ht, rfl⟩ := List.mem_map.1 hx
  have := right_he h hn t ht
  exact ⟨this.1, fun y hy => by have := this.2 y hy; omega⟩
theorem divS_eq (f g : Lau) : divS f g = divF f g := by
  unfold divS divF
  split
  · rename_i hc
    obtain ⟨⟨hf, hg, hfg⟩, hne⟩ := hc
    obtain ⟨n, hn⟩ : ∃ n : Nat, f.v = n := ⟨f.v.toNat, by have := hf.1; omega⟩
    have hgn : g.v = n := by omega
    have hnt : f.v.toNat = n := by omega
    have h8 : n ≤ 8 := by have := hf.1; omega
    rw [hnt]
    have hgd := pr_desc hg
    have hgm : g.ts.map pr = (leadE g, leadC g) :: (g.ts.tail.map pr) := by
      unfold leadE leadC
      match hh : g.ts, hne with
      | t :: ts, _ => rfl
    cases hI : divL chkI g 600 (f.ts.map pr) with
    | some O =>
      have hch := (divGo_all _ _ _ hI).1
      have hOd : Desc lexlt O ∧ (∀ x ∈ O, x.1.length = n) := by
        unfold divL at hI
        rw [hgm] at hI hgd
        have := divGo_desc (chk := chkI) lexOrd (lauAct n) hgd (by rw [← hgm]; exact fun y hy => (pr_dig hg hgn y hy).1) 600 _ O hI (pr_desc hf) fun y hy => (pr_dig hf hn y hy).1
        exact ⟨this.1, this.2.1⟩
      have hOz : Nz O := fun x hx => by
        have := hch x hx
        simp only [chkI, decide_eq_true_eq] at this
        exact this.2.1
      have hex := divGo_exact _ _ _ hI
      have hS : divL (chkS f g n) g 600 (f.ts.map pr) = some O := by
        refine divGo_chk _ _ _ hI fun x hx => ?_
        have hcx := hch x hx
        simp only [chkI, decide_eq_true_eq] at hcx
        simp only [chkS, decide_eq_true_eq]
        refine ⟨fun i hi => ?_, hcx.2.2⟩
        have hOD : ∀ x ∈ O, x.1.length = n ∧ Dig x.1 := fun x hx => ⟨hOd.2 x hx, fun z hz => by
          have := hch x hx
          simp only [chkI, decide_eq_true_eq] at this
          have := this.1 z hz
          omega⟩
        have hfne : f.ts ≠ [] := by
          rintro e
          have := outer (s := 1) (i := i) (.inl rfl) h8 hOd.1 (pr_desc hg) hOz (pr_nz hg) (by simpa using hne) hOD (pr_dig hg hgn) hex x hx
          obtain ⟨t, ht, _⟩ := this
          rw [e] at ht
          simp at ht
        obtain ⟨lf1, _⟩ := lowL_at hfne hi
        obtain ⟨_, tl, htl, lg2⟩ := lowL_at hne hi
        obtain ⟨hf1, _⟩ := highL_at hfne hi
        obtain ⟨_, th, hth, hg2⟩ := highL_at hne hi
        obtain ⟨t, ht, y, hy, m1, m2⟩ := outer (s := 1) (i := i) (.inl rfl) h8 hOd.1 (pr_desc hg) hOz (pr_nz hg) (by simpa using hne) hOD (pr_dig hg hgn) hex x hx
        obtain ⟨t', ht', y', hy', m1', m2'⟩ := outer (s := -1) (i := i) (.inr rfl) h8 hOd.1 (pr_desc hg) hOz (pr_nz hg) (by simpa using hne) hOD (pr_dig hg hgn) hex x hx
        obtain ⟨u, hu, rfl⟩ := List.mem_map.1 ht
        obtain ⟨u', hu', rfl⟩ := List.mem_map.1 ht'
        have a1 := lf1 u hu
        have a2 := m1 (pr tl) (List.mem_map.2 ⟨tl, htl, rfl⟩)
        have a3 := hf1 u' hu'
        have a4 := m1' (pr th) (List.mem_map.2 ⟨th, hth, rfl⟩)
        simp only [pr] at m2 m2' a2 a4
        constructor <;> omega
      rw [hS]
    | none =>
      cases hS : divL (chkS f g n) g 600 (f.ts.map pr) with
      | none => rfl
      | some O =>
        simp only [endF]
        rw [if_neg]
        intro hr
        have : divL chkI g 600 (f.ts.map pr) = some O := by
          refine divGo_chk _ _ _ hS fun x hx => ?_
          have := hr.2.2.1 (tm x) (List.mem_map.2 ⟨x, hx, rfl⟩)
          simp only [chkI, decide_eq_true_eq]
          exact ⟨this.2.2.2, this.2.1, this.2.2.1⟩
        rw [hI] at this
        simp at this
  · rfl
end Go.Proofs.Ytdgeponcnlkaiaa.Ab
namespace Go.Proofs.Ytdgeponcnlkaiaa.Ab
open Go
set_option linter.unusedSimpArgs false
set_option linter.unusedVariables false
structure DivJ (chk : List Int → Int → Bool) (f g : Lau) (n : Nat) (R O : List (List Int × Int)) : Prop where
  run : divL chk g 600 (f.ts.map pr) = (divL chk g (600 - O.length) R).map (O ++ ·)
  ol : O.length ≤ 600
  rd : Desc lexlt R
  rl : ∀ y ∈ R, y.1.length = n ∧ ∀ z ∈ y.1, -60 ≤ z ∧ z ≤ 60
  ra : absK R ≤ 600000000 + O.length * 600000000000000
  rn : R.length ≤ 600 + O.length * 600
  od : ∀ x ∈ O, x.1.length = n ∧ ∀ z ∈ x.1, -40 ≤ z ∧ z ≤ 40
theorem absK_le {l : List (List Int × Int)} {B : Nat} (h : ∀ x ∈ l, x.2.natAbs ≤ B) : absK l ≤ l.length * B := by
  induction l with
  | nil => simp [absK]
  | cons x l ih =>
    have h1 := h x (by simp)
    have h2 := ih fun y hy => h y (by simp [hy])
    simp only [absK, List.map_cons, List.sum_cons, List.length_cons, Nat.add_mul, Nat.one_mul] at h2 ⊢
    omega
theorem right_absK {f : Lau} (h : Right f) : absK (f.ts.map pr) ≤ 600000000 := by
  have h1 : absK (f.ts.map pr) ≤ (f.ts.map pr).length * 1000000 := absK_le fun x hx => by
    obtain ⟨t, ht, rfl⟩ := List.mem_map.1 hx
    have := (h.2.2.1 t ht).2.2.1
    simp only [pr]
    omega
  have h2 := h.2.1
  simp only [List.length_map] at h1
  exact Nat.le_trans h1 (by omega)
theorem DivJ.start (chk : List Int → Int → Bool) {f g : Lau} {n : Nat} (hf : Right f) (hn : f.v = n) : DivJ chk f g n (f.ts.map pr) [] := by
  refine ⟨?_, by simp, pr_desc hf, fun y hy => ?_, by simpa using right_absK hf, by simpa using hf.2.1, by simp⟩
  · simp only [List.length_nil, Nat.sub_zero, List.nil_append]
    cases divL chk g 600 (f.ts.map pr) <;> rfl
  · obtain ⟨t, ht, rfl⟩ := List.mem_map.1 hy
    have := right_he hf hn t ht
    exact ⟨this.1, fun z hz => by have := this.2 z hz; omega⟩
theorem DivJ.dig {chk : List Int → Int → Bool} {f g : Lau} {n : Nat} {R O : List (List Int × Int)} (h : DivJ chk f g n R O) : ∀ y ∈ R, y.1.length = n ∧ Dig y.1 := fun y hy => ⟨(h.rl y hy).1, fun z hz => by have := (h.rl y hy).2 z hz; omega⟩
theorem DivJ.done {chk : List Int → Int → Bool} {f g : Lau} {n : Nat} {O : List (List Int × Int)} (h : DivJ chk f g n [] O) : divL chk g 600 (f.ts.map pr) = some O := by
  rw [h.run]
  cases 600 - O.length <;> simp [divL, divGo]
theorem DivJ.fail {chk : List Int → Int → Bool} {f g : Lau} {n : Nat} {x : List Int × Int} {R O : List (List Int × Int)} (h : DivJ chk f g n (x :: R) O) (hc : ¬ (x.2.tmod (leadC g) = 0 ∧ chk (addE (-1) x.1 (leadE g)) (x.2.tdiv (leadC g)) = true) ∨ O.length = 600) : divL chk g 600 (f.ts.map pr) = none := by
  rw [h.run]
  rcases Nat.eq_zero_or_pos (600 - O.length) with e | e
  · rw [e]; rfl
  · obtain ⟨k, hk⟩ : ∃ k, 600 - O.length = k + 1 := ⟨600 - O.length - 1, by omega⟩
    rw [hk]
    rcases hc with hc | hc
    · simp only [divL, divGo]
      rw [if_neg hc]
      rfl
    · omega
def stepL (g : Lau) (x : List Int × Int) (R : List (List Int × Int)) : List (List Int × Int) := x :: R ++ mulT (addE 1) (addE (-1) x.1 (leadE g)) (-(x.2.tdiv (leadC g))) (g.ts.map pr)
theorem addE_bd {B C : Int} : ∀ {a b : List Int} {k : Int}, (k = 1 ∨ k = -1) → a.length = b.length → (∀ z ∈ a, -B ≤ z ∧ z ≤ B) → (∀ z ∈ b, -C ≤ z ∧ z ≤ C) → ∀ z ∈ addE k a b, -(B + C) ≤ z ∧ z ≤ B + C
  | [], [], k, _, _, _, _ => by simp [addE]
  | x :: a, y :: b, k, hk, h, ha, hb => by
    intro z hz
    have h1 := ha x (by simp)
    have h2 := hb y (by simp)
    simp only [addE, List.mem_cons] at hz
    rcases hz with rfl | hz
    · rcases hk with rfl | rfl <;> omega
    · exact addE_bd hk (by simpa using h) (fun z hz => ha z (by simp [hz])) (fun z hz => hb z (by simp [hz])) z hz
  | [], _ :: _, _, _, h, _, _ => by simp at h
  | _ :: _, [], _, _, h, _, _ => by simp at h
theorem DivJ.step {chk : List Int → Int → Bool} {f g : Lau} {n : Nat} {x : List Int × Int} {R O : List (List Int × Int)} (h : DivJ chk f g n (x :: R) O) (hg : Right g) (hgn : g.v = n) (hm : x.2.tmod (leadC g) = 0) (hc : chk (addE (-1) x.1 (leadE g)) (x.2.tdiv (leadC g)) = true) (h6 : O.length < 600)
    (hel : (addE (-1) x.1 (leadE g)).length = n) (hb : ∀ z ∈ addE (-1) x.1 (leadE g), -40 ≤ z ∧ z ≤ 40) (hq : -1000000 ≤ x.2.tdiv (leadC g) ∧ x.2.tdiv (leadC g) ≤ 1000000) :
    DivJ chk f g n (nf lexlt (stepL g x R)) (O ++ [(addE (-1) x.1 (leadE g), x.2.tdiv (leadC g))]) := by
  have hga := right_absK hg
  have hgl := hg.2.1
  have hab := nf_abs (lt := lexlt) (stepL g x R)
  have hlen : (O ++ [(addE (-1) x.1 (leadE g), x.2.tdiv (leadC g))]).length = O.length + 1 := by simp
  refine ⟨?_, by omega, nf_desc lexOrd _, fun y hy => ?_, ?_, ?_, fun y hy => ?_⟩
  · rw [h.run]
    obtain ⟨k, hk⟩ : ∃ k, 600 - O.length = k + 1 := ⟨600 - O.length - 1, by omega⟩
    rw [hlen, hk, show 600 - (O.length + 1) = k by omega]
    simp only [divL, divGo]
    rw [if_pos ⟨hm, hc⟩]
    simp only [Option.map_map, stepL]
    congr 1
    funext z
    simp
  · obtain ⟨z, hz, e⟩ := nf_mem hy
    rw [← e]
    unfold stepL at hz
    rcases List.mem_append.1 hz with hz | hz
    · exact h.rl z hz
    · obtain ⟨u, hu, rfl⟩ := List.mem_map.1 hz
      obtain ⟨t, ht, rfl⟩ := List.mem_map.1 hu
      have ht2 := right_he hg hgn t ht
      refine ⟨by simp only [pr]; rw [addE_length _ _ _ (hel.trans ht2.1.symm)]; exact hel, ?_⟩
      exact addE_bd (B := 40) (C := 20) (.inl rfl) (hel.trans ht2.1.symm) hb ht2.2
  · refine Nat.le_trans hab.1 ?_
    unfold stepL
    rw [absK_append, mulT_abs, hlen]
    have h1 := h.ra
    have h2 : (-(x.2.tdiv (leadC g))).natAbs * absK (g.ts.map pr) ≤ 1000000 * 600000000 := Nat.mul_le_mul (by omega) hga
    omega
  · refine Nat.le_trans hab.2 ?_
    unfold stepL
    rw [List.length_append, mulT_length, List.length_map, hlen]
    have h1 := h.rn
    omega
  · rcases List.mem_append.1 hy with hy | hy
    · exact h.od y hy
    · simp only [List.mem_singleton] at hy
      subst hy
      exact ⟨hel, hb⟩
theorem inBox_bd {f g : Lau} {n : Nat} (hf : Right f) (hg : Right g) (hn : f.v = n) (hgn : g.v = n) (hfne : f.ts ≠ []) (hgne : g.ts ≠ []) {e : List Int} (hl : e.length = n) (hb : inBox f g n e) : ∀ z ∈ e, -40 ≤ z ∧ z ≤ 40 := by
  intro z hz
  obtain ⟨i, hi, rfl⟩ := List.getElem_of_mem hz
  have h1 := hb i (by omega)
  obtain ⟨_, t1, ht1, q1⟩ := lowL_at hfne (show i < n by omega)
  obtain ⟨_, t2, ht2, q2⟩ := lowL_at hgne (show i < n by omega)
  obtain ⟨_, t3, ht3, q3⟩ := highL_at hfne (show i < n by omega)
  obtain ⟨_, t4, ht4, q4⟩ := highL_at hgne (show i < n by omega)
  have b : ∀ {u : Lau} (hu : Right u) (hun : u.v = n) {t : Trm} (ht : t ∈ u.ts), -20 ≤ t.e.getD i 0 ∧ t.e.getD i 0 ≤ 20 := fun {u} hu hun {t} ht => by
    have := right_he hu hun t ht
    rw [getD_eq (by omega)]
    exact this.2 _ (List.getElem_mem _)
  have b1 := b hf hn ht1
  have b2 := b hg hgn ht2
  have b3 := b hf hn ht3
  have b4 := b hg hgn ht4
  rw [q1, q2, q3, q4, getD_eq hi] at h1
  omega
theorem lowL_bd {f : Lau} {n : Nat} (hf : Right f) (hn : f.v = n) (hne : f.ts ≠ []) {i : Nat} (hi : i < n) : (-20 ≤ (lowL f.ts n).getD i 0 ∧ (lowL f.ts n).getD i 0 ≤ 20) ∧ -20 ≤ (highL f.ts n).getD i 0 ∧ (highL f.ts n).getD i 0 ≤ 20 := by
  obtain ⟨_, t1, ht1, q1⟩ := lowL_at hne hi
  obtain ⟨_, t3, ht3, q3⟩ := highL_at hne hi
  have b : ∀ {t : Trm} (ht : t ∈ f.ts), -20 ≤ t.e.getD i 0 ∧ t.e.getD i 0 ≤ 20 := fun {t} ht => by
    have := right_he hf hn t ht
    rw [getD_eq (by omega)]
    exact this.2 _ (List.getElem_mem _)
  rw [q1, q3]
  exact ⟨b ht1, b ht3⟩
theorem lead_mem {g : Lau} (h : g.ts ≠ []) : ∃ t ∈ g.ts, leadE g = t.e ∧ leadC g = t.c := by
  unfold leadE leadC
  match hh : g.ts, h with
  | t :: ts, _ => exact ⟨t, by simp, rfl, rfl⟩
theorem lead_get {g : Lau} (h : 0 < g.ts.length) : (g.ts[0]'h).e = leadE g ∧ (g.ts[0]'h).c = leadC g := by
  unfold leadE leadC
  match hh : g.ts, h with
  | t :: ts, _ => simp
/-- The rest behind a step, as the reference reckons it. -/
theorem step_coded {g : Lau} {n : Nat} (hg : Right g) (hgn : g.v = n) {x : List Int × Int} {R : List (List Int × Int)} (hR : ∀ y ∈ x :: R, y.1.length = n ∧ Dig y.1) (hel : (addE (-1) x.1 (leadE g)).length = n) (hb : ∀ z ∈ addE (-1) x.1 (leadE g), -40 ≤ z ∧ z ≤ 40) :
    nf ilt ((x :: R).map kc ++ (nf ilt (prodM (keyA 0 (List.replicate n 0)) [(keyA 0 (addE (-1) x.1 (leadE g)), x.2.tdiv (leadC g))] (g.ts.map kt))).map (fun y => (y.1, -1 * y.2))) = (nf lexlt (stepL g x R)).map kc := by
  generalize he : addE (-1) x.1 (leadE g) = e at hel hb
  generalize hq : x.2.tdiv (leadC g) = q
  have h1 : prodM (keyA 0 (List.replicate n 0)) [(keyA 0 e, q)] (g.ts.map kt) = (mulT (addE 1) e q (g.ts.map pr)).map kc := by
    simp only [prodM, List.flatMap_cons, List.flatMap_nil, List.append_nil, mulT, List.map_map]
    apply List.map_congr_left
    intro t ht
    have ht2 := right_he hg hgn t ht
    have hk := keyA_add e t.e 0 0 0 (hel.trans ht2.1.symm)
    simp only [Int.add_zero, Int.sub_zero] at hk
    simp only [Function.comp, pM, kt, kc, pr]
    rw [hk, hel]
  have hM : Exps n (mulT (addE 1) e q (g.ts.map pr)) := fun y hy => by
    obtain ⟨u, hu, rfl⟩ := List.mem_map.1 hy
    obtain ⟨t, ht, rfl⟩ := List.mem_map.1 hu
    have ht2 := right_he hg hgn t ht
    refine ⟨by simp only [pr]; rw [addE_length _ _ _ (hel.trans ht2.1.symm)]; exact hel, fun z hz => ?_⟩
    have := addE_bd (B := 40) (C := 20) (.inl rfl) (hel.trans ht2.1.symm) hb ht2.2 z hz
    omega
  rw [h1, nf_key _ hM, List.map_map]
  have h2 : (fun y : Int × Int => (y.1, -1 * y.2)) ∘ kc = kc ∘ fun y : List Int × Int => (y.1, -1 * y.2) := rfl
  rw [h2, ← List.map_map, ← List.map_append, nf_key]
  · congr 1
    refine nf_unique lexOrd (nf_desc lexOrd _) (nf_nz _) fun k => ?_
    rw [nf_co, stepL, he, hq, co_append, co_append, co_mulT_neg]
    congr 1
    have : ∀ l : List (List Int × Int), co k (l.map fun y => (y.1, -1 * y.2)) = -co k l := fun l => by
      induction l with
      | nil => rfl
      | cons y l ih =>
        simp only [List.map_cons, co, ih]
        split <;> omega
    rw [this, nf_co]
  · intro y hy
    rcases List.mem_append.1 hy with hy | hy
    · exact hR y hy
    · obtain ⟨z, hz, rfl⟩ := List.mem_map.1 hy
      exact nf_exps hM z hz
end Go.Proofs.Ytdgeponcnlkaiaa.Ab
namespace Go.Proofs.Ytdgeponcnlkaiaa.Ab
open Go
set_option linter.unusedSimpArgs false
set_option linter.unusedVariables false
theorem lexlt_app : ∀ (a b z : List Int), a.length = b.length → lexlt (a ++ z) (b ++ z) = lexlt a b
  | [], [], z, _ => by simp [lexlt_irr, lexlt]
  | x :: a, y :: b, z, h => by simp [lexlt, lexlt_app a b z (by simpa using h)]
  | [], _ :: _, _, h => by simp at h
  | _ :: _, [], _, h => by simp at h
theorem lexlt_pad {a b : List Int} (h : a.length = b.length) : lexlt (pad a) (pad b) = lexlt a b := by
  unfold pad
  rw [← h]
  exact lexlt_app a b _ h
theorem mget_some {k : List Int} {v : Int} : ∀ {es : List (List Int × Int)}, mget k es = some v → (k, v) ∈ es
  | [], h => by simp [mget] at h
  | x :: es, h => by
    simp only [mget] at h
    split at h
    · rename_i e
      simp only [Option.some.injEq] at h
      subst h
      have : x = (k, x.2) := Prod.ext e rfl
      rw [← this]; simp
    · exact List.mem_cons_of_mem _ (mget_some h)
theorem mget_mem {k : List Int} {v : Int} : ∀ {es : List (List Int × Int)}, (es.map (·.1)).Nodup → (k, v) ∈ es → mget k es = some v
  | [], _, h => by simp at h
  | x :: es, hn, h => by
    simp only [List.map_cons, List.nodup_cons] at hn
    simp only [mget]
    rcases List.mem_cons.1 h with e | h
    · rw [← e]; simp
    · rw [if_neg]
      · exact mget_mem hn.2 h
      · rintro e
        exact hn.1 (List.mem_map.2 ⟨(k, v), h, e.symm⟩)
/-- The greatest key of what has come by. -/
structure TopJ (P : List (List Int × Int)) (top : List Int) : Prop where
  len : top.length = 8
  mem : P ≠ [] → ∃ c, (top, c) ∈ P
  max : ∀ y ∈ P, lexlt top y.1 = false
theorem TopJ.keep {P : List (List Int × Int)} {top : List Int} (h : TopJ P top) {y : List Int × Int} (hne : P ≠ []) (hy : lexlt top y.1 = false) : TopJ (P ++ [y]) top := by
  obtain ⟨c, hc⟩ := h.mem hne
  refine ⟨h.len, fun _ => ⟨c, by simp [hc]⟩, fun z hz => ?_⟩
  rcases List.mem_append.1 hz with hz | hz
  · exact h.max z hz
  · simp only [List.mem_singleton] at hz
    subst hz; exact hy
theorem TopJ.next {P : List (List Int × Int)} {top : List Int} (h : TopJ P top) {y : List Int × Int} (hl : y.1.length = 8) (hy : P = [] ∨ lexlt top y.1 = true) : TopJ (P ++ [y]) y.1 := by
  refine ⟨hl, fun _ => ⟨y.2, by simp⟩, fun z hz => ?_⟩
  rcases List.mem_append.1 hz with hz | hz
  · rcases hy with rfl | hy
    · simp at hz
    · cases hq : lexlt y.1 z.1 with
      | false => rfl
      | true =>
        have h1 := h.max z hz
        have h2 := lexlt_tr _ _ _ hy hq
        rw [h1] at h2; simp at h2
  · simp only [List.mem_singleton] at hz
    subst hz; exact lexlt_irr _
/-- The greatest key is that of the first term. -/
theorem top_head {n : Nat} {es l P : List (List Int × Int)} {top : List Int} {a : List Int} {c : Int} {R : List (List Int × Int)} (h : MapR n es l) (hl : ∀ x ∈ l, x.1.length = n) (hP : P.Perm es) (hT : TopJ P top) (hR : nf lexlt l = (a, c) :: R) :
    top = pad a ∧ mget top es = some c := by
  have hal : a.length = n := by
    obtain ⟨x, hx, e⟩ := nf_mem (y := (a, c)) (by rw [hR]; simp)
    have h9 := hl x hx
    rw [e] at h9
    exact h9
  have hd := nf_desc lexOrd l
  have hc := co_single lexOrd hd (x := (a, c)) (by rw [hR]; simp)
  rw [nf_co] at hc
  have hcz : c ≠ 0 := nf_nz l (a, c) (by rw [hR]; simp)
  have hva := h.val a hal
  have hga : mget (pad a) es = some c := by
    rw [hc] at hva
    cases hg : mget (pad a) es with
    | none => rw [hg] at hva; simp at hva; exact absurd hva.symm hcz
    | some v => rw [hg] at hva; simp at hva; rw [hva]
  have hmem := mget_some hga
  have hmP := hP.mem_iff.2 hmem
  obtain ⟨v, hv⟩ := hT.mem (by intro e; rw [e] at hmP; simp at hmP)
  have hvE := hP.mem_iff.1 hv
  obtain ⟨hvz, e, hel, he⟩ := h.nz _ hvE
  simp only at he hvz
  have hlt := hT.max _ hmP
  simp only at hlt
  rw [he, lexlt_pad (hel.trans hal.symm)] at hlt
  have hget := mget_mem h.nod hvE
  have hve := h.val e hel
  rw [← he, hget] at hve
  simp only [Option.getD_some] at hve
  have hco : co e (nf lexlt l) ≠ 0 := by rw [nf_co, ← hve]; exact hvz
  obtain ⟨z, hz, ez⟩ := co_mem hco
  have hea : e = a := by
    rw [hR] at hz hd
    rcases List.mem_cons.1 hz with rfl | hz
    · exact ez.symm
    · have h1 := List.rel_of_pairwise_cons hd hz
      simp only at h1
      rw [ez, hlt] at h1
      simp at h1
  subst hea
  exact ⟨he, by rw [he]; exact hga⟩
theorem pad_bd60 {e : List Int} {B : Int} (hB : 0 ≤ B) (hB2 : B ≤ 1000000) (h : ∀ x ∈ e, -B ≤ x ∧ x ≤ B) : ∀ x ∈ pad e, -1000000 ≤ x ∧ x ≤ 1000000 := fun x hx => by
  unfold pad at hx
  rcases List.mem_append.1 hx with hx | hx
  · have := h x hx; omega
  · have := List.eq_of_mem_replicate hx; omega
/-- What a step of division has put behind the rest so far. -/
def negT (e : List Int) (q : Int) (g : List Trm) : List (List Int × Int) := g.map fun t => (addE 1 e t.e, -q * t.c)
theorem negT_step {e : List Int} {q : Int} {g : List Trm} {i : Nat} (h : i < g.length) : negT e q (g.take (i + 1)) = negT e q (g.take i) ++ [(addE 1 e g[i].e, -q * g[i].c)] := by
  unfold negT
  rw [List.take_succ_eq_append_getElem h, List.map_append]
  rfl
theorem step_nf {g : Lau} {x : List Int × Int} {R l l2 : List (List Int × Int)} (hR : nf lexlt l = x :: R) (hl2 : l2.Perm (l ++ negT (addE (-1) x.1 (leadE g)) (x.2.tdiv (leadC g)) g.ts)) : nf lexlt l2 = nf lexlt (stepL g x R) := by
  refine nf_unique lexOrd (nf_desc lexOrd _) (nf_nz _) fun k => ?_
  rw [nf_co, co_perm k hl2, stepL, co_append, co_append, ← hR, nf_co]
  congr 1
  unfold negT mulT
  rw [List.map_map]
  rfl
theorem absE_K (l : List (List Int × Int)) : absE l = absK l := rfl
theorem negT_abs {e : List Int} {q : Int} {ts : List Trm} (hq : -1000000 ≤ q ∧ q ≤ 1000000) (h : ∀ t ∈ ts, -1000000 ≤ t.c ∧ t.c ≤ 1000000) : absE (negT e q ts) ≤ ts.length * 1000000000000 := by
  rw [absE_K]
  have := absK_le (l := negT e q ts) (B := 1000000000000) fun x hx => by
    obtain ⟨t, ht, rfl⟩ := List.mem_map.1 hx
    have h1 := h t ht
    simp only
    rw [Int.natAbs_mul]
    have : (-q).natAbs * t.c.natAbs ≤ 1000000 * 1000000 := Nat.mul_le_mul (by omega) (by omega)
    omega
  simpa [negT] using this
end Go.Proofs.Ytdgeponcnlkaiaa.Ab
namespace Go.Proofs.Ytdgeponcnlkaiaa.Ab
open Go
theorem addE_dv2 : ∀ (a b : List Int), a.length = b.length → addE (-1) (addE 1 a b) b = a
  | [], [], _ => rfl
  | x :: a, y :: b, h => by
    simp only [addE, addE_dv2 a b (by simpa using h)]
    congr 1
    omega
  | [], _ :: _, h => by simp at h
  | _ :: _, [], h => by simp at h
structure DivO (g : Lau) (n : Nat) (R O : List (List Int × Int)) : Prop where
  od : Desc lexlt O
  oz : Nz O
  ol : ∀ x ∈ O, x.1.length = n
  sep : ∀ x ∈ O, ∀ y ∈ R, lexlt y.1 (addE 1 x.1 (leadE g)) = true
theorem DivO.step {g : Lau} {n : Nat} {x : List Int × Int} {R O : List (List Int × Int)} (h : DivO g n (x :: R) O) (hR : Desc lexlt (x :: R)) (hRl : ∀ y ∈ x :: R, y.1.length = n) (hg : Right g) (hgn : g.v = n) (hne : g.ts ≠ []) (hm : x.2.tmod (leadC g) = 0) (hq : x.2.tdiv (leadC g) ≠ 0) :
    DivO g n (nf lexlt (stepL g x R)) (O ++ [(addE (-1) x.1 (leadE g), x.2.tdiv (leadC g))]) := by
  have hgm : g.ts.map pr = (leadE g, leadC g) :: (g.ts.tail.map pr) := by
    unfold leadE leadC
    match hh : g.ts, hne with
    | t :: ts, _ => rfl
  have hgd := pr_desc hg
  have hgD := pr_dig hg hgn
  rw [hgm] at hgd hgD
  have hbl : (leadE g).length = n := (hgD (leadE g, leadC g) (by simp)).1
  have hxl := hRl x (by simp)
  have hless := step_less lexOrd (lauAct n) hR hRl hgd (fun y hy => (hgD y hy).1) hm
  rw [← hgm] at hless
  have hel : (addE (-1) x.1 (leadE g)).length = n := by rw [addE_length _ _ _ (hxl.trans hbl.symm)]; exact hxl
  have hback : addE 1 (addE (-1) x.1 (leadE g)) (leadE g) = x.1 := addE_dv _ _ (hxl.trans hbl.symm)
  refine ⟨?_, fun y hy => ?_, fun y hy => ?_, fun y hy z hz => ?_⟩
  · refine List.pairwise_append.2 ⟨h.od, List.pairwise_singleton .., fun y hy z hz => ?_⟩
    simp only [List.mem_singleton] at hz
    subst hz
    have h1 := h.sep y hy x (by simp)
    have hyl := h.ol y hy
    have h2 := lexlt_addE (-1) x.1 (addE 1 y.1 (leadE g)) (leadE g) (hxl.trans hbl.symm) (by rw [addE_length _ _ _ (hyl.trans hbl.symm)]; exact hyl.trans hbl.symm)
    rw [addE_dv2 _ _ (hyl.trans hbl.symm)] at h2
    show lexlt (addE (-1) x.1 (leadE g)) y.1 = true
    rw [h2]
    exact h1
  · rcases List.mem_append.1 hy with hy | hy
    · exact h.oz y hy
    · simp only [List.mem_singleton] at hy
      subst hy; exact hq
  · rcases List.mem_append.1 hy with hy | hy
    · exact h.ol y hy
    · simp only [List.mem_singleton] at hy
      subst hy; exact hel
  · have h1 := (hless z hz).1
    rcases List.mem_append.1 hy with hy | hy
    · exact lexlt_tr _ _ _ h1 (h.sep y hy x (by simp))
    · simp only [List.mem_singleton] at hy
      subst hy
      show lexlt z.1 (addE 1 (addE (-1) x.1 (leadE g)) (leadE g)) = true
      rw [hback]
      exact h1
theorem DivO.nf {g : Lau} {n : Nat} {R O : List (List Int × Int)} (h : DivO g n R O) : Ab.nf lexlt O = O := (nf_unique lexOrd h.od h.oz fun k => rfl).symm
theorem DivO.shut {g : Lau} {n : Nat} {R O : List (List Int × Int)} (h : DivO g n R O) (v : Int) : shutF v O = endF v (some O) := by
  unfold shutF endF
  rw [h.nf]
theorem cmpL_gt (a b : List Int) : decide (0 < cmpL a b) = lexlt b a := by
  have := cmpL_pos a b
  by_cases h : cmpL a b ≤ 0
  · rw [decide_eq_true h] at this
    rw [decide_eq_false (by omega)]
    cases hh : lexlt b a with
    | false => rfl
    | true => rw [hh] at this; simp at this
  · rw [decide_eq_false h] at this
    rw [decide_eq_true (by omega)]
    cases hh : lexlt b a with
    | true => rfl
    | false => rw [hh] at this; simp at this
end Go.Proofs.Ytdgeponcnlkaiaa.Ab
namespace Go.Proofs.Ytdgeponcnlkaiaa.Ab
open Go
set_option linter.unusedSimpArgs false
set_option linter.unusedVariables false
set_option maxRecDepth 10000
set_option maxHeartbeats 2000000
theorem spec_l2Most_calls (f : Lau) (n : Nat) (hn : f.v = n) (hn8 : n ≤ 8) (h0 : 0 < f.ts.length) (hl : f.ts.length ≤ 600) (he : ∀ t ∈ f.ts, t.e.length = n) : ACalls Try.prog F.spec_l2Most [aF f] [] true (fun outs res => outs = [] ∧ res = [.one (owI (highL f.ts n))]) := by
  have h0e := he _ (List.getElem_mem h0)
  refine ACalls.of_body (C := C.spec_l2Most) (n := Try.f196.ntmps) tabT folT Try.func196 rfl (by kernel_rfl) rfl (Nat.le_of_ble_eq_true rfl) (by decide) (by kernel_rfl) (by kernel_rfl) rfl (by simp) (by simp) ?_
  simp only [Try.f196]
  refine wseq ?_
  refine wreg fun K hK => ?_
  simp [C.spec_l2Most, fS, hn]
  refine hK _ ?_; clear hK K
  show AWp _ _ _ _ _
  refine wseq ?_
  refine wregI ([0, 1, 2, 3, 4, 5] ++ ([6])) rfl fun K hK => ?_
  refine opsI_seg fun L hL => ?_
  simp [C.spec_l2Most, fS, hn, h0, tS_0 h0]
  refine wcall1 (spec_l1Ints_calls f.ts[0].e (by omega)) (by simp) (by simp) ?_
  simp [C.spec_l2Most, fS, hn, h0, tS_0 h0]
  refine hL _ ?_; clear hL L
  refine opsI_end fun L hL => ?_
  simp [C.spec_l2Most, fS, hn, h0, tS_0 h0]
  refine hL _ ?_; clear hL L
  simp [C.spec_l2Most, fS, hn, h0, tS_0 h0]
  refine hK _ ?_; clear hK K
  show AWp _ _ _ _ _
  refine wseq ?_
  refine wseq ?_
  refine wreg fun K hK => ?_
  simp [C.spec_l2Most, fS, hn]
  refine hK _ ?_; clear hK K
  show AWp _ _ _ _ _
  refine wblock ?_
  refine wloop (fun x : Nat => ⟨ofL [(1, .pt (1, 0) [] 0), (3, .al (3, 0) [] 0 n), (4, .int x)], ofRO [((1, 0), some (.bx (fS f))), ((3, 0), some (.ow 1 n (ints (highA (headE f.ts) (f.ts.take x) n))))]⟩) (fun x => x ≤ f.ts.length) (fun x => f.ts.length - x) 0 (by simp [C.spec_l2Most, fS, hn, highA_start f.ts n h0 he, h0e]) (by simp) ?_
  intro x1 hx1 R1 hR1
  refine wseq ?_
  refine wseq ?_
  refine wreg fun K hK => ?_
  simp [C.spec_l2Most, fS, hn]
  refine hK _ ?_; clear hK K
  show AWp _ _ _ _ _
  refine wcond _ rfl (fun hc1 => ?_) (fun hc1 => ?_)
  · have h1 : x1 < f.ts.length := d_t hc1
    have h1e := he _ (List.getElem_mem h1)
    refine wskip ?_
    show AWp _ _ _ _ _
    refine wseq ?_
    refine wblock ?_
    refine wseq ?_
    refine wreg fun K hK => ?_
    simp [C.spec_l2Most, fS, hn]
    refine hK _ ?_; clear hK K
    show AWp _ _ _ _ _
    refine wblock ?_
    refine wloop (fun x : Nat => ⟨ofL [(1, .pt (1, 0) [] 0), (3, .al (3, 0) [] 0 n), (4, .int x1), (5, .int x)], ofRO [((1, 0), some (.bx (fS f))), ((3, 0), some (.ow 1 n (ints ((highA (headE f.ts) (f.ts.take (x1 + 1)) n).take x ++ (highA (headE f.ts) (f.ts.take x1) n).drop x))))]⟩) (fun x => x ≤ n) (fun x => n - x) 0 (by simp [C.spec_l2Most, fS, hn]) (by simp) ?_
    intro x2 hx2 R2 hR2
    refine wseq ?_
    refine wseq ?_
    refine wreg fun K hK => ?_
    simp [C.spec_l2Most, fS, hn]
    refine hK _ ?_; clear hK K
    show AWp _ _ _ _ _
    refine wcond _ rfl (fun hc2 => ?_) (fun hc2 => ?_)
    · have h2 : x2 < n := by have := d_t hc2; omega
      have hg1 := mix_get (highA (headE f.ts) (f.ts.take (x1 + 1)) n) (highA (headE f.ts) (f.ts.take x1) n) x2 (by simpa using h2) (by simp)
      have hg2 : maxF (headE f.ts x2) (f.ts.take (x1 + 1)) x2 = max (maxF (headE f.ts x2) (f.ts.take x1) x2) (f.ts[x1].e[x2]'(by omega)) := by
        rw [List.take_succ_eq_append_getElem h1, maxF_snoc, getD_eq (by omega)]
      have hset := mix_set (highA (headE f.ts) (f.ts.take (x1 + 1)) n) (highA (headE f.ts) (f.ts.take x1) n) x2 (by simpa using h2) (by simp)
      rw [highA_get _ _ _ _ h2] at hset hg1
      rw [hg2] at hset
      have hlen : ((highA (headE f.ts) (f.ts.take (x1 + 1)) n).take x2 ++ (highA (headE f.ts) (f.ts.take x1) n).drop x2).length = n := by simp; omega
      generalize hM : (highA (headE f.ts) (f.ts.take (x1 + 1)) n).take x2 ++ (highA (headE f.ts) (f.ts.take x1) n).drop x2 = M at hset hg1 hlen
      have h2M : x2 < M.length := by omega
      rw [List.getElem?_eq_getElem h2M] at hg1
      have hg3 : M[x2] = maxF (headE f.ts x2) (f.ts.take x1) x2 := by injection hg1
      rw [← hg3] at hset
      refine wskip ?_
      show AWp _ _ _ _ _
      refine wseq ?_
      refine wblock ?_
      refine wdrawI [(true, 0), (true, 1), (true, 2), (true, 3), (true, 4), (true, 5), (true, 6), (true, 7), (true, 8), (true, 9), (true, 10), (true, 11), (true, 12), (true, 13), (true, 14), (true, 15), (true, 16), (false, 17)] ⟨by kernel_rfl, by kernel_rfl⟩ ([0, 1, 2, 3, 4, 5, 6, 7, 8, 9, 10, 11, 12, 13, 14, 15, 16, 17]) rfl fun K hK => ?_
      refine opsI_end fun L hL => ?_
      simp [C.spec_l2Most, fS, hn, h1, tS_0 h1, h1e, h2, hlen, get_ints, h2M]
      refine hL _ ?_; clear hL L
      simp [C.spec_l2Most, fS, hn, h1, tS_0 h1, h1e, h2, hlen, get_ints, h2M]
      refine hK _ ?_; clear hK K
      show AWp _ _ _ _ _
      refine wreg fun K hK => ?_
      simp [C.spec_l2Most, fS, hn, wrap_succ (show x2 < 4611686018427387904 by omega), hset, modify_const, ints_set]
      refine hK _ ?_; clear hK K
      simp [C.spec_l2Most, fS, hn]
      refine cast (congrArg R2 ?_) (hR2 (x2 + 1) h2 (by omega))
      simp [fS, hn]
    · have h2 : x2 = n := by have := d_f hc2; omega
      refine wexit ?_
      show AWp _ _ _ _ _
      refine wreg fun K hK => ?_
      simp [C.spec_l2Most, fS, hn, wrap_succ (show x1 < 4611686018427387904 by omega)]
      refine hK _ ?_; clear hK K
      simp [C.spec_l2Most, fS, hn]
      refine cast (congrArg R1 ?_) (hR1 (x1 + 1) h1 (by omega))
      simp [fS, hn, h2, List.take_of_length_le, List.drop_of_length_le]
  · have h1 : x1 = f.ts.length := by have := d_f hc1; omega
    refine wexit ?_
    show AWp _ _ _ _ _
    refine wseq ?_
    refine wreg fun K hK => ?_
    simp [C.spec_l2Most, fS, hn]
    refine hK _ ?_; clear hK K
    show AWp _ _ _ _ _
    refine wret ?_
    simp [C.spec_l2Most, fS, hn, h1, highL]

def scM (k : Int) (x : Int × Int) : Int × Int := (x.1, k * x.2)
theorem scM_abs (k : Int) : ∀ b : List (Int × Int), absL (b.map (scM k)) = k.natAbs * absL b
  | [] => rfl
  | x :: b => by
    have := scM_abs k b
    simp only [absL, List.map_cons, List.sum_cons, scM] at this ⊢
    rw [Int.natAbs_mul, Nat.mul_add]
    simp only [List.map_map] at this ⊢
    omega
theorem scM_bd {k : Int} {b : List (Int × Int)} {x : Int × Int} (hx : x ∈ b) {B : Nat} (h : k.natAbs * absL b < B) : -(B : Int) < k * x.2 ∧ k * x.2 < B := by
  have h1 := absL_mem hx
  have h2 : (k * x.2).natAbs ≤ k.natAbs * absL b := by
    rw [Int.natAbs_mul]
    exact Nat.mul_le_mul_left _ h1
  omega
theorem spec_l2Plus_calls (a b : List (Int × Int)) (k : Int) (hl : a.length + b.length ≤ 1000000) (hc : absL a + k.natAbs * absL b < 4611686018427387904) : ACalls Try.prog F.spec_l2Plus [.d (.sh 2 a.length (rows gM a)), .int k, .d (.sh 2 b.length (rows gM b))] [] true (fun outs res => outs = [] ∧ res = [.one (.ow 2 (nf ilt (a ++ b.map (scM k))).length (rows gM (nf ilt (a ++ b.map (scM k)))))]) := by
  refine ACalls.of_body (C := C.spec_l2Plus) (n := Try.f198.ntmps) tabT folT Try.func198 rfl (by kernel_rfl) rfl (Nat.le_of_ble_eq_true rfl) (by decide) (by kernel_rfl) (by kernel_rfl) rfl (by simp) (by simp) ?_
  simp only [Try.f198]
  refine wseq ?_
  refine wreg fun K hK => ?_
  simp [C.spec_l2Plus]
  refine hK _ ?_; clear hK K
  show AWp _ _ _ _ _
  refine wseq ?_
  refine wreg fun K hK => ?_
  simp [C.spec_l2Plus, show a.length * 16 ≤ 140737488355328 by omega]
  refine hK _ ?_; clear hK K
  show AWp _ _ _ _ _
  refine wseq ?_
  refine wseq ?_
  refine wreg fun K hK => ?_
  simp [C.spec_l2Plus]
  refine hK _ ?_; clear hK K
  show AWp _ _ _ _ _
  refine wblock ?_
  refine wloop (fun x : Nat => ⟨ofL [(1, .int k), (2, .d (.sh 2 b.length (rows gM b))), (7, .al (7, 0) [] 0 (a.length + x)), (8, .int x)], ofRO [((7, 0), some (.ow 2 (a.length + x) (rows gM (a ++ (b.take x).map (scM k)))))]⟩) (fun x => x ≤ b.length) (fun x => b.length - x) 0 (by simp [C.spec_l2Plus]) (by simp) ?_
  intro x1 hx1 R1 hR1
  refine wseq ?_
  refine wseq ?_
  refine wreg fun K hK => ?_
  simp [C.spec_l2Plus]
  refine hK _ ?_; clear hK K
  show AWp _ _ _ _ _
  refine wcond _ rfl (fun hc1 => ?_) (fun hc1 => ?_)
  · have h1 : x1 < b.length := by have := d_t hc1; omega
    have hbd := scM_bd (List.getElem_mem h1) (show k.natAbs * absL b < 4611686018427387904 by omega)
    refine wskip ?_
    show AWp _ _ _ _ _
    refine wseq ?_
    refine wblock ?_
    refine wdrawI [(true, 0), (true, 1), (true, 2), (true, 3), (true, 4), (true, 5), (true, 6), (true, 7), (true, 8), (true, 9), (true, 10), (true, 11), (true, 12), (true, 13), (false, 14), (false, 15), (true, 16)] ⟨by kernel_rfl, by kernel_rfl⟩ ([0, 1, 2, 3, 4, 5, 6, 7, 8, 9, 10, 11, 12, 13, 14, 15, 16]) rfl fun K hK => ?_
    refine opsI_end fun L hL => ?_
    simp [C.spec_l2Plus, h1, gM_0 h1, gM_1 h1, gM_snoc, wrapOk (x := k * b[x1].2) (by omega) (by omega), show (a.length + x1 + 1) * 16 ≤ 140737488355328 by omega]
    refine hL _ ?_; clear hL L
    simp [C.spec_l2Plus, h1, gM_0 h1, gM_1 h1, gM_snoc, wrapOk (x := k * b[x1].2) (by omega) (by omega), show (a.length + x1 + 1) * 16 ≤ 140737488355328 by omega]
    refine hK _ ?_; clear hK K
    show AWp _ _ _ _ _
    refine wreg fun K hK => ?_
    simp [C.spec_l2Plus, wrap_succ (show x1 < 4611686018427387904 by omega)]
    refine hK _ ?_; clear hK K
    simp [C.spec_l2Plus]
    refine cast (congrArg R1 ?_) (hR1 (x1 + 1) h1 (by omega))
    rw [List.take_succ_eq_append_getElem h1, List.map_append]
    simp [scM, Nat.add_assoc]
  · have h1 : x1 = b.length := by have := d_f hc1; omega
    have htk : List.take b.length (List.map (scM k) b) = List.map (scM k) b := List.take_of_length_le (by simp)
    refine wexit ?_
    show AWp _ _ _ _ _
    refine wseq ?_
    refine wregI ([0, 1] ++ ([2])) rfl fun K hK => ?_
    refine opsI_seg fun L hL => ?_
    simp [C.spec_l2Plus, h1, htk]
    refine wcall1 (spec_l2Gather_calls (a ++ b.map (scM k)) (by simp; omega) (by rw [absL_append, scM_abs]; omega)) (by simp [h1, htk]) (by simp) ?_
    simp [C.spec_l2Plus, h1, htk]
    refine hL _ ?_; clear hL L
    refine opsI_end fun L hL => ?_
    simp [C.spec_l2Plus, h1, htk]
    refine hL _ ?_; clear hL L
    simp [C.spec_l2Plus, h1, htk]
    refine hK _ ?_; clear hK K
    show AWp _ _ _ _ _
    refine wret ?_
    simp [C.spec_l2Plus]

@[simp] theorem lowL_length (ts : List Trm) (n : Nat) : (lowL ts n).length = n := by simp [lowL]
@[simp] theorem highL_length (ts : List Trm) (n : Nat) : (highL ts n).length = n := by simp [highL]
theorem kt_abs (ts : List Trm) : absL (ts.map kt) = absK (ts.map pr) := by
  simp only [absL, absK, List.map_map]
  rfl
theorem kc_abs (l : List (List Int × Int)) : absL (l.map kc) = absK l := by
  simp only [absL, absK, List.map_map]
  rfl
theorem prodM_one (base k q : Int) : ∀ G : List (Int × Int), (prodM base [(k, q)] G).length = G.length ∧ absL (prodM base [(k, q)] G) = q.natAbs * absL G := by
  intro G
  refine ⟨by simp [prodM_len], ?_⟩
  simp only [prodM, List.flatMap_cons, List.flatMap_nil, List.append_nil]
  induction G with
  | nil => rfl
  | cons y G ih =>
    simp only [absL, List.map_cons, List.sum_cons, List.map_map] at ih ⊢
    rw [Nat.mul_add, ← ih, pM, Int.natAbs_mul]
theorem ieq600 (n : Nat) : ((n : Int) == 600) = decide (n = 600) := by
  rw [Bool.eq_iff_iff]; simp; omega
theorem kc_pr : kc ∘ pr = kt := rfl
theorem endF_some (v : Int) (O : List (List Int × Int)) : endF v (some O) = ((if Right ⟨v, O.map tm⟩ then ⟨v, O.map tm⟩ else zeroF), decide (Right ⟨v, O.map tm⟩)) := by
  simp only [endF]
  split <;> simp_all
theorem shut_coded (O : List (List Int × Int)) (n : Nat) (hl : O.length ≤ 1000000) (he : ∀ x ∈ O, Dig x.1 ∧ x.1.length = n) (hv : n ≤ 8) : ACalls Try.prog F.spec_l2Shut [.d (.sh 2 O.length (rows gM (O.map kc))), .int n] [] true (fun outs res => outs = [] ∧ res = [.ag (fO (endF n (some O)).1), .one (D.bool (endF n (some O)).2)]) := by
  have := l2Shut_calls (O.map tm) n (by simpa using hl) (fun t ht => by
    obtain ⟨x, hx, rfl⟩ := List.mem_map.1 ht
    exact he x hx) hv
  simp only [List.length_map, List.map_map, kt_tm] at this
  rw [endF_some]
  exact this
theorem right_open {f : Lau} (h : Right f) {n : Nat} (hn : f.v = n) (h8 : n ≤ 8) : ∀ t ∈ f.ts, Dig t.e ∧ t.e.length ≤ 8 := fun t ht => by
  have := right_he h hn t ht
  exact ⟨fun z hz => by have := this.2 z hz; omega, by omega⟩
theorem spec_l2Divide_calls (f g : Lau) (n : Nat) (hf : Right f) (hg : Right g) (hn : f.v = n) (hgn : g.v = n) (hgne : g.ts ≠ []) : ACalls Try.prog F.spec_l2Divide [aF f, aF g] [] true (fun outs res => outs = [] ∧ WkRs res [.ag (fO (endF f.v (divL (chkS f g n) g 600 (f.ts.map pr))).1), .one (D.bool (endF f.v (divL (chkS f g n) g 600 (f.ts.map pr))).2)]) := by
  have hv : n ≤ 8 := by have := hf.1; omega
  have hfl := hf.2.1
  have hgl := hg.2.1
  have he := right_he hf hn
  have heg := right_he hg hgn
  have hG0 : 0 < g.ts.length := List.length_pos_iff.2 hgne
  obtain ⟨hl1, hl2⟩ := lead_get hG0
  have hgood := hg.2.2.1 _ (List.getElem_mem hG0)
  have hgle := heg _ (List.getElem_mem hG0)
  rw [hl1] at hgle
  have hgc : leadC g ≠ 0 ∧ -1000000 ≤ leadC g ∧ leadC g ≤ 1000000 := by rw [← hl2]; exact ⟨hgood.2.1, hgood.2.2.1⟩
  refine ACalls.of_body (C := C.spec_l2Divide) (n := Try.f118.ntmps) tabT folT Try.func118 rfl (by kernel_rfl) rfl (Nat.le_of_ble_eq_true rfl) (by decide) (by kernel_rfl) (by kernel_rfl) rfl (by simp) (by simp) ?_
  simp only [Try.f118]
  refine wseq ?_
  refine wreg fun K hK => ?_
  simp [C.spec_l2Divide, fS, hn, hgn]
  refine hK _ ?_; clear hK K
  show AWp _ _ _ _ _
  refine wseq ?_
  refine wregI ([0, 1, 2] ++ ([3])) rfl fun K hK => ?_
  refine opsI_seg fun L hL => ?_
  simp [C.spec_l2Divide, fS, hn, hgn]
  refine wcall1 (spec_l2Base_calls n hv) (by simp [fS, hn, hgn]) (by simp) ?_
  simp [C.spec_l2Divide, fS, hn, hgn]
  refine hL _ ?_; clear hL L
  refine opsI_end fun L hL => ?_
  simp [C.spec_l2Divide, fS, hn, hgn]
  refine hL _ ?_; clear hL L
  simp [C.spec_l2Divide, fS, hn, hgn]
  refine hK _ ?_; clear hK K
  show AWp _ _ _ _ _
  refine wseq ?_
  refine wregI ([0, 1] ++ ([2])) rfl fun K hK => ?_
  refine opsI_seg fun L hL => ?_
  simp [C.spec_l2Divide, fS, hn, hgn]
  refine wcall1 (spec_l2Open_calls f (by omega) (right_open hf hn hv)) (by simp [fS, hn, hgn]) (by simp) ?_
  simp [C.spec_l2Divide, fS, hn, hgn]
  refine hL _ ?_; clear hL L
  refine opsI_end fun L hL => ?_
  simp [C.spec_l2Divide, fS, hn, hgn]
  refine hL _ ?_; clear hL L
  simp [C.spec_l2Divide, fS, hn, hgn]
  refine hK _ ?_; clear hK K
  show AWp _ _ _ _ _
  refine wseq ?_
  refine wregI ([0, 1] ++ ([2])) rfl fun K hK => ?_
  refine opsI_seg fun L hL => ?_
  simp [C.spec_l2Divide, fS, hn, hgn]
  refine wcall1 (spec_l2Open_calls g (by omega) (right_open hg hgn hv)) (by simp [fS, hn, hgn]) (by simp) ?_
  simp [C.spec_l2Divide, fS, hn, hgn]
  refine hL _ ?_; clear hL L
  refine opsI_end fun L hL => ?_
  simp [C.spec_l2Divide, fS, hn, hgn]
  refine hL _ ?_; clear hL L
  simp [C.spec_l2Divide, fS, hn, hgn]
  refine hK _ ?_; clear hK K
  show AWp _ _ _ _ _
  refine wseq ?_
  refine wreg fun K hK => ?_
  simp [C.spec_l2Divide, fS, hn, hgn]
  refine hK _ ?_; clear hK K
  show AWp _ _ _ _ _
  refine wseq ?_
  refine wseq ?_
  refine wreg fun K hK => ?_
  simp [C.spec_l2Divide, fS, hn, hgn]
  refine hK _ ?_; clear hK K
  show AWp _ _ _ _ _
  refine wcond _ rfl (fun hc1 => ?_) (fun hc1 => ?_)
  · have hf0 : f.ts = [] := by simpa using hc1
    have hd0 : divL (chkS f g n) g 600 (f.ts.map pr) = some [] := by rw [hf0]; rfl
    refine wseq ?_
    refine wregI ([0, 1, 2, 3] ++ ([4, 5, 6, 7])) rfl fun K hK => ?_
    refine opsI_seg fun L hL => ?_
    simp [C.spec_l2Divide, fS, hn, hgn, rows]
    refine wcall1 (shut_coded [] n (by simp) (by simp) hv) (by simp [fS, hn, hgn, rows]) (by simp) ?_
    simp [C.spec_l2Divide, fS, hn, hgn, rows]
    refine hL _ ?_; clear hL L
    refine opsI_end fun L hL => ?_
    simp [C.spec_l2Divide, fS, hn, hgn, rows]
    refine hL _ ?_; clear hL L
    simp [C.spec_l2Divide, fS, hn, hgn, rows]
    refine hK _ ?_; clear hK K
    show AWp _ _ _ _ _
    refine wret ?_
    simp [C.spec_l2Divide, fS, hn, hgn, hd0, fO]
  · have hfne : f.ts ≠ [] := by intro e; simp [e] at hc1
    have hF0 : 0 < f.ts.length := List.length_pos_iff.2 hfne
    refine wskip ?_
    show AWp _ _ _ _ _
    refine wseq ?_
    refine wdrawI [(true, 0), (true, 2), (false, 1), (false, 3), (true, 4), (true, 5)] ⟨by kernel_rfl, by kernel_rfl⟩ ([0, 2, 1] ++ ([3] ++ ([4, 5]))) rfl fun K hK => ?_
    refine opsI_seg fun L hL => ?_
    simp [C.spec_l2Divide, fS, hn, hgn]
    refine wcall1 (spec_l2Least_calls f n hn hv hF0 hfl (fun t ht => (he t ht).1)) (by simp [fS, hn, hgn]) (by simp) ?_
    simp [C.spec_l2Divide, fS, hn, hgn]
    refine hL _ ?_; clear hL L
    refine opsI_seg fun L hL => ?_
    simp [C.spec_l2Divide, fS, hn, hgn]
    refine wcall1 (spec_l2Most_calls f n hn hv hF0 hfl (fun t ht => (he t ht).1)) (by simp [fS, hn, hgn]) (by simp) ?_
    simp [C.spec_l2Divide, fS, hn, hgn]
    refine hL _ ?_; clear hL L
    refine opsI_end fun L hL => ?_
    simp [C.spec_l2Divide, fS, hn, hgn]
    refine hL _ ?_; clear hL L
    simp [C.spec_l2Divide, fS, hn, hgn]
    refine hK _ ?_; clear hK K
    show AWp _ _ _ _ _
    refine wseq ?_
    refine wdrawI [(true, 0), (true, 2), (false, 1), (false, 3), (true, 4), (true, 5)] ⟨by kernel_rfl, by kernel_rfl⟩ ([0, 2, 1] ++ ([3] ++ ([4, 5]))) rfl fun K hK => ?_
    refine opsI_seg fun L hL => ?_
    simp [C.spec_l2Divide, fS, hn, hgn]
    refine wcall1 (spec_l2Least_calls g n hgn hv hG0 hgl (fun t ht => (heg t ht).1)) (by simp [fS, hn, hgn]) (by simp) ?_
    simp [C.spec_l2Divide, fS, hn, hgn]
    refine hL _ ?_; clear hL L
    refine opsI_seg fun L hL => ?_
    simp [C.spec_l2Divide, fS, hn, hgn]
    refine wcall1 (spec_l2Most_calls g n hgn hv hG0 hgl (fun t ht => (heg t ht).1)) (by simp [fS, hn, hgn]) (by simp) ?_
    simp [C.spec_l2Divide, fS, hn, hgn]
    refine hL _ ?_; clear hL L
    refine opsI_end fun L hL => ?_
    simp [C.spec_l2Divide, fS, hn, hgn]
    refine hL _ ?_; clear hL L
    simp [C.spec_l2Divide, fS, hn, hgn]
    refine hK _ ?_; clear hK K
    show AWp _ _ _ _ _
    refine wseq ?_
    refine wblock ?_
    refine wloop (fun x : List (List Int × Int) × List (List Int × Int) => ⟨ofL [(2, .pt (2, 0) [] 0), (3, .pt (3, 0) [] 0), (4, .pt (4, 0) [] 0), (6, .int (keyA 0 (List.replicate n 0))), (7, .al (7, 0) [] 0 x.1.length), (8, .al (8, 0) [] 0 g.ts.length), (9, .al (9, 0) [] 0 x.2.length), (10, .al (10, 0) [] 0 n), (11, .al (11, 0) [] 0 n), (12, .al (12, 0) [] 0 n), (13, .al (13, 0) [] 0 n)], ofRO [((2, 0), some (.bx (fS f))), ((3, 0), some (.bx (fS g))), ((4, 0), some (.bx [D.int 0, .v (.slice none 0 0)])), ((7, 0), some (.ow 2 x.1.length (rows gM (x.1.map kc)))), ((8, 0), some (.ow 2 g.ts.length (rows gM (g.ts.map kt)))), ((9, 0), some (.ow 2 x.2.length (rows gM (x.2.map kc)))), ((10, 0), some (.ow 1 n (ints (lowL f.ts n)))), ((11, 0), some (.ow 1 n (ints (highL f.ts n)))), ((12, 0), some (.ow 1 n (ints (lowL g.ts n)))), ((13, 0), some (.ow 1 n (ints (highL g.ts n))))]⟩) (fun x => DivJ (chkS f g n) f g n x.1 x.2) (fun x => 600 - x.2.length) (f.ts.map pr, []) (by simp [C.spec_l2Divide, fS, hn, hgn, rows, kc_pr]) (DivJ.start _ hf hn) ?_
    intro x1 hx1 R1 hR1
    obtain ⟨R, O⟩ := x1
    dsimp only at hx1 ⊢
    refine wseq ?_
    refine wseq ?_
    refine wreg fun K hK => ?_
    simp [C.spec_l2Divide, fS, hn, hgn]
    refine hK _ ?_; clear hK K
    show AWp _ _ _ _ _
    refine wcond _ rfl (fun hc2 => ?_) (fun hc2 => ?_)
    · obtain ⟨⟨a, c⟩, R', rfl⟩ : ∃ y R', R = y :: R' := by
        cases R with
        | nil => simp at hc2
        | cons y R' => exact ⟨y, R', rfl⟩
      have ha := hx1.dig (a, c) (by simp)
      have hc0 : -1000000000000000000 ≤ c ∧ c ≤ 1000000000000000000 := by
        have h1 := hx1.ra
        have h2 := hx1.ol
        simp only [absK, List.map_cons, List.sum_cons] at h1
        omega
      have q0 := gM_0 (l := (keyA 0 a, c) :: R'.map kc) (i := 0) (by simp)
      have q1 := gM_1 (l := (keyA 0 a, c) :: R'.map kc) (i := 0) (by simp)
      have p0 := gM_0 (l := g.ts.map kt) (i := 0) (by simpa using hG0)
      have p1 := gM_1 (l := g.ts.map kt) (i := 0) (by simpa using hG0)
      simp only [List.getElem_map, kt, hl1, hl2, List.getElem_cons_zero] at p0 p1 q0 q1
      refine wskip ?_
      show AWp _ _ _ _ _
      refine wblock ?_
      refine wseq ?_
      refine wseq ?_
      refine wdraw (.take 0 (.take 1 (.take 2 (.take 3 (.take 4 (.take 5 (.take 6 (.take 7 (.take 8 (.take 9 (.done))))))))))) ⟨by kernel_rfl, by kernel_rfl⟩ fun K hK => ?_
      simp [C.spec_l2Divide, fS, hn, hgn, q1, p1, kc, hG0, hgc.1]
      refine hK _ ?_; clear hK K
      show AWp _ _ _ _ _
      refine wcond _ rfl (fun hc3 => ?_) (fun hc3 => ?_)
      · have hcm : c.tmod (leadC g) ≠ 0 := by simpa using hc3
        have hfail := hx1.fail (.inl fun h => hcm h.1)
        refine wseq ?_
        refine wreg fun K hK => ?_
        simp [C.spec_l2Divide, fS, hn, hgn]
        refine hK _ ?_; clear hK K
        show AWp _ _ _ _ _
        refine wret ?_
        simp [C.spec_l2Divide, fS, hn, hgn, hfail, endF, zeroF, fO, rows]
      · have hcm : c.tmod (leadC g) = 0 := by simpa using hc3
        have hcq := tmod_tdiv hcm
        have hqb : -1000000000000000000 ≤ c.tdiv (leadC g) ∧ c.tdiv (leadC g) ≤ 1000000000000000000 := by
          have h1 : (c.tdiv (leadC g)).natAbs ≤ c.natAbs := by
            rw [Int.natAbs_tdiv]
            exact Nat.div_le_self _ _
          omega
        generalize hQ : c.tdiv (leadC g) = q at hcq hqb
        have hal : a.length = n := ha.1
        have had : Dig a := ha.2
        have hab := (hx1.rl (a, c) (by simp)).2
        dsimp only at hab
        obtain ⟨hgle1, hgle2⟩ := hgle
        have hEl : (addE (-1) a (leadE g)).length = n := by rw [addE_length _ _ _ (by omega)]; exact hal
        have hEg : ∀ (i : Nat) (h : i < n), (addE (-1) a (leadE g))[i]'(by omega) = a[i]'(by omega) - (leadE g)[i]'(by omega) := fun i h => by
          have := getD_addE (-1) i a (leadE g) (by omega)
          rw [getD_eq (by omega), getD_eq (by omega), getD_eq (by omega)] at this
          omega
        have hfailq : ¬ chkS f g n (addE (-1) a (leadE g)) q = true ∨ O.length = 600 → divL (chkS f g n) g 600 (f.ts.map pr) = none := fun h => hx1.fail (h.imp (fun h1 h2 => h1 (by rw [← hQ]; exact h2.2)) id)
        refine wskip ?_
        show AWp _ _ _ _ _
        refine wseq ?_
        refine wdraw (.take 0 (.take 1 (.take 2 (.take 3 (.take 4 (.take 5 (.take 6 (.take 7 (.take 8 (.take 9 (.all [(10, .all [(11, .done)])]))))))))))) ⟨by kernel_rfl, by kernel_rfl⟩ fun K hK => ?_
        simp [C.spec_l2Divide, fS, hn, hgn, q1, p1, kc, hG0, hgc.1, hQ, wrapOk (x := q) (by omega) (by omega)]
        refine hK _ ?_; clear hK K
        show AWp _ _ _ _ _
        refine wseq ?_
        refine wdrawI [(true, 0), (true, 1), (true, 2), (true, 3), (true, 4), (true, 5), (false, 6), (true, 7)] ⟨by kernel_rfl, by kernel_rfl⟩ ([0, 1, 2, 3, 4, 5, 6] ++ ([7])) rfl fun K hK => ?_
        refine opsI_seg fun L hL => ?_
        simp [C.spec_l2Divide, fS, hn, hgn, q0, kc, hal]
        refine wcall1 (spec_l2Exp_calls a had (by omega)) (by simp [fS, hn, hgn, q0, kc, hal]) (by simp) ?_
        simp [C.spec_l2Divide, fS, hn, hgn, q0, kc, hal]
        refine hL _ ?_; clear hL L
        refine opsI_end fun L hL => ?_
        simp [C.spec_l2Divide, fS, hn, hgn, q0, kc, hal]
        refine hL _ ?_; clear hL L
        simp [C.spec_l2Divide, fS, hn, hgn, q0, kc, hal]
        refine hK _ ?_; clear hK K
        show AWp _ _ _ _ _
        refine wseq ?_
        refine wreg fun K hK => ?_
        simp [C.spec_l2Divide, fS, hn, hgn]
        refine hK _ ?_; clear hK K
        show AWp _ _ _ _ _
        refine wseq ?_
        refine wseq ?_
        refine wreg fun K hK => ?_
        simp [C.spec_l2Divide, fS, hn, hgn]
        refine hK _ ?_; clear hK K
        show AWp _ _ _ _ _
        refine wblock ?_
        refine wloop (fun x : Nat => ⟨ofL [(2, .pt (2, 0) [] 0), (3, .pt (3, 0) [] 0), (4, .pt (4, 0) [] 0), (6, .int (keyA 0 (List.replicate n 0))), (7, .al (7, 0) [] 0 (R'.length + 1)), (8, .al (8, 0) [] 0 g.ts.length), (9, .al (9, 0) [] 0 O.length), (10, .al (10, 0) [] 0 n), (11, .al (11, 0) [] 0 n), (12, .al (12, 0) [] 0 n), (13, .al (13, 0) [] 0 n), (14, .pt (14, 0) [] 0), (15, .al (15, 0) [] 0 n), (16, .al (16, 0) [] 0 x), (17, .int x)], ofRO [((2, 0), some (.bx (fS f))), ((3, 0), some (.bx (fS g))), ((4, 0), some (.bx [D.int 0, .v (.slice none 0 0)])), ((7, 0), some (.ow 2 (R'.length + 1) (rows gM ((keyA 0 a, c) :: R'.map kc)))), ((8, 0), some (.ow 2 g.ts.length (rows gM (g.ts.map kt)))), ((9, 0), some (.ow 2 O.length (rows gM (O.map kc)))), ((10, 0), some (.ow 1 n (ints (lowL f.ts n)))), ((11, 0), some (.ow 1 n (ints (highL f.ts n)))), ((12, 0), some (.ow 1 n (ints (lowL g.ts n)))), ((13, 0), some (.ow 1 n (ints (highL g.ts n)))), ((14, 0), some (.bx [D.int 0, D.int q])), ((15, 0), some (.ow 1 n (ints a))), ((16, 0), some (.ow 1 x (ints ((addE (-1) a (leadE g)).take x))))]⟩) (fun x => x ≤ n ∧ ∀ i, i < x → (lowL f.ts n).getD i 0 - (lowL g.ts n).getD i 0 ≤ (addE (-1) a (leadE g)).getD i 0 ∧ (addE (-1) a (leadE g)).getD i 0 ≤ (highL f.ts n).getD i 0 - (highL g.ts n).getD i 0) (fun x => n - x) 0 (by simp [C.spec_l2Divide, fS, hn, hgn, kc, hal, ints]) (by simp) ?_
        intro x2 hx2 R2 hR2
        obtain ⟨hj1, hj2⟩ := hx2
        refine wseq ?_
        refine wseq ?_
        refine wreg fun K hK => ?_
        simp [C.spec_l2Divide, fS, hn, hgn]
        refine hK _ ?_; clear hK K
        show AWp _ _ _ _ _
        refine wcond _ rfl (fun hc4 => ?_) (fun hc4 => ?_)
        · have h4 : x2 < n := by have := d_t hc4; omega
          have e1 := hEg x2 h4
          have bd1 := hab _ (List.getElem_mem (show x2 < a.length by omega))
          have bd2 := hgle2 _ (List.getElem_mem (show x2 < (leadE g).length by omega))
          have bd3 := lowL_bd hf hn hfne h4
          have bd4 := lowL_bd hg hgn hgne h4
          rw [getD_eq (by simpa using h4), getD_eq (by simpa using h4)] at bd3 bd4
          have hsn : ints ((addE (-1) a (leadE g)).take x2) ++ [D.v (.int .i64 (a[x2] - (leadE g)[x2]))] = ints ((addE (-1) a (leadE g)).take (x2 + 1)) := by
            rw [List.take_succ_eq_append_getElem (by omega), e1]
            simp [ints]
          have hln : ((addE (-1) a (leadE g)).take (x2 + 1)).length = x2 + 1 := by simp; omega
          have hgt : ((addE (-1) a (leadE g)).take (x2 + 1))[x2]'(by omega) = a[x2] - (leadE g)[x2] := by rw [List.getElem_take]; exact e1
          refine wskip ?_
          show AWp _ _ _ _ _
          refine wseq ?_
          refine wblock ?_
          refine wseq ?_
          refine wdrawI [(true, 0), (true, 1), (true, 2), (true, 3), (true, 4), (true, 5), (true, 6), (true, 7), (true, 8), (true, 9), (true, 10), (true, 11), (true, 12), (true, 13), (false, 14), (false, 15), (true, 16)] ⟨by kernel_rfl, by kernel_rfl⟩ ([0, 1, 2, 3, 4, 5, 6, 7, 8, 9, 10, 11, 12, 13, 14, 15, 16]) rfl fun K hK => ?_
          refine opsI_end fun L hL => ?_
          simp [C.spec_l2Divide, fS, hn, hgn, h4, hal, hgle1, get_ints, hG0, tS_0 hG0, hl1, wrapOk (x := a[x2] - (leadE g)[x2]) (by omega) (by omega), hsn, show (x2 + 1) * 8 ≤ 140737488355328 by omega]
          refine hL _ ?_; clear hL L
          simp [C.spec_l2Divide, fS, hn, hgn, h4, hal, hgle1, get_ints, hG0, tS_0 hG0, hl1, wrapOk (x := a[x2] - (leadE g)[x2]) (by omega) (by omega), hsn, show (x2 + 1) * 8 ≤ 140737488355328 by omega]
          refine hK _ ?_; clear hK K
          show AWp _ _ _ _ _
          refine wseq ?_
          refine wdrawI [(true, 0), (true, 1), (true, 2), (true, 3), (true, 4), (true, 5), (true, 6), (true, 7), (true, 8), (true, 9), (true, 10), (true, 11), (true, 12), (true, 13), (true, 14), (true, 15), (true, 16), (true, 17), (true, 18), (true, 19), (true, 20), (true, 21), (false, 22), (true, 23)] ⟨by kernel_rfl, by kernel_rfl⟩ ([0, 1, 2, 3, 4, 5, 6, 7, 8, 9, 10, 11, 12, 13, 14, 15, 16, 17, 18, 19, 20, 21, 22] ++ ([23])) rfl fun K hK => ?_
          refine opsI_seg fun L hL => ?_
          simp [C.spec_l2Divide, fS, hn, hgn, show ((x2 : Int) < (x2 : Int) + 1) by omega, h4, get_ints, hln, hgt, wrapOk (x := (lowL f.ts n)[x2]'(by simpa using h4) - (lowL g.ts n)[x2]'(by simpa using h4)) (by omega) (by omega), wrapOk (x := (highL f.ts n)[x2]'(by simpa using h4) - (highL g.ts n)[x2]'(by simpa using h4)) (by omega) (by omega)]
          refine wcall1 (spec_l1In_calls (a[x2] - (leadE g)[x2]) ((lowL f.ts n)[x2]'(by simpa using h4) - (lowL g.ts n)[x2]'(by simpa using h4)) ((highL f.ts n)[x2]'(by simpa using h4) - (highL g.ts n)[x2]'(by simpa using h4))) (by simp) (by simp) ?_
          simp [C.spec_l2Divide, fS, hn, hgn, show ((x2 : Int) < (x2 : Int) + 1) by omega, h4, get_ints, hln, hgt, wrapOk (x := (lowL f.ts n)[x2]'(by simpa using h4) - (lowL g.ts n)[x2]'(by simpa using h4)) (by omega) (by omega), wrapOk (x := (highL f.ts n)[x2]'(by simpa using h4) - (highL g.ts n)[x2]'(by simpa using h4)) (by omega) (by omega)]
          refine hL _ ?_; clear hL L
          refine opsI_end fun L hL => ?_
          simp [C.spec_l2Divide, fS, hn, hgn, show ((x2 : Int) < (x2 : Int) + 1) by omega, h4, get_ints, hln, hgt, wrapOk (x := (lowL f.ts n)[x2]'(by simpa using h4) - (lowL g.ts n)[x2]'(by simpa using h4)) (by omega) (by omega), wrapOk (x := (highL f.ts n)[x2]'(by simpa using h4) - (highL g.ts n)[x2]'(by simpa using h4)) (by omega) (by omega)]
          refine hL _ ?_; clear hL L
          simp [C.spec_l2Divide, fS, hn, hgn, show ((x2 : Int) < (x2 : Int) + 1) by omega, h4, get_ints, hln, hgt, wrapOk (x := (lowL f.ts n)[x2]'(by simpa using h4) - (lowL g.ts n)[x2]'(by simpa using h4)) (by omega) (by omega), wrapOk (x := (highL f.ts n)[x2]'(by simpa using h4) - (highL g.ts n)[x2]'(by simpa using h4)) (by omega) (by omega)]
          refine hK _ ?_; clear hK K
          show AWp _ _ _ _ _
          refine wcond _ rfl (fun hc5 => ?_) (fun hc5 => ?_)
          · have hfail := hfailq (.inl fun h => by
              simp only [chkS, decide_eq_true_eq] at h
              have := h.1 x2 h4
              rw [getD_eq (by simpa using h4), getD_eq (by simpa using h4), getD_eq (by omega), getD_eq (by simpa using h4), getD_eq (by simpa using h4), e1] at this
              simp [this.1, this.2] at hc5)
            refine wseq ?_
            refine wreg fun K hK => ?_
            simp [C.spec_l2Divide, fS, hn, hgn]
            refine hK _ ?_; clear hK K
            show AWp _ _ _ _ _
            refine wret ?_
            simp [C.spec_l2Divide, fS, hn, hgn, hfail, endF, zeroF, fO, rows]
          · have hbx : ((lowL f.ts n)[x2]'(by simpa using h4) - (lowL g.ts n)[x2]'(by simpa using h4) ≤ a[x2] - (leadE g)[x2]) ∧ (a[x2] - (leadE g)[x2] ≤ (highL f.ts n)[x2]'(by simpa using h4) - (highL g.ts n)[x2]'(by simpa using h4)) := by simpa using hc5
            refine wskip ?_
            show AWp _ _ _ _ _
            refine wreg fun K hK => ?_
            simp [C.spec_l2Divide, fS, hn, hgn, wrap_succ (show x2 < 4611686018427387904 by omega)]
            refine hK _ ?_; clear hK K
            simp [C.spec_l2Divide, fS, hn, hgn]
            refine cast (congrArg R2 ?_) (hR2 (x2 + 1) ⟨h4, fun i hi => ?_⟩ (by omega))
            · simp [fS, hn, hgn]
            · rcases Nat.lt_succ_iff_lt_or_eq.1 hi with h | rfl
              · exact hj2 i h
              · rw [getD_eq (by simpa using h4), getD_eq (by simpa using h4), getD_eq (by omega), getD_eq (by simpa using h4), getD_eq (by simpa using h4), e1]
                exact hbx
        · have h4 : x2 = n := by have := d_f hc4; omega
          have hbox : inBox f g n (addE (-1) a (leadE g)) := fun i hi => hj2 i (by omega)
          have hb40 := inBox_bd hf hg hn hgn hfne hgne hEl hbox
          have htk : (addE (-1) a (leadE g)).take n = addE (-1) a (leadE g) := List.take_of_length_le (by omega)
          refine wexit ?_
          show AWp _ _ _ _ _
          refine wseq ?_
          refine wregI ([0, 1] ++ ([2, 3])) rfl fun K hK => ?_
          refine opsI_seg fun L hL => ?_
          simp [C.spec_l2Divide, fS, hn, hgn, htk, h4, hEl]
          refine wcall1 (spec_l2Key_calls (addE (-1) a (leadE g)) (fun z hz => by have := hb40 z hz; omega) (by omega)) (by simp [fS, hn, hgn, htk, h4, hEl]) (by simp) ?_
          simp [C.spec_l2Divide, fS, hn, hgn, htk, h4, hEl]
          refine hL _ ?_; clear hL L
          refine opsI_end fun L hL => ?_
          simp [C.spec_l2Divide, fS, hn, hgn, htk, h4, hEl]
          refine hL _ ?_; clear hL L
          simp [C.spec_l2Divide, fS, hn, hgn, htk, h4, hEl]
          refine hK _ ?_; clear hK K
          show AWp _ _ _ _ _
          refine wseq ?_
          refine wseq ?_
          refine wregI ([0, 1, 2] ++ ([3, 4, 5, 6, 7, 8])) rfl fun K hK => ?_
          have hJ : K ⟨ofL [(2, .pt (2, 0) [] 0), (3, .pt (3, 0) [] 0), (4, .pt (4, 0) [] 0), (6, .int (keyA 0 (List.replicate n 0))), (7, .al (7, 0) [] 0 (R'.length + 1)), (8, .al (8, 0) [] 0 g.ts.length), (9, .al (9, 0) [] 0 O.length), (10, .al (10, 0) [] 0 n), (11, .al (11, 0) [] 0 n), (12, .al (12, 0) [] 0 n), (13, .al (13, 0) [] 0 n), (14, .pt (14, 0) [] 0), (133, .bool (!decide ((-1000000 ≤ q ∧ q ≤ 1000000) ∧ ¬ O.length = 600)))], ofRO [((2, 0), some (.bx (fS f))), ((3, 0), some (.bx (fS g))), ((4, 0), some (.bx [D.int 0, .v (.slice none 0 0)])), ((7, 0), some (.ow 2 (R'.length + 1) (rows gM ((keyA 0 a, c) :: R'.map kc)))), ((8, 0), some (.ow 2 g.ts.length (rows gM (g.ts.map kt)))), ((9, 0), some (.ow 2 O.length (rows gM (O.map kc)))), ((10, 0), some (.ow 1 n (ints (lowL f.ts n)))), ((11, 0), some (.ow 1 n (ints (highL f.ts n)))), ((12, 0), some (.ow 1 n (ints (lowL g.ts n)))), ((13, 0), some (.ow 1 n (ints (highL g.ts n)))), ((14, 0), some (.bx [D.int (keyA 0 (addE (-1) a (leadE g))), D.int q]))]⟩ := by
            refine hK _ ?_; clear hK K
            show AWp _ _ _ _ _
            refine wcond _ rfl (fun hc6 => ?_) (fun hc6 => ?_)
            · have hr := nd_t hc6
              have hfail := hfailq (by
                rcases Classical.em (O.length = 600) with h | h
                · exact .inr h
                · refine .inl fun h2 => hr ⟨?_, h⟩
                  simp only [chkS, decide_eq_true_eq] at h2
                  exact h2.2)
              refine wseq ?_
              refine wreg fun K hK => ?_
              simp [C.spec_l2Divide, fS, hn, hgn]
              refine hK _ ?_; clear hK K
              show AWp _ _ _ _ _
              refine wret ?_
              simp [C.spec_l2Divide, fS, hn, hgn, hfail, endF, zeroF, fO, rows]
            · obtain ⟨hq6, hO6⟩ := nd_f hc6
              have hE0 := keyA_key (a := addE (-1) a (leadE g)) (fun z hz => by have := hb40 z hz; omega) (by omega)
              have hB0 := keyA_key (a := List.replicate n 0) (fun z hz => by have := List.eq_of_mem_replicate hz; omega) (by simpa using hv)
              have hP := prodM_one (keyA 0 (List.replicate n 0)) (keyA 0 (addE (-1) a (leadE g))) q (g.ts.map kt)
              have hPn := nf_abs (lt := ilt) (prodM (keyA 0 (List.replicate n 0)) [(keyA 0 (addE (-1) a (leadE g)), q)] (g.ts.map kt))
              have hgA := right_absK hg
              have htm := spec_l2Times_calls [(keyA 0 (addE (-1) a (leadE g)), q)] (g.ts.map kt) (keyA 0 (List.replicate n 0)) hB0 (fun y hy => by simp only [List.mem_singleton] at hy; subst hy; exact ⟨hE0, hq6⟩) (right_mon hg hgn) (by simp) (by simpa using hgl)
              rw [kt_abs, List.length_map] at hP
              simp only [List.length_cons, List.length_nil, List.length_map, rows, gM, List.append_nil, List.nil_append, Nat.zero_add] at htm
              have hOl := hx1.ol
              have hRn := hx1.rn
              have hRa := hx1.ra
              have hstep := hx1.step hg hgn hcm (by rw [hQ]; simp only [chkS, decide_eq_true_eq]; exact ⟨hbox, hq6⟩) (by omega) hEl hb40 (by rw [hQ]; exact hq6)
              have hcoded := step_coded hg hgn hx1.dig hEl hb40
              rw [hQ] at hstep hcoded
              simp only [List.map_cons, kc] at hcoded
              have hsnO : rows gM (O.map kc) ++ [D.v (.int .i64 (keyA 0 (addE (-1) a (leadE g)))), D.v (.int .i64 q)] = rows gM ((O ++ [(addE (-1) a (leadE g), q)]).map kc) := by
                rw [gM_snoc]
                simp [kc]
              have hqA : q.natAbs * absK (g.ts.map pr) ≤ 1000000 * 600000000 := Nat.mul_le_mul (by omega) hgA
              have hplus := spec_l2Plus_calls ((keyA 0 a, c) :: R'.map kc) (nf ilt (prodM (keyA 0 (List.replicate n 0)) [(keyA 0 (addE (-1) a (leadE g)), q)] (g.ts.map kt))) (-1) (by
                simp only [List.length_cons, List.length_map] at hRn ⊢
                omega) (by
                have e1 : absL ((keyA 0 a, c) :: R'.map kc) = absK ((a, c) :: R') := kc_abs ((a, c) :: R')
                have e2 : absL (nf ilt (prodM (keyA 0 (List.replicate n 0)) [(keyA 0 (addE (-1) a (leadE g)), q)] (g.ts.map kt))) ≤ absL (prodM (keyA 0 (List.replicate n 0)) [(keyA 0 (addE (-1) a (leadE g)), q)] (g.ts.map kt)) := hPn.1
                rw [e1]
                simp only [Int.natAbs_neg, Int.natAbs_one, Nat.one_mul]
                omega)
              rw [show scM (-1) = fun y : Int × Int => (y.1, -1 * y.2) from rfl, hcoded] at hplus
              simp only [List.length_cons, List.length_map] at hplus
              refine wskip ?_
              show AWp _ _ _ _ _
              refine wseq ?_
              refine wreg fun K hK => ?_
              simp [C.spec_l2Divide, fS, hn, hgn, hsnO, show (O.length + 1) * 16 ≤ 140737488355328 by omega]
              refine hK _ ?_; clear hK K
              show AWp _ _ _ _ _
              refine wregI ([0, 1, 2, 3, 4, 5] ++ ([6] ++ ([7]))) rfl fun K hK => ?_
              refine opsI_seg fun L hL => ?_
              simp [C.spec_l2Divide, fS, hn, hgn]
              refine wcall1 (htm) (by simp) (by simp) ?_
              simp [C.spec_l2Divide, fS, hn, hgn]
              refine hL _ ?_; clear hL L
              refine opsI_seg fun L hL => ?_
              simp [C.spec_l2Divide, fS, hn, hgn]
              refine wcall1 (hplus) (by simp) (by simp) ?_
              simp [C.spec_l2Divide, fS, hn, hgn]
              refine hL _ ?_; clear hL L
              refine opsI_end fun L hL => ?_
              simp [C.spec_l2Divide, fS, hn, hgn]
              refine hL _ ?_; clear hL L
              simp [C.spec_l2Divide, fS, hn, hgn]
              refine hK _ ?_; clear hK K
              simp [C.spec_l2Divide, fS, hn, hgn]
              refine cast (congrArg R1 ?_) (hR1 (nf lexlt (stepL g (a, c) R'), O ++ [(addE (-1) a (leadE g), q)]) hstep (by simp; omega))
              simp [fS, hn, hgn]
          clear hK
          by_cases hqq : -1000000 ≤ q ∧ q ≤ 1000000
          · refine opsI_seg fun L hL => ?_
            simp [C.spec_l2Divide, fS, hn, hgn, hqq]
            refine wcall1 (spec_l1In_calls q (-1000000) 1000000) (by simp) (by simp) ?_
            simp [C.spec_l2Divide, fS, hn, hgn, hqq]
            refine hL _ ?_; clear hL L
            refine opsI_end fun L hL => ?_
            simp [C.spec_l2Divide, fS, hn, hgn, hqq]
            refine hL _ ?_; clear hL L
            simp [C.spec_l2Divide, fS, hn, hgn, hqq]
            refine cast (congrArg K ?_) hJ
            simp [ieq600, fS, hn, hgn, hqq]
          · refine opsI_seg fun L hL => ?_
            simp [C.spec_l2Divide, fS, hn, hgn, hqq]
            refine wcall1 (spec_l1In_calls q (-1000000) 1000000) (by simp) (by simp) ?_
            simp [C.spec_l2Divide, fS, hn, hgn, hqq]
            refine hL _ ?_; clear hL L
            refine opsI_end fun L hL => ?_
            simp [C.spec_l2Divide, fS, hn, hgn, hqq]
            refine hL _ ?_; clear hL L
            simp [C.spec_l2Divide, fS, hn, hgn, hqq]
            refine cast (congrArg K ?_) hJ
            simp [ieq600, fS, hn, hgn, hqq]
    · have hR0 : R = [] := by
        cases R with
        | nil => rfl
        | cons y R' => simp at hc2
      subst hR0
      have hdone := hx1.done
      have hOl := hx1.ol
      refine wexit ?_
      show AWp _ _ _ _ _
      refine wseq ?_
      refine wregI ([0, 1, 2, 3] ++ ([4, 5, 6, 7])) rfl fun K hK => ?_
      refine opsI_seg fun L hL => ?_
      simp [C.spec_l2Divide, fS, hn, hgn]
      refine wcall1 (shut_coded O n (by omega) (fun x hx => ⟨fun z hz => by have := (hx1.od x hx).2 z hz; omega, (hx1.od x hx).1⟩) hv) (by simp) (by simp) ?_
      simp [C.spec_l2Divide, fS, hn, hgn]
      refine hL _ ?_; clear hL L
      refine opsI_end fun L hL => ?_
      simp [C.spec_l2Divide, fS, hn, hgn]
      refine hL _ ?_; clear hL L
      simp [C.spec_l2Divide, fS, hn, hgn]
      refine hK _ ?_; clear hK K
      show AWp _ _ _ _ _
      refine wret ?_
      simp [C.spec_l2Divide, fS, hn, hgn, hdone, fO]

end Go.Proofs.Ytdgeponcnlkaiaa.Ab
namespace Go.Proofs.Ytdgeponcnlkaiaa.Ab
open Go
set_option linter.unusedSimpArgs false
set_option linter.unusedVariables false
set_option maxRecDepth 10000
set_option maxHeartbeats 2000000
theorem spec_DivideLaurents_calls (f g : Lau) (hx : f.ts.length < 4611686018427387904) (hxe : ∀ t ∈ f.ts, t.e.length < 4611686018427387904) (hy : g.ts.length < 4611686018427387904) (hye : ∀ t ∈ g.ts, t.e.length < 4611686018427387904) : ACalls Try.prog F.spec_DivideLaurents [aF f, aF g] [] true (fun outs res => outs = [] ∧ WkRs res [.ag (fO (divF f g).1), .one (D.bool (divF f g).2)]) := by
  have hcall := spec_l2Two_calls f g hx hxe hy hye
  generalize hB : decide (Right f ∧ Right g ∧ f.v = g.v) = B at hcall
  refine ACalls.of_body (C := C.spec_DivideLaurents) (n := Try.f38.ntmps) tabT folT Try.func38 rfl (by kernel_rfl) rfl (Nat.le_of_ble_eq_true rfl) (by decide) (by kernel_rfl) (by kernel_rfl) rfl (by simp) (by simp) ?_
  simp only [Try.f38]
  refine wseq ?_
  refine wreg fun K hK => ?_
  simp [C.spec_DivideLaurents, fS]
  refine hK _ ?_; clear hK K
  show AWp _ _ _ _ _
  refine wseq ?_
  refine wseq ?_
  refine wregI ([0, 1, 2] ++ ([3, 4, 5, 6, 7, 8, 9])) rfl fun K hK => ?_
  have hJ : K ⟨ofL [(2, .pt (2, 0) [] 0), (3, .pt (3, 0) [] 0), (4, .pt (4, 0) [] 0), (15, .bool (!(B && !decide (g.ts = []))))], ofRO [((2, 0), some (.bx (fS f))), ((3, 0), some (.bx (fS g))), ((4, 0), some (.bx [D.int 0, .v (.slice none 0 0)]))]⟩ := by
    refine hK _ ?_; clear hK K
    show AWp _ _ _ _ _
    refine wcond _ rfl (fun hc1 => ?_) (fun hc1 => ?_)
    · have hr : ¬ ((Right f ∧ Right g ∧ f.v = g.v) ∧ g.ts ≠ []) := by
        rintro ⟨h1, h2⟩
        rw [← hB, decide_eq_true h1] at hc1
        simp [h2] at hc1
      have hm : divF f g = (zeroF, false) := if_neg hr
      refine wseq ?_
      refine wreg fun K hK => ?_
      simp [C.spec_DivideLaurents, fS]
      refine hK _ ?_; clear hK K
      show AWp _ _ _ _ _
      refine wret ?_
      simp [C.spec_DivideLaurents, fS, hm, fO, zeroF, rows]
    · have hr : (Right f ∧ Right g ∧ f.v = g.v) ∧ g.ts ≠ [] := by
        rw [← hB] at hc1
        simpa using hc1
      obtain ⟨⟨hf, hg, hfg⟩, hne⟩ := hr
      obtain ⟨n, hn⟩ : ∃ n : Nat, f.v = n := ⟨f.v.toNat, by have := hf.1; omega⟩
      have hgn : g.v = n := by omega
      have hm : divF f g = endF f.v (divL (chkS f g n) g 600 (f.ts.map pr)) := by
        rw [← divS_eq]
        unfold divS
        rw [if_pos ⟨⟨hf, hg, hfg⟩, hne⟩, hn]
        rfl
      refine wskip ?_
      show AWp _ _ _ _ _
      refine wseq ?_
      refine wregI ([0, 1, 2] ++ ([3, 4, 5, 6])) rfl fun K hK => ?_
      refine opsI_seg fun L hL => ?_
      simp [C.spec_DivideLaurents, fS]
      refine wcall1 ((spec_l2Divide_calls f g n hf hg hn hgn hne).weak1) (by simp) (by simp) ?_
      simp [C.spec_DivideLaurents, fS]
      refine hL _ ?_; clear hL L
      refine opsI_end fun L hL => ?_
      simp [C.spec_DivideLaurents, fS]
      refine hL _ ?_; clear hL L
      simp [C.spec_DivideLaurents, fS]
      refine hK _ ?_; clear hK K
      show AWp _ _ _ _ _
      refine wret ?_
      simp [C.spec_DivideLaurents, fS, hm, fO]
  clear hK
  by_cases hb : B = true
  · refine opsI_seg fun L hL => ?_
    simp [C.spec_DivideLaurents, fS, hb]
    refine wcall1 (hcall) (by simp) (by simp) ?_
    simp [C.spec_DivideLaurents, fS, hb]
    refine hL _ ?_; clear hL L
    refine opsI_end fun L hL => ?_
    simp [C.spec_DivideLaurents, fS, hb]
    refine hL _ ?_; clear hL L
    simp [C.spec_DivideLaurents, fS, hb]
    refine cast (congrArg K ?_) hJ
    simp [ieq0, fS, hb]
  · refine opsI_seg fun L hL => ?_
    simp [C.spec_DivideLaurents, fS, hb]
    refine wcall1 (hcall) (by simp) (by simp) ?_
    simp [C.spec_DivideLaurents, fS, hb]
    refine hL _ ?_; clear hL L
    refine opsI_end fun L hL => ?_
    simp [C.spec_DivideLaurents, fS, hb]
    refine hL _ ?_; clear hL L
    simp [C.spec_DivideLaurents, fS, hb]
    refine cast (congrArg K ?_) hJ
    simp [ieq0, fS, hb]
theorem sDiv_calls (f g : Lau) (hx : f.ts.length < 4611686018427387904) (hxe : ∀ t ∈ f.ts, t.e.length < 4611686018427387904) (hy : g.ts.length < 4611686018427387904) (hye : ∀ t ∈ g.ts, t.e.length < 4611686018427387904) : ACalls Try.prog F.spec_DivideLaurents [aF f, aF g] [] true (fun outs res => outs = [] ∧ res = [.ag (fO (divF f g).1), .one (D.bool (divF f g).2)]) := (spec_DivideLaurents_calls f g hx hxe hy hye).weak1

end Go.Proofs.Ytdgeponcnlkaiaa.Ab
namespace Go.Proofs.Ytdgeponcnlkaiaa.Ab
open Go
set_option linter.unusedSimpArgs false
set_option linter.unusedVariables false
set_option maxRecDepth 10000
set_option maxHeartbeats 2000000
attribute [local simp] mapKV flatInt tileB
structure LJ (n : Nat) (es l : List (List Int × Int)) (B : Nat) : Prop where
  map : MapR n es l
  len : ∀ x ∈ l, x.1.length = n
  abs : absE l ≤ B
theorem LJ.add {n : Nat} {es l : List (List Int × Int)} {B : Nat} (h : LJ n es l B) {e : List Int} (he : e.length = n) {c : Int} {X : Nat} (hc : c.natAbs ≤ X) : LJ n (madd es (pad e) c) ((e, c) :: l) (B + X) := by
  refine ⟨h.map.add he c, fun x hx => ?_, ?_⟩
  · rcases List.mem_cons.1 hx with rfl | hx
    · exact he
    · exact h.len x hx
  · have := h.abs
    simp only [absE, List.map_cons, List.sum_cons] at *
    omega
theorem LJ.val {n : Nat} {es l : List (List Int × Int)} {B : Nat} (h : LJ n es l B) {e : List Int} (he : e.length = n) {c : Int} {X : Nat} (hc : c.natAbs ≤ X) (hB : B + X ≤ 4000000000000000000) : -9223372036854775808 ≤ c + (mget (pad e) es).getD 0 ∧ c + (mget (pad e) es).getD 0 < 9223372036854775808 := by
  have h1 := h.map.val e he
  have h2 := co_abs e l
  have h3 := h.abs
  rw [h1]
  omega
theorem LJ.mono {n : Nat} {es l : List (List Int × Int)} {B C : Nat} (h : LJ n es l B) (hB : B ≤ C) : LJ n es l C := ⟨h.map, h.len, Nat.le_trans h.abs hB⟩
theorem divF_some {f g : Lau} {n : Nat} (hf : Right f) (hg : Right g) (hn : f.v = n) (hgn : g.v = n) (hne : g.ts ≠ []) : divF f g = endF n (divL chkI g 600 (f.ts.map pr)) := by
  unfold divF
  rw [if_pos ⟨⟨hf, hg, by omega⟩, hne⟩, hn]
theorem impl_DivideLaurents_l1 (f g : Lau) (n : Nat) (hn : f.v = n) (hv : n ≤ 8) (hf : Right f) (hfl : f.ts.length ≤ 600) (Q0 : AEx → St → Prop) (hX0 : ∀ es l, LJ n es l 600000000 → l.Perm (f.ts.map pr) → Q0 (.exit 0) ⟨ofL [(2, .pt (2, 0) [] 0), (3, .pt (3, 0) [] 0), (4, .pt (4, 0) [] 0), (6, .pt (6, 0) [] 0), (34, .d (.sh 2 f.ts.length (rows tS f.ts))), (35, .int f.ts.length), (36, .int f.ts.length), (37, .bool false)], ofRO [((2, 0), some (.bx (fS f))), ((3, 0), some (.bx (fS g))), ((4, 0), some (.bx [D.int 0, .v (.slice none 0 0)])), ((6, 0), some (.bx [D.int n, .mp es]))]⟩) : AWp C.impl_DivideLaurents (codeAt Try.f36 [1, 1, 1, 0, 1, 0]) 0 Q0 ⟨ofL [(2, .pt (2, 0) [] 0), (3, .pt (3, 0) [] 0), (4, .pt (4, 0) [] 0), (6, .pt (6, 0) [] 0), (34, .d (.sh 2 f.ts.length (rows tS f.ts))), (35, .int f.ts.length), (36, .int 0)], ofRO [((2, 0), some (.bx (fS f))), ((3, 0), some (.bx (fS g))), ((4, 0), some (.bx [D.int 0, .v (.slice none 0 0)])), ((6, 0), some (.bx [D.int n, .mp []]))]⟩ := by
  simp only [codeAt, Try.f36, walkCode]
  refine wloop (fun x : Nat × List (List Int × Int) × List (List Int × Int) => ⟨ofL [(2, .pt (2, 0) [] 0), (3, .pt (3, 0) [] 0), (4, .pt (4, 0) [] 0), (6, .pt (6, 0) [] 0), (34, .d (.sh 2 f.ts.length (rows tS f.ts))), (35, .int f.ts.length), (36, .int x.1)], ofRO [((2, 0), some (.bx (fS f))), ((3, 0), some (.bx (fS g))), ((4, 0), some (.bx [D.int 0, .v (.slice none 0 0)])), ((6, 0), some (.bx [D.int n, .mp x.2.1]))]⟩) (fun x => x.1 ≤ f.ts.length ∧ LJ n x.2.1 x.2.2 (x.1 * 1000000) ∧ x.2.2.Perm ((f.ts.map pr).take x.1)) (fun x => f.ts.length - x.1) (0, [], []) (by simp [C.impl_DivideLaurents, fS, hn]) ⟨by simp, ⟨MapR.nil n, by simp, by simp [absE]⟩, by simp⟩ ?_
  intro x1 hx1 R1 hR1
  obtain ⟨i, es, l⟩ := x1
  obtain ⟨hi, hLJ, hP⟩ := hx1
  dsimp only at hi hLJ hP ⊢
  refine wseq ?_
  refine wreg fun K hK => ?_
  simp [C.impl_DivideLaurents, fS]
  refine hK _ ?_; clear hK K
  show AWp _ _ _ _ _
  refine wseq ?_
  refine wcond _ rfl (fun hc2 => ?_) (fun hc2 => ?_)
  · have hif : i < f.ts.length := by have := d_t hc2; omega
    have hT := right_dig hf hn _ (List.getElem_mem hif)
    refine wskip ?_
    show AWp _ _ _ _ _
    refine wseq ?_
    refine wblock ?_
    refine wseq ?_
    refine wreg fun K hK => ?_
    simp [C.impl_DivideLaurents, fS, hif, tS_0 hif, tS_1 hif]
    refine hK _ ?_; clear hK K
    show AWp _ _ _ _ _
    obtain ⟨a0, a1, a2, a3, a4, a5, a6, a7, hpa⟩ := eight (pad_length (e := f.ts[i].e) (by omega))
    have hval := hLJ.val hT.1 (c := f.ts[i].c) (X := 1000000) (by omega) (by omega)
    rw [hpa] at hval
    refine wdrawI [(true, 0), (true, 1), (true, 2), (true, 4), (true, 5), (false, 3), (false, 6)] ⟨by kernel_rfl, by kernel_rfl⟩ ([0, 1, 2, 4, 5, 3] ++ ([6] ++ ([]))) rfl fun K hK => ?_
    refine opsI_seg fun L hL => ?_
    simp [C.impl_DivideLaurents, fS, tS]
    refine wcall1 (impl_keyOf_calls f.ts[i].e (by omega) a0 a1 a2 a3 a4 a5 a6 a7 hpa) (by simp) (by simp) ?_
    simp [C.impl_DivideLaurents, fS, tS]
    refine hL _ ?_; clear hL L
    refine opsI_seg fun L hL => ?_
    simp [C.impl_DivideLaurents, fS, tS]
    refine wcall1 (impl_building_add_calls n f.ts[i].c es a0 a1 a2 a3 a4 a5 a6 a7 (hLJ.map.len8 hv) hval) (by simp) (by simp) ?_
    simp [C.impl_DivideLaurents, fS, tS]
    refine hL _ ?_; clear hL L
    refine opsI_end fun L hL => ?_
    simp only [AOpsI]
    refine hL _ ?_; clear hL L
    simp [C.impl_DivideLaurents, fS, tS]
    rw [← hpa]
    refine hK _ ?_; clear hK K
    show AWp _ _ _ _ _
    refine wreg fun K hK => ?_
    simp [C.impl_DivideLaurents, fS, wrap_succ (show i < 4611686018427387904 by omega)]
    refine hK _ ?_; clear hK K
    simp [C.impl_DivideLaurents, fS]
    refine cast (congrArg R1 ?_) (hR1 (i + 1, madd es (pad f.ts[i].e) f.ts[i].c, (f.ts[i].e, f.ts[i].c) :: l) ⟨hif, ?_, ?_⟩ (by dsimp only; omega))
    · simp [fS, hn]
    · have := hLJ.add hT.1 (c := f.ts[i].c) (X := 1000000) (by omega)
      dsimp only
      rwa [Nat.add_mul, Nat.one_mul]
    · dsimp only
      rw [List.take_succ_eq_append_getElem (by simpa using hif)]
      refine (List.Perm.cons _ hP).trans ?_
      simp only [List.getElem_map, pr]
      exact (List.perm_append_singleton _ _).symm
  · have hif : i = f.ts.length := by have := d_f hc2; omega
    have hall : l.Perm (f.ts.map pr) := by
      rw [List.take_of_length_le (by simp; omega)] at hP
      exact hP
    refine wexit ?_
    refine cast (congrArg (Q0 (.exit 0)) ?_) (hX0 es l (hLJ.mono (by rw [hif]; omega)) hall)
    simp [fS, hn, hif]

theorem impl_DivideLaurents_r21 (f g : Lau) (n : Nat) (hn : f.v = n) (es eo P rest : List (List Int × Int)) (k0 k1 k2 k3 k4 k5 k6 k7 t0 t1 t2 t3 t4 t5 t6 t7 xc : Int) (i : Nat) (i0 : Nat) (Q0 : AEx → St → Prop) (hJ0 : Q0 .normal ⟨ofL [(2, .pt (2, 0) [] 0), (3, .pt (3, 0) [] 0), (4, .pt (4, 0) [] 0), (6, .pt (6, 0) [] 0), (9, .pt (9, 0) [] 0), (10, .pt (10, 0) [] 0), (11, .pt (11, 0) [] 0), (12, .bool (decide (P = []))), (13, .pt (13, 0) [] 0), (65, .it (65, 0) (6, 0) [1] (rest.eraseIdx i) (some ([k0, k1, k2, k3, k4, k5, k6, k7], xc))), (76, .bool (decide (P = [] ∨ lexlt [t0, t1, t2, t3, t4, t5, t6, t7] [k0, k1, k2, k3, k4, k5, k6, k7] = true)))], ofRO [((2, 0), some (.bx (fS f))), ((3, 0), some (.bx (fS g))), ((4, 0), some (.bx [D.int 0, .v (.slice none 0 0)])), ((6, 0), some (.bx [D.int n, .mp es])), ((9, 0), some (.bx [D.int n, .mp eo])), ((10, 0), some (.bx [shI (leadE g), D.int (leadC g)])), ((11, 0), some (.bx [D.int t0, D.int t1, D.int t2, D.int t3, D.int t4, D.int t5, D.int t6, D.int t7])), ((13, 0), some (.bx [D.int k0, D.int k1, D.int k2, D.int k3, D.int k4, D.int k5, D.int k6, D.int k7])), ((65, 0), some .itr)]⟩) : AWp C.impl_DivideLaurents (codeAt Try.f36 [1, 1, 1, 1, 1, 1, 0, 0, 0, 1, 0, 1, 1, 0, 1, 0, 0, 1, 1, 0, 1, 0]) i0 Q0 ⟨ofL [(2, .pt (2, 0) [] 0), (3, .pt (3, 0) [] 0), (4, .pt (4, 0) [] 0), (6, .pt (6, 0) [] 0), (9, .pt (9, 0) [] 0), (10, .pt (10, 0) [] 0), (11, .pt (11, 0) [] 0), (12, .bool (decide (P = []))), (13, .pt (13, 0) [] 0), (65, .it (65, 0) (6, 0) [1] (rest.eraseIdx i) (some ([k0, k1, k2, k3, k4, k5, k6, k7], xc)))], ofRO [((2, 0), some (.bx (fS f))), ((3, 0), some (.bx (fS g))), ((4, 0), some (.bx [D.int 0, .v (.slice none 0 0)])), ((6, 0), some (.bx [D.int n, .mp es])), ((9, 0), some (.bx [D.int n, .mp eo])), ((10, 0), some (.bx [shI (leadE g), D.int (leadC g)])), ((11, 0), some (.bx [D.int t0, D.int t1, D.int t2, D.int t3, D.int t4, D.int t5, D.int t6, D.int t7])), ((13, 0), some (.bx [D.int k0, D.int k1, D.int k2, D.int k3, D.int k4, D.int k5, D.int k6, D.int k7])), ((65, 0), some .itr)]⟩ := by
  simp only [codeAt, Try.f36, walkCode]
  refine wdrawI [(true, 0), (true, 1), (true, 2), (true, 3), (false, 4), (true, 5), (true, 6)] ⟨by kernel_rfl, by kernel_rfl⟩ ([0, 1, 2, 3, 4] ++ ([5, 6])) rfl fun K hK => ?_
  have hJ : K ⟨ofL [(2, .pt (2, 0) [] 0), (3, .pt (3, 0) [] 0), (4, .pt (4, 0) [] 0), (6, .pt (6, 0) [] 0), (9, .pt (9, 0) [] 0), (10, .pt (10, 0) [] 0), (11, .pt (11, 0) [] 0), (12, .bool (decide (P = []))), (13, .pt (13, 0) [] 0), (65, .it (65, 0) (6, 0) [1] (rest.eraseIdx i) (some ([k0, k1, k2, k3, k4, k5, k6, k7], xc))), (76, .bool (decide (P = [] ∨ lexlt [t0, t1, t2, t3, t4, t5, t6, t7] [k0, k1, k2, k3, k4, k5, k6, k7] = true)))], ofRO [((2, 0), some (.bx (fS f))), ((3, 0), some (.bx (fS g))), ((4, 0), some (.bx [D.int 0, .v (.slice none 0 0)])), ((6, 0), some (.bx [D.int n, .mp es])), ((9, 0), some (.bx [D.int n, .mp eo])), ((10, 0), some (.bx [shI (leadE g), D.int (leadC g)])), ((11, 0), some (.bx [D.int t0, D.int t1, D.int t2, D.int t3, D.int t4, D.int t5, D.int t6, D.int t7])), ((13, 0), some (.bx [D.int k0, D.int k1, D.int k2, D.int k3, D.int k4, D.int k5, D.int k6, D.int k7])), ((65, 0), some .itr)]⟩ := by
    refine hK _ ?_; clear hK K
    exact hJ0
  clear hK
  by_cases hp : P = []
  · refine opsI_seg fun L hL => ?_
    simp [C.impl_DivideLaurents, fS, ints, sh8, hp]
    refine hL _ ?_; clear hL L
    refine opsI_end fun L hL => ?_
    simp [C.impl_DivideLaurents, fS, ints, sh8, hp]
    refine hL _ ?_; clear hL L
    simp [C.impl_DivideLaurents, fS, ints, sh8, hp]
    refine cast (congrArg K ?_) hJ
    simp [cmpL_gt, hn, fS, hp]
  · refine opsI_seg fun L hL => ?_
    simp [C.impl_DivideLaurents, fS, ints, sh8, hp]
    refine wcall1 (slices_Compare_int_int_calls [k0, k1, k2, k3, k4, k5, k6, k7] [t0, t1, t2, t3, t4, t5, t6, t7] (by simp)) (by simp [fS, ints, sh8]) (by simp) ?_
    simp [C.impl_DivideLaurents, fS, ints, sh8, hp]
    refine hL _ ?_; clear hL L
    refine opsI_end fun L hL => ?_
    simp [C.impl_DivideLaurents, fS, ints, sh8, hp]
    refine hL _ ?_; clear hL L
    simp [C.impl_DivideLaurents, fS, ints, sh8, hp]
    refine cast (congrArg K ?_) hJ
    simp [cmpL_gt, hn, fS, hp]

theorem impl_DivideLaurents_l3 (f g : Lau) (n : Nat) (hn : f.v = n) (es eo : List (List Int × Int)) (hm8 : mapLen 8 es) (Q0 : AEx → St → Prop) (hX0 : ∀ P top cur, P.Perm es → TopJ P top → Q0 (.exit 4) ⟨ofL [(2, .pt (2, 0) [] 0), (3, .pt (3, 0) [] 0), (4, .pt (4, 0) [] 0), (6, .pt (6, 0) [] 0), (9, .pt (9, 0) [] 0), (10, .pt (10, 0) [] 0), (11, .pt (11, 0) [] 0), (12, .bool (decide (P = []))), (65, .it (65, 0) (6, 0) [1] [] cur), (67, .bool false)], ofRO [((2, 0), some (.bx (fS f))), ((3, 0), some (.bx (fS g))), ((4, 0), some (.bx [D.int 0, .v (.slice none 0 0)])), ((6, 0), some (.bx [D.int n, .mp es])), ((9, 0), some (.bx [D.int n, .mp eo])), ((10, 0), some (.bx [shI (leadE g), D.int (leadC g)])), ((11, 0), some (.bx (ints top))), ((65, 0), some .itr)]⟩) : AWp C.impl_DivideLaurents (codeAt Try.f36 [1, 1, 1, 1, 1, 1, 0, 0, 0, 1, 0, 1, 1, 0, 1, 0]) 4 Q0 ⟨ofL [(2, .pt (2, 0) [] 0), (3, .pt (3, 0) [] 0), (4, .pt (4, 0) [] 0), (6, .pt (6, 0) [] 0), (9, .pt (9, 0) [] 0), (10, .pt (10, 0) [] 0), (11, .pt (11, 0) [] 0), (12, .bool (decide (([] : List (List Int × Int)) = []))), (65, .it (65, 0) (6, 0) [1] es none)], ofRO [((2, 0), some (.bx (fS f))), ((3, 0), some (.bx (fS g))), ((4, 0), some (.bx [D.int 0, .v (.slice none 0 0)])), ((6, 0), some (.bx [D.int n, .mp es])), ((9, 0), some (.bx [D.int n, .mp eo])), ((10, 0), some (.bx [shI (leadE g), D.int (leadC g)])), ((11, 0), some (.bx (ints [0, 0, 0, 0, 0, 0, 0, 0]))), ((65, 0), some .itr)]⟩ := by
  simp only [codeAt, Try.f36, walkCode]
  refine wloop (fun x : List (List Int × Int) × List Int × List (List Int × Int) × Option (List Int × Int) => ⟨ofL [(2, .pt (2, 0) [] 0), (3, .pt (3, 0) [] 0), (4, .pt (4, 0) [] 0), (6, .pt (6, 0) [] 0), (9, .pt (9, 0) [] 0), (10, .pt (10, 0) [] 0), (11, .pt (11, 0) [] 0), (12, .bool (decide (x.1 = []))), (65, .it (65, 0) (6, 0) [1] x.2.2.1 x.2.2.2)], ofRO [((2, 0), some (.bx (fS f))), ((3, 0), some (.bx (fS g))), ((4, 0), some (.bx [D.int 0, .v (.slice none 0 0)])), ((6, 0), some (.bx [D.int n, .mp es])), ((9, 0), some (.bx [D.int n, .mp eo])), ((10, 0), some (.bx [shI (leadE g), D.int (leadC g)])), ((11, 0), some (.bx (ints x.2.1))), ((65, 0), some .itr)]⟩) (fun x => (x.1 ++ x.2.2.1).Perm es ∧ TopJ x.1 x.2.1) (fun x => x.2.2.1.length) ([], [0, 0, 0, 0, 0, 0, 0, 0], es, none) (by simp [C.impl_DivideLaurents, fS, hn, ints]) ⟨by simp, ⟨rfl, by simp, by simp⟩⟩ ?_
  intro x3 hx3 R3 hR3
  obtain ⟨P, top, rest, cur⟩ := x3
  obtain ⟨hq, hT⟩ := hx3
  dsimp only at hq hT ⊢
  refine wseq ?_
  refine wreg fun K hK => ?_
  simp [C.impl_DivideLaurents, fS]
  refine ⟨fun hrest => ?_, fun i xk xc hxi => ?_⟩
  · refine hK _ ?_; clear hK K
    show AWp _ _ _ _ _
    refine wseq ?_
    refine wcond _ rfl (fun hc4 => ?_) (fun hc4 => ?_)
    · simp at hc4
    · subst hrest
      have hqe : P.Perm es := by simpa using hq
      refine wexit ?_
      refine cast (congrArg (Q0 (.exit 4)) ?_) (hX0 P top cur hqe hT)
      simp [fS, hn]
  · refine hK _ ?_; clear hK K
    show AWp _ _ _ _ _
    refine wseq ?_
    refine wcond _ rfl (fun hc6 => ?_) (fun hc6 => ?_)
    · have hxm : (xk, xc) ∈ rest := List.mem_of_getElem? hxi
      have hxl := hm8 _ (hq.subset (List.mem_append_right P hxm))
      dsimp only at hxl
      obtain ⟨k0, k1, k2, k3, k4, k5, k6, k7, rfl⟩ := eight hxl
      obtain ⟨t0, t1, t2, t3, t4, t5, t6, t7, rfl⟩ := eight hT.len
      have hil : i < rest.length := by
        rcases Nat.lt_or_ge i rest.length with h | h
        · exact h
        · rw [List.getElem?_eq_none h] at hxi; simp at hxi
      have hper : (P ++ [([k0, k1, k2, k3, k4, k5, k6, k7], xc)] ++ rest.eraseIdx i).Perm es := by
        have hget : rest[i] = ([k0, k1, k2, k3, k4, k5, k6, k7], xc) := by
          rw [List.getElem?_eq_getElem hil] at hxi
          injection hxi
        have h9 := erase_perm rest i hil
        rw [hget] at h9
        refine List.Perm.trans ?_ hq
        rw [List.append_assoc]
        exact List.Perm.append_left _ h9
      refine wskip ?_
      show AWp _ _ _ _ _
      refine wblock ?_
      refine wseq ?_
      refine wreg fun K hK => ?_
      simp [C.impl_DivideLaurents, fS, ints]
      refine hK _ ?_; clear hK K
      show AWp _ _ _ _ _
      refine wseq ?_
      refine wcode (c' := codeAt Try.f36 [1, 1, 1, 1, 1, 1, 0, 0, 0, 1, 0, 1, 1, 0, 1, 0, 0, 1, 1, 0, 1, 0]) (by kernel_rfl) ?_
      refine impl_DivideLaurents_r21 f g n hn es eo P rest k0 k1 k2 k3 k4 k5 k6 k7 t0 t1 t2 t3 t4 t5 t6 t7 xc i _ _ ?_
      show AWp _ _ _ _ _
      refine wcond _ rfl (fun hc7 => ?_) (fun hc7 => ?_)
      · have hcm := d_t hc7
        refine wreg fun K hK => ?_
        simp [C.impl_DivideLaurents, fS]
        refine hK _ ?_; clear hK K
        simp [C.impl_DivideLaurents, fS]
        refine cast (congrArg R3 ?_) (hR3 (P ++ [([k0, k1, k2, k3, k4, k5, k6, k7], xc)], [k0, k1, k2, k3, k4, k5, k6, k7], rest.eraseIdx i, some ([k0, k1, k2, k3, k4, k5, k6, k7], xc)) ⟨hper, hT.next rfl hcm⟩ (by dsimp only; rw [List.length_eraseIdx_of_lt hil]; omega))
        simp [fS, hn, ints]
      · have hcm := d_f hc7
        have hPn : P ≠ [] := fun e => hcm (.inl e)
        have hlt : lexlt [t0, t1, t2, t3, t4, t5, t6, t7] [k0, k1, k2, k3, k4, k5, k6, k7] = false := by
          cases hh : lexlt [t0, t1, t2, t3, t4, t5, t6, t7] [k0, k1, k2, k3, k4, k5, k6, k7] with
          | false => rfl
          | true => exact absurd (.inr hh) hcm
        refine wskip ?_
        simp [C.impl_DivideLaurents, fS]
        refine cast (congrArg R3 ?_) (hR3 (P ++ [([k0, k1, k2, k3, k4, k5, k6, k7], xc)], [t0, t1, t2, t3, t4, t5, t6, t7], rest.eraseIdx i, some ([k0, k1, k2, k3, k4, k5, k6, k7], xc)) ⟨hper, hT.keep hPn hlt⟩ (by dsimp only; rw [List.length_eraseIdx_of_lt hil]; omega))
        simp [fS, hn, ints, hPn]
    · simp at hc6

theorem impl_DivideLaurents_r24 (f g : Lau) (n : Nat) (es eo : List (List Int × Int)) (a0 a1 a2 a3 a4 a5 a6 a7 b0 b1 b2 b3 b4 b5 b6 b7 c : Int) (hgl8 : (leadE g).length ≤ 8) (hpb : pad (leadE g) = [b0, b1, b2, b3, b4, b5, b6, b7]) (hba : ∀ x ∈ [a0, a1, a2, a3, a4, a5, a6, a7], -1000000 ≤ x ∧ x ≤ 1000000) (hbb : ∀ x ∈ [b0, b1, b2, b3, b4, b5, b6, b7], -1000000 ≤ x ∧ x ≤ 1000000) (i0 : Nat) (Q0 : AEx → St → Prop) (hJ0 : Q0 .normal ⟨ofL [(2, .pt (2, 0) [] 0), (3, .pt (3, 0) [] 0), (4, .pt (4, 0) [] 0), (6, .pt (6, 0) [] 0), (9, .pt (9, 0) [] 0), (10, .pt (10, 0) [] 0), (14, .int c), (15, .pt (15, 0) [] 0)], ofRO [((2, 0), some (.bx (fS f))), ((3, 0), some (.bx (fS g))), ((4, 0), some (.bx [D.int 0, .v (.slice none 0 0)])), ((6, 0), some (.bx [D.int n, .mp es])), ((9, 0), some (.bx [D.int n, .mp eo])), ((10, 0), some (.bx [shI (leadE g), D.int (leadC g)])), ((15, 0), some (.bx [D.int (a0 + -1 * b0), D.int (a1 + -1 * b1), D.int (a2 + -1 * b2), D.int (a3 + -1 * b3), D.int (a4 + -1 * b4), D.int (a5 + -1 * b5), D.int (a6 + -1 * b6), D.int (a7 + -1 * b7)]))]⟩) : AWp C.impl_DivideLaurents (codeAt Try.f36 [1, 1, 1, 1, 1, 1, 0, 0, 0, 1, 0, 1, 1, 1, 1, 0]) i0 Q0 ⟨ofL [(2, .pt (2, 0) [] 0), (3, .pt (3, 0) [] 0), (4, .pt (4, 0) [] 0), (6, .pt (6, 0) [] 0), (9, .pt (9, 0) [] 0), (10, .pt (10, 0) [] 0), (11, .pt (11, 0) [] 0), (14, .int c)], ofRO [((2, 0), some (.bx (fS f))), ((3, 0), some (.bx (fS g))), ((4, 0), some (.bx [D.int 0, .v (.slice none 0 0)])), ((6, 0), some (.bx [D.int n, .mp es])), ((9, 0), some (.bx [D.int n, .mp eo])), ((10, 0), some (.bx [shI (leadE g), D.int (leadC g)])), ((11, 0), some (.bx (ints [a0, a1, a2, a3, a4, a5, a6, a7])))]⟩ := by
  simp only [codeAt, Try.f36, walkCode]
  refine wdraw (.take 0 (.take 1 (.take 2 (.all [(3, .all [(4, .all [(5, .all [(6, .done)])]), (5, .all [(4, .all [(6, .done)])])]), (5, .all [(3, .all [(4, .all [(6, .done)])])])])))) ⟨by kernel_rfl, by kernel_rfl⟩ fun K hK => ?_
  have hJ : K ⟨ofL [(2, .pt (2, 0) [] 0), (3, .pt (3, 0) [] 0), (4, .pt (4, 0) [] 0), (6, .pt (6, 0) [] 0), (9, .pt (9, 0) [] 0), (10, .pt (10, 0) [] 0), (14, .int c), (15, .pt (15, 0) [] 0)], ofRO [((2, 0), some (.bx (fS f))), ((3, 0), some (.bx (fS g))), ((4, 0), some (.bx [D.int 0, .v (.slice none 0 0)])), ((6, 0), some (.bx [D.int n, .mp es])), ((9, 0), some (.bx [D.int n, .mp eo])), ((10, 0), some (.bx [shI (leadE g), D.int (leadC g)])), ((15, 0), some (.bx [D.int (a0 + -1 * b0), D.int (a1 + -1 * b1), D.int (a2 + -1 * b2), D.int (a3 + -1 * b3), D.int (a4 + -1 * b4), D.int (a5 + -1 * b5), D.int (a6 + -1 * b6), D.int (a7 + -1 * b7)]))]⟩ := by
    refine hK _ ?_; clear hK K
    exact hJ0
  clear hK
  have hk1 := impl_keyOf_calls (leadE g) (by omega) b0 b1 b2 b3 b4 b5 b6 b7 hpb
  have hk2 := impl_plusExp_calls (-1) a0 a1 a2 a3 a4 a5 a6 a7 b0 b1 b2 b3 b4 b5 b6 b7 (by omega) hba hbb
  simp [C.impl_DivideLaurents, fS, ints]
  repeat' first
    | (refine wcall1 hk1 (by simp) (by simp) ?_; simp [C.impl_DivideLaurents, fS])
    | (refine wcall1 hk2 (by simp) (by simp) ?_; simp [C.impl_DivideLaurents, fS])
    | (refine cast (congrArg K ?_) hJ; simp [fS]; done)
    | refine ⟨?_, ?_⟩

theorem impl_DivideLaurents_r26 (f g : Lau) (n : Nat) (hn : f.v = n) (hv : n ≤ 8) (es eo O : List (List Int × Int)) (E : List Int) (e0 e1 e2 e3 e4 e5 e6 e7 c q : Int) (hgc0 : leadC g ≠ 0) (hsh : shareL (List.take n [D.v (.int .i64 e0), D.v (.int .i64 e1), D.v (.int .i64 e2), D.v (.int .i64 e3), D.v (.int .i64 e4), D.v (.int .i64 e5), D.v (.int .i64 e6), D.v (.int .i64 e7)]) = ints E) (hEl : E.length = n) (heol : eo.length = O.length) (i0 : Nat) (Q0 : AEx → St → Prop) (hJ0 : Q0 .normal ⟨ofL [(2, .pt (2, 0) [] 0), (3, .pt (3, 0) [] 0), (4, .pt (4, 0) [] 0), (6, .pt (6, 0) [] 0), (9, .pt (9, 0) [] 0), (10, .pt (10, 0) [] 0), (15, .pt (15, 0) [] 0), (16, .int q), (119, .bool (!decide (((c.tmod (leadC g) = 0 ∧ okE E n = true) ∧ (q ≠ 0 ∧ -1000000 ≤ q ∧ q ≤ 1000000)) ∧ ¬ O.length = 600)))], ofRO [((2, 0), some (.bx (fS f))), ((3, 0), some (.bx (fS g))), ((4, 0), some (.bx [D.int 0, .v (.slice none 0 0)])), ((6, 0), some (.bx [D.int n, .mp es])), ((9, 0), some (.bx [D.int n, .mp eo])), ((10, 0), some (.bx [shI (leadE g), D.int (leadC g)])), ((15, 0), some (.bx [D.int e0, D.int e1, D.int e2, D.int e3, D.int e4, D.int e5, D.int e6, D.int e7]))]⟩) : AWp C.impl_DivideLaurents (codeAt Try.f36 [1, 1, 1, 1, 1, 1, 0, 0, 0, 1, 0, 1, 1, 1, 1, 1, 1, 0, 0]) i0 Q0 ⟨ofL [(2, .pt (2, 0) [] 0), (3, .pt (3, 0) [] 0), (4, .pt (4, 0) [] 0), (6, .pt (6, 0) [] 0), (9, .pt (9, 0) [] 0), (10, .pt (10, 0) [] 0), (14, .int c), (15, .pt (15, 0) [] 0), (16, .int q)], ofRO [((2, 0), some (.bx (fS f))), ((3, 0), some (.bx (fS g))), ((4, 0), some (.bx [D.int 0, .v (.slice none 0 0)])), ((6, 0), some (.bx [D.int n, .mp es])), ((9, 0), some (.bx [D.int n, .mp eo])), ((10, 0), some (.bx [shI (leadE g), D.int (leadC g)])), ((15, 0), some (.bx [D.int e0, D.int e1, D.int e2, D.int e3, D.int e4, D.int e5, D.int e6, D.int e7]))]⟩ := by
  simp only [codeAt, Try.f36, walkCode]
  refine wdrawI [(true, 0), (true, 1), (true, 2), (true, 3), (true, 4), (true, 5), (true, 6), (true, 7), (true, 8), (true, 9), (true, 10), (false, 11), (true, 12), (true, 13), (true, 14), (true, 15), (false, 16), (true, 17), (true, 18), (true, 19), (true, 20), (true, 21), (true, 22), (true, 23), (true, 24), (true, 25), (true, 26)] ⟨by kernel_rfl, by kernel_rfl⟩ ([0, 1, 2, 3, 4, 5, 6, 7, 8, 9, 10, 11] ++ ([12, 13, 14, 15, 16] ++ ([17, 18, 19, 20, 21, 22, 23, 24, 25, 26]))) rfl fun K hK => ?_
  have hJ : K ⟨ofL [(2, .pt (2, 0) [] 0), (3, .pt (3, 0) [] 0), (4, .pt (4, 0) [] 0), (6, .pt (6, 0) [] 0), (9, .pt (9, 0) [] 0), (10, .pt (10, 0) [] 0), (15, .pt (15, 0) [] 0), (16, .int q), (119, .bool (!decide (((c.tmod (leadC g) = 0 ∧ okE E n = true) ∧ (q ≠ 0 ∧ -1000000 ≤ q ∧ q ≤ 1000000)) ∧ ¬ O.length = 600)))], ofRO [((2, 0), some (.bx (fS f))), ((3, 0), some (.bx (fS g))), ((4, 0), some (.bx [D.int 0, .v (.slice none 0 0)])), ((6, 0), some (.bx [D.int n, .mp es])), ((9, 0), some (.bx [D.int n, .mp eo])), ((10, 0), some (.bx [shI (leadE g), D.int (leadC g)])), ((15, 0), some (.bx [D.int e0, D.int e1, D.int e2, D.int e3, D.int e4, D.int e5, D.int e6, D.int e7]))]⟩ := by
    refine hK _ ?_; clear hK K
    exact hJ0
  clear hK
  by_cases g1 : c.tmod (leadC g) = 0
  · by_cases g2 : okE E n = true
    · by_cases g3 : (q ≠ 0 ∧ -1000000 ≤ q ∧ q ≤ 1000000)
      · refine opsI_seg fun L hL => ?_
        simp [C.impl_DivideLaurents, fS, hgc0, hn, show ((n : Int) ≤ 8) by omega, hv, Nat.min_eq_left hv, hsh, hEl, heol, g1, g2, g3]
        refine wcall1 (impl_expOk_calls E n (by omega)) (by simp [fS, hgc0, hn, show ((n : Int) ≤ 8) by omega, hv, Nat.min_eq_left hv, hsh, hEl, heol]) (by simp) ?_
        simp [C.impl_DivideLaurents, fS, hgc0, hn, show ((n : Int) ≤ 8) by omega, hv, Nat.min_eq_left hv, hsh, hEl, heol, g1, g2, g3]
        refine hL _ ?_; clear hL L
        refine opsI_seg fun L hL => ?_
        simp [C.impl_DivideLaurents, fS, hgc0, hn, show ((n : Int) ≤ 8) by omega, hv, Nat.min_eq_left hv, hsh, hEl, heol, g1, g2, g3]
        refine wcall1 (impl_coefOk_calls q) (by simp) (by simp) ?_
        simp [C.impl_DivideLaurents, fS, hgc0, hn, show ((n : Int) ≤ 8) by omega, hv, Nat.min_eq_left hv, hsh, hEl, heol, g1, g2, g3]
        refine hL _ ?_; clear hL L
        refine opsI_end fun L hL => ?_
        simp [C.impl_DivideLaurents, fS, hgc0, hn, show ((n : Int) ≤ 8) by omega, hv, Nat.min_eq_left hv, hsh, hEl, heol, g1, g2, g3]
        refine hL _ ?_; clear hL L
        simp [C.impl_DivideLaurents, fS, hgc0, hn, show ((n : Int) ≤ 8) by omega, hv, Nat.min_eq_left hv, hsh, hEl, heol, g1, g2, g3]
        refine cast (congrArg K ?_) hJ
        simp [ieq600, hn, fS, g1, g2, g3]
      · refine opsI_seg fun L hL => ?_
        simp [C.impl_DivideLaurents, fS, hgc0, hn, show ((n : Int) ≤ 8) by omega, hv, Nat.min_eq_left hv, hsh, hEl, heol, g1, g2, g3]
        refine wcall1 (impl_expOk_calls E n (by omega)) (by simp [fS, hgc0, hn, show ((n : Int) ≤ 8) by omega, hv, Nat.min_eq_left hv, hsh, hEl, heol]) (by simp) ?_
        simp [C.impl_DivideLaurents, fS, hgc0, hn, show ((n : Int) ≤ 8) by omega, hv, Nat.min_eq_left hv, hsh, hEl, heol, g1, g2, g3]
        refine hL _ ?_; clear hL L
        refine opsI_seg fun L hL => ?_
        simp [C.impl_DivideLaurents, fS, hgc0, hn, show ((n : Int) ≤ 8) by omega, hv, Nat.min_eq_left hv, hsh, hEl, heol, g1, g2, g3]
        refine wcall1 (impl_coefOk_calls q) (by simp) (by simp) ?_
        simp [C.impl_DivideLaurents, fS, hgc0, hn, show ((n : Int) ≤ 8) by omega, hv, Nat.min_eq_left hv, hsh, hEl, heol, g1, g2, g3]
        refine hL _ ?_; clear hL L
        refine opsI_end fun L hL => ?_
        simp [C.impl_DivideLaurents, fS, hgc0, hn, show ((n : Int) ≤ 8) by omega, hv, Nat.min_eq_left hv, hsh, hEl, heol, g1, g2, g3]
        refine hL _ ?_; clear hL L
        simp [C.impl_DivideLaurents, fS, hgc0, hn, show ((n : Int) ≤ 8) by omega, hv, Nat.min_eq_left hv, hsh, hEl, heol, g1, g2, g3]
        refine cast (congrArg K ?_) hJ
        simp [ieq600, hn, fS, g1, g2, g3]
    · refine opsI_seg fun L hL => ?_
      simp [C.impl_DivideLaurents, fS, hgc0, hn, show ((n : Int) ≤ 8) by omega, hv, Nat.min_eq_left hv, hsh, hEl, heol, g1, g2]
      refine wcall1 (impl_expOk_calls E n (by omega)) (by simp [fS, hgc0, hn, show ((n : Int) ≤ 8) by omega, hv, Nat.min_eq_left hv, hsh, hEl, heol]) (by simp) ?_
      simp [C.impl_DivideLaurents, fS, hgc0, hn, show ((n : Int) ≤ 8) by omega, hv, Nat.min_eq_left hv, hsh, hEl, heol, g1, g2]
      refine hL _ ?_; clear hL L
      refine opsI_seg fun L hL => ?_
      simp [C.impl_DivideLaurents, fS, hgc0, hn, show ((n : Int) ≤ 8) by omega, hv, Nat.min_eq_left hv, hsh, hEl, heol, g1, g2]
      refine hL _ ?_; clear hL L
      refine opsI_end fun L hL => ?_
      simp [C.impl_DivideLaurents, fS, hgc0, hn, show ((n : Int) ≤ 8) by omega, hv, Nat.min_eq_left hv, hsh, hEl, heol, g1, g2]
      refine hL _ ?_; clear hL L
      simp [C.impl_DivideLaurents, fS, hgc0, hn, show ((n : Int) ≤ 8) by omega, hv, Nat.min_eq_left hv, hsh, hEl, heol, g1, g2]
      refine cast (congrArg K ?_) hJ
      simp [ieq600, hn, fS, g1, g2]
  · refine opsI_seg fun L hL => ?_
    simp [C.impl_DivideLaurents, fS, hgc0, hn, show ((n : Int) ≤ 8) by omega, hv, Nat.min_eq_left hv, hsh, hEl, heol, g1]
    refine hL _ ?_; clear hL L
    refine opsI_seg fun L hL => ?_
    simp [C.impl_DivideLaurents, fS, hgc0, hn, show ((n : Int) ≤ 8) by omega, hv, Nat.min_eq_left hv, hsh, hEl, heol, g1]
    refine hL _ ?_; clear hL L
    refine opsI_end fun L hL => ?_
    simp [C.impl_DivideLaurents, fS, hgc0, hn, show ((n : Int) ≤ 8) by omega, hv, Nat.min_eq_left hv, hsh, hEl, heol, g1]
    refine hL _ ?_; clear hL L
    simp [C.impl_DivideLaurents, fS, hgc0, hn, show ((n : Int) ≤ 8) by omega, hv, Nat.min_eq_left hv, hsh, hEl, heol, g1]
    refine cast (congrArg K ?_) hJ
    simp [ieq600, hn, fS, g1]

theorem impl_DivideLaurents_l4 (f g : Lau) (n : Nat) (hn : f.v = n) (hgn : g.v = n) (hv : n ≤ 8) (hg : Right g) (hgl : g.ts.length ≤ 600) (es l eo2 O : List (List Int × Int)) (hOl : O.length ≤ 600) (hLr : LJ n es l (600000000 + O.length * 600000000000000)) (E : List Int) (hEl : E.length = n) (e0 e1 e2 e3 e4 e5 e6 e7 q : Int) (hpe : pad E = [e0, e1, e2, e3, e4, e5, e6, e7]) (hbe : ∀ x ∈ [e0, e1, e2, e3, e4, e5, e6, e7], -1000000 ≤ x ∧ x ≤ 1000000) (g3 : q ≠ 0 ∧ -1000000 ≤ q ∧ q ≤ 1000000) (Q0 : AEx → St → Prop) (hX0 : ∀ es2 l2, LJ n es2 l2 (600000000 + O.length * 600000000000000 + 600000000000000) → l2.Perm (l ++ negT E q g.ts) → Q0 (.exit 6) ⟨ofL [(2, .pt (2, 0) [] 0), (3, .pt (3, 0) [] 0), (4, .pt (4, 0) [] 0), (6, .pt (6, 0) [] 0), (9, .pt (9, 0) [] 0), (10, .pt (10, 0) [] 0), (15, .pt (15, 0) [] 0), (16, .int q), (126, .d (.sh 2 g.ts.length (rows tS g.ts))), (127, .int g.ts.length), (128, .int g.ts.length), (129, .bool false)], ofRO [((2, 0), some (.bx (fS f))), ((3, 0), some (.bx (fS g))), ((4, 0), some (.bx [D.int 0, .v (.slice none 0 0)])), ((6, 0), some (.bx [D.int n, .mp es2])), ((9, 0), some (.bx [D.int n, .mp eo2])), ((10, 0), some (.bx [shI (leadE g), D.int (leadC g)])), ((15, 0), some (.bx [D.int e0, D.int e1, D.int e2, D.int e3, D.int e4, D.int e5, D.int e6, D.int e7]))]⟩) : AWp C.impl_DivideLaurents (codeAt Try.f36 [1, 1, 1, 1, 1, 1, 0, 0, 0, 1, 0, 1, 1, 1, 1, 1, 1, 1, 1, 1, 0]) 6 Q0 ⟨ofL [(2, .pt (2, 0) [] 0), (3, .pt (3, 0) [] 0), (4, .pt (4, 0) [] 0), (6, .pt (6, 0) [] 0), (9, .pt (9, 0) [] 0), (10, .pt (10, 0) [] 0), (15, .pt (15, 0) [] 0), (16, .int q), (126, .d (.sh 2 g.ts.length (rows tS g.ts))), (127, .int g.ts.length), (128, .int 0)], ofRO [((2, 0), some (.bx (fS f))), ((3, 0), some (.bx (fS g))), ((4, 0), some (.bx [D.int 0, .v (.slice none 0 0)])), ((6, 0), some (.bx [D.int n, .mp es])), ((9, 0), some (.bx [D.int n, .mp eo2])), ((10, 0), some (.bx [shI (leadE g), D.int (leadC g)])), ((15, 0), some (.bx [D.int e0, D.int e1, D.int e2, D.int e3, D.int e4, D.int e5, D.int e6, D.int e7]))]⟩ := by
  simp only [codeAt, Try.f36, walkCode]
  refine wloop (fun x : Nat × List (List Int × Int) × List (List Int × Int) => ⟨ofL [(2, .pt (2, 0) [] 0), (3, .pt (3, 0) [] 0), (4, .pt (4, 0) [] 0), (6, .pt (6, 0) [] 0), (9, .pt (9, 0) [] 0), (10, .pt (10, 0) [] 0), (15, .pt (15, 0) [] 0), (16, .int q), (126, .d (.sh 2 g.ts.length (rows tS g.ts))), (127, .int g.ts.length), (128, .int x.1)], ofRO [((2, 0), some (.bx (fS f))), ((3, 0), some (.bx (fS g))), ((4, 0), some (.bx [D.int 0, .v (.slice none 0 0)])), ((6, 0), some (.bx [D.int n, .mp x.2.1])), ((9, 0), some (.bx [D.int n, .mp eo2])), ((10, 0), some (.bx [shI (leadE g), D.int (leadC g)])), ((15, 0), some (.bx [D.int e0, D.int e1, D.int e2, D.int e3, D.int e4, D.int e5, D.int e6, D.int e7]))]⟩) (fun x => x.1 ≤ g.ts.length ∧ LJ n x.2.1 x.2.2 (600000000 + O.length * 600000000000000 + x.1 * 1000000000000) ∧ x.2.2.Perm (l ++ negT E q (g.ts.take x.1))) (fun x => g.ts.length - x.1) (0, es, l) (by simp [C.impl_DivideLaurents, fS, hn, hgn, hpe]) ⟨by simp, hLr.mono (by dsimp only; omega), by simp [negT]⟩ ?_
  intro x4 hx4 R4 hR4
  obtain ⟨j, es2, l2⟩ := x4
  obtain ⟨hj, hL2, hP2⟩ := hx4
  dsimp only at hj hL2 hP2 ⊢
  refine wseq ?_
  refine wreg fun K hK => ?_
  simp [C.impl_DivideLaurents, fS]
  refine hK _ ?_; clear hK K
  show AWp _ _ _ _ _
  refine wseq ?_
  refine wcond _ rfl (fun hc9 => ?_) (fun hc9 => ?_)
  · have hjg : j < g.ts.length := by have := d_t hc9; omega
    have hU := right_dig hg hgn _ (List.getElem_mem hjg)
    refine wskip ?_
    show AWp _ _ _ _ _
    refine wseq ?_
    refine wblock ?_
    refine wseq ?_
    refine wreg fun K hK => ?_
    simp [C.impl_DivideLaurents, fS, hjg, tS_0 hjg, tS_1 hjg]
    refine hK _ ?_; clear hK K
    show AWp _ _ _ _ _
    obtain ⟨u0, u1, u2, u3, u4, u5, u6, u7, hpu⟩ := eight (pad_length (e := g.ts[j].e) (by omega))
    have hbu := pad_bd hU.2.2.1
    rw [hpu] at hbu
    have hadd : [e0 + 1 * u0, e1 + 1 * u1, e2 + 1 * u2, e3 + 1 * u3, e4 + 1 * u4, e5 + 1 * u5, e6 + 1 * u6, e7 + 1 * u7] = pad (addE 1 E g.ts[j].e) := by
      rw [← pad_add (by omega), hpe, hpu]
      simp [addE]
    have hnl : (addE 1 E g.ts[j].e).length = n := by rw [addE_length _ _ _ (by omega)]; exact hEl
    have hcc := mul_bd (x := -q) (y := g.ts[j].c) (by omega) hU.2.2.2
    have hvj := hL2.val hnl (c := -q * g.ts[j].c) (X := 1000000000000) (by omega) (by omega)
    rw [← hadd] at hvj
    refine wdrawI [(true, 0), (true, 1), (true, 2), (true, 3), (true, 6), (true, 7), (true, 8), (true, 9), (true, 10), (false, 4), (false, 5), (false, 11)] ⟨by kernel_rfl, by kernel_rfl⟩ ([0, 1, 2, 3, 6, 7, 8, 9, 10, 4] ++ ([5] ++ ([11] ++ ([])))) rfl fun K hK => ?_
    refine opsI_seg fun L hL => ?_
    simp [C.impl_DivideLaurents, fS, tS, wrapOk (x := -q) (by omega) (by omega), wrapOk (x := -q * g.ts[j].c) (by omega) (by omega)]
    refine wcall1 (impl_keyOf_calls g.ts[j].e (by omega) u0 u1 u2 u3 u4 u5 u6 u7 hpu) (by simp) (by simp) ?_
    simp [C.impl_DivideLaurents, fS, tS, wrapOk (x := -q) (by omega) (by omega), wrapOk (x := -q * g.ts[j].c) (by omega) (by omega)]
    refine hL _ ?_; clear hL L
    refine opsI_seg fun L hL => ?_
    simp [C.impl_DivideLaurents, fS, tS, wrapOk (x := -q) (by omega) (by omega), wrapOk (x := -q * g.ts[j].c) (by omega) (by omega)]
    refine wcall1 (impl_plusExp_calls 1 e0 e1 e2 e3 e4 e5 e6 e7 u0 u1 u2 u3 u4 u5 u6 u7 (by omega) hbe hbu) (by simp) (by simp) ?_
    simp [C.impl_DivideLaurents, fS, tS, wrapOk (x := -q) (by omega) (by omega), wrapOk (x := -q * g.ts[j].c) (by omega) (by omega)]
    refine hL _ ?_; clear hL L
    refine opsI_seg fun L hL => ?_
    simp [C.impl_DivideLaurents, fS, tS, wrapOk (x := -q) (by omega) (by omega), wrapOk (x := -q * g.ts[j].c) (by omega) (by omega)]
    refine wcall1 (impl_building_add_calls n (-q * g.ts[j].c) es2 (e0 + 1 * u0) (e1 + 1 * u1) (e2 + 1 * u2) (e3 + 1 * u3) (e4 + 1 * u4) (e5 + 1 * u5) (e6 + 1 * u6) (e7 + 1 * u7) (hL2.map.len8 hv) hvj) (by simp) (by simp) ?_
    simp [C.impl_DivideLaurents, fS, tS, wrapOk (x := -q) (by omega) (by omega), wrapOk (x := -q * g.ts[j].c) (by omega) (by omega)]
    refine hL _ ?_; clear hL L
    refine opsI_end fun L hL => ?_
    simp only [AOpsI]
    refine hL _ ?_; clear hL L
    simp [C.impl_DivideLaurents, fS, tS, wrapOk (x := -q) (by omega) (by omega), wrapOk (x := -q * g.ts[j].c) (by omega) (by omega)]
    simp only [Int.one_mul] at hadd
    rw [hadd]
    refine hK _ ?_; clear hK K
    show AWp _ _ _ _ _
    refine wreg fun K hK => ?_
    simp [C.impl_DivideLaurents, fS, wrap_succ (show j < 4611686018427387904 by omega)]
    refine hK _ ?_; clear hK K
    simp [C.impl_DivideLaurents, fS]
    refine cast (congrArg R4 ?_) (hR4 (j + 1, madd es2 (pad (addE 1 E g.ts[j].e)) (-q * g.ts[j].c), (addE 1 E g.ts[j].e, -q * g.ts[j].c) :: l2) ⟨hjg, ?_, ?_⟩ (by dsimp only; omega))
    · simp [fS, hn, hgn]
    · have := hL2.add hnl (c := -q * g.ts[j].c) (X := 1000000000000) (by omega)
      exact this.mono (by dsimp only; omega)
    · dsimp only
      rw [negT_step hjg, ← List.append_assoc]
      exact (List.Perm.cons _ hP2).trans (List.perm_append_singleton _ _).symm
  · have hjg : j = g.ts.length := by have := d_f hc9; omega
    rw [hjg, List.take_length] at hP2
    refine wexit ?_
    refine cast (congrArg (Q0 (.exit 6)) ?_) (hX0 es2 l2 (hL2.mono (by omega)) hP2)
    simp [fS, hn, hgn, hjg]

theorem impl_DivideLaurents_calls (hDone : DoneOk) (f g : Lau) (hx : f.ts.length < 4611686018427387904) (hxe : ∀ t ∈ f.ts, t.e.length < 4611686018427387904) (hy : g.ts.length < 4611686018427387904) (hye : ∀ t ∈ g.ts, t.e.length < 4611686018427387904) : ACalls Try.prog F.impl_DivideLaurents [aF f, aF g] [] true (fun outs res => outs = [] ∧ WkRs res [.ag (fO (divF f g).1), .one (D.bool (divF f g).2)]) := by
  have hcall := impl_bothOk_calls f g hx hxe hy hye
  generalize hB : decide (Right f ∧ Right g ∧ f.v = g.v) = B at hcall
  refine ACalls.of_body (C := C.impl_DivideLaurents) (n := Try.f36.ntmps) tabT folT Try.func36 rfl (by kernel_rfl) rfl (Nat.le_of_ble_eq_true rfl) (by decide) (by kernel_rfl) (by kernel_rfl) rfl (by simp) (by simp) ?_
  simp only [Try.f36]
  refine wseq ?_
  refine wreg fun K hK => ?_
  simp [C.impl_DivideLaurents, fS]
  refine hK _ ?_; clear hK K
  show AWp _ _ _ _ _
  refine wseq ?_
  refine wseq ?_
  refine wregI ([0, 1, 2] ++ ([3, 4, 5, 6, 7, 8, 9])) rfl fun K hK => ?_
  have hJ : K ⟨ofL [(2, .pt (2, 0) [] 0), (3, .pt (3, 0) [] 0), (4, .pt (4, 0) [] 0), (28, .bool (!(B && !decide (g.ts = []))))], ofRO [((2, 0), some (.bx (fS f))), ((3, 0), some (.bx (fS g))), ((4, 0), some (.bx [D.int 0, .v (.slice none 0 0)]))]⟩ := by
    refine hK _ ?_; clear hK K
    show AWp _ _ _ _ _
    refine wcond _ rfl (fun hc1 => ?_) (fun hc1 => ?_)
    · have hr : ¬ ((Right f ∧ Right g ∧ f.v = g.v) ∧ g.ts ≠ []) := by
        rintro ⟨h1, h2⟩
        rw [← hB, decide_eq_true h1] at hc1
        simp [h2] at hc1
      have hm : divF f g = (zeroF, false) := if_neg hr
      refine wseq ?_
      refine wreg fun K hK => ?_
      simp [C.impl_DivideLaurents, fS]
      refine hK _ ?_; clear hK K
      show AWp _ _ _ _ _
      refine wret ?_
      simp [C.impl_DivideLaurents, fS, hm, fO, zeroF, rows]
    · have hr : (Right f ∧ Right g ∧ f.v = g.v) ∧ g.ts ≠ [] := by
        rw [← hB] at hc1
        simpa using hc1
      obtain ⟨⟨hf, hg, hfg⟩, hgne⟩ := hr
      have hv0 := hf.1
      obtain ⟨n, hn⟩ : ∃ n : Nat, f.v = n := ⟨f.v.toNat, by omega⟩
      have hgn : g.v = n := by omega
      have hv : n ≤ 8 := by omega
      have hm := divF_some hf hg hn hgn hgne
      have hfl := hf.2.1
      have hgl := hg.2.1
      have he := right_he hf hn
      have heg := right_he hg hgn
      have hG0 : 0 < g.ts.length := List.length_pos_iff.2 hgne
      obtain ⟨hl1, hl2⟩ := lead_get hG0
      have hgood := hg.2.2.1 _ (List.getElem_mem hG0)
      have hgle := heg _ (List.getElem_mem hG0)
      rw [hl1] at hgle
      obtain ⟨hgle1, hgle2⟩ := hgle
      have hgc : leadC g ≠ 0 ∧ -1000000 ≤ leadC g ∧ leadC g ≤ 1000000 := by rw [← hl2]; exact ⟨hgood.2.1, hgood.2.2.1⟩
      obtain ⟨b0, b1, b2, b3, b4, b5, b6, b7, hpb⟩ := eight (pad_length (e := leadE g) (by omega))
      have hbb := pad_bd hgle2
      rw [hpb] at hbb
      refine wskip ?_
      show AWp _ _ _ _ _
      refine wseq ?_
      refine wregI ([0, 1, 2] ++ ([3])) rfl fun K hK => ?_
      refine opsI_seg fun L hL => ?_
      simp [C.impl_DivideLaurents, fS, hn]
      refine wcall1 (impl_newBuilding_calls n) (by simp) (by simp) ?_
      simp [C.impl_DivideLaurents, fS, hn]
      refine hL _ ?_; clear hL L
      refine opsI_end fun L hL => ?_
      simp [C.impl_DivideLaurents, fS, hn]
      refine hL _ ?_; clear hL L
      simp [C.impl_DivideLaurents, fS, hn]
      refine hK _ ?_; clear hK K
      show AWp _ _ _ _ _
      refine wseq ?_
      refine wseq ?_
      refine wreg fun K hK => ?_
      simp [C.impl_DivideLaurents, fS]
      refine hK _ ?_; clear hK K
      show AWp _ _ _ _ _
      refine wblock ?_
      refine wcode (c' := codeAt Try.f36 [1, 1, 1, 0, 1, 0]) (by kernel_rfl) ?_
      refine wst (σ2 := ⟨ofL [(2, .pt (2, 0) [] 0), (3, .pt (3, 0) [] 0), (4, .pt (4, 0) [] 0), (6, .pt (6, 0) [] 0), (34, .d (.sh 2 f.ts.length (rows tS f.ts))), (35, .int f.ts.length), (36, .int 0)], ofRO [((2, 0), some (.bx (fS f))), ((3, 0), some (.bx (fS g))), ((4, 0), some (.bx [D.int 0, .v (.slice none 0 0)])), ((6, 0), some (.bx [D.int n, .mp []]))]⟩) (by simp [fS, hn]) ?_
      refine impl_DivideLaurents_l1 f g n hn hv hf hfl _ ?_
      intro es l hLJ hall
      have hnf0 : nf lexlt l = f.ts.map pr := by
        rw [nf_perm hall]
        exact (nf_unique lexOrd (pr_desc hf) (pr_nz hf) fun k => rfl).symm
      show AWp _ _ _ _ _
      refine wseq ?_
      refine wregI ([0, 1, 2] ++ ([3])) rfl fun K hK => ?_
      refine opsI_seg fun L hL => ?_
      simp [C.impl_DivideLaurents, fS, hn]
      refine wcall1 (impl_newBuilding_calls n) (by simp) (by simp) ?_
      simp [C.impl_DivideLaurents, fS, hn]
      refine hL _ ?_; clear hL L
      refine opsI_end fun L hL => ?_
      simp [C.impl_DivideLaurents, fS, hn]
      refine hL _ ?_; clear hL L
      simp [C.impl_DivideLaurents, fS, hn]
      refine hK _ ?_; clear hK K
      show AWp _ _ _ _ _
      refine wseq ?_
      refine wreg fun K hK => ?_
      simp [C.impl_DivideLaurents, fS, hG0, tS_0 hG0, tS_1 hG0, hl1, hl2]
      refine hK _ ?_; clear hK K
      show AWp _ _ _ _ _
      refine wseq ?_
      refine wblock ?_
      refine wloop (fun x : (List (List Int × Int) × List (List Int × Int)) × (List (List Int × Int) × List (List Int × Int)) × List (List Int × Int) => ⟨ofL [(2, .pt (2, 0) [] 0), (3, .pt (3, 0) [] 0), (4, .pt (4, 0) [] 0), (6, .pt (6, 0) [] 0), (9, .pt (9, 0) [] 0), (10, .pt (10, 0) [] 0)], ofRO [((2, 0), some (.bx (fS f))), ((3, 0), some (.bx (fS g))), ((4, 0), some (.bx [D.int 0, .v (.slice none 0 0)])), ((6, 0), some (.bx [D.int n, .mp x.1.1])), ((9, 0), some (.bx [D.int n, .mp x.2.1.1])), ((10, 0), some (.bx [shI (leadE g), D.int (leadC g)]))]⟩) (fun x => LJ n x.1.1 x.1.2 (600000000 + x.2.2.length * 600000000000000) ∧ LJ n x.2.1.1 x.2.1.2 (x.2.2.length * 1000000) ∧ x.2.1.2.Perm x.2.2 ∧ DivJ chkI f g n (nf lexlt x.1.2) x.2.2 ∧ DivO g n (nf lexlt x.1.2) x.2.2) (fun x => 600 - x.2.2.length) ((es, l), ([], []), []) (by simp [C.impl_DivideLaurents, fS, hn]) ⟨hLJ.mono (by dsimp only [List.length_nil]; omega), ⟨MapR.nil n, by simp, by simp [absE]⟩, by simp, by dsimp only; rw [hnf0]; exact DivJ.start _ hf hn, ⟨List.Pairwise.nil, by simp [Nz], by simp, by simp⟩⟩ ?_
      intro x2 hx2 R2 hR2
      obtain ⟨⟨es, l⟩, ⟨eo, lo⟩, O⟩ := x2
      obtain ⟨hLr, hLo, hPo, hJ1, hJ2⟩ := hx2
      dsimp only at hLr hLo hPo hJ1 hJ2 ⊢
      have hOl := hJ1.ol
      have helen := unpad_len hLr.map hLr.len
      have heol : eo.length = O.length := by
        have h1 := unpad_len hLo.map hLo.len
        rw [nf_perm hPo, hJ2.nf] at h1
        exact h1.symm
      refine wseq ?_
      refine wseq ?_
      refine wreg fun K hK => ?_
      simp [C.impl_DivideLaurents, fS]
      refine hK _ ?_; clear hK K
      show AWp _ _ _ _ _
      refine wcond _ rfl (fun hc3 => ?_) (fun hc3 => ?_)
      · have hes : 0 < es.length := by have := d_t hc3; omega
        obtain ⟨⟨a, c⟩, R', hR⟩ : ∃ y R', nf lexlt l = y :: R' := by
          cases hh : nf lexlt l with
          | nil => rw [hh] at helen; simp at helen; omega
          | cons y R' => exact ⟨y, R', rfl⟩
        rw [hR] at hJ1 hJ2
        refine wskip ?_
        show AWp _ _ _ _ _
        refine wblock ?_
        refine wseq ?_
        refine wreg fun K hK => ?_
        simp [C.impl_DivideLaurents, fS]
        refine hK _ ?_; clear hK K
        show AWp _ _ _ _ _
        refine wseq ?_
        refine wreg fun K hK => ?_
        simp [C.impl_DivideLaurents, fS]
        refine hK _ ?_; clear hK K
        show AWp _ _ _ _ _
        refine wseq ?_
        refine wseq ?_
        refine wreg fun K hK => ?_
        simp [C.impl_DivideLaurents, fS]
        refine hK _ ?_; clear hK K
        show AWp _ _ _ _ _
        refine wblock ?_
        refine wcode (c' := codeAt Try.f36 [1, 1, 1, 1, 1, 1, 0, 0, 0, 1, 0, 1, 1, 0, 1, 0]) (by kernel_rfl) ?_
        refine impl_DivideLaurents_l3 f g n hn es eo (hLr.map.len8 hv) _ ?_
        intro P top cur hqe hT
        have hPne : P ≠ [] := by intro e; rw [e] at hqe; have := hqe.length_eq; simp at this; omega
        obtain ⟨htop, hget⟩ := top_head hLr.map hLr.len hqe hT hR
        have ha := hJ1.rl (a, c) (by simp)
        obtain ⟨hal, ha60⟩ := ha
        dsimp only at hal ha60
        obtain ⟨a0, a1, a2, a3, a4, a5, a6, a7, hpa⟩ := eight (pad_length (e := a) (by omega))
        have hba := pad_bd60 (B := 60) (by omega) (by omega) ha60
        rw [hpa] at hba htop
        subst htop
        have hcb : -1000000000000000000 ≤ c ∧ c ≤ 1000000000000000000 := by
          have h1 := hJ1.ra
          simp only [absK, List.map_cons, List.sum_cons] at h1
          omega
        have hEl : (addE (-1) a (leadE g)).length = n := by rw [addE_length _ _ _ (by omega)]; exact hal
        have hE80 := addE_bd (B := 60) (C := 20) (k := -1) (.inr rfl) (hal.trans hgle1.symm) ha60 hgle2
        have hpe0 : [a0 + -1 * b0, a1 + -1 * b1, a2 + -1 * b2, a3 + -1 * b3, a4 + -1 * b4, a5 + -1 * b5, a6 + -1 * b6, a7 + -1 * b7] = pad (addE (-1) a (leadE g)) := by
          rw [← pad_add (by omega), hpa, hpb]
          simp [addE]
        show AWp _ _ _ _ _
        refine wseq ?_
        refine wdraw (.take 0 (.take 1 (.take 2 (.take 3 (.take 4 (.take 5 (.take 6 (.done)))))))) ⟨by kernel_rfl, by kernel_rfl⟩ fun K hK => ?_
        simp [C.impl_DivideLaurents, fS, hget, hLr.map.len8 hv]
        refine hK _ ?_; clear hK K
        show AWp _ _ _ _ _
        refine wseq ?_
        refine wcode (c' := codeAt Try.f36 [1, 1, 1, 1, 1, 1, 0, 0, 0, 1, 0, 1, 1, 1, 1, 0]) (by kernel_rfl) ?_
        refine impl_DivideLaurents_r24 f g n es eo a0 a1 a2 a3 a4 a5 a6 a7 b0 b1 b2 b3 b4 b5 b6 b7 c (by omega) hpb hba hbb _ _ ?_
        show AWp _ _ _ _ _
        refine wseq ?_
        obtain ⟨e0, e1, e2, e3, e4, e5, e6, e7, hpe⟩ := eight (pad_length (e := addE (-1) a (leadE g)) (by omega))
        rw [hpe] at hpe0
        simp only [List.cons.injEq, and_true] at hpe0
        obtain ⟨k0, k1, k2, k3, k4, k5, k6, k7⟩ := hpe0
        simp only [k0, k1, k2, k3, k4, k5, k6, k7]
        have hqb : -1000000000000000000 ≤ c.tdiv (leadC g) ∧ c.tdiv (leadC g) ≤ 1000000000000000000 := by
          have h1 : (c.tdiv (leadC g)).natAbs ≤ c.natAbs := by
            rw [Int.natAbs_tdiv]
            exact Nat.div_le_self _ _
          omega
        generalize hQ : c.tdiv (leadC g) = q at hqb
        have htkE : List.take n [e0, e1, e2, e3, e4, e5, e6, e7] = addE (-1) a (leadE g) := by
          rw [← hpe]
          have := pad_take (e := addE (-1) a (leadE g))
          rwa [hEl] at this
        have hsh := sh8 n e0 e1 e2 e3 e4 e5 e6 e7
        rw [htkE] at hsh
        refine wreg fun K hK => ?_
        simp [C.impl_DivideLaurents, fS, hgc.1, hQ, wrapOk (x := q) (by omega) (by omega)]
        refine hK _ ?_; clear hK K
        show AWp _ _ _ _ _
        refine wseq ?_
        refine wseq ?_
        refine wcode (c' := codeAt Try.f36 [1, 1, 1, 1, 1, 1, 0, 0, 0, 1, 0, 1, 1, 1, 1, 1, 1, 0, 0]) (by kernel_rfl) ?_
        refine impl_DivideLaurents_r26 f g n hn hv es eo O (addE (-1) a (leadE g)) e0 e1 e2 e3 e4 e5 e6 e7 c q hgc.1 hsh hEl heol _ _ ?_
        show AWp _ _ _ _ _
        refine wcond _ rfl (fun hc8 => ?_) (fun hc8 => ?_)
        · have hr := nd_t hc8
          have hfail := hJ1.fail (by
            rcases Classical.em (O.length = 600) with h | h
            · exact .inr h
            · refine .inl fun h2 => hr ⟨?_, h⟩
              dsimp only at h2
              rw [hQ] at h2
              simp only [chkI, decide_eq_true_eq] at h2
              exact ⟨⟨h2.1, okE_iff.2 ⟨by omega, h2.2.1⟩⟩, h2.2.2⟩)
          refine wseq ?_
          refine wreg fun K hK => ?_
          simp [C.impl_DivideLaurents, fS]
          refine hK _ ?_; clear hK K
          show AWp _ _ _ _ _
          refine wret ?_
          simp [C.impl_DivideLaurents, fS, hm, hfail, endF, zeroF, fO, rows]
        · obtain ⟨⟨⟨g1, g2⟩, g3⟩, g4⟩ := nd_f hc8
          have hE20 := (okE_iff.1 g2).2
          have hchk : chkI (addE (-1) a (leadE g)) q = true := by simp only [chkI, decide_eq_true_eq]; exact ⟨hE20, g3⟩
          have hJ1s := hJ1.step hg hgn g1 (by dsimp only; rw [hQ]; exact hchk) (by omega) hEl (fun z hz => by have := hE20 z hz; omega) (by dsimp only; rw [hQ]; exact g3.2)
          have hJ2s := hJ2.step hJ1.rd (fun y hy => (hJ1.rl y hy).1) hg hgn hgne g1 (by dsimp only; rw [hQ]; exact g3.1)
          dsimp only at hJ1s hJ2s
          rw [hQ] at hJ1s hJ2s
          have hvo := hLo.val hEl (c := q) (X := 1000000) (by omega) (by omega)
          rw [hpe] at hvo
          have hbe := pad_bd hE20
          rw [hpe] at hbe
          refine wskip ?_
          show AWp _ _ _ _ _
          refine wseq ?_
          refine wregI ([0, 1, 2, 3] ++ ([])) rfl fun K hK => ?_
          refine opsI_seg fun L hL => ?_
          simp [C.impl_DivideLaurents, fS]
          refine wcall1 (impl_building_add_calls n q eo e0 e1 e2 e3 e4 e5 e6 e7 (hLo.map.len8 hv) hvo) (by simp) (by simp) ?_
          simp [C.impl_DivideLaurents, fS]
          refine hL _ ?_; clear hL L
          refine opsI_end fun L hL => ?_
          simp only [AOpsI]
          refine hL _ ?_; clear hL L
          simp [C.impl_DivideLaurents, fS]
          rw [← hpe]
          refine hK _ ?_; clear hK K
          show AWp _ _ _ _ _
          refine wseq ?_
          refine wreg fun K hK => ?_
          simp [C.impl_DivideLaurents, fS]
          refine hK _ ?_; clear hK K
          show AWp _ _ _ _ _
          refine wblock ?_
          refine wcode (c' := codeAt Try.f36 [1, 1, 1, 1, 1, 1, 0, 0, 0, 1, 0, 1, 1, 1, 1, 1, 1, 1, 1, 1, 0]) (by kernel_rfl) ?_
          refine impl_DivideLaurents_l4 f g n hn hgn hv hg hgl es l (madd eo (pad (addE (-1) a (leadE g))) q) O hOl hLr (addE (-1) a (leadE g)) hEl e0 e1 e2 e3 e4 e5 e6 e7 q hpe hbe g3 _ ?_
          intro es2 l2 hL2 hP2
          have hnf2 : nf lexlt l2 = nf lexlt (stepL g (a, c) R') := step_nf hR (by dsimp only; rw [hQ]; exact hP2)
          simp [C.impl_DivideLaurents, fS]
          refine cast (congrArg R2 ?_) (hR2 ((es2, l2), (madd eo (pad (addE (-1) a (leadE g))) q, (addE (-1) a (leadE g), q) :: lo), O ++ [(addE (-1) a (leadE g), q)]) ⟨?_, ?_, ?_, ?_, ?_⟩ (by simp; omega))
          · simp [fS, hn, hgn]
          · exact hL2.mono (by simp; omega)
          · exact (hLo.add hEl (c := q) (X := 1000000) (by omega)).mono (by simp; omega)
          · exact (List.Perm.cons _ hPo).trans (List.perm_append_singleton _ _).symm
          · dsimp only
            rw [hnf2]
            exact hJ1s
          · dsimp only
            rw [hnf2]
            exact hJ2s
      · have hes : es.length = 0 := by have := d_f hc3; omega
        have hR0 : nf lexlt l = [] := List.eq_nil_of_length_eq_zero (by omega)
        rw [hR0] at hJ1 hJ2
        have hdone := hJ1.done
        have hsh0 := hJ2.shut n
        rw [← shutF_perm hPo] at hsh0
        refine wexit ?_
        show AWp _ _ _ _ _
        refine wseq ?_
        refine wregI ([0, 1] ++ ([2, 3, 4, 5])) rfl fun K hK => ?_
        refine opsI_seg fun L hL => ?_
        simp [C.impl_DivideLaurents, fS, hn]
        refine wcall1 (hDone n eo lo hLo.map hLo.len (by omega) hv (by have := hPo.length_eq; omega)) (by simp) (by simp) ?_
        simp [C.impl_DivideLaurents, fS, hn]
        refine hL _ ?_; clear hL L
        refine opsI_end fun L hL => ?_
        simp [C.impl_DivideLaurents, fS, hn]
        refine hL _ ?_; clear hL L
        simp [C.impl_DivideLaurents, fS, hn]
        refine hK _ ?_; clear hK K
        show AWp _ _ _ _ _
        refine wret ?_
        simp [C.impl_DivideLaurents, fS, hm, hdone, hsh0, fO]
  clear hK
  by_cases hb : B = true
  · refine opsI_seg fun L hL => ?_
    simp [C.impl_DivideLaurents, fS, hb]
    refine wcall1 (hcall) (by simp) (by simp) ?_
    simp [C.impl_DivideLaurents, fS, hb]
    refine hL _ ?_; clear hL L
    refine opsI_end fun L hL => ?_
    simp [C.impl_DivideLaurents, fS, hb]
    refine hL _ ?_; clear hL L
    simp [C.impl_DivideLaurents, fS, hb]
    refine cast (congrArg K ?_) hJ
    simp [ieq0, fS, hb]
  · refine opsI_seg fun L hL => ?_
    simp [C.impl_DivideLaurents, fS, hb]
    refine wcall1 (hcall) (by simp) (by simp) ?_
    simp [C.impl_DivideLaurents, fS, hb]
    refine hL _ ?_; clear hL L
    refine opsI_end fun L hL => ?_
    simp [C.impl_DivideLaurents, fS, hb]
    refine hL _ ?_; clear hL L
    simp [C.impl_DivideLaurents, fS, hb]
    refine cast (congrArg K ?_) hJ
    simp [ieq0, fS, hb]
theorem iDiv_calls (hDone : DoneOk) (f g : Lau) (hx : f.ts.length < 4611686018427387904) (hxe : ∀ t ∈ f.ts, t.e.length < 4611686018427387904) (hy : g.ts.length < 4611686018427387904) (hye : ∀ t ∈ g.ts, t.e.length < 4611686018427387904) : ACalls Try.prog F.impl_DivideLaurents [aF f, aF g] [] true (fun outs res => outs = [] ∧ res = [.ag (fO (divF f g).1), .one (D.bool (divF f g).2)]) := (impl_DivideLaurents_calls hDone f g hx hxe hy hye).weak1
theorem endF_right (v : Int) (O : Option (List (List Int × Int))) : Right (endF v O).1 ∨ endF v O = (zeroF, false) := by
  cases O with
  | none => exact .inr rfl
  | some O =>
    simp only [endF]
    split
    · rename_i h; exact .inl h
    · exact .inr rfl
theorem divF_small (f g : Lau) : SmallF (divF f g).1 := by
  unfold divF
  split
  · rcases endF_right f.v (divL chkI g 600 (f.ts.map pr)) with h | h
    · exact small_right h
    · rw [h]; exact small_zero
  · exact small_zero

end Go.Proofs.Ytdgeponcnlkaiaa.Ab
