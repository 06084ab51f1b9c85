/- Quantum division: what a step keeps; the greatest key of a map. slices.Grow of the nil slice in the calculus. Printed by wip/tools/lay.py: the contracts of slices.Grow laid at this seat. The sum that a quantum sum becomes with 1 in place of q: the reference's, the program's. The program's sums of quantum sums. Division: both sides. Division of the program's sums. Division of quantum sums: the program's. Division of quantum sums: the reference's. Division of quantum sums: the reference's, the steps. Division of quantum sums: the reference's. Sums as linear maps: what a function on keys makes of a sum. The sort of terms by their exponents, greatest first, at this program. The program's sums: all contracts without a premise left. The program's sums of sums. Values of Laurent sums modulo a prime: they go with sums and products. Drawing: the cursor, numbers, exponents, sums. Drawing sums: what is drawn is right and small. Three drawn sums; what the laws compare. Division finds the factor of a product again, over any keys. Laurent sums: what was multiplied is found again by division; what is divided is multiplied again. What was multiplied is found again by division: the law. Drawn sums are a ring; values go with sums and products. Quantum sums: brackets, sums, 1 over q, 1 in place of q. All that the law of the quantum torus asks of drawn sums. Quantum sums: what was multiplied is found again by division; what is divided is multiplied again. Drawing a form and quantum sums. Sums of quantum sums: the program's. 1 over q in a sum, sums told apart, products and sums: as the laws use them. Values of sums: the program's, and the reference's where there is none. The quantum torus: the law. Quantum sums: what was multiplied from the left is found again by division: the law. A code of bytes as an argument, read as a tree. Quantum division: the law over drawn sums, with its argument. No condition. -/
import Derived.Test.YtocknokodgnlbaaKWd
import Derived.Shelf.Spec.SlicesGrow
import Derived.Test.YtocknokodgnlbaaKWc
import Derived.Shelf.Lays8
import Derived.Test.YtocknokodgnlbaaProg
import Derived.Shelf.SlSortCmp.NoneTotal
set_option linter.unusedVariables false
set_option linter.unusedSimpArgs false
namespace Go.Proofs.Ytocknokodgnlbaa.Ab
open Go
set_option linter.unusedSimpArgs false
set_option linter.unusedVariables false
structure DivJQ (fm : List (List Int)) (chk : QK → Int → Bool) (f g : Qsm) (n : Nat) (R O : List (QK × Int)) : Prop where
  run : divQ fm chk g 600 (f.ts.map qp) = (divQ fm chk g (600 - O.length) R).map (O ++ ·)
  ol : O.length ≤ 600
  rd : Desc qlt R
  rz : Nz R
  rl : ∀ y ∈ R, (y.1.1.length = n ∧ ∀ z ∈ y.1.1, -60 ≤ z ∧ z ≤ 60) ∧ -100000000000 ≤ y.1.2 ∧ y.1.2 ≤ 100000000000
  ra : absQK R ≤ 600000000 + O.length * 600000000000000
  rn : R.length ≤ 600 + O.length * 600
  od : ∀ x ∈ O, (x.1.1.length = n ∧ ∀ z ∈ x.1.1, -40 ≤ z ∧ z ≤ 40) ∧ (-200 ≤ x.1.2 ∧ x.1.2 ≤ 200) ∧ -1000000 ≤ x.2 ∧ x.2 ≤ 1000000
theorem absQK_le {l : List (QK × Int)} {B : Nat} (h : ∀ x ∈ l, x.2.natAbs ≤ B) : absQK l ≤ l.length * B := by
  induction l with
  | nil => simp [absQK]
  | cons x l ih =>
    have h1 := h x (by simp)
    have h2 := ih fun y hy => h y (by simp [hy])
    simp only [absQK, List.map_cons, List.sum_cons, List.length_cons, Nat.add_mul, Nat.one_mul] at h2 ⊢
    omega
theorem absQK_K (l : List (QK × Int)) : absQK l = absK l := rfl
theorem qright_absK {f : Qsm} (h : QRight f) : absQK (f.ts.map qp) ≤ 600000000 := by
  have h1 : absQK (f.ts.map qp) ≤ (f.ts.map qp).length * 1000000 := absQK_le fun x hx => by
    obtain ⟨t, ht, rfl⟩ := List.mem_map.1 hx
    have := (h.2.2.1 t ht).2.2.1
    simp only [qp]
    omega
  have h2 := h.2.1
  simp only [List.length_map] at h1
  exact Nat.le_trans h1 (by omega)
theorem DivJQ.start (fm : List (List Int)) (chk : QK → Int → Bool) {f g : Qsm} {n : Nat} (hf : QRight f) (hn : f.v = n) : DivJQ fm chk f g n (f.ts.map qp) [] := by
  refine ⟨?_, by simp, qp_desc hf, qp_nz hf, fun y hy => ?_, by simpa using qright_absK hf, by simpa using hf.2.1, by simp⟩
  · simp only [List.length_nil, Nat.sub_zero, List.nil_append]
    cases divQ fm chk g 600 (f.ts.map qp) <;> rfl
  · obtain ⟨t, ht, rfl⟩ := List.mem_map.1 hy
    have := qright_he hf hn t ht
    simp only [qp, qk]
    exact ⟨⟨this.1, fun z hz => by have := this.2.1 z hz; omega⟩, by have := this.2.2.1; omega⟩
theorem DivJQ.done {fm : List (List Int)} {chk : QK → Int → Bool} {f g : Qsm} {n : Nat} {O : List (QK × Int)} (h : DivJQ fm chk f g n [] O) : divQ fm chk g 600 (f.ts.map qp) = some O := by
  rw [h.run]
  cases 600 - O.length <;> simp [divQ, divGo]
theorem DivJQ.fail {fm : List (List Int)} {chk : QK → Int → Bool} {f g : Qsm} {n : Nat} {x : QK × Int} {R O : List (QK × Int)} (h : DivJQ fm chk f g n (x :: R) O) (hc : ¬ (x.2.tmod (leadQC g) = 0 ∧ chk (qdv fm x.1 (leadQ g)) (x.2.tdiv (leadQC g)) = true) ∨ O.length = 600) : divQ fm chk g 600 (f.ts.map qp) = none := by
  rw [h.run]
  rcases Nat.eq_zero_or_pos (600 - O.length) with e | e
  · rw [e]; rfl
  · obtain ⟨k, hk⟩ : ∃ k, 600 - O.length = k + 1 := ⟨600 - O.length - 1, by omega⟩
    rw [hk]
    rcases hc with hc | hc
    · simp only [divQ, divGo]
      rw [if_neg hc]
      rfl
    · omega
def stepQ (fm : List (List Int)) (g : Qsm) (x : QK × Int) (R : List (QK × Int)) : List (QK × Int) := x :: R ++ mulT (qmul fm) (qdv fm x.1 (leadQ g)) (-(x.2.tdiv (leadQC g))) (g.ts.map qp)
theorem SkOk.mk' {fm : List (List Int)} {a b : List Int} {p q : Int} (hfm : FormOk fm) (ha : a.length = fm.length ∧ ∀ z ∈ a, -p ≤ z ∧ z ≤ p) (hb : b.length = fm.length ∧ ∀ z ∈ b, -q ≤ z ∧ z ≤ q) (hp : p ≤ 1000) (hq : q ≤ 1000) : SkOk fm a b :=
  ⟨hfm, ha.1, hb.1, fun x hx => by have := ha.2 x hx; omega, fun x hx => by have := hb.2 x hx; omega⟩
theorem DivJQ.step {fm : List (List Int)} {chk : QK → Int → Bool} {f g : Qsm} {n : Nat} {x : QK × Int} {R O : List (QK × Int)} (h : DivJQ fm chk f g n (x :: R) O) (hfm : FormOk fm) (hfn : fm.length = n) (hg : QRight g) (hgn : g.v = n) (hm : x.2.tmod (leadQC g) = 0) (hc : chk (qdv fm x.1 (leadQ g)) (x.2.tdiv (leadQC g)) = true) (h6 : O.length < 600)
    (hel : (qdv fm x.1 (leadQ g)).1.length = n) (hb : ∀ z ∈ (qdv fm x.1 (leadQ g)).1, -40 ≤ z ∧ z ≤ 40) (hh : -200 ≤ (qdv fm x.1 (leadQ g)).2 ∧ (qdv fm x.1 (leadQ g)).2 ≤ 200) (hq : -1000000 ≤ x.2.tdiv (leadQC g) ∧ x.2.tdiv (leadQC g) ≤ 1000000) :
    DivJQ fm chk f g n (nf qlt (stepQ fm g x R)) (O ++ [(qdv fm x.1 (leadQ g), x.2.tdiv (leadQC g))]) := by
  have hga := qright_absK hg
  have hgl := hg.2.1
  have hab := nf_abs (lt := qlt) (stepQ fm g x R)
  have hlen : (O ++ [(qdv fm x.1 (leadQ g), x.2.tdiv (leadQC g))]).length = O.length + 1 := by simp
  refine ⟨?_, by omega, nf_desc qOrd _, nf_nz _, fun y hy => ?_, ?_, ?_, fun y hy => ?_⟩
  · rw [h.run]
    obtain ⟨k, hk⟩ : ∃ k, 600 - O.length = k + 1 := ⟨600 - O.length - 1, by omega⟩
    rw [hlen, hk, show 600 - (O.length + 1) = k by omega]
    simp only [divQ, divGo]
    rw [if_pos ⟨hm, hc⟩]
    simp only [Option.map_map, stepQ]
    congr 1
    funext z
    simp
  · obtain ⟨z, hz, e⟩ := nf_mem hy
    rw [← e]
    unfold stepQ at hz
    rcases List.mem_append.1 hz with hz | hz
    · exact h.rl z hz
    · obtain ⟨u, hu, rfl⟩ := List.mem_map.1 hz
      obtain ⟨t, ht, rfl⟩ := List.mem_map.1 hu
      have ht2 := qright_he hg hgn t ht
      have hsk := (SkOk.mk' (p := 20) (q := 40) hfm ⟨ht2.1.trans hfn.symm, ht2.2.1⟩ ⟨hel.trans hfn.symm, hb⟩ (by omega) (by omega)).bd
      simp only [qmul, qp, qk]
      refine ⟨⟨by rw [addE_length _ _ _ (ht2.1.trans hel.symm)]; exact ht2.1, ?_⟩, ?_⟩
      · exact addE_bd (B := 20) (C := 40) (.inl rfl) (ht2.1.trans hel.symm) ht2.2.1 hb
      · have := ht2.2.2.1
        omega
  · rw [absQK_K]
    refine Nat.le_trans hab.1 ?_
    unfold stepQ
    rw [absK_append, mulT_abs, hlen]
    have h1 := h.ra
    rw [absQK_K] at h1 hga
    have h2 : (-(x.2.tdiv (leadQC g))).natAbs * absK (g.ts.map qp) ≤ 1000000 * 600000000 := Nat.mul_le_mul (by omega) hga
    omega
  · refine Nat.le_trans hab.2 ?_
    unfold stepQ
    rw [List.length_append, mulT_length, List.length_map, hlen]
    have h1 := h.rn
    omega
  · rcases List.mem_append.1 hy with hy | hy
    · exact h.od y hy
    · simp only [List.mem_singleton] at hy
      subst hy
      exact ⟨⟨hel, hb⟩, hh, hq⟩
theorem lowL_bdQ {f : Qsm} {n : Nat} (hf : QRight f) (hn : f.v = n) (hne : f.ts ≠ []) {i : Nat} (hi : i < n) : (-20 ≤ (lowL (f.ts.map tT) n).getD i 0 ∧ (lowL (f.ts.map tT) n).getD i 0 ≤ 20) ∧ -20 ≤ (highL (f.ts.map tT) n).getD i 0 ∧ (highL (f.ts.map tT) n).getD i 0 ≤ 20 := by
  have hne' : f.ts.map tT ≠ [] := by simpa using hne
  obtain ⟨_, t1, ht1, q1⟩ := lowL_at hne' hi
  obtain ⟨_, t3, ht3, q3⟩ := highL_at hne' hi
  have b : ∀ {t : Trm} (ht : t ∈ f.ts.map tT), -20 ≤ t.e.getD i 0 ∧ t.e.getD i 0 ≤ 20 := fun {t} ht => by
    have := tT_he hf hn t ht
    rw [getD_eq (by omega)]
    exact this.2 _ (List.getElem_mem _)
  rw [q1, q3]
  exact ⟨b ht1, b ht3⟩
theorem inBoxQ_bd {f g : Qsm} {n : Nat} (hf : QRight f) (hg : QRight g) (hn : f.v = n) (hgn : g.v = n) (hfne : f.ts ≠ []) (hgne : g.ts ≠ []) {e : List Int} (hl : e.length = n) (hb : inBoxQ f g n e) : ∀ z ∈ e, -40 ≤ z ∧ z ≤ 40 := by
  intro z hz
  obtain ⟨i, hi, rfl⟩ := List.getElem_of_mem hz
  have h1 := hb i (by omega)
  have b1 := lowL_bdQ hf hn hfne (show i < n by omega)
  have b2 := lowL_bdQ hg hgn hgne (show i < n by omega)
  rw [getD_eq hi] at h1
  omega
theorem leadQ_get {g : Qsm} (h : 0 < g.ts.length) : ((g.ts[0]'h).e, (g.ts[0]'h).h) = leadQ g ∧ (g.ts[0]'h).c = leadQC g := by
  unfold leadQ leadQC
  match hh : g.ts, h with
  | t :: ts, _ => simp
/-- The rest behind a step, as the reference reckons it. -/
theorem step_gaQ {fm : List (List Int)} {g : Qsm} {x : QK × Int} {R : List (QK × Int)} :
    gaQ ((x :: R).map qt ++ (gaQ (prodQ fm g.ts [⟨(qdv fm x.1 (leadQ g)).1, (qdv fm x.1 (leadQ g)).2, x.2.tdiv (leadQC g)⟩])).map (fun t => ⟨t.e, t.h, 0 - t.c⟩)) = (nf qlt (stepQ fm g x R)).map qt := by
  generalize he : qdv fm x.1 (leadQ g) = e
  generalize hq : x.2.tdiv (leadQC g) = q
  unfold gaQ
  congr 1
  refine nf_unique qOrd (nf_desc qOrd _) (nf_nz _) fun k => ?_
  rw [nf_co, stepQ, he, hq, co_append, co_mulT_neg, List.map_append, co_append, map_qp]
  congr 1
  have hneg : ∀ l : List (QK × Int), co k (((l.map qt).map (fun t : Qtm => (⟨t.e, t.h, 0 - t.c⟩ : Qtm))).map qp) = -co k l := fun l => by
    induction l with
    | nil => rfl
    | cons y l ih =>
      simp only [List.map_cons, co, ih]
      have e1 : (qp (⟨(qt y).e, (qt y).h, 0 - (qt y).c⟩ : Qtm)).1 = y.1 := rfl
      have e2 : (qp (⟨(qt y).e, (qt y).h, 0 - (qt y).c⟩ : Qtm)).2 = 0 - y.2 := rfl
      rw [e1, e2]
      split <;> omega
  rw [hneg, nf_co]
  congr 1
  unfold prodQ mulT
  have : ∀ l : List Qtm, co k ((l.flatMap fun x => [(⟨e.1, e.2, q⟩ : Qtm)].map (mulT2 fm x)).map qp) = co k ((l.map qp).map fun y => (qmul fm e y.1, q * y.2)) := fun l => by
    induction l with
    | nil => rfl
    | cons y l ih =>
      simp only [List.map_cons, List.map_nil] at ih ⊢
      simp only [List.flatMap_cons, List.map_append, co_append, ih, List.map_cons, List.map_nil, co]
      have e1 : (qp (mulT2 fm y ⟨e.1, e.2, q⟩)).1 = qmul fm e (qp y).1 := rfl
      have e2 : (qp (mulT2 fm y ⟨e.1, e.2, q⟩)).2 = q * (qp y).2 := Int.mul_comm _ _
      rw [e1, e2]
      omega
  exact this g.ts
/-! ### The program's side -/
def q9 (x : List Int) : QK := (x.take 8, x.getD 8 0)
theorem q9_kq {k : QK} (h : k.1.length ≤ 8) : q9 (kq k) = (pad k.1, k.2) := by
  have hp := pad_length h
  unfold q9 kq
  rw [List.take_append_of_le_length (by omega), List.take_of_length_le (by omega), List.getD_eq_getElem?_getD, List.getElem?_append_right (by omega), hp]
  rfl
theorem qlt_pad {a b : QK} (h : a.1.length = b.1.length) : qlt (pad a.1, a.2) (pad b.1, b.2) = qlt a b := by
  rw [Bool.eq_iff_iff, qlt_iff, qlt_iff]
  simp only
  rw [lexlt_pad h]
  constructor
  · rintro (⟨e, q⟩ | q)
    · exact .inl ⟨pad_inj h e, q⟩
    · exact .inr q
  · rintro (⟨e, q⟩ | q)
    · exact .inl ⟨by rw [e], q⟩
    · exact .inr q
structure TopQ (P : List (List Int × Int)) (top : List Int) : Prop where
  len : top.length = 9
  mem : P ≠ [] → ∃ c, (top, c) ∈ P
  max : ∀ y ∈ P, qlt (q9 top) (q9 y.1) = false
theorem TopQ.keep {P : List (List Int × Int)} {top : List Int} (h : TopQ P top) {y : List Int × Int} (hne : P ≠ []) (hy : qlt (q9 top) (q9 y.1) = false) : TopQ (P ++ [y]) top := by
  obtain ⟨c, hc⟩ := h.mem hne
  refine ⟨h.len, fun _ => ⟨c, by simp [hc]⟩, fun z hz => ?_⟩
  rcases List.mem_append.1 hz with hz | hz
  · exact h.max z hz
  · simp only [List.mem_singleton] at hz
    subst hz; exact hy
theorem TopQ.next {P : List (List Int × Int)} {top : List Int} (h : TopQ P top) {y : List Int × Int} (hl : y.1.length = 9) (hy : P = [] ∨ qlt (q9 top) (q9 y.1) = true) : TopQ (P ++ [y]) y.1 := by
  refine ⟨hl, fun _ => ⟨y.2, by simp⟩, fun z hz => ?_⟩
  rcases List.mem_append.1 hz with hz | hz
  · rcases hy with rfl | hy
    · simp at hz
    · cases hq : qlt (q9 y.1) (q9 z.1) with
      | false => rfl
      | true =>
        have h1 := h.max z hz
        have h2 := qOrd.tr _ _ _ hy hq
        rw [h1] at h2; simp at h2
  · simp only [List.mem_singleton] at hz
    subst hz; exact qOrd.irr _
theorem top_headQ {n : Nat} {es : List (List Int × Int)} {l : List (QK × Int)} {P : List (List Int × Int)} {top : List Int} {a : QK} {c : Int} {R : List (QK × Int)} (h : MapQ n es l) (h8 : n ≤ 8) (hl : ∀ x ∈ l, x.1.1.length = n) (hP : P.Perm es) (hT : TopQ P top) (hR : nf qlt l = (a, c) :: R) :
    top = kq a ∧ mget top es = some c := by
  have hal : a.1.length = n := by
    obtain ⟨x, hx, e⟩ := nf_mem (y := (a, c)) (by rw [hR]; simp)
    have h9 := hl x hx
    rw [e] at h9
    exact h9
  have hd := nf_desc qOrd l
  have hc := co_single qOrd hd (x := (a, c)) (by rw [hR]; simp)
  rw [nf_co] at hc
  have hcz : c ≠ 0 := nf_nz l (a, c) (by rw [hR]; simp)
  have hva := h.val a hal
  have hga : mget (kq a) es = some c := by
    rw [hc] at hva
    cases hg : mget (kq a) es with
    | none => rw [hg] at hva; simp at hva; exact absurd hva.symm hcz
    | some v => rw [hg] at hva; simp at hva; rw [hva]
  have hmem := mget_some hga
  have hmP := hP.mem_iff.2 hmem
  obtain ⟨v, hv⟩ := hT.mem (by intro e; rw [e] at hmP; simp at hmP)
  have hvE := hP.mem_iff.1 hv
  obtain ⟨hvz, e, hel, he⟩ := h.nz _ hvE
  simp only at he hvz
  have hlt := hT.max _ hmP
  simp only at hlt
  rw [he, q9_kq (by omega), q9_kq (by omega), qlt_pad (hel.trans hal.symm)] at hlt
  have hget := mget_mem h.nod hvE
  have hve := h.val e hel
  rw [← he, hget] at hve
  simp only [Option.getD_some] at hve
  have hco : co e (nf qlt l) ≠ 0 := by rw [nf_co, ← hve]; exact hvz
  obtain ⟨z, hz, ez⟩ := co_mem hco
  have hea : e = a := by
    rw [hR] at hz hd
    rcases List.mem_cons.1 hz with rfl | hz
    · exact ez.symm
    · have h1 := List.rel_of_pairwise_cons hd hz
      simp only at h1
      rw [ez, hlt] at h1
      simp at h1
  subst hea
  exact ⟨he, by rw [he]; exact hga⟩
structure DivOQ (fm : List (List Int)) (g : Qsm) (n : Nat) (R O : List (QK × Int)) : Prop where
  od : Desc qlt O
  oz : Nz O
  ol : ∀ x ∈ O, x.1.1.length = n
  sep : ∀ x ∈ O, ∀ y ∈ R, qlt y.1 (qmul fm x.1 (leadQ g)) = true
theorem qdv_mul {fm : List (List Int)} {e b : QK} (h : e.1.length = b.1.length) : qdv fm (qmul fm e b) b = e := by
  have h1 : addE (-1) (addE 1 b.1 e.1) b.1 = e.1 := by rw [addE_com _ _ h.symm, addE_dv2 _ _ h]
  unfold qdv qmul
  refine Prod.ext h1 ?_
  simp only
  rw [h1]
  omega
theorem DivOQ.step {fm : List (List Int)} {g : Qsm} {n : Nat} {x : QK × Int} {R O : List (QK × Int)} (h : DivOQ fm g n (x :: R) O) (hR : Desc qlt (x :: R)) (hRl : ∀ y ∈ x :: R, y.1.1.length = n) (hg : QRight g) (hgn : g.v = n) (hne : g.ts ≠ []) (hm : x.2.tmod (leadQC g) = 0) (hq : x.2.tdiv (leadQC g) ≠ 0) :
    DivOQ fm g n (nf qlt (stepQ fm g x R)) (O ++ [(qdv fm x.1 (leadQ g), x.2.tdiv (leadQC g))]) := by
  have hgm := leadQ_map hne
  have hgd := qp_desc hg
  have hgD := qp_dig hg hgn
  rw [hgm] at hgd hgD
  have hbl : (leadQ g).1.length = n := (hgD (leadQ g, leadQC g) (by simp)).1.1
  have hxl := hRl x (by simp)
  have hA := qAct fm n
  have hless := step_less qOrd hA hR hRl hgd (fun y hy => (hgD y hy).1.1) hm
  rw [← hgm] at hless
  have hel : (qdv fm x.1 (leadQ g)).1.length = n := hA.ddv x.1 _ hxl hbl
  have hback := hA.mul_dv x.1 (leadQ g) hxl hbl
  refine ⟨?_, fun y hy => ?_, fun y hy => ?_, fun y hy z hz => ?_⟩
  · refine List.pairwise_append.2 ⟨h.od, List.pairwise_singleton .., fun y hy z hz => ?_⟩
    simp only [List.mem_singleton] at hz
    subst hz
    have h1 := h.sep y hy x (by simp)
    have hyl := h.ol y hy
    have h2 := hA.dv_lt x.1 _ (leadQ g) hxl (hA.dmul y.1 _ hyl hbl) hbl h1
    rw [qdv_mul (hyl.trans hbl.symm)] at h2
    exact h2
  · rcases List.mem_append.1 hy with hy | hy
    · exact h.oz y hy
    · simp only [List.mem_singleton] at hy
      subst hy; exact hq
  · rcases List.mem_append.1 hy with hy | hy
    · exact h.ol y hy
    · simp only [List.mem_singleton] at hy
      subst hy; exact hel
  · have h1 := (hless z hz).1
    rcases List.mem_append.1 hy with hy | hy
    · exact qOrd.tr _ _ _ h1 (h.sep y hy x (by simp))
    · simp only [List.mem_singleton] at hy
      subst hy
      show qlt z.1 (qmul fm (qdv fm x.1 (leadQ g)) (leadQ g)) = true
      rw [hback]
      exact h1
theorem DivOQ.nf {fm : List (List Int)} {g : Qsm} {n : Nat} {R O : List (QK × Int)} (h : DivOQ fm g n R O) : Ab.nf qlt O = O := (nf_unique qOrd h.od h.oz fun k => rfl).symm
/-- What a step of division has put behind the rest so far. -/
def negQ (fm : List (List Int)) (e : QK) (q : Int) (g : List Qtm) : List (QK × Int) := g.map fun t => (qmul fm e (qk t), -q * t.c)
theorem negQ_step {fm : List (List Int)} {e : QK} {q : Int} {g : List Qtm} {i : Nat} (h : i < g.length) : negQ fm e q (g.take (i + 1)) = negQ fm e q (g.take i) ++ [(qmul fm e (qk g[i]), -q * g[i].c)] := by
  unfold negQ
  rw [List.take_succ_eq_append_getElem h, List.map_append]
  rfl
theorem step_nfQ {fm : List (List Int)} {g : Qsm} {x : QK × Int} {R l l2 : List (QK × Int)} (hR : nf qlt l = x :: R) (hl2 : l2.Perm (l ++ negQ fm (qdv fm x.1 (leadQ g)) (x.2.tdiv (leadQC g)) g.ts)) : nf qlt l2 = nf qlt (stepQ fm g x R) := by
  refine nf_unique qOrd (nf_desc qOrd _) (nf_nz _) fun k => ?_
  rw [nf_co, co_perm k hl2, stepQ, co_append, co_append, ← hR, nf_co]
  congr 1
  unfold negQ mulT
  rw [List.map_map]
  rfl
end Go.Proofs.Ytocknokodgnlbaa.Ab
namespace Go.Proofs.Ytocknokodgnlbaa.Ab
open Go Go.Shelf
set_option linter.unusedSimpArgs false
set_option linter.unusedVariables false
end Go.Proofs.Ytocknokodgnlbaa.Ab
namespace Go.Proofs.Ytocknokodgnlbaa.Ab
open Go Go.Proofs
end Go.Proofs.Ytocknokodgnlbaa.Ab
namespace Go.Proofs.Ytocknokodgnlbaa.Ab
open Go
set_option linter.unusedSimpArgs false
set_option linter.unusedVariables false
set_option maxRecDepth 10000
set_option maxHeartbeats 2000000
end Go.Proofs.Ytocknokodgnlbaa.Ab
namespace Go.Proofs.Ytocknokodgnlbaa.Ab
open Go
set_option linter.unusedSimpArgs false
set_option linter.unusedVariables false
set_option maxRecDepth 10000
set_option maxHeartbeats 2000000
def gQ (l : List Qtm) : List D := [.sh 3 l.length (rows qtS l)]
theorem gQ_one (l : List Qtm) : (gQ l).length = 1 := rfl
@[simp] theorem gQ_length (l : List (List Qtm)) : (rows gQ l).length = l.length := by rw [rows_length gQ_one l, Nat.one_mul]
def absKK (l : List (QK × Int)) : Nat := (l.map fun x => x.2.natAbs).sum
theorem coKK_abs (k : QK) : ∀ l : List (QK × Int), (co k l).natAbs ≤ absKK l
  | [] => by simp [co]
  | x :: l => by
    have := coKK_abs k l
    simp only [co, absKK, List.map_cons, List.sum_cons] at this ⊢
    split <;> omega
end Go.Proofs.Ytocknokodgnlbaa.Ab
namespace Go.Proofs.Ytocknokodgnlbaa.Ab
open Go
set_option linter.unusedSimpArgs false
set_option linter.unusedVariables false
set_option maxRecDepth 10000
set_option maxHeartbeats 2000000
end Go.Proofs.Ytocknokodgnlbaa.Ab
namespace Go.Proofs.Ytocknokodgnlbaa.Ab
open Go
set_option linter.unusedSimpArgs false
set_option linter.unusedVariables false
set_option maxRecDepth 10000
set_option maxHeartbeats 2000000
attribute [local simp] mapKV flatInt tileB
end Go.Proofs.Ytocknokodgnlbaa.Ab
namespace Go.Proofs.Ytocknokodgnlbaa.Ab
open Go
set_option linter.unusedSimpArgs false
set_option linter.unusedVariables false
set_option maxRecDepth 10000
set_option maxHeartbeats 2000000
attribute [local simp] mapKV flatInt tileB
structure LJQ (n : Nat) (es : List (List Int × Int)) (l : List (QK × Int)) (B : Nat) : Prop where
  map : MapQ n es l
  len : ∀ x ∈ l, x.1.1.length = n
  abs : absKK l ≤ B
theorem LJQ.add {n : Nat} {es : List (List Int × Int)} {l : List (QK × Int)} {B : Nat} (h : LJQ n es l B) {e : QK} (he : e.1.length = n) {c : Int} {X : Nat} (hc : c.natAbs ≤ X) : LJQ n (madd es (kq e) c) ((e, c) :: l) (B + X) := by
  refine ⟨h.map.add he c, fun x hx => ?_, ?_⟩
  · rcases List.mem_cons.1 hx with rfl | hx
    · exact he
    · exact h.len x hx
  · have := h.abs
    simp only [absKK, List.map_cons, List.sum_cons] at *
    omega
theorem LJQ.val {n : Nat} {es : List (List Int × Int)} {l : List (QK × Int)} {B : Nat} (h : LJQ n es l B) {e : QK} (he : e.1.length = n) {c : Int} {X : Nat} (hc : c.natAbs ≤ X) (hB : B + X ≤ 4000000000000000000) : -9223372036854775808 ≤ c + (mget (kq e) es).getD 0 ∧ c + (mget (kq e) es).getD 0 < 9223372036854775808 := by
  have h1 := h.map.val e he
  have h2 := coKK_abs e l
  have h3 := h.abs
  rw [h1]
  omega
theorem LJQ.mono {n : Nat} {es : List (List Int × Int)} {l : List (QK × Int)} {B C : Nat} (h : LJQ n es l B) (hB : B ≤ C) : LJQ n es l C := ⟨h.map, h.len, Nat.le_trans h.abs hB⟩
theorem divQF_some {fm : List (List Int)} {f g : Qsm} (h : FormOk fm ∧ QRight f ∧ QRight g ∧ f.v = fm.length ∧ g.v = fm.length) (hne : g.ts ≠ []) : divQF fm f g = endQd fm.length (divQ fm chkIQ g 600 (f.ts.map qp)) := by
  unfold divQF
  rw [if_pos ⟨h, hne⟩, h.2.2.2.1]
theorem impl_DivideQSums_l1 (fm : List (List Int)) (f g : Qsm) (n : Nat) (hn : f.v = n) (hv : n ≤ 8) (hf : QRight f) (hfl : f.ts.length ≤ 600) (Q0 : AEx → St → Prop) (hX0 : ∀ es l, LJQ n es l 600000000 → l.Perm (f.ts.map qp) → Q0 (.exit 0) ⟨ofL [(0, .d (.sh 1 fm.length (rows lS fm))), (4, .pt (4, 0) [] 0), (5, .pt (5, 0) [] 0), (6, .pt (6, 0) [] 0), (8, .pt (8, 0) [] 0), (38, .d (.sh 3 f.ts.length (rows qtS f.ts))), (39, .int f.ts.length), (40, .int f.ts.length), (41, .bool false)], ofRO [((4, 0), some (.bx (qS f))), ((5, 0), some (.bx (qS g))), ((6, 0), some (.bx [D.int 0, .v (.slice none 0 0)])), ((8, 0), some (.bx [D.int n, .mp es]))]⟩) : AWp C.impl_DivideQSums (codeAt Try.f31 [1, 1, 1, 0, 1, 0]) 0 Q0 ⟨ofL [(0, .d (.sh 1 fm.length (rows lS fm))), (4, .pt (4, 0) [] 0), (5, .pt (5, 0) [] 0), (6, .pt (6, 0) [] 0), (8, .pt (8, 0) [] 0), (38, .d (.sh 3 f.ts.length (rows qtS f.ts))), (39, .int f.ts.length), (40, .int 0)], ofRO [((4, 0), some (.bx (qS f))), ((5, 0), some (.bx (qS g))), ((6, 0), some (.bx [D.int 0, .v (.slice none 0 0)])), ((8, 0), some (.bx [D.int n, .mp []]))]⟩ := by
  simp only [codeAt, Try.f31, walkCode]
  refine wloop (fun x : Nat × List (List Int × Int) × List (QK × Int) => ⟨ofL [(0, .d (.sh 1 fm.length (rows lS fm))), (4, .pt (4, 0) [] 0), (5, .pt (5, 0) [] 0), (6, .pt (6, 0) [] 0), (8, .pt (8, 0) [] 0), (38, .d (.sh 3 f.ts.length (rows qtS f.ts))), (39, .int f.ts.length), (40, .int x.1)], ofRO [((4, 0), some (.bx (qS f))), ((5, 0), some (.bx (qS g))), ((6, 0), some (.bx [D.int 0, .v (.slice none 0 0)])), ((8, 0), some (.bx [D.int n, .mp x.2.1]))]⟩) (fun x => x.1 ≤ f.ts.length ∧ LJQ n x.2.1 x.2.2 (x.1 * 1000000) ∧ x.2.2.Perm ((f.ts.map qp).take x.1)) (fun x => f.ts.length - x.1) (0, [], []) (by simp [C.impl_DivideQSums, qS, hn]) ⟨by simp, ⟨MapQ.nil n, by simp, by simp [absKK]⟩, by simp⟩ ?_
  intro x1 hx1 R1 hR1
  obtain ⟨i, es, l⟩ := x1
  obtain ⟨hi, hLJ, hP⟩ := hx1
  dsimp only at hi hLJ hP ⊢
  refine wseq ?_
  refine wreg fun K hK => ?_
  simp [C.impl_DivideQSums, qS]
  refine hK _ ?_; clear hK K
  show AWp _ _ _ _ _
  refine wseq ?_
  refine wcond _ rfl (fun hc2 => ?_) (fun hc2 => ?_)
  · have hif : i < f.ts.length := by have := d_t hc2; omega
    have hT := qright_he hf hn _ (List.getElem_mem hif)
    refine wskip ?_
    show AWp _ _ _ _ _
    refine wseq ?_
    refine wblock ?_
    refine wseq ?_
    refine wreg fun K hK => ?_
    simp [C.impl_DivideQSums, qS, hif, qtS_0 hif, qtS_1 hif, qtS_2 hif]
    refine hK _ ?_; clear hK K
    show AWp _ _ _ _ _
    obtain ⟨a0, a1, a2, a3, a4, a5, a6, a7, hpa⟩ := eight (pad_length (e := f.ts[i].e) (by omega))
    have hk : [a0, a1, a2, a3, a4, a5, a6, a7, f.ts[i].h] = kq (qk f.ts[i]) := by
      simp only [kq, qk, hpa]
      rfl
    have hval := hLJ.val (e := qk f.ts[i]) hT.1 (c := f.ts[i].c) (X := 1000000) (by omega) (by omega)
    rw [← hk] at hval
    refine wdrawI [(true, 0), (true, 1), (true, 2), (true, 4), (true, 5), (true, 7), (true, 8), (false, 3), (true, 6), (false, 9)] ⟨by kernel_rfl, by kernel_rfl⟩ ([0, 1, 2, 4, 5, 7, 8, 3] ++ ([6, 9] ++ ([]))) rfl fun K hK => ?_
    refine opsI_seg fun L hL => ?_
    simp [C.impl_DivideQSums, qS, qtS]
    refine wcall1 (impl_keyOf_calls f.ts[i].e (by omega) a0 a1 a2 a3 a4 a5 a6 a7 hpa) (by simp) (by simp) ?_
    simp [C.impl_DivideQSums, qS, qtS]
    refine hL _ ?_; clear hL L
    refine opsI_seg fun L hL => ?_
    simp [C.impl_DivideQSums, qS, qtS]
    refine wcall1 (impl_qbuilding_add_calls n f.ts[i].c es a0 a1 a2 a3 a4 a5 a6 a7 f.ts[i].h (hLJ.map.len9 hv) hval) (by simp) (by simp) ?_
    simp [C.impl_DivideQSums, qS, qtS]
    refine hL _ ?_; clear hL L
    refine opsI_end fun L hL => ?_
    simp only [AOpsI]
    refine hL _ ?_; clear hL L
    simp [C.impl_DivideQSums, qS, qtS]
    rw [hk]
    refine hK _ ?_; clear hK K
    show AWp _ _ _ _ _
    refine wreg fun K hK => ?_
    simp [C.impl_DivideQSums, qS, wrap_succ (show i < 4611686018427387904 by omega)]
    refine hK _ ?_; clear hK K
    simp [C.impl_DivideQSums, qS]
    refine cast (congrArg R1 ?_) (hR1 (i + 1, madd es (kq (qk f.ts[i])) f.ts[i].c, (qk f.ts[i], f.ts[i].c) :: l) ⟨hif, ?_, ?_⟩ (by dsimp only; omega))
    · simp [qS, hn]
    · have := hLJ.add (e := qk f.ts[i]) hT.1 (c := f.ts[i].c) (X := 1000000) (by omega)
      dsimp only
      rwa [Nat.add_mul, Nat.one_mul]
    · dsimp only
      rw [List.take_succ_eq_append_getElem (by simpa using hif)]
      refine (List.Perm.cons _ hP).trans ?_
      simp only [List.getElem_map, qp]
      exact (List.perm_append_singleton _ _).symm
  · have hif : i = f.ts.length := by have := d_f hc2; omega
    have hall : l.Perm (f.ts.map qp) := by
      rw [List.take_of_length_le (by simp; omega)] at hP
      exact hP
    refine wexit ?_
    refine cast (congrArg (Q0 (.exit 0)) ?_) (hX0 es l (hLJ.mono (by rw [hif]; omega)) hall)
    simp [qS, hn, hif]

theorem impl_DivideQSums_r21 (fm : List (List Int)) (f g : Qsm) (n : Nat) (hn : f.v = n) (es eo P rest : List (List Int × Int)) (le : List Int) (lh lc : Int) (k0 k1 k2 k3 k4 k5 k6 k7 k8 t0 t1 t2 t3 t4 t5 t6 t7 t8 xc : Int) (i : Nat) (i0 : Nat) (Q0 : AEx → St → Prop) (hJ0 : Q0 .normal ⟨ofL [(0, .d (.sh 1 fm.length (rows lS fm))), (4, .pt (4, 0) [] 0), (5, .pt (5, 0) [] 0), (6, .pt (6, 0) [] 0), (8, .pt (8, 0) [] 0), (11, .pt (11, 0) [] 0), (12, .pt (12, 0) [] 0), (13, .pt (13, 0) [] 0), (14, .bool (decide (P = []))), (15, .pt (15, 0) [] 0), (72, .it (72, 0) (8, 0) [1] (rest.eraseIdx i) (some ([k0, k1, k2, k3, k4, k5, k6, k7, k8], xc))), (89, .bool (decide (P = [] ∨ qlt (q9 [t0, t1, t2, t3, t4, t5, t6, t7, t8]) (q9 [k0, k1, k2, k3, k4, k5, k6, k7, k8]) = true)))], ofRO [((4, 0), some (.bx (qS f))), ((5, 0), some (.bx (qS g))), ((6, 0), some (.bx [D.int 0, .v (.slice none 0 0)])), ((8, 0), some (.bx [D.int n, .mp es])), ((11, 0), some (.bx [D.int n, .mp eo])), ((12, 0), some (.bx [shI le, D.int lh, D.int lc])), ((13, 0), some (.bx [D.int t0, D.int t1, D.int t2, D.int t3, D.int t4, D.int t5, D.int t6, D.int t7, D.int t8])), ((15, 0), some (.bx [D.int k0, D.int k1, D.int k2, D.int k3, D.int k4, D.int k5, D.int k6, D.int k7, D.int k8])), ((72, 0), some .itr)]⟩) : AWp C.impl_DivideQSums (codeAt Try.f31 [1, 1, 1, 1, 1, 1, 0, 0, 0, 1, 0, 1, 1, 0, 1, 0, 0, 1, 1, 0, 1, 0]) i0 Q0 ⟨ofL [(0, .d (.sh 1 fm.length (rows lS fm))), (4, .pt (4, 0) [] 0), (5, .pt (5, 0) [] 0), (6, .pt (6, 0) [] 0), (8, .pt (8, 0) [] 0), (11, .pt (11, 0) [] 0), (12, .pt (12, 0) [] 0), (13, .pt (13, 0) [] 0), (14, .bool (decide (P = []))), (15, .pt (15, 0) [] 0), (72, .it (72, 0) (8, 0) [1] (rest.eraseIdx i) (some ([k0, k1, k2, k3, k4, k5, k6, k7, k8], xc)))], ofRO [((4, 0), some (.bx (qS f))), ((5, 0), some (.bx (qS g))), ((6, 0), some (.bx [D.int 0, .v (.slice none 0 0)])), ((8, 0), some (.bx [D.int n, .mp es])), ((11, 0), some (.bx [D.int n, .mp eo])), ((12, 0), some (.bx [shI le, D.int lh, D.int lc])), ((13, 0), some (.bx [D.int t0, D.int t1, D.int t2, D.int t3, D.int t4, D.int t5, D.int t6, D.int t7, D.int t8])), ((15, 0), some (.bx [D.int k0, D.int k1, D.int k2, D.int k3, D.int k4, D.int k5, D.int k6, D.int k7, D.int k8])), ((72, 0), some .itr)]⟩ := by
  simp only [codeAt, Try.f31, walkCode]
  refine wdrawI [(true, 0), (true, 1), (true, 2), (true, 3), (true, 4), (true, 5), (true, 6), (true, 7), (true, 8), (true, 9), (false, 10), (true, 11), (true, 12)] ⟨by kernel_rfl, by kernel_rfl⟩ ([0, 1, 2, 3, 4, 5, 6, 7, 8, 9, 10] ++ ([11, 12])) rfl fun K hK => ?_
  have hJ : K ⟨ofL [(0, .d (.sh 1 fm.length (rows lS fm))), (4, .pt (4, 0) [] 0), (5, .pt (5, 0) [] 0), (6, .pt (6, 0) [] 0), (8, .pt (8, 0) [] 0), (11, .pt (11, 0) [] 0), (12, .pt (12, 0) [] 0), (13, .pt (13, 0) [] 0), (14, .bool (decide (P = []))), (15, .pt (15, 0) [] 0), (72, .it (72, 0) (8, 0) [1] (rest.eraseIdx i) (some ([k0, k1, k2, k3, k4, k5, k6, k7, k8], xc))), (89, .bool (decide (P = [] ∨ qlt (q9 [t0, t1, t2, t3, t4, t5, t6, t7, t8]) (q9 [k0, k1, k2, k3, k4, k5, k6, k7, k8]) = true)))], ofRO [((4, 0), some (.bx (qS f))), ((5, 0), some (.bx (qS g))), ((6, 0), some (.bx [D.int 0, .v (.slice none 0 0)])), ((8, 0), some (.bx [D.int n, .mp es])), ((11, 0), some (.bx [D.int n, .mp eo])), ((12, 0), some (.bx [shI le, D.int lh, D.int lc])), ((13, 0), some (.bx [D.int t0, D.int t1, D.int t2, D.int t3, D.int t4, D.int t5, D.int t6, D.int t7, D.int t8])), ((15, 0), some (.bx [D.int k0, D.int k1, D.int k2, D.int k3, D.int k4, D.int k5, D.int k6, D.int k7, D.int k8])), ((72, 0), some .itr)]⟩ := by
    refine hK _ ?_; clear hK K
    exact hJ0
  clear hK
  by_cases hp : P = []
  · refine opsI_seg fun L hL => ?_
    simp [C.impl_DivideQSums, qS, ints, sh8, hp]
    refine hL _ ?_; clear hL L
    refine opsI_end fun L hL => ?_
    simp [C.impl_DivideQSums, qS, ints, sh8, hp]
    refine hL _ ?_; clear hL L
    simp [C.impl_DivideQSums, qS, ints, sh8, hp]
    refine cast (congrArg K ?_) hJ
    simp [cmpQ_neg, q9, hn, qS, hp]
  · refine opsI_seg fun L hL => ?_
    simp [C.impl_DivideQSums, qS, ints, sh8, hp]
    refine wcall1 (impl_descending_calls [k0, k1, k2, k3, k4, k5, k6, k7] k8 [t0, t1, t2, t3, t4, t5, t6, t7] t8 (by simp)) (by simp [qS, ints, sh8]) (by simp) ?_
    simp [C.impl_DivideQSums, qS, ints, sh8, hp]
    refine hL _ ?_; clear hL L
    refine opsI_end fun L hL => ?_
    simp [C.impl_DivideQSums, qS, ints, sh8, hp]
    refine hL _ ?_; clear hL L
    simp [C.impl_DivideQSums, qS, ints, sh8, hp]
    refine cast (congrArg K ?_) hJ
    simp [cmpQ_neg, q9, hn, qS, hp]

theorem impl_DivideQSums_l3 (fm : List (List Int)) (f g : Qsm) (n : Nat) (hn : f.v = n) (es eo : List (List Int × Int)) (le : List Int) (lh lc : Int) (hm9 : mapLen 9 es) (Q0 : AEx → St → Prop) (hX0 : ∀ P top cur, P.Perm es → TopQ P top → Q0 (.exit 4) ⟨ofL [(0, .d (.sh 1 fm.length (rows lS fm))), (4, .pt (4, 0) [] 0), (5, .pt (5, 0) [] 0), (6, .pt (6, 0) [] 0), (8, .pt (8, 0) [] 0), (11, .pt (11, 0) [] 0), (12, .pt (12, 0) [] 0), (13, .pt (13, 0) [] 0), (14, .bool (decide (P = []))), (72, .it (72, 0) (8, 0) [1] [] cur), (74, .bool false)], ofRO [((4, 0), some (.bx (qS f))), ((5, 0), some (.bx (qS g))), ((6, 0), some (.bx [D.int 0, .v (.slice none 0 0)])), ((8, 0), some (.bx [D.int n, .mp es])), ((11, 0), some (.bx [D.int n, .mp eo])), ((12, 0), some (.bx [shI le, D.int lh, D.int lc])), ((13, 0), some (.bx (ints top))), ((72, 0), some .itr)]⟩) : AWp C.impl_DivideQSums (codeAt Try.f31 [1, 1, 1, 1, 1, 1, 0, 0, 0, 1, 0, 1, 1, 0, 1, 0]) 4 Q0 ⟨ofL [(0, .d (.sh 1 fm.length (rows lS fm))), (4, .pt (4, 0) [] 0), (5, .pt (5, 0) [] 0), (6, .pt (6, 0) [] 0), (8, .pt (8, 0) [] 0), (11, .pt (11, 0) [] 0), (12, .pt (12, 0) [] 0), (13, .pt (13, 0) [] 0), (14, .bool (decide (([] : List (List Int × Int)) = []))), (72, .it (72, 0) (8, 0) [1] es none)], ofRO [((4, 0), some (.bx (qS f))), ((5, 0), some (.bx (qS g))), ((6, 0), some (.bx [D.int 0, .v (.slice none 0 0)])), ((8, 0), some (.bx [D.int n, .mp es])), ((11, 0), some (.bx [D.int n, .mp eo])), ((12, 0), some (.bx [shI le, D.int lh, D.int lc])), ((13, 0), some (.bx (ints [0, 0, 0, 0, 0, 0, 0, 0, 0]))), ((72, 0), some .itr)]⟩ := by
  simp only [codeAt, Try.f31, walkCode]
  refine wloop (fun x : List (List Int × Int) × List Int × List (List Int × Int) × Option (List Int × Int) => ⟨ofL [(0, .d (.sh 1 fm.length (rows lS fm))), (4, .pt (4, 0) [] 0), (5, .pt (5, 0) [] 0), (6, .pt (6, 0) [] 0), (8, .pt (8, 0) [] 0), (11, .pt (11, 0) [] 0), (12, .pt (12, 0) [] 0), (13, .pt (13, 0) [] 0), (14, .bool (decide (x.1 = []))), (72, .it (72, 0) (8, 0) [1] x.2.2.1 x.2.2.2)], ofRO [((4, 0), some (.bx (qS f))), ((5, 0), some (.bx (qS g))), ((6, 0), some (.bx [D.int 0, .v (.slice none 0 0)])), ((8, 0), some (.bx [D.int n, .mp es])), ((11, 0), some (.bx [D.int n, .mp eo])), ((12, 0), some (.bx [shI le, D.int lh, D.int lc])), ((13, 0), some (.bx (ints x.2.1))), ((72, 0), some .itr)]⟩) (fun x => (x.1 ++ x.2.2.1).Perm es ∧ TopQ x.1 x.2.1) (fun x => x.2.2.1.length) ([], [0, 0, 0, 0, 0, 0, 0, 0, 0], es, none) (by simp [C.impl_DivideQSums, qS, hn, ints]) ⟨by simp, ⟨rfl, by simp, by simp⟩⟩ ?_
  intro x3 hx3 R3 hR3
  obtain ⟨P, top, rest, cur⟩ := x3
  obtain ⟨hq, hT⟩ := hx3
  dsimp only at hq hT ⊢
  refine wseq ?_
  refine wreg fun K hK => ?_
  simp [C.impl_DivideQSums, qS]
  refine ⟨fun hrest => ?_, fun i xk xc hxi => ?_⟩
  · refine hK _ ?_; clear hK K
    show AWp _ _ _ _ _
    refine wseq ?_
    refine wcond _ rfl (fun hc4 => ?_) (fun hc4 => ?_)
    · simp at hc4
    · subst hrest
      have hqe : P.Perm es := by simpa using hq
      refine wexit ?_
      refine cast (congrArg (Q0 (.exit 4)) ?_) (hX0 P top cur hqe hT)
      simp [qS, hn]
  · refine hK _ ?_; clear hK K
    show AWp _ _ _ _ _
    refine wseq ?_
    refine wcond _ rfl (fun hc6 => ?_) (fun hc6 => ?_)
    · have hxm : (xk, xc) ∈ rest := List.mem_of_getElem? hxi
      have hxl := hm9 _ (hq.subset (List.mem_append_right P hxm))
      dsimp only at hxl
      obtain ⟨k0, k1, k2, k3, k4, k5, k6, k7, k8, rfl⟩ := nine hxl
      obtain ⟨t0, t1, t2, t3, t4, t5, t6, t7, t8, rfl⟩ := nine hT.len
      have hil : i < rest.length := by
        rcases Nat.lt_or_ge i rest.length with h | h
        · exact h
        · rw [List.getElem?_eq_none h] at hxi; simp at hxi
      have hper : (P ++ [([k0, k1, k2, k3, k4, k5, k6, k7, k8], xc)] ++ rest.eraseIdx i).Perm es := by
        have hget : rest[i] = ([k0, k1, k2, k3, k4, k5, k6, k7, k8], xc) := by
          rw [List.getElem?_eq_getElem hil] at hxi
          injection hxi
        have h9 := erase_perm rest i hil
        rw [hget] at h9
        refine List.Perm.trans ?_ hq
        rw [List.append_assoc]
        exact List.Perm.append_left _ h9
      refine wskip ?_
      show AWp _ _ _ _ _
      refine wblock ?_
      refine wseq ?_
      refine wreg fun K hK => ?_
      simp [C.impl_DivideQSums, qS, ints]
      refine hK _ ?_; clear hK K
      show AWp _ _ _ _ _
      refine wseq ?_
      refine wcode (c' := codeAt Try.f31 [1, 1, 1, 1, 1, 1, 0, 0, 0, 1, 0, 1, 1, 0, 1, 0, 0, 1, 1, 0, 1, 0]) (by kernel_rfl) ?_
      refine impl_DivideQSums_r21 fm f g n hn es eo P rest le lh lc k0 k1 k2 k3 k4 k5 k6 k7 k8 t0 t1 t2 t3 t4 t5 t6 t7 t8 xc i _ _ ?_
      show AWp _ _ _ _ _
      refine wcond _ rfl (fun hc7 => ?_) (fun hc7 => ?_)
      · have hcm := d_t hc7
        refine wreg fun K hK => ?_
        simp [C.impl_DivideQSums, qS]
        refine hK _ ?_; clear hK K
        simp [C.impl_DivideQSums, qS]
        refine cast (congrArg R3 ?_) (hR3 (P ++ [([k0, k1, k2, k3, k4, k5, k6, k7, k8], xc)], [k0, k1, k2, k3, k4, k5, k6, k7, k8], rest.eraseIdx i, some ([k0, k1, k2, k3, k4, k5, k6, k7, k8], xc)) ⟨hper, hT.next rfl hcm⟩ (by dsimp only; rw [List.length_eraseIdx_of_lt hil]; omega))
        simp [qS, hn, ints]
      · have hcm := d_f hc7
        have hPn : P ≠ [] := fun e => hcm (.inl e)
        have hlt : qlt (q9 [t0, t1, t2, t3, t4, t5, t6, t7, t8]) (q9 [k0, k1, k2, k3, k4, k5, k6, k7, k8]) = false := by
          cases hh : qlt (q9 [t0, t1, t2, t3, t4, t5, t6, t7, t8]) (q9 [k0, k1, k2, k3, k4, k5, k6, k7, k8]) with
          | false => rfl
          | true => exact absurd (.inr hh) hcm
        refine wskip ?_
        simp [C.impl_DivideQSums, qS]
        refine cast (congrArg R3 ?_) (hR3 (P ++ [([k0, k1, k2, k3, k4, k5, k6, k7, k8], xc)], [t0, t1, t2, t3, t4, t5, t6, t7, t8], rest.eraseIdx i, some ([k0, k1, k2, k3, k4, k5, k6, k7, k8], xc)) ⟨hper, hT.keep hPn hlt⟩ (by dsimp only; rw [List.length_eraseIdx_of_lt hil]; omega))
        simp [qS, hn, ints, hPn]
    · simp at hc6

theorem impl_DivideQSums_r24 (fm : List (List Int)) (f g : Qsm) (n : Nat) (es eo : List (List Int × Int)) (le : List Int) (lh lc : Int) (a0 a1 a2 a3 a4 a5 a6 a7 b0 b1 b2 b3 b4 b5 b6 b7 ah c : Int) (hgl8 : le.length ≤ 8) (hpb : pad le = [b0, b1, b2, b3, b4, b5, b6, b7]) (hba : ∀ x ∈ [a0, a1, a2, a3, a4, a5, a6, a7], -1000000 ≤ x ∧ x ≤ 1000000) (hbb : ∀ x ∈ [b0, b1, b2, b3, b4, b5, b6, b7], -1000000 ≤ x ∧ x ≤ 1000000) (i0 : Nat) (Q0 : AEx → St → Prop) (hJ0 : Q0 .normal ⟨ofL [(0, .d (.sh 1 fm.length (rows lS fm))), (4, .pt (4, 0) [] 0), (5, .pt (5, 0) [] 0), (6, .pt (6, 0) [] 0), (8, .pt (8, 0) [] 0), (11, .pt (11, 0) [] 0), (12, .pt (12, 0) [] 0), (13, .pt (13, 0) [] 0), (16, .int c), (17, .pt (17, 0) [] 0)], ofRO [((4, 0), some (.bx (qS f))), ((5, 0), some (.bx (qS g))), ((6, 0), some (.bx [D.int 0, .v (.slice none 0 0)])), ((8, 0), some (.bx [D.int n, .mp es])), ((11, 0), some (.bx [D.int n, .mp eo])), ((12, 0), some (.bx [shI le, D.int lh, D.int lc])), ((13, 0), some (.bx (ints [a0, a1, a2, a3, a4, a5, a6, a7, ah]))), ((17, 0), some (.bx [D.int (a0 + -1 * b0), D.int (a1 + -1 * b1), D.int (a2 + -1 * b2), D.int (a3 + -1 * b3), D.int (a4 + -1 * b4), D.int (a5 + -1 * b5), D.int (a6 + -1 * b6), D.int (a7 + -1 * b7)]))]⟩) : AWp C.impl_DivideQSums (codeAt Try.f31 [1, 1, 1, 1, 1, 1, 0, 0, 0, 1, 0, 1, 1, 1, 1, 0]) i0 Q0 ⟨ofL [(0, .d (.sh 1 fm.length (rows lS fm))), (4, .pt (4, 0) [] 0), (5, .pt (5, 0) [] 0), (6, .pt (6, 0) [] 0), (8, .pt (8, 0) [] 0), (11, .pt (11, 0) [] 0), (12, .pt (12, 0) [] 0), (13, .pt (13, 0) [] 0), (16, .int c)], ofRO [((4, 0), some (.bx (qS f))), ((5, 0), some (.bx (qS g))), ((6, 0), some (.bx [D.int 0, .v (.slice none 0 0)])), ((8, 0), some (.bx [D.int n, .mp es])), ((11, 0), some (.bx [D.int n, .mp eo])), ((12, 0), some (.bx [shI le, D.int lh, D.int lc])), ((13, 0), some (.bx (ints [a0, a1, a2, a3, a4, a5, a6, a7, ah])))]⟩ := by
  simp only [codeAt, Try.f31, walkCode]
  refine wdraw (.take 0 (.take 1 (.take 2 (.take 3 (.all [(4, .all [(5, .all [(6, .all [(7, .done)])]), (6, .all [(5, .all [(7, .done)])])]), (6, .all [(4, .all [(5, .all [(7, .done)])])])]))))) ⟨by kernel_rfl, by kernel_rfl⟩ fun K hK => ?_
  have hJ : K ⟨ofL [(0, .d (.sh 1 fm.length (rows lS fm))), (4, .pt (4, 0) [] 0), (5, .pt (5, 0) [] 0), (6, .pt (6, 0) [] 0), (8, .pt (8, 0) [] 0), (11, .pt (11, 0) [] 0), (12, .pt (12, 0) [] 0), (13, .pt (13, 0) [] 0), (16, .int c), (17, .pt (17, 0) [] 0)], ofRO [((4, 0), some (.bx (qS f))), ((5, 0), some (.bx (qS g))), ((6, 0), some (.bx [D.int 0, .v (.slice none 0 0)])), ((8, 0), some (.bx [D.int n, .mp es])), ((11, 0), some (.bx [D.int n, .mp eo])), ((12, 0), some (.bx [shI le, D.int lh, D.int lc])), ((13, 0), some (.bx (ints [a0, a1, a2, a3, a4, a5, a6, a7, ah]))), ((17, 0), some (.bx [D.int (a0 + -1 * b0), D.int (a1 + -1 * b1), D.int (a2 + -1 * b2), D.int (a3 + -1 * b3), D.int (a4 + -1 * b4), D.int (a5 + -1 * b5), D.int (a6 + -1 * b6), D.int (a7 + -1 * b7)]))]⟩ := by
    refine hK _ ?_; clear hK K
    exact hJ0
  clear hK
  have hk1 := impl_keyOf_calls le (by omega) b0 b1 b2 b3 b4 b5 b6 b7 hpb
  have hk2 := impl_plusExp_calls (-1) a0 a1 a2 a3 a4 a5 a6 a7 b0 b1 b2 b3 b4 b5 b6 b7 (by omega) hba hbb
  simp [C.impl_DivideQSums, qS, ints]
  repeat' first
    | (refine wcall1 hk1 (by simp) (by simp) ?_; simp [C.impl_DivideQSums, qS])
    | (refine wcall1 hk2 (by simp) (by simp) ?_; simp [C.impl_DivideQSums, qS])
    | (refine cast (congrArg K ?_) hJ; simp [qS, ints]; done)
    | refine ⟨?_, ?_⟩

theorem impl_DivideQSums_r27 (fm : List (List Int)) (f g : Qsm) (n : Nat) (hn : f.v = n) (hv : n ≤ 8) (es eo : List (List Int × Int)) (O : List (QK × Int)) (le : List Int) (lh lc : Int) (E : List Int) (e0 e1 e2 e3 e4 e5 e6 e7 c q H : Int) (hgc0 : lc ≠ 0) (hsh : shareL (List.take n [D.v (.int .i64 e0), D.v (.int .i64 e1), D.v (.int .i64 e2), D.v (.int .i64 e3), D.v (.int .i64 e4), D.v (.int .i64 e5), D.v (.int .i64 e6), D.v (.int .i64 e7)]) = ints E) (hEl : E.length = n) (heol : eo.length = O.length) (i0 : Nat) (Q0 : AEx → St → Prop) (hJ0 : Q0 .normal ⟨ofL [(0, .d (.sh 1 fm.length (rows lS fm))), (4, .pt (4, 0) [] 0), (5, .pt (5, 0) [] 0), (6, .pt (6, 0) [] 0), (8, .pt (8, 0) [] 0), (11, .pt (11, 0) [] 0), (12, .pt (12, 0) [] 0), (17, .pt (17, 0) [] 0), (18, .int H), (19, .int q), (151, .bool (!decide ((((c.tmod lc = 0 ∧ okE E n = true) ∧ (-200 ≤ H ∧ H ≤ 200)) ∧ (q ≠ 0 ∧ -1000000 ≤ q ∧ q ≤ 1000000)) ∧ ¬ O.length = 600)))], ofRO [((4, 0), some (.bx (qS f))), ((5, 0), some (.bx (qS g))), ((6, 0), some (.bx [D.int 0, .v (.slice none 0 0)])), ((8, 0), some (.bx [D.int n, .mp es])), ((11, 0), some (.bx [D.int n, .mp eo])), ((12, 0), some (.bx [shI le, D.int lh, D.int lc])), ((17, 0), some (.bx [D.int e0, D.int e1, D.int e2, D.int e3, D.int e4, D.int e5, D.int e6, D.int e7]))]⟩) : AWp C.impl_DivideQSums (codeAt Try.f31 [1, 1, 1, 1, 1, 1, 0, 0, 0, 1, 0, 1, 1, 1, 1, 1, 1, 1, 0, 0]) i0 Q0 ⟨ofL [(0, .d (.sh 1 fm.length (rows lS fm))), (4, .pt (4, 0) [] 0), (5, .pt (5, 0) [] 0), (6, .pt (6, 0) [] 0), (8, .pt (8, 0) [] 0), (11, .pt (11, 0) [] 0), (12, .pt (12, 0) [] 0), (16, .int c), (17, .pt (17, 0) [] 0), (18, .int H), (19, .int q)], ofRO [((4, 0), some (.bx (qS f))), ((5, 0), some (.bx (qS g))), ((6, 0), some (.bx [D.int 0, .v (.slice none 0 0)])), ((8, 0), some (.bx [D.int n, .mp es])), ((11, 0), some (.bx [D.int n, .mp eo])), ((12, 0), some (.bx [shI le, D.int lh, D.int lc])), ((17, 0), some (.bx [D.int e0, D.int e1, D.int e2, D.int e3, D.int e4, D.int e5, D.int e6, D.int e7]))]⟩ := by
  simp only [codeAt, Try.f31, walkCode]
  refine wdrawI [(true, 0), (true, 1), (true, 2), (true, 3), (true, 4), (true, 5), (true, 6), (true, 7), (true, 8), (true, 9), (true, 10), (false, 11), (true, 12), (true, 13), (true, 14), (true, 15), (false, 16), (true, 17), (true, 18), (true, 19), (true, 20), (false, 21), (true, 22), (true, 23), (true, 24), (true, 25), (true, 26), (true, 27), (true, 28), (true, 29), (true, 30), (true, 31)] ⟨by kernel_rfl, by kernel_rfl⟩ ([0, 1, 2, 3, 4, 5, 6, 7, 8, 9, 10, 11] ++ ([12, 13, 14, 15, 16] ++ ([17, 18, 19, 20, 21] ++ ([22, 23, 24, 25, 26, 27, 28, 29, 30, 31])))) rfl fun K hK => ?_
  have hJ : K ⟨ofL [(0, .d (.sh 1 fm.length (rows lS fm))), (4, .pt (4, 0) [] 0), (5, .pt (5, 0) [] 0), (6, .pt (6, 0) [] 0), (8, .pt (8, 0) [] 0), (11, .pt (11, 0) [] 0), (12, .pt (12, 0) [] 0), (17, .pt (17, 0) [] 0), (18, .int H), (19, .int q), (151, .bool (!decide ((((c.tmod lc = 0 ∧ okE E n = true) ∧ (-200 ≤ H ∧ H ≤ 200)) ∧ (q ≠ 0 ∧ -1000000 ≤ q ∧ q ≤ 1000000)) ∧ ¬ O.length = 600)))], ofRO [((4, 0), some (.bx (qS f))), ((5, 0), some (.bx (qS g))), ((6, 0), some (.bx [D.int 0, .v (.slice none 0 0)])), ((8, 0), some (.bx [D.int n, .mp es])), ((11, 0), some (.bx [D.int n, .mp eo])), ((12, 0), some (.bx [shI le, D.int lh, D.int lc])), ((17, 0), some (.bx [D.int e0, D.int e1, D.int e2, D.int e3, D.int e4, D.int e5, D.int e6, D.int e7]))]⟩ := by
    refine hK _ ?_; clear hK K
    exact hJ0
  clear hK
  by_cases g1 : c.tmod lc = 0
  · by_cases g2 : okE E n = true
    · by_cases g2h : (-200 ≤ H ∧ H ≤ 200)
      · by_cases g3 : (q ≠ 0 ∧ -1000000 ≤ q ∧ q ≤ 1000000)
        · refine opsI_seg fun L hL => ?_
          simp [C.impl_DivideQSums, qS, hgc0, hn, show ((n : Int) ≤ 8) by omega, hv, Nat.min_eq_left hv, hsh, hEl, heol, g1, g2, g2h, g3]
          refine wcall1 (impl_expOk_calls E n (by omega)) (by simp [qS, hgc0, hn, show ((n : Int) ≤ 8) by omega, hv, Nat.min_eq_left hv, hsh, hEl, heol]) (by simp) ?_
          simp [C.impl_DivideQSums, qS, hgc0, hn, show ((n : Int) ≤ 8) by omega, hv, Nat.min_eq_left hv, hsh, hEl, heol, g1, g2, g2h, g3]
          refine hL _ ?_; clear hL L
          refine opsI_seg fun L hL => ?_
          simp [C.impl_DivideQSums, qS, hgc0, hn, show ((n : Int) ≤ 8) by omega, hv, Nat.min_eq_left hv, hsh, hEl, heol, g1, g2, g2h, g3]
          refine wcall1 (impl_within_calls H (-200) 200) (by simp) (by simp) ?_
          simp [C.impl_DivideQSums, qS, hgc0, hn, show ((n : Int) ≤ 8) by omega, hv, Nat.min_eq_left hv, hsh, hEl, heol, g1, g2, g2h, g3]
          refine hL _ ?_; clear hL L
          refine opsI_seg fun L hL => ?_
          simp [C.impl_DivideQSums, qS, hgc0, hn, show ((n : Int) ≤ 8) by omega, hv, Nat.min_eq_left hv, hsh, hEl, heol, g1, g2, g2h, g3]
          refine wcall1 (impl_coefOk_calls q) (by simp) (by simp) ?_
          simp [C.impl_DivideQSums, qS, hgc0, hn, show ((n : Int) ≤ 8) by omega, hv, Nat.min_eq_left hv, hsh, hEl, heol, g1, g2, g2h, g3]
          refine hL _ ?_; clear hL L
          refine opsI_end fun L hL => ?_
          simp [C.impl_DivideQSums, qS, hgc0, hn, show ((n : Int) ≤ 8) by omega, hv, Nat.min_eq_left hv, hsh, hEl, heol, g1, g2, g2h, g3]
          refine hL _ ?_; clear hL L
          simp [C.impl_DivideQSums, qS, hgc0, hn, show ((n : Int) ≤ 8) by omega, hv, Nat.min_eq_left hv, hsh, hEl, heol, g1, g2, g2h, g3]
          refine cast (congrArg K ?_) hJ
          simp [ieq600, hn, qS, g1, g2, g2h, g3]
        · refine opsI_seg fun L hL => ?_
          simp [C.impl_DivideQSums, qS, hgc0, hn, show ((n : Int) ≤ 8) by omega, hv, Nat.min_eq_left hv, hsh, hEl, heol, g1, g2, g2h, g3]
          refine wcall1 (impl_expOk_calls E n (by omega)) (by simp [qS, hgc0, hn, show ((n : Int) ≤ 8) by omega, hv, Nat.min_eq_left hv, hsh, hEl, heol]) (by simp) ?_
          simp [C.impl_DivideQSums, qS, hgc0, hn, show ((n : Int) ≤ 8) by omega, hv, Nat.min_eq_left hv, hsh, hEl, heol, g1, g2, g2h, g3]
          refine hL _ ?_; clear hL L
          refine opsI_seg fun L hL => ?_
          simp [C.impl_DivideQSums, qS, hgc0, hn, show ((n : Int) ≤ 8) by omega, hv, Nat.min_eq_left hv, hsh, hEl, heol, g1, g2, g2h, g3]
          refine wcall1 (impl_within_calls H (-200) 200) (by simp) (by simp) ?_
          simp [C.impl_DivideQSums, qS, hgc0, hn, show ((n : Int) ≤ 8) by omega, hv, Nat.min_eq_left hv, hsh, hEl, heol, g1, g2, g2h, g3]
          refine hL _ ?_; clear hL L
          refine opsI_seg fun L hL => ?_
          simp [C.impl_DivideQSums, qS, hgc0, hn, show ((n : Int) ≤ 8) by omega, hv, Nat.min_eq_left hv, hsh, hEl, heol, g1, g2, g2h, g3]
          refine wcall1 (impl_coefOk_calls q) (by simp) (by simp) ?_
          simp [C.impl_DivideQSums, qS, hgc0, hn, show ((n : Int) ≤ 8) by omega, hv, Nat.min_eq_left hv, hsh, hEl, heol, g1, g2, g2h, g3]
          refine hL _ ?_; clear hL L
          refine opsI_end fun L hL => ?_
          simp [C.impl_DivideQSums, qS, hgc0, hn, show ((n : Int) ≤ 8) by omega, hv, Nat.min_eq_left hv, hsh, hEl, heol, g1, g2, g2h, g3]
          refine hL _ ?_; clear hL L
          simp [C.impl_DivideQSums, qS, hgc0, hn, show ((n : Int) ≤ 8) by omega, hv, Nat.min_eq_left hv, hsh, hEl, heol, g1, g2, g2h, g3]
          refine cast (congrArg K ?_) hJ
          simp [ieq600, hn, qS, g1, g2, g2h, g3]
      · refine opsI_seg fun L hL => ?_
        simp [C.impl_DivideQSums, qS, hgc0, hn, show ((n : Int) ≤ 8) by omega, hv, Nat.min_eq_left hv, hsh, hEl, heol, g1, g2, g2h]
        refine wcall1 (impl_expOk_calls E n (by omega)) (by simp [qS, hgc0, hn, show ((n : Int) ≤ 8) by omega, hv, Nat.min_eq_left hv, hsh, hEl, heol]) (by simp) ?_
        simp [C.impl_DivideQSums, qS, hgc0, hn, show ((n : Int) ≤ 8) by omega, hv, Nat.min_eq_left hv, hsh, hEl, heol, g1, g2, g2h]
        refine hL _ ?_; clear hL L
        refine opsI_seg fun L hL => ?_
        simp [C.impl_DivideQSums, qS, hgc0, hn, show ((n : Int) ≤ 8) by omega, hv, Nat.min_eq_left hv, hsh, hEl, heol, g1, g2, g2h]
        refine wcall1 (impl_within_calls H (-200) 200) (by simp) (by simp) ?_
        simp [C.impl_DivideQSums, qS, hgc0, hn, show ((n : Int) ≤ 8) by omega, hv, Nat.min_eq_left hv, hsh, hEl, heol, g1, g2, g2h]
        refine hL _ ?_; clear hL L
        refine opsI_seg fun L hL => ?_
        simp [C.impl_DivideQSums, qS, hgc0, hn, show ((n : Int) ≤ 8) by omega, hv, Nat.min_eq_left hv, hsh, hEl, heol, g1, g2, g2h]
        refine hL _ ?_; clear hL L
        refine opsI_end fun L hL => ?_
        simp [C.impl_DivideQSums, qS, hgc0, hn, show ((n : Int) ≤ 8) by omega, hv, Nat.min_eq_left hv, hsh, hEl, heol, g1, g2, g2h]
        refine hL _ ?_; clear hL L
        simp [C.impl_DivideQSums, qS, hgc0, hn, show ((n : Int) ≤ 8) by omega, hv, Nat.min_eq_left hv, hsh, hEl, heol, g1, g2, g2h]
        refine cast (congrArg K ?_) hJ
        simp [ieq600, hn, qS, g1, g2, g2h]
    · refine opsI_seg fun L hL => ?_
      simp [C.impl_DivideQSums, qS, hgc0, hn, show ((n : Int) ≤ 8) by omega, hv, Nat.min_eq_left hv, hsh, hEl, heol, g1, g2]
      refine wcall1 (impl_expOk_calls E n (by omega)) (by simp [qS, hgc0, hn, show ((n : Int) ≤ 8) by omega, hv, Nat.min_eq_left hv, hsh, hEl, heol]) (by simp) ?_
      simp [C.impl_DivideQSums, qS, hgc0, hn, show ((n : Int) ≤ 8) by omega, hv, Nat.min_eq_left hv, hsh, hEl, heol, g1, g2]
      refine hL _ ?_; clear hL L
      refine opsI_seg fun L hL => ?_
      simp [C.impl_DivideQSums, qS, hgc0, hn, show ((n : Int) ≤ 8) by omega, hv, Nat.min_eq_left hv, hsh, hEl, heol, g1, g2]
      refine hL _ ?_; clear hL L
      refine opsI_seg fun L hL => ?_
      simp [C.impl_DivideQSums, qS, hgc0, hn, show ((n : Int) ≤ 8) by omega, hv, Nat.min_eq_left hv, hsh, hEl, heol, g1, g2]
      refine hL _ ?_; clear hL L
      refine opsI_end fun L hL => ?_
      simp [C.impl_DivideQSums, qS, hgc0, hn, show ((n : Int) ≤ 8) by omega, hv, Nat.min_eq_left hv, hsh, hEl, heol, g1, g2]
      refine hL _ ?_; clear hL L
      simp [C.impl_DivideQSums, qS, hgc0, hn, show ((n : Int) ≤ 8) by omega, hv, Nat.min_eq_left hv, hsh, hEl, heol, g1, g2]
      refine cast (congrArg K ?_) hJ
      simp [ieq600, hn, qS, g1, g2]
  · refine opsI_seg fun L hL => ?_
    simp [C.impl_DivideQSums, qS, hgc0, hn, show ((n : Int) ≤ 8) by omega, hv, Nat.min_eq_left hv, hsh, hEl, heol, g1]
    refine hL _ ?_; clear hL L
    refine opsI_seg fun L hL => ?_
    simp [C.impl_DivideQSums, qS, hgc0, hn, show ((n : Int) ≤ 8) by omega, hv, Nat.min_eq_left hv, hsh, hEl, heol, g1]
    refine hL _ ?_; clear hL L
    refine opsI_seg fun L hL => ?_
    simp [C.impl_DivideQSums, qS, hgc0, hn, show ((n : Int) ≤ 8) by omega, hv, Nat.min_eq_left hv, hsh, hEl, heol, g1]
    refine hL _ ?_; clear hL L
    refine opsI_end fun L hL => ?_
    simp [C.impl_DivideQSums, qS, hgc0, hn, show ((n : Int) ≤ 8) by omega, hv, Nat.min_eq_left hv, hsh, hEl, heol, g1]
    refine hL _ ?_; clear hL L
    simp [C.impl_DivideQSums, qS, hgc0, hn, show ((n : Int) ≤ 8) by omega, hv, Nat.min_eq_left hv, hsh, hEl, heol, g1]
    refine cast (congrArg K ?_) hJ
    simp [ieq600, hn, qS, g1]

theorem impl_DivideQSums_l4 (fm : List (List Int)) (hok : FormOk fm) (f g : Qsm) (n : Nat) (hnn : fm.length = n) (hn : f.v = n) (hgn : g.v = n) (hv : n ≤ 8) (hg : QRight g) (hgl : g.ts.length ≤ 600) (es : List (List Int × Int)) (l : List (QK × Int)) (eo2 : List (List Int × Int)) (O : List (QK × Int)) (hOl : O.length ≤ 600) (le : List Int) (lh lc : Int) (hLr : LJQ n es l (600000000 + O.length * 600000000000000)) (E : List Int) (hEl : E.length = n) (hE20 : ∀ x ∈ E, -20 ≤ x ∧ x ≤ 20) (e0 e1 e2 e3 e4 e5 e6 e7 q H : Int) (hpe : pad E = [e0, e1, e2, e3, e4, e5, e6, e7]) (hsh : shareL (List.take n [D.v (.int .i64 e0), D.v (.int .i64 e1), D.v (.int .i64 e2), D.v (.int .i64 e3), D.v (.int .i64 e4), D.v (.int .i64 e5), D.v (.int .i64 e6), D.v (.int .i64 e7)]) = ints E) (hbe : ∀ x ∈ [e0, e1, e2, e3, e4, e5, e6, e7], -1000000 ≤ x ∧ x ≤ 1000000) (g2h : -200 ≤ H ∧ H ≤ 200) (g3 : q ≠ 0 ∧ -1000000 ≤ q ∧ q ≤ 1000000) (Q0 : AEx → St → Prop) (hX0 : ∀ es2 l2, LJQ n es2 l2 (600000000 + O.length * 600000000000000 + 600000000000000) → l2.Perm (l ++ negQ fm (E, H) q g.ts) → Q0 (.exit 6) ⟨ofL [(0, .d (.sh 1 fm.length (rows lS fm))), (4, .pt (4, 0) [] 0), (5, .pt (5, 0) [] 0), (6, .pt (6, 0) [] 0), (8, .pt (8, 0) [] 0), (11, .pt (11, 0) [] 0), (12, .pt (12, 0) [] 0), (17, .pt (17, 0) [] 0), (18, .int H), (19, .int q), (160, .d (.sh 3 g.ts.length (rows qtS g.ts))), (161, .int g.ts.length), (162, .int g.ts.length), (163, .bool false)], ofRO [((4, 0), some (.bx (qS f))), ((5, 0), some (.bx (qS g))), ((6, 0), some (.bx [D.int 0, .v (.slice none 0 0)])), ((8, 0), some (.bx [D.int n, .mp es2])), ((11, 0), some (.bx [D.int n, .mp eo2])), ((12, 0), some (.bx [shI le, D.int lh, D.int lc])), ((17, 0), some (.bx [D.int e0, D.int e1, D.int e2, D.int e3, D.int e4, D.int e5, D.int e6, D.int e7]))]⟩) : AWp C.impl_DivideQSums (codeAt Try.f31 [1, 1, 1, 1, 1, 1, 0, 0, 0, 1, 0, 1, 1, 1, 1, 1, 1, 1, 1, 1, 1, 0]) 6 Q0 ⟨ofL [(0, .d (.sh 1 fm.length (rows lS fm))), (4, .pt (4, 0) [] 0), (5, .pt (5, 0) [] 0), (6, .pt (6, 0) [] 0), (8, .pt (8, 0) [] 0), (11, .pt (11, 0) [] 0), (12, .pt (12, 0) [] 0), (17, .pt (17, 0) [] 0), (18, .int H), (19, .int q), (160, .d (.sh 3 g.ts.length (rows qtS g.ts))), (161, .int g.ts.length), (162, .int 0)], ofRO [((4, 0), some (.bx (qS f))), ((5, 0), some (.bx (qS g))), ((6, 0), some (.bx [D.int 0, .v (.slice none 0 0)])), ((8, 0), some (.bx [D.int n, .mp es])), ((11, 0), some (.bx [D.int n, .mp eo2])), ((12, 0), some (.bx [shI le, D.int lh, D.int lc])), ((17, 0), some (.bx [D.int e0, D.int e1, D.int e2, D.int e3, D.int e4, D.int e5, D.int e6, D.int e7]))]⟩ := by
  simp only [codeAt, Try.f31, walkCode]
  refine wloop (fun x : Nat × List (List Int × Int) × List (QK × Int) => ⟨ofL [(0, .d (.sh 1 fm.length (rows lS fm))), (4, .pt (4, 0) [] 0), (5, .pt (5, 0) [] 0), (6, .pt (6, 0) [] 0), (8, .pt (8, 0) [] 0), (11, .pt (11, 0) [] 0), (12, .pt (12, 0) [] 0), (17, .pt (17, 0) [] 0), (18, .int H), (19, .int q), (160, .d (.sh 3 g.ts.length (rows qtS g.ts))), (161, .int g.ts.length), (162, .int x.1)], ofRO [((4, 0), some (.bx (qS f))), ((5, 0), some (.bx (qS g))), ((6, 0), some (.bx [D.int 0, .v (.slice none 0 0)])), ((8, 0), some (.bx [D.int n, .mp x.2.1])), ((11, 0), some (.bx [D.int n, .mp eo2])), ((12, 0), some (.bx [shI le, D.int lh, D.int lc])), ((17, 0), some (.bx [D.int e0, D.int e1, D.int e2, D.int e3, D.int e4, D.int e5, D.int e6, D.int e7]))]⟩) (fun x => x.1 ≤ g.ts.length ∧ LJQ n x.2.1 x.2.2 (600000000 + O.length * 600000000000000 + x.1 * 1000000000000) ∧ x.2.2.Perm (l ++ negQ fm (E, H) q (g.ts.take x.1))) (fun x => g.ts.length - x.1) (0, es, l) (by simp [C.impl_DivideQSums, qS, hn, hgn, hpe]) ⟨by simp, hLr.mono (by dsimp only; omega), by simp [negQ]⟩ ?_
  intro x4 hx4 R4 hR4
  obtain ⟨j, es2, l2⟩ := x4
  obtain ⟨hj, hL2, hP2⟩ := hx4
  dsimp only at hj hL2 hP2 ⊢
  refine wseq ?_
  refine wreg fun K hK => ?_
  simp [C.impl_DivideQSums, qS]
  refine hK _ ?_; clear hK K
  show AWp _ _ _ _ _
  refine wseq ?_
  refine wcond _ rfl (fun hc9 => ?_) (fun hc9 => ?_)
  · have hjg : j < g.ts.length := by have := d_t hc9; omega
    have hU := qright_he hg hgn _ (List.getElem_mem hjg)
    refine wskip ?_
    show AWp _ _ _ _ _
    refine wseq ?_
    refine wblock ?_
    refine wseq ?_
    refine wreg fun K hK => ?_
    simp [C.impl_DivideQSums, qS, hjg, qtS_0 hjg, qtS_1 hjg, qtS_2 hjg]
    refine hK _ ?_; clear hK K
    show AWp _ _ _ _ _
    obtain ⟨u0, u1, u2, u3, u4, u5, u6, u7, hpu⟩ := eight (pad_length (e := g.ts[j].e) (by omega))
    have hbu := pad_bd hU.2.1
    rw [hpu] at hbu
    have hSk : SkOk fm g.ts[j].e E := SkOk.mk' (p := 20) (q := 20) hok ⟨by omega, hU.2.1⟩ ⟨by omega, hE20⟩ (by omega) (by omega)
    have hSb := hSk.bd
    have hpair := impl_paired_calls fm g.ts[j].e E hSk
    have hw1 : IntKind.i64.wrap (g.ts[j].h + H) = g.ts[j].h + H := wrapOk (by omega) (by omega)
    have hw2 : IntKind.i64.wrap (g.ts[j].h + H + skw fm g.ts[j].e E) = g.ts[j].h + H + skw fm g.ts[j].e E := wrapOk (by omega) (by omega)
    have hadd : [e0 + 1 * u0, e1 + 1 * u1, e2 + 1 * u2, e3 + 1 * u3, e4 + 1 * u4, e5 + 1 * u5, e6 + 1 * u6, e7 + 1 * u7, g.ts[j].h + H + skw fm g.ts[j].e E] = kq (qmul fm (E, H) (qk g.ts[j])) := by
      simp only [kq, qmul, qk]
      rw [addE_com _ _ (by omega), ← pad_add (by omega), hpe, hpu]
      simp [addE]
    have hnl : (qmul fm (E, H) (qk g.ts[j])).1.length = n := by simp only [qmul, qk]; rw [addE_length _ _ _ (by omega)]; exact hU.1
    have hcc := mul_bd (x := -q) (y := g.ts[j].c) (by omega) ⟨hU.2.2.2.1, hU.2.2.2.2.1⟩
    have hvj := hL2.val (e := qmul fm (E, H) (qk g.ts[j])) hnl (c := -q * g.ts[j].c) (X := 1000000000000) (by omega) (by omega)
    rw [← hadd] at hvj
    refine wdrawI [(true, 0), (true, 1), (true, 2), (true, 3), (true, 6), (true, 7), (true, 8), (true, 9), (true, 10), (true, 11), (true, 12), (true, 13), (true, 14), (true, 15), (true, 19), (true, 20), (true, 21), (true, 22), (true, 23), (false, 4), (false, 5), (false, 16), (true, 17), (true, 18), (false, 24)] ⟨by kernel_rfl, by kernel_rfl⟩ ([0, 1, 2, 3, 6, 7, 8, 9, 10, 11, 12, 13, 14, 15, 19, 20, 21, 22, 23, 4] ++ ([5] ++ ([16] ++ ([17, 18, 24] ++ ([]))))) rfl fun K hK => ?_
    refine opsI_seg fun L hL => ?_
    simp [C.impl_DivideQSums, qS, qtS, hw1, hw2, hn, hv, Nat.min_eq_left hv, hsh, hEl, show ((n : Int) ≤ 8) by omega, wrapOk (x := -q) (by omega) (by omega), wrapOk (x := -q * g.ts[j].c) (by omega) (by omega)]
    refine wcall1 (impl_keyOf_calls g.ts[j].e (by omega) u0 u1 u2 u3 u4 u5 u6 u7 hpu) (by simp) (by simp) ?_
    simp [C.impl_DivideQSums, qS, qtS, hw1, hw2, hn, hv, Nat.min_eq_left hv, hsh, hEl, show ((n : Int) ≤ 8) by omega, wrapOk (x := -q) (by omega) (by omega), wrapOk (x := -q * g.ts[j].c) (by omega) (by omega)]
    refine hL _ ?_; clear hL L
    refine opsI_seg fun L hL => ?_
    simp [C.impl_DivideQSums, qS, qtS, hw1, hw2, hn, hv, Nat.min_eq_left hv, hsh, hEl, show ((n : Int) ≤ 8) by omega, wrapOk (x := -q) (by omega) (by omega), wrapOk (x := -q * g.ts[j].c) (by omega) (by omega)]
    refine wcall1 (impl_plusExp_calls 1 e0 e1 e2 e3 e4 e5 e6 e7 u0 u1 u2 u3 u4 u5 u6 u7 (by omega) hbe hbu) (by simp) (by simp) ?_
    simp [C.impl_DivideQSums, qS, qtS, hw1, hw2, hn, hv, Nat.min_eq_left hv, hsh, hEl, show ((n : Int) ≤ 8) by omega, wrapOk (x := -q) (by omega) (by omega), wrapOk (x := -q * g.ts[j].c) (by omega) (by omega)]
    refine hL _ ?_; clear hL L
    refine opsI_seg fun L hL => ?_
    simp [C.impl_DivideQSums, qS, qtS, hw1, hw2, hn, hv, Nat.min_eq_left hv, hsh, hEl, show ((n : Int) ≤ 8) by omega, wrapOk (x := -q) (by omega) (by omega), wrapOk (x := -q * g.ts[j].c) (by omega) (by omega)]
    refine wcall1 (hpair) (by simp [qS, qtS, hw1, hw2, hn, hv, Nat.min_eq_left hv, hsh, hEl, show ((n : Int) ≤ 8) by omega, wrapOk (x := -q) (by omega) (by omega), wrapOk (x := -q * g.ts[j].c) (by omega) (by omega)]) (by simp) ?_
    simp [C.impl_DivideQSums, qS, qtS, hw1, hw2, hn, hv, Nat.min_eq_left hv, hsh, hEl, show ((n : Int) ≤ 8) by omega, wrapOk (x := -q) (by omega) (by omega), wrapOk (x := -q * g.ts[j].c) (by omega) (by omega)]
    refine hL _ ?_; clear hL L
    refine opsI_seg fun L hL => ?_
    simp [C.impl_DivideQSums, qS, qtS, hw1, hw2, hn, hv, Nat.min_eq_left hv, hsh, hEl, show ((n : Int) ≤ 8) by omega, wrapOk (x := -q) (by omega) (by omega), wrapOk (x := -q * g.ts[j].c) (by omega) (by omega)]
    refine wcall1 (impl_qbuilding_add_calls n (-q * g.ts[j].c) es2 (e0 + 1 * u0) (e1 + 1 * u1) (e2 + 1 * u2) (e3 + 1 * u3) (e4 + 1 * u4) (e5 + 1 * u5) (e6 + 1 * u6) (e7 + 1 * u7) (g.ts[j].h + H + skw fm g.ts[j].e E) (hL2.map.len9 hv) hvj) (by simp) (by simp) ?_
    simp [C.impl_DivideQSums, qS, qtS, hw1, hw2, hn, hv, Nat.min_eq_left hv, hsh, hEl, show ((n : Int) ≤ 8) by omega, wrapOk (x := -q) (by omega) (by omega), wrapOk (x := -q * g.ts[j].c) (by omega) (by omega)]
    refine hL _ ?_; clear hL L
    refine opsI_end fun L hL => ?_
    simp only [AOpsI]
    refine hL _ ?_; clear hL L
    simp [C.impl_DivideQSums, qS, qtS, hw1, hw2, hn, hv, Nat.min_eq_left hv, hsh, hEl, show ((n : Int) ≤ 8) by omega, wrapOk (x := -q) (by omega) (by omega), wrapOk (x := -q * g.ts[j].c) (by omega) (by omega)]
    simp only [Int.one_mul] at hadd
    rw [hadd]
    refine hK _ ?_; clear hK K
    show AWp _ _ _ _ _
    refine wreg fun K hK => ?_
    simp [C.impl_DivideQSums, qS, wrap_succ (show j < 4611686018427387904 by omega)]
    refine hK _ ?_; clear hK K
    simp [C.impl_DivideQSums, qS]
    refine cast (congrArg R4 ?_) (hR4 (j + 1, madd es2 (kq (qmul fm (E, H) (qk g.ts[j]))) (-q * g.ts[j].c), (qmul fm (E, H) (qk g.ts[j]), -q * g.ts[j].c) :: l2) ⟨hjg, ?_, ?_⟩ (by dsimp only; omega))
    · simp [qS, hn, hgn]
    · have := hL2.add (e := qmul fm (E, H) (qk g.ts[j])) hnl (c := -q * g.ts[j].c) (X := 1000000000000) (by omega)
      exact this.mono (by dsimp only; omega)
    · dsimp only
      rw [negQ_step hjg, ← List.append_assoc]
      exact (List.Perm.cons _ hP2).trans (List.perm_append_singleton _ _).symm
  · have hjg : j = g.ts.length := by have := d_f hc9; omega
    rw [hjg, List.take_length] at hP2
    refine wexit ?_
    refine cast (congrArg (Q0 (.exit 6)) ?_) (hX0 es2 l2 (hL2.mono (by omega)) hP2)
    simp [qS, hn, hgn, hjg]

theorem impl_DivideQSums_calls (fm : List (List Int)) (f g : Qsm) (h0 : fm.length < 4611686018427387904) (hI : I64 fm) (hx : f.ts.length < 4611686018427387904) (hxe : ∀ t ∈ f.ts, t.e.length < 4611686018427387904) (hy : g.ts.length < 4611686018427387904) (hye : ∀ t ∈ g.ts, t.e.length < 4611686018427387904) : ACalls Try.prog F.impl_DivideQSums [.d (.sh 1 fm.length (rows lS fm)), aQ f, aQ g] [] true (fun outs res => outs = [] ∧ WkRs res [.ag (qO (divQF fm f g).1), .one (D.bool (divQF fm f g).2)]) := by
  have hcall := impl_multipliable_calls fm f g h0 hI hx hxe hy hye
  generalize hB : decide (FormOk fm ∧ QRight f ∧ QRight g ∧ f.v = fm.length ∧ g.v = fm.length) = B at hcall
  refine ACalls.of_body (C := C.impl_DivideQSums) (n := Try.f31.ntmps) tabT folT Try.func31 rfl (by kernel_rfl) rfl (Nat.le_of_ble_eq_true rfl) (by decide) (by kernel_rfl) (by kernel_rfl) rfl (by simp) (by simp) ?_
  simp only [Try.f31]
  refine wseq ?_
  refine wreg fun K hK => ?_
  simp [C.impl_DivideQSums, qS]
  refine hK _ ?_; clear hK K
  show AWp _ _ _ _ _
  refine wseq ?_
  refine wseq ?_
  refine wregI ([0, 1, 2, 3] ++ ([4, 5, 6, 7, 8, 9, 10])) rfl fun K hK => ?_
  have hJ : K ⟨ofL [(0, .d (.sh 1 fm.length (rows lS fm))), (4, .pt (4, 0) [] 0), (5, .pt (5, 0) [] 0), (6, .pt (6, 0) [] 0), (32, .bool (!(B && !decide (g.ts = []))))], ofRO [((4, 0), some (.bx (qS f))), ((5, 0), some (.bx (qS g))), ((6, 0), some (.bx [D.int 0, .v (.slice none 0 0)]))]⟩ := by
    refine hK _ ?_; clear hK K
    show AWp _ _ _ _ _
    refine wcond _ rfl (fun hc1 => ?_) (fun hc1 => ?_)
    · have hr : ¬ QFit fm f g := by
        rintro ⟨h1, h2⟩
        rw [← hB, decide_eq_true h1] at hc1
        simp [h2] at hc1
      have hm : divQF fm f g = (zeroQ, false) := if_neg hr
      refine wseq ?_
      refine wreg fun K hK => ?_
      simp [C.impl_DivideQSums, qS]
      refine hK _ ?_; clear hK K
      show AWp _ _ _ _ _
      refine wret ?_
      simp [C.impl_DivideQSums, qS, hm, qO, zeroQ, rows]
    · have hr : (FormOk fm ∧ QRight f ∧ QRight g ∧ f.v = fm.length ∧ g.v = fm.length) ∧ g.ts ≠ [] := by
        rw [← hB] at hc1
        simpa using hc1
      have hm := divQF_some hr.1 hr.2
      obtain ⟨⟨hok, hf, hg, hn, hgn⟩, hgne⟩ := hr
      obtain ⟨n, hnn⟩ : ∃ n : Nat, fm.length = n := ⟨_, rfl⟩
      rw [hnn] at hn hgn hm
      have hv0 := hf.1
      have hv : n ≤ 8 := by omega
      have hfl := hf.2.1
      have hgl := hg.2.1
      have he := qright_he hf hn
      have heg := qright_he hg hgn
      have hG0 : 0 < g.ts.length := List.length_pos_iff.2 hgne
      obtain ⟨hl1, hl2⟩ := leadQ_get hG0
      have hgle := heg _ (List.getElem_mem hG0)
      generalize hlq : leadQ g = lk at hl1
      obtain ⟨le, lh⟩ := lk
      generalize hlc : leadQC g = lc at hl2
      have hl1e : g.ts[0].e = le := congrArg Prod.fst hl1
      have hl1h : g.ts[0].h = lh := congrArg Prod.snd hl1
      rw [hl1e, hl1h, hl2] at hgle
      obtain ⟨hgle1, hgle2, hgle3, hgle4, hgle6, hgle5⟩ := hgle
      obtain ⟨b0, b1, b2, b3, b4, b5, b6, b7, hpb⟩ := eight (pad_length (e := le) (by omega))
      have hbb := pad_bd hgle2
      rw [hpb] at hbb
      refine wskip ?_
      show AWp _ _ _ _ _
      refine wseq ?_
      refine wregI ([0, 1, 2] ++ ([3])) rfl fun K hK => ?_
      refine opsI_seg fun L hL => ?_
      simp [C.impl_DivideQSums, qS, hn]
      refine wcall1 (impl_newQBuilding_calls n) (by simp) (by simp) ?_
      simp [C.impl_DivideQSums, qS, hn]
      refine hL _ ?_; clear hL L
      refine opsI_end fun L hL => ?_
      simp [C.impl_DivideQSums, qS, hn]
      refine hL _ ?_; clear hL L
      simp [C.impl_DivideQSums, qS, hn]
      refine hK _ ?_; clear hK K
      show AWp _ _ _ _ _
      refine wseq ?_
      refine wseq ?_
      refine wreg fun K hK => ?_
      simp [C.impl_DivideQSums, qS]
      refine hK _ ?_; clear hK K
      show AWp _ _ _ _ _
      refine wblock ?_
      refine wcode (c' := codeAt Try.f31 [1, 1, 1, 0, 1, 0]) (by kernel_rfl) ?_
      refine wst (σ2 := ⟨ofL [(0, .d (.sh 1 fm.length (rows lS fm))), (4, .pt (4, 0) [] 0), (5, .pt (5, 0) [] 0), (6, .pt (6, 0) [] 0), (8, .pt (8, 0) [] 0), (38, .d (.sh 3 f.ts.length (rows qtS f.ts))), (39, .int f.ts.length), (40, .int 0)], ofRO [((4, 0), some (.bx (qS f))), ((5, 0), some (.bx (qS g))), ((6, 0), some (.bx [D.int 0, .v (.slice none 0 0)])), ((8, 0), some (.bx [D.int n, .mp []]))]⟩) (by simp [qS, hn]) ?_
      refine impl_DivideQSums_l1 fm f g n hn hv hf hfl _ ?_
      intro es l hLJ hall
      have hnf0 : nf qlt l = f.ts.map qp :=
        (nf_unique qOrd (qp_desc hf) (qp_nz hf) fun k => (co_perm k hall).symm).symm
      show AWp _ _ _ _ _
      refine wseq ?_
      refine wregI ([0, 1, 2] ++ ([3])) rfl fun K hK => ?_
      refine opsI_seg fun L hL => ?_
      simp [C.impl_DivideQSums, qS, hn]
      refine wcall1 (impl_newQBuilding_calls n) (by simp) (by simp) ?_
      simp [C.impl_DivideQSums, qS, hn]
      refine hL _ ?_; clear hL L
      refine opsI_end fun L hL => ?_
      simp [C.impl_DivideQSums, qS, hn]
      refine hL _ ?_; clear hL L
      simp [C.impl_DivideQSums, qS, hn]
      refine hK _ ?_; clear hK K
      show AWp _ _ _ _ _
      refine wseq ?_
      refine wreg fun K hK => ?_
      simp [C.impl_DivideQSums, qS, hG0, qtS_0 hG0, qtS_1 hG0, qtS_2 hG0, hl1e, hl1h, hl2]
      refine hK _ ?_; clear hK K
      show AWp _ _ _ _ _
      refine wseq ?_
      refine wblock ?_
      refine wloop (fun x : (List (List Int × Int) × List (QK × Int)) × (List (List Int × Int) × List (QK × Int)) × List (QK × Int) => ⟨ofL [(0, .d (.sh 1 fm.length (rows lS fm))), (4, .pt (4, 0) [] 0), (5, .pt (5, 0) [] 0), (6, .pt (6, 0) [] 0), (8, .pt (8, 0) [] 0), (11, .pt (11, 0) [] 0), (12, .pt (12, 0) [] 0)], ofRO [((4, 0), some (.bx (qS f))), ((5, 0), some (.bx (qS g))), ((6, 0), some (.bx [D.int 0, .v (.slice none 0 0)])), ((8, 0), some (.bx [D.int n, .mp x.1.1])), ((11, 0), some (.bx [D.int n, .mp x.2.1.1])), ((12, 0), some (.bx [shI le, D.int lh, D.int lc]))]⟩) (fun x => LJQ n x.1.1 x.1.2 (600000000 + x.2.2.length * 600000000000000) ∧ LJQ n x.2.1.1 x.2.1.2 (x.2.2.length * 1000000) ∧ x.2.1.2.Perm x.2.2 ∧ DivJQ fm chkIQ f g n (nf qlt x.1.2) x.2.2 ∧ DivOQ fm g n (nf qlt x.1.2) x.2.2) (fun x => 600 - x.2.2.length) ((es, l), ([], []), []) (by simp [C.impl_DivideQSums, qS, hn]) ⟨hLJ.mono (by dsimp only [List.length_nil]; omega), ⟨MapQ.nil n, by simp, by simp [absKK]⟩, by simp, by dsimp only; rw [hnf0]; exact DivJQ.start _ _ hf hn, ⟨List.Pairwise.nil, by simp [Nz], by simp, by simp⟩⟩ ?_
      intro x2 hx2 R2 hR2
      obtain ⟨⟨es, l⟩, ⟨eo, lo⟩, O⟩ := x2
      obtain ⟨hLr, hLo, hPo, hJ1, hJ2⟩ := hx2
      dsimp only at hLr hLo hPo hJ1 hJ2 ⊢
      have hOl := hJ1.ol
      have helen := unpadQ_len hLr.map hv hLr.len
      have hnfo : nf qlt lo = O := by
        rw [← hJ2.nf]
        exact nf_unique qOrd (nf_desc qOrd _) (nf_nz _) fun k => by rw [nf_co, co_perm k hPo]
      have heol : eo.length = O.length := by
        have h1 := unpadQ_len hLo.map hv hLo.len
        rw [hnfo] at h1
        exact h1.symm
      refine wseq ?_
      refine wseq ?_
      refine wreg fun K hK => ?_
      simp [C.impl_DivideQSums, qS]
      refine hK _ ?_; clear hK K
      show AWp _ _ _ _ _
      refine wcond _ rfl (fun hc3 => ?_) (fun hc3 => ?_)
      · have hes : 0 < es.length := by have := d_t hc3; omega
        obtain ⟨⟨⟨a, ah⟩, c⟩, R', hR⟩ : ∃ y R', nf qlt l = y :: R' := by
          cases hh : nf qlt l with
          | nil => rw [hh] at helen; simp at helen; omega
          | cons y R' => exact ⟨y, R', rfl⟩
        rw [hR] at hJ1 hJ2
        refine wskip ?_
        show AWp _ _ _ _ _
        refine wblock ?_
        refine wseq ?_
        refine wreg fun K hK => ?_
        simp [C.impl_DivideQSums, qS]
        refine hK _ ?_; clear hK K
        show AWp _ _ _ _ _
        refine wseq ?_
        refine wreg fun K hK => ?_
        simp [C.impl_DivideQSums, qS]
        refine hK _ ?_; clear hK K
        show AWp _ _ _ _ _
        refine wseq ?_
        refine wseq ?_
        refine wreg fun K hK => ?_
        simp [C.impl_DivideQSums, qS]
        refine hK _ ?_; clear hK K
        show AWp _ _ _ _ _
        refine wblock ?_
        refine wcode (c' := codeAt Try.f31 [1, 1, 1, 1, 1, 1, 0, 0, 0, 1, 0, 1, 1, 0, 1, 0]) (by kernel_rfl) ?_
        refine impl_DivideQSums_l3 fm f g n hn es eo le lh lc (hLr.map.len9 hv) _ ?_
        intro P top cur hqe hT
        have hPne : P ≠ [] := by intro e; rw [e] at hqe; have := hqe.length_eq; simp at this; omega
        obtain ⟨htop, hget⟩ := top_headQ hLr.map hv hLr.len hqe hT hR
        have ha := hJ1.rl ((a, ah), c) (by simp)
        obtain ⟨⟨hal, ha60⟩, hah⟩ := ha
        dsimp only at hal ha60 hah
        obtain ⟨a0, a1, a2, a3, a4, a5, a6, a7, hpa⟩ := eight (pad_length (e := a) (by omega))
        have hba := pad_bd60 (B := 60) (by omega) (by omega) ha60
        rw [hpa] at hba
        have hkt : kq (a, ah) = [a0, a1, a2, a3, a4, a5, a6, a7, ah] := by
          simp only [kq, hpa]
          rfl
        rw [hkt] at htop
        subst htop
        have hcb : -1000000000000000000 ≤ c ∧ c ≤ 1000000000000000000 := by
          have h1 := hJ1.ra
          simp only [absQK, List.map_cons, List.sum_cons] at h1
          omega
        have hEl : (addE (-1) a le).length = n := by rw [addE_length _ _ _ (by omega)]; exact hal
        have hE80 := addE_bd (B := 60) (C := 20) (k := -1) (.inr rfl) (hal.trans hgle1.symm) ha60 hgle2
        have hpe0 : [a0 + -1 * b0, a1 + -1 * b1, a2 + -1 * b2, a3 + -1 * b3, a4 + -1 * b4, a5 + -1 * b5, a6 + -1 * b6, a7 + -1 * b7] = pad (addE (-1) a le) := by
          rw [← pad_add (by omega), hpa, hpb]
          simp [addE]
        show AWp _ _ _ _ _
        refine wseq ?_
        refine wdraw (.take 0 (.take 1 (.take 2 (.take 3 (.take 4 (.take 5 (.take 6 (.done)))))))) ⟨by kernel_rfl, by kernel_rfl⟩ fun K hK => ?_
        simp [C.impl_DivideQSums, qS, hget, hLr.map.len9 hv]
        refine hK _ ?_; clear hK K
        show AWp _ _ _ _ _
        refine wseq ?_
        refine wcode (c' := codeAt Try.f31 [1, 1, 1, 1, 1, 1, 0, 0, 0, 1, 0, 1, 1, 1, 1, 0]) (by kernel_rfl) ?_
        refine impl_DivideQSums_r24 fm f g n es eo le lh lc a0 a1 a2 a3 a4 a5 a6 a7 b0 b1 b2 b3 b4 b5 b6 b7 ah c (by omega) hpb hba hbb _ _ ?_
        show AWp _ _ _ _ _
        refine wseq ?_
        obtain ⟨e0, e1, e2, e3, e4, e5, e6, e7, hpe⟩ := eight (pad_length (e := addE (-1) a le) (by omega))
        rw [hpe] at hpe0
        simp only [List.cons.injEq, and_true] at hpe0
        obtain ⟨k0, k1, k2, k3, k4, k5, k6, k7⟩ := hpe0
        simp only [k0, k1, k2, k3, k4, k5, k6, k7]
        have hqb : -1000000000000000000 ≤ c.tdiv lc ∧ c.tdiv lc ≤ 1000000000000000000 := by
          have h1 : (c.tdiv lc).natAbs ≤ c.natAbs := by
            rw [Int.natAbs_tdiv]
            exact Nat.div_le_self _ _
          omega
        generalize hQ : c.tdiv lc = q at hqb
        have htkE : List.take n [e0, e1, e2, e3, e4, e5, e6, e7] = addE (-1) a le := by
          rw [← hpe]
          have := pad_take (e := addE (-1) a le)
          rwa [hEl] at this
        have hsh := sh8 n e0 e1 e2 e3 e4 e5 e6 e7
        rw [htkE] at hsh
        have hSk : SkOk fm le (addE (-1) a le) := SkOk.mk' (p := 20) (q := 80) hok ⟨by omega, hgle2⟩ ⟨by omega, fun z hz => by have := hE80 z hz; omega⟩ (by omega) (by omega)
        have hSb := hSk.bd
        have hpair := impl_paired_calls fm le (addE (-1) a le) hSk
        obtain ⟨H, hH⟩ : ∃ H, H = ah - lh - skw fm le (addE (-1) a le) := ⟨_, rfl⟩
        have hw1 : IntKind.i64.wrap (ah - lh) = ah - lh := wrapOk (by omega) (by omega)
        have hw2 : IntKind.i64.wrap (ah - lh - skw fm le (addE (-1) a le)) = H := by rw [hH]; exact wrapOk (by omega) (by omega)
        have hqd : qdv fm (a, ah) (le, lh) = (addE (-1) a le, H) := by rw [hH]; rfl
        refine wdrawI [(true, 0), (true, 1), (true, 2), (true, 3), (true, 4), (true, 5), (true, 6), (true, 7), (true, 8), (true, 9), (true, 10), (false, 11), (true, 12), (true, 13)] ⟨by kernel_rfl, by kernel_rfl⟩ ([0, 1, 2, 3, 4, 5, 6, 7, 8, 9, 10, 11] ++ ([12, 13])) rfl fun K hK => ?_
        refine opsI_seg fun L hL => ?_
        simp [C.impl_DivideQSums, qS, hw1, hw2, hn, hv, Nat.min_eq_left hv, hsh, show ((n : Int) ≤ 8) by omega, hEl, ints]
        refine wcall1 (hpair) (by simp [qS, hw1, hw2, hn, hv, Nat.min_eq_left hv, hsh, show ((n : Int) ≤ 8) by omega, hEl, ints]) (by simp) ?_
        simp [C.impl_DivideQSums, qS, hw1, hw2, hn, hv, Nat.min_eq_left hv, hsh, show ((n : Int) ≤ 8) by omega, hEl, ints]
        refine hL _ ?_; clear hL L
        refine opsI_end fun L hL => ?_
        simp [C.impl_DivideQSums, qS, hw1, hw2, hn, hv, Nat.min_eq_left hv, hsh, show ((n : Int) ≤ 8) by omega, hEl, ints]
        refine hL _ ?_; clear hL L
        simp [C.impl_DivideQSums, qS, hw1, hw2, hn, hv, Nat.min_eq_left hv, hsh, show ((n : Int) ≤ 8) by omega, hEl, ints]
        refine hK _ ?_; clear hK K
        show AWp _ _ _ _ _
        refine wseq ?_
        refine wreg fun K hK => ?_
        simp [C.impl_DivideQSums, qS, hgle5, hQ, wrapOk (x := q) (by omega) (by omega)]
        refine hK _ ?_; clear hK K
        show AWp _ _ _ _ _
        refine wseq ?_
        refine wseq ?_
        refine wcode (c' := codeAt Try.f31 [1, 1, 1, 1, 1, 1, 0, 0, 0, 1, 0, 1, 1, 1, 1, 1, 1, 1, 0, 0]) (by kernel_rfl) ?_
        refine wst (σ2 := ⟨ofL [(0, .d (.sh 1 fm.length (rows lS fm))), (4, .pt (4, 0) [] 0), (5, .pt (5, 0) [] 0), (6, .pt (6, 0) [] 0), (8, .pt (8, 0) [] 0), (11, .pt (11, 0) [] 0), (12, .pt (12, 0) [] 0), (16, .int c), (17, .pt (17, 0) [] 0), (18, .int H), (19, .int q)], ofRO [((4, 0), some (.bx (qS f))), ((5, 0), some (.bx (qS g))), ((6, 0), some (.bx [D.int 0, .v (.slice none 0 0)])), ((8, 0), some (.bx [D.int n, .mp es])), ((11, 0), some (.bx [D.int n, .mp eo])), ((12, 0), some (.bx [shI le, D.int lh, D.int lc])), ((17, 0), some (.bx [D.int e0, D.int e1, D.int e2, D.int e3, D.int e4, D.int e5, D.int e6, D.int e7]))]⟩) (by simp [qS, hn]) ?_
        refine impl_DivideQSums_r27 fm f g n hn hv es eo O le lh lc (addE (-1) a le) e0 e1 e2 e3 e4 e5 e6 e7 c q H hgle5 hsh hEl heol _ _ ?_
        show AWp _ _ _ _ _
        refine wcond _ rfl (fun hc8 => ?_) (fun hc8 => ?_)
        · have hr := nd_t hc8
          have hfail := hJ1.fail (by
            rcases Classical.em (O.length = 600) with h | h
            · exact .inr h
            · refine .inl fun h2 => hr ⟨?_, h⟩
              dsimp only at h2
              rw [hlq, hlc, hQ, hqd] at h2
              simp only [chkIQ, decide_eq_true_eq] at h2
              exact ⟨⟨⟨h2.1, okE_iff.2 ⟨by omega, h2.2.1⟩⟩, h2.2.2.1⟩, h2.2.2.2⟩)
          refine wseq ?_
          refine wreg fun K hK => ?_
          simp [C.impl_DivideQSums, qS]
          refine hK _ ?_; clear hK K
          show AWp _ _ _ _ _
          refine wret ?_
          simp [C.impl_DivideQSums, qS, hm, hfail, endQd, zeroQ, qO, rows]
        · obtain ⟨⟨⟨⟨g1, g2⟩, g2h⟩, g3⟩, g4⟩ := nd_f hc8
          have hE20 := (okE_iff.1 g2).2
          have hchk : chkIQ (addE (-1) a le, H) q = true := by simp only [chkIQ, decide_eq_true_eq]; exact ⟨hE20, g2h, g3⟩
          have hJ1s := hJ1.step hok hnn hg hgn (by dsimp only; rw [hlc]; exact g1) (by dsimp only; rw [hlq, hlc, hQ, hqd]; exact hchk) (by omega) (by dsimp only; rw [hlq, hqd]; exact hEl) (by dsimp only; rw [hlq, hqd]; exact fun z hz => by have := hE20 z hz; omega) (by dsimp only; rw [hlq, hqd]; exact g2h) (by dsimp only; rw [hlc, hQ]; exact g3.2)
          have hJ2s := hJ2.step hJ1.rd (fun y hy => (hJ1.rl y hy).1.1) hg hgn hgne (by dsimp only; rw [hlc]; exact g1) (by dsimp only; rw [hlc, hQ]; exact g3.1)
          dsimp only at hJ1s hJ2s
          rw [hlq, hlc, hQ, hqd] at hJ1s hJ2s
          have hko : kq (addE (-1) a le, H) = [e0, e1, e2, e3, e4, e5, e6, e7, H] := by
            simp only [kq, hpe]
            rfl
          have hvo := hLo.val (e := (addE (-1) a le, H)) hEl (c := q) (X := 1000000) (by omega) (by omega)
          rw [hko] at hvo
          have hbe := pad_bd hE20
          rw [hpe] at hbe
          refine wskip ?_
          show AWp _ _ _ _ _
          refine wseq ?_
          refine wregI ([0, 1, 2, 3, 4, 5] ++ ([])) rfl fun K hK => ?_
          refine opsI_seg fun L hL => ?_
          simp [C.impl_DivideQSums, qS]
          refine wcall1 (impl_qbuilding_add_calls n q eo e0 e1 e2 e3 e4 e5 e6 e7 H (hLo.map.len9 hv) hvo) (by simp) (by simp) ?_
          simp [C.impl_DivideQSums, qS]
          refine hL _ ?_; clear hL L
          refine opsI_end fun L hL => ?_
          simp only [AOpsI]
          refine hL _ ?_; clear hL L
          simp [C.impl_DivideQSums, qS]
          rw [← hko]
          refine hK _ ?_; clear hK K
          show AWp _ _ _ _ _
          refine wseq ?_
          refine wreg fun K hK => ?_
          simp [C.impl_DivideQSums, qS]
          refine hK _ ?_; clear hK K
          show AWp _ _ _ _ _
          refine wblock ?_
          refine wcode (c' := codeAt Try.f31 [1, 1, 1, 1, 1, 1, 0, 0, 0, 1, 0, 1, 1, 1, 1, 1, 1, 1, 1, 1, 1, 0]) (by kernel_rfl) ?_
          refine impl_DivideQSums_l4 fm hok f g n hnn hn hgn hv hg hgl es l (madd eo (kq (addE (-1) a le, H)) q) O hOl le lh lc hLr (addE (-1) a le) hEl hE20 e0 e1 e2 e3 e4 e5 e6 e7 q H hpe hsh hbe g2h g3 _ ?_
          intro es2 l2 hL2 hP2
          have hnf2 : nf qlt l2 = nf qlt (stepQ fm g ((a, ah), c) R') := step_nfQ hR (by dsimp only; rw [hlq, hlc, hQ, hqd]; exact hP2)
          simp [C.impl_DivideQSums, qS]
          refine cast (congrArg R2 ?_) (hR2 ((es2, l2), (madd eo (kq (addE (-1) a le, H)) q, ((addE (-1) a le, H), q) :: lo), O ++ [((addE (-1) a le, H), q)]) ⟨?_, ?_, ?_, ?_, ?_⟩ (by simp; omega))
          · simp [qS, hn, hgn]
          · exact hL2.mono (by simp; omega)
          · exact (hLo.add (e := (addE (-1) a le, H)) hEl (c := q) (X := 1000000) (by omega)).mono (by simp; omega)
          · exact (List.Perm.cons _ hPo).trans (List.perm_append_singleton _ _).symm
          · dsimp only
            rw [hnf2]
            exact hJ1s
          · dsimp only
            rw [hnf2]
            exact hJ2s
      · have hes : es.length = 0 := by have := d_f hc3; omega
        have hR0 : nf qlt l = [] := List.eq_nil_of_length_eq_zero (by omega)
        rw [hR0] at hJ1 hJ2
        have hdone := hJ1.done
        have hfin : enQ n ((nf qlt lo).map qt) = divQF fm f g := by
          rw [hm, hdone, hnfo]
          rfl
        refine wexit ?_
        show AWp _ _ _ _ _
        refine wseq ?_
        refine wregI ([0, 1] ++ ([2, 3, 4, 5])) rfl fun K hK => ?_
        refine opsI_seg fun L hL => ?_
        simp [C.impl_DivideQSums, qS, hn]
        refine wcall1 (doneOkQ n eo lo hLo.map hLo.len (by omega) hv (by have := hPo.length_eq; omega)) (by simp) (by simp) ?_
        simp [C.impl_DivideQSums, qS, hn]
        refine hL _ ?_; clear hL L
        refine opsI_end fun L hL => ?_
        simp [C.impl_DivideQSums, qS, hn]
        refine hL _ ?_; clear hL L
        simp [C.impl_DivideQSums, qS, hn]
        refine hK _ ?_; clear hK K
        show AWp _ _ _ _ _
        refine wret ?_
        simp [C.impl_DivideQSums, qS, hfin, qO]
  clear hK
  by_cases hb : B = true
  · refine opsI_seg fun L hL => ?_
    simp [C.impl_DivideQSums, qS, hb]
    refine wcall1 (hcall) (by simp) (by simp) ?_
    simp [C.impl_DivideQSums, qS, hb]
    refine hL _ ?_; clear hL L
    refine opsI_end fun L hL => ?_
    simp [C.impl_DivideQSums, qS, hb]
    refine hL _ ?_; clear hL L
    simp [C.impl_DivideQSums, qS, hb]
    refine cast (congrArg K ?_) hJ
    simp [ieq0, qS, hb]
  · refine opsI_seg fun L hL => ?_
    simp [C.impl_DivideQSums, qS, hb]
    refine wcall1 (hcall) (by simp) (by simp) ?_
    simp [C.impl_DivideQSums, qS, hb]
    refine hL _ ?_; clear hL L
    refine opsI_end fun L hL => ?_
    simp [C.impl_DivideQSums, qS, hb]
    refine hL _ ?_; clear hL L
    simp [C.impl_DivideQSums, qS, hb]
    refine cast (congrArg K ?_) hJ
    simp [ieq0, qS, hb]
theorem iDivQ_calls (fm : List (List Int)) (f g : Qsm) (h0 : fm.length < 4611686018427387904) (hI : I64 fm) (hx : f.ts.length < 4611686018427387904) (hxe : ∀ t ∈ f.ts, t.e.length < 4611686018427387904) (hy : g.ts.length < 4611686018427387904) (hye : ∀ t ∈ g.ts, t.e.length < 4611686018427387904) : ACalls Try.prog F.impl_DivideQSums [.d (.sh 1 fm.length (rows lS fm)), aQ f, aQ g] [] true (fun outs res => outs = [] ∧ res = [.ag (qO (divQF fm f g).1), .one (D.bool (divQF fm f g).2)]) := (impl_DivideQSums_calls fm f g h0 hI hx hxe hy hye).weak1

end Go.Proofs.Ytocknokodgnlbaa.Ab
namespace Go.Proofs.Ytocknokodgnlbaa.Ab
open Go
set_option linter.unusedSimpArgs false
set_option linter.unusedVariables false
set_option maxRecDepth 10000
set_option maxHeartbeats 2000000
theorem tT_at {l : List Qtm} {i : Nat} (h : i < l.length) : (l.map tT)[i]'(by simpa using h) = tT l[i] := by simp
theorem spec_l8Bounds_calls (l : List Qtm) (n : Nat) (hn8 : n ≤ 8) (h0 : 0 < l.length) (hl : l.length ≤ 1000000) (he : ∀ t ∈ l, t.e.length = n) : ACalls Try.prog F.spec_l8Bounds [.d (.sh 3 l.length (rows qtS l))] [] true (fun outs res => outs = [] ∧ res = [.one (owI (lowL (l.map tT) n)), .one (owI (highL (l.map tT) n))]) := by
  have h0e := he _ (List.getElem_mem h0)
  have h0' : 0 < (l.map tT).length := by simpa using h0
  have he' : ∀ t ∈ l.map tT, t.e.length = n := fun t ht => by
    obtain ⟨u, hu, rfl⟩ := List.mem_map.1 ht
    exact he u hu
  have hs1 := lowA_start (l.map tT) n h0' he'
  have hs2 := highA_start (l.map tT) n h0' he'
  rw [tT_at h0] at hs1 hs2
  simp only [tT] at hs1 hs2
  refine ACalls.of_body (C := C.spec_l8Bounds) (n := Try.f139.ntmps) tabT folT Try.func139 rfl (by kernel_rfl) rfl (Nat.le_of_ble_eq_true rfl) (by decide) (by kernel_rfl) (by kernel_rfl) rfl (by simp) (by simp) ?_
  simp only [Try.f139]
  refine wseq ?_
  refine wreg fun K hK => ?_
  simp [C.spec_l8Bounds]
  refine hK _ ?_; clear hK K
  show AWp _ _ _ _ _
  refine wseq ?_
  refine wdrawI [(true, 0), (true, 1), (true, 2), (true, 3), (true, 5), (true, 6), (true, 7), (true, 8), (false, 4), (false, 9), (true, 10), (true, 11)] ⟨by kernel_rfl, by kernel_rfl⟩ ([0, 1, 2, 3, 5, 6, 7, 8, 4] ++ ([9] ++ ([10, 11]))) rfl fun K hK => ?_
  refine opsI_seg fun L hL => ?_
  simp [C.spec_l8Bounds, h0, qtS_0 h0]
  refine wcall1 (spec_l1Ints_calls l[0].e (by omega)) (by simp) (by simp) ?_
  simp [C.spec_l8Bounds, h0, qtS_0 h0]
  refine hL _ ?_; clear hL L
  refine opsI_seg fun L hL => ?_
  simp [C.spec_l8Bounds, h0, qtS_0 h0]
  refine wcall1 (spec_l1Ints_calls l[0].e (by omega)) (by simp) (by simp) ?_
  simp [C.spec_l8Bounds, h0, qtS_0 h0]
  refine hL _ ?_; clear hL L
  refine opsI_end fun L hL => ?_
  simp [C.spec_l8Bounds, h0, qtS_0 h0]
  refine hL _ ?_; clear hL L
  simp [C.spec_l8Bounds, h0, qtS_0 h0]
  refine hK _ ?_; clear hK K
  show AWp _ _ _ _ _
  refine wseq ?_
  refine wseq ?_
  refine wreg fun K hK => ?_
  simp [C.spec_l8Bounds]
  refine hK _ ?_; clear hK K
  show AWp _ _ _ _ _
  refine wblock ?_
  refine wloop (fun x : Nat => ⟨ofL [(0, .d (.sh 3 l.length (rows qtS l))), (4, .al (4, 0) [] 0 n), (5, .al (5, 0) [] 0 n), (6, .int x)], ofRO [((4, 0), some (.ow 1 n (ints (lowA (headE (l.map tT)) ((l.map tT).take x) n)))), ((5, 0), some (.ow 1 n (ints (highA (headE (l.map tT)) ((l.map tT).take x) n))))]⟩) (fun x => x ≤ l.length) (fun x => l.length - x) 0 (by simp [C.spec_l8Bounds, hs1, hs2, h0e]) (by simp) ?_
  intro x1 hx1 R1 hR1
  refine wseq ?_
  refine wseq ?_
  refine wreg fun K hK => ?_
  simp [C.spec_l8Bounds]
  refine hK _ ?_; clear hK K
  show AWp _ _ _ _ _
  refine wcond _ rfl (fun hc1 => ?_) (fun hc1 => ?_)
  · have h1 : x1 < l.length := by have := d_t hc1; omega
    have h1e := he _ (List.getElem_mem h1)
    have h1' : x1 < (l.map tT).length := by simpa using h1
    have htk : (l.map tT).take (x1 + 1) = (l.map tT).take x1 ++ [tT l[x1]] := by rw [List.take_succ_eq_append_getElem h1', tT_at h1]
    refine wskip ?_
    show AWp _ _ _ _ _
    refine wseq ?_
    refine wblock ?_
    refine wseq ?_
    refine wreg fun K hK => ?_
    simp [C.spec_l8Bounds]
    refine hK _ ?_; clear hK K
    show AWp _ _ _ _ _
    refine wblock ?_
    refine wloop (fun x : Nat => ⟨ofL [(0, .d (.sh 3 l.length (rows qtS l))), (4, .al (4, 0) [] 0 n), (5, .al (5, 0) [] 0 n), (6, .int x1), (7, .int x)], ofRO [((4, 0), some (.ow 1 n (ints ((lowA (headE (l.map tT)) ((l.map tT).take (x1 + 1)) n).take x ++ (lowA (headE (l.map tT)) ((l.map tT).take x1) n).drop x)))), ((5, 0), some (.ow 1 n (ints ((highA (headE (l.map tT)) ((l.map tT).take (x1 + 1)) n).take x ++ (highA (headE (l.map tT)) ((l.map tT).take x1) n).drop x))))]⟩) (fun x => x ≤ n) (fun x => n - x) 0 (by simp [C.spec_l8Bounds]) (by simp) ?_
    intro x2 hx2 R2 hR2
    refine wseq ?_
    refine wseq ?_
    refine wreg fun K hK => ?_
    simp [C.spec_l8Bounds]
    refine hK _ ?_; clear hK K
    show AWp _ _ _ _ _
    refine wcond _ rfl (fun hc2 => ?_) (fun hc2 => ?_)
    · have h2 : x2 < n := by have := d_t hc2; omega
      have hge : x2 < l[x1].e.length := by omega
      have hset1 : ∃ M : List Int, (lowA (headE (l.map tT)) ((l.map tT).take (x1 + 1)) n).take x2 ++ (lowA (headE (l.map tT)) ((l.map tT).take x1) n).drop x2 = M ∧ M.length = n ∧ ∀ h : x2 < M.length, M.set x2 (min M[x2] l[x1].e[x2]) = (lowA (headE (l.map tT)) ((l.map tT).take (x1 + 1)) n).take (x2 + 1) ++ (lowA (headE (l.map tT)) ((l.map tT).take x1) n).drop (x2 + 1) := by
        refine ⟨_, rfl, by simp; omega, fun h => ?_⟩
        have hg1 := mix_get (lowA (headE (l.map tT)) ((l.map tT).take (x1 + 1)) n) (lowA (headE (l.map tT)) ((l.map tT).take x1) n) x2 (by simpa using h2) (by simp)
        have hset := mix_set (lowA (headE (l.map tT)) ((l.map tT).take (x1 + 1)) n) (lowA (headE (l.map tT)) ((l.map tT).take x1) n) x2 (by simpa using h2) (by simp)
        rw [← hset]
        congr 1
        rw [lowA_get _ _ _ _ h2] at hg1 ⊢
        rw [List.getElem?_eq_getElem h] at hg1
        injection hg1 with hg1
        rw [hg1, htk, minF_snoc]
        simp only [tT]
        rw [getD_eq hge]
      have hset2 : ∃ M : List Int, (highA (headE (l.map tT)) ((l.map tT).take (x1 + 1)) n).take x2 ++ (highA (headE (l.map tT)) ((l.map tT).take x1) n).drop x2 = M ∧ M.length = n ∧ ∀ h : x2 < M.length, M.set x2 (max M[x2] l[x1].e[x2]) = (highA (headE (l.map tT)) ((l.map tT).take (x1 + 1)) n).take (x2 + 1) ++ (highA (headE (l.map tT)) ((l.map tT).take x1) n).drop (x2 + 1) := by
        refine ⟨_, rfl, by simp; omega, fun h => ?_⟩
        have hg1 := mix_get (highA (headE (l.map tT)) ((l.map tT).take (x1 + 1)) n) (highA (headE (l.map tT)) ((l.map tT).take x1) n) x2 (by simpa using h2) (by simp)
        have hset := mix_set (highA (headE (l.map tT)) ((l.map tT).take (x1 + 1)) n) (highA (headE (l.map tT)) ((l.map tT).take x1) n) x2 (by simpa using h2) (by simp)
        rw [← hset]
        congr 1
        rw [highA_get _ _ _ _ h2] at hg1 ⊢
        rw [List.getElem?_eq_getElem h] at hg1
        injection hg1 with hg1
        rw [hg1, htk, maxF_snoc]
        simp only [tT]
        rw [getD_eq hge]
      obtain ⟨M1, m1, m2, m3⟩ := hset1
      obtain ⟨M2, p1, p2, p3⟩ := hset2
      rw [m1, p1]
      have hM1 : x2 < M1.length := by omega
      have hM2 : x2 < M2.length := by omega
      have m4 := m3 hM1
      have p4 := p3 hM2
      refine wskip ?_
      show AWp _ _ _ _ _
      refine wseq ?_
      refine wblock ?_
      refine wseq ?_
      refine wdrawI [(true, 0), (true, 1), (true, 2), (true, 3), (true, 4), (true, 5), (true, 6), (true, 7), (true, 8), (true, 9), (true, 10), (true, 11), (true, 12), (true, 13), (true, 14), (true, 15), (false, 16)] ⟨by kernel_rfl, by kernel_rfl⟩ ([0, 1, 2, 3, 4, 5, 6, 7, 8, 9, 10, 11, 12, 13, 14, 15, 16]) rfl fun K hK => ?_
      refine opsI_end fun L hL => ?_
      simp [C.spec_l8Bounds, h1, qtS_0 h1, h1e, h2, m2, get_ints, hM1, modify_const, ints_set, m4]
      refine hL _ ?_; clear hL L
      simp [C.spec_l8Bounds, h1, qtS_0 h1, h1e, h2, m2, get_ints, hM1, modify_const, ints_set, m4]
      refine hK _ ?_; clear hK K
      show AWp _ _ _ _ _
      refine wdrawI [(true, 0), (true, 1), (true, 2), (true, 3), (true, 4), (true, 5), (true, 6), (true, 7), (true, 8), (true, 9), (true, 10), (true, 11), (true, 12), (true, 13), (true, 14), (true, 15), (false, 16)] ⟨by kernel_rfl, by kernel_rfl⟩ ([0, 1, 2, 3, 4, 5, 6, 7, 8, 9, 10, 11, 12, 13, 14, 15, 16]) rfl fun K hK => ?_
      refine opsI_end fun L hL => ?_
      simp [C.spec_l8Bounds, h1, qtS_0 h1, h1e, h2, p2, get_ints, hM2, modify_const, ints_set, p4]
      refine hL _ ?_; clear hL L
      simp [C.spec_l8Bounds, h1, qtS_0 h1, h1e, h2, p2, get_ints, hM2, modify_const, ints_set, p4]
      refine hK _ ?_; clear hK K
      show AWp _ _ _ _ _
      refine wreg fun K hK => ?_
      simp [C.spec_l8Bounds, wrap_succ (show x2 < 4611686018427387904 by omega)]
      refine hK _ ?_; clear hK K
      simp [C.spec_l8Bounds]
      refine cast (congrArg R2 ?_) (hR2 (x2 + 1) h2 (by omega))
      simp
    · have h2 : x2 = n := by have := d_f hc2; omega
      refine wexit ?_
      show AWp _ _ _ _ _
      refine wreg fun K hK => ?_
      simp [C.spec_l8Bounds, wrap_succ (show x1 < 4611686018427387904 by omega)]
      refine hK _ ?_; clear hK K
      simp [C.spec_l8Bounds]
      refine cast (congrArg R1 ?_) (hR1 (x1 + 1) h1 (by omega))
      simp [h2, List.take_of_length_le, List.drop_of_length_le]
  · have h1 : x1 = l.length := by have := d_f hc1; omega
    refine wexit ?_
    show AWp _ _ _ _ _
    refine wseq ?_
    refine wreg fun K hK => ?_
    simp [C.spec_l8Bounds]
    refine hK _ ?_; clear hK K
    show AWp _ _ _ _ _
    refine wret ?_
    simp [C.spec_l8Bounds, h1, lowL, highL, show (l.map tT).take l.length = l.map tT from List.take_of_length_le (by simp)]

end Go.Proofs.Ytocknokodgnlbaa.Ab
namespace Go.Proofs.Ytocknokodgnlbaa.Ab
open Go
set_option linter.unusedSimpArgs false
set_option linter.unusedVariables false
set_option maxRecDepth 10000
set_option maxHeartbeats 2000000
def resQ : Option (List (QK × Int)) → List RV
  | some O => [.one (.ow 3 O.length (rows qtS (O.map qt))), .one (D.bool true)]
  | none => [.one (.v (.slice none 0 0)), .one (D.bool false)]
theorem shareL_app : ∀ a b : List D, shareL (a ++ b) = shareL a ++ shareL b
  | [], _ => rfl
  | x :: a, b => by simp only [List.cons_append, shareL, shareL_app a b]
def ngT (t : Qtm) : Qtm := ⟨t.e, t.h, -t.c⟩
theorem absQ_qt (l : List (QK × Int)) : absQ (l.map qt) = absK l := by
  simp only [absQ, absK, List.map_map]
  rfl
theorem absQ_qp (l : List Qtm) : absQ l = absK (l.map qp) := by
  simp only [absQ, absK, List.map_map]
  rfl
theorem absQ_ga (l : List Qtm) : absQ (gaQ l) ≤ absQ l := by
  unfold gaQ
  rw [absQ_qt, absQ_qp]
  exact (nf_abs _).1
theorem absQ_ng (l : List Qtm) : absQ (l.map ngT) = absQ l := by
  simp only [absQ, List.map_map]
  congr 1
  refine List.map_congr_left fun t _ => ?_
  simp [ngT]
theorem qtO_solid2 : ∀ l : List Qtm, solidL (rows qtO l)
  | [] => trivial
  | t :: l => by
    simp only [rows, qtO, List.cons_append, List.nil_append, solidL]
    exact ⟨rfl, rfl, rfl, qtO_solid2 l⟩
theorem coQ_abs (k : QK) : ∀ l : List Qtm, (co k (l.map qp)).natAbs ≤ absQ l
  | [] => by simp [co, absQ]
  | x :: l => by
    have := coQ_abs k l
    simp only [List.map_cons, co, absQ, List.sum_cons] at this ⊢
    have e : (qp x).2 = x.c := rfl
    rw [e]
    split <;> omega
theorem co_at2 {lt : QK → QK → Bool} (ho : Ord lt) : ∀ {l : List (QK × Int)}, Desc lt l → ∀ x ∈ l, co x.1 l = x.2 := fun hd x hx => co_single ho hd hx
theorem gaQ_c {l : List Qtm} {t : Qtm} (h : t ∈ gaQ l) : t.c.natAbs ≤ absQ l := by
  unfold gaQ at h
  obtain ⟨x, hx, rfl⟩ := List.mem_map.1 h
  have h1 := co_at2 qOrd (nf_desc qOrd _) x hx
  rw [nf_co] at h1
  have h2 := coQ_abs x.1 l
  simp only [qt]
  omega
theorem ng_step (P : List Qtm) (x : Nat) (h : x < P.length) : ∃ M : List Qtm, (P.map ngT).take x ++ P.drop x = M ∧ M.length = P.length ∧ (∀ h' : x < M.length, M[x] = P[x]) ∧ M.set x (ngT P[x]) = (P.map ngT).take (x + 1) ++ P.drop (x + 1) := by
  refine ⟨_, rfl, by simp; omega, fun h' => ?_, ?_⟩
  · have := mix_get (P.map ngT) P x h (by simp)
    rw [List.getElem?_eq_getElem h'] at this
    injection this
  · have := mix_set (P.map ngT) P x (by simpa using h) (by simp)
    rw [List.getElem_map] at this
    exact this
theorem spec_l8Divide_calls (fm : List (List Int)) (f g : Qsm) (hok : FormOk fm) (hf : QRight f) (hg : QRight g) (hn : f.v = fm.length) (hgn : g.v = fm.length) (hgne : g.ts ≠ []) : ACalls Try.prog F.spec_l8Divide [.d (.sh 1 fm.length (rows lS fm)), .d (.sh 3 g.ts.length (rows qtS g.ts)), .d (.sh 3 f.ts.length (rows qtS f.ts))] [] false (fun outs res => outs = [] ∧ res = resQ (divQ fm (chkSQ f g fm.length) g 600 (f.ts.map qp))) := by
  obtain ⟨n, hnn⟩ : ∃ n : Nat, fm.length = n := ⟨_, rfl⟩
  rw [hnn] at hn hgn ⊢
  have hv : n ≤ 8 := by have := hf.1; omega
  have hfl := hf.2.1
  have hgl := hg.2.1
  have he := qright_he hf hn
  have heg := qright_he hg hgn
  have hG0 : 0 < g.ts.length := List.length_pos_iff.2 hgne
  obtain ⟨hl1, hl2⟩ := leadQ_get hG0
  have hgle := heg _ (List.getElem_mem hG0)
  generalize hlq : leadQ g = lk at hl1
  obtain ⟨le, lh⟩ := lk
  generalize hlc : leadQC g = lc at hl2
  have hl1e : g.ts[0].e = le := congrArg Prod.fst hl1
  have hl1h : g.ts[0].h = lh := congrArg Prod.snd hl1
  rw [hl1e, hl1h, hl2] at hgle
  obtain ⟨hgle1, hgle2, hgle3, hgle4, hgle6, hgle5⟩ := hgle
  refine ACalls.of_body (C := C.spec_l8Divide) (n := Try.f87.ntmps) tabT folT Try.func87 rfl (by kernel_rfl) rfl (Nat.le_of_ble_eq_true rfl) (by decide) (by kernel_rfl) (by kernel_rfl) rfl (by simp) (by simp) ?_
  simp only [Try.f87]
  refine wseq ?_
  refine wreg fun K hK => ?_
  simp [C.spec_l8Divide]
  refine hK _ ?_; clear hK K
  show AWp _ _ _ _ _
  refine wseq ?_
  refine wreg fun K hK => ?_
  simp [C.spec_l8Divide]
  refine hK _ ?_; clear hK K
  show AWp _ _ _ _ _
  refine wseq ?_
  refine wseq ?_
  refine wreg fun K hK => ?_
  simp [C.spec_l8Divide]
  refine hK _ ?_; clear hK K
  show AWp _ _ _ _ _
  refine wcond _ rfl (fun hc1 => ?_) (fun hc1 => ?_)
  · have hf0 : f.ts = [] := by simpa using hc1
    have hd0 : divQ fm (chkSQ f g n) g 600 (f.ts.map qp) = some [] := by rw [hf0]; rfl
    refine wseq ?_
    refine wreg fun K hK => ?_
    simp [C.spec_l8Divide]
    refine hK _ ?_; clear hK K
    show AWp _ _ _ _ _
    refine wret ?_
    simp [C.spec_l8Divide, hd0, resQ, rows]
  · have hfne : f.ts ≠ [] := by intro e; simp [e] at hc1
    have hF0 : 0 < f.ts.length := List.length_pos_iff.2 hfne
    refine wskip ?_
    show AWp _ _ _ _ _
    refine wseq ?_
    refine wregI ([0, 1] ++ ([2, 3, 4, 5, 6])) rfl fun K hK => ?_
    refine opsI_seg fun L hL => ?_
    simp [C.spec_l8Divide]
    refine wcall1 (spec_l8Bounds_calls f.ts n hv hF0 (by omega) (fun t ht => (he t ht).1)) (by simp) (by simp) ?_
    simp [C.spec_l8Divide]
    refine hL _ ?_; clear hL L
    refine opsI_end fun L hL => ?_
    simp [C.spec_l8Divide]
    refine hL _ ?_; clear hL L
    simp [C.spec_l8Divide]
    refine hK _ ?_; clear hK K
    show AWp _ _ _ _ _
    refine wseq ?_
    refine wregI ([0, 1] ++ ([2, 3, 4, 5, 6])) rfl fun K hK => ?_
    refine opsI_seg fun L hL => ?_
    simp [C.spec_l8Divide]
    refine wcall1 (spec_l8Bounds_calls g.ts n hv hG0 (by omega) (fun t ht => (heg t ht).1)) (by simp) (by simp) ?_
    simp [C.spec_l8Divide]
    refine hL _ ?_; clear hL L
    refine opsI_end fun L hL => ?_
    simp [C.spec_l8Divide]
    refine hL _ ?_; clear hL L
    simp [C.spec_l8Divide]
    refine hK _ ?_; clear hK K
    show AWp _ _ _ _ _
    refine wseq ?_
    refine wblock ?_
    refine wloop (fun x : List (QK × Int) × List (QK × Int) => ⟨ofL [(0, .d (.sh 1 n (rows lS fm))), (1, .d (.sh 3 g.ts.length (rows qtS g.ts))), (2, .d (.sh 3 x.1.length (rows qtS (x.1.map qt)))), (8, .al (8, 0) [] 0 x.2.length), (9, .al (9, 0) [] 0 n), (10, .al (10, 0) [] 0 n), (11, .al (11, 0) [] 0 n), (12, .al (12, 0) [] 0 n)], ofRO [((8, 0), some (.ow 3 x.2.length (rows qtS (x.2.map qt)))), ((9, 0), some (.ow 1 n (ints (lowL (f.ts.map tT) n)))), ((10, 0), some (.ow 1 n (ints (highL (f.ts.map tT) n)))), ((11, 0), some (.ow 1 n (ints (lowL (g.ts.map tT) n)))), ((12, 0), some (.ow 1 n (ints (highL (g.ts.map tT) n))))]⟩) (fun x => DivJQ fm (chkSQ f g n) f g n x.1 x.2) (fun x => 600 - x.2.length) (f.ts.map qp, []) (by simp [C.spec_l8Divide, rows, show qt ∘ qp = id from rfl]) (DivJQ.start _ _ hf hn) ?_
    intro x1 hx1 R1 hR1
    obtain ⟨R, O⟩ := x1
    dsimp only at hx1 ⊢
    refine wseq ?_
    refine wseq ?_
    refine wreg fun K hK => ?_
    simp [C.spec_l8Divide]
    refine hK _ ?_; clear hK K
    show AWp _ _ _ _ _
    refine wcond _ rfl (fun hc2 => ?_) (fun hc2 => ?_)
    · obtain ⟨⟨⟨a, ah⟩, c⟩, R', rfl⟩ : ∃ y R', R = y :: R' := by
        cases R with
        | nil => simp at hc2
        | cons y R' => exact ⟨y, R', rfl⟩
      have ha := hx1.rl ((a, ah), c) (by simp)
      obtain ⟨⟨hal, hab⟩, hah⟩ := ha
      dsimp only at hal hab hah
      have hOl := hx1.ol
      have hcb : -1000000000000000000 ≤ c ∧ c ≤ 1000000000000000000 := by
        have h1 := hx1.ra
        simp only [absQK, List.map_cons, List.sum_cons] at h1
        omega
      have q0 := qtS_0 (l := qt ((a, ah), c) :: R'.map qt) (i := 0) (by simp)
      have q1 := qtS_1 (l := qt ((a, ah), c) :: R'.map qt) (i := 0) (by simp)
      have q2 := qtS_2 (l := qt ((a, ah), c) :: R'.map qt) (i := 0) (by simp)
      simp only [List.getElem_cons_zero, Nat.mul_zero, Nat.zero_add] at q0 q1 q2
      rw [show (qt ((a, ah), c)).e = a from rfl] at q0
      rw [show (qt ((a, ah), c)).h = ah from rfl] at q1
      rw [show (qt ((a, ah), c)).c = c from rfl] at q2
      have g0 := qtS_0 hG0
      have g1 := qtS_1 hG0
      have g2 := qtS_2 hG0
      rw [hl1e] at g0
      rw [hl1h] at g1
      rw [hl2] at g2
      simp only [Nat.mul_zero, Nat.zero_add] at g0 g1 g2
      have hEl : (addE (-1) a le).length = n := by rw [addE_length _ _ _ (by omega)]; exact hal
      have hEg : ∀ (i : Nat) (h : i < n), (addE (-1) a le)[i]'(by omega) = a[i]'(by omega) - le[i]'(by omega) := fun i h => by
        have := getD_addE (-1) i a le (by omega)
        rw [getD_eq (by omega), getD_eq (by omega), getD_eq (by omega)] at this
        omega
      refine wskip ?_
      show AWp _ _ _ _ _
      refine wblock ?_
      refine wseq ?_
      refine wreg fun K hK => ?_
      simp [C.spec_l8Divide]
      refine hK _ ?_; clear hK K
      show AWp _ _ _ _ _
      refine wseq ?_
      refine wseq ?_
      refine wreg fun K hK => ?_
      simp [C.spec_l8Divide]
      refine hK _ ?_; clear hK K
      show AWp _ _ _ _ _
      refine wblock ?_
      refine wloop (fun x : Nat => ⟨ofL [(0, .d (.sh 1 n (rows lS fm))), (1, .d (.sh 3 g.ts.length (rows qtS g.ts))), (2, .d (.sh 3 (R'.length + 1) (rows qtS ((((a, ah), c) :: R').map qt)))), (8, .al (8, 0) [] 0 O.length), (9, .al (9, 0) [] 0 n), (10, .al (10, 0) [] 0 n), (11, .al (11, 0) [] 0 n), (12, .al (12, 0) [] 0 n), (13, .al (13, 0) [] 0 x), (14, .int x)], ofRO [((8, 0), some (.ow 3 O.length (rows qtS (O.map qt)))), ((9, 0), some (.ow 1 n (ints (lowL (f.ts.map tT) n)))), ((10, 0), some (.ow 1 n (ints (highL (f.ts.map tT) n)))), ((11, 0), some (.ow 1 n (ints (lowL (g.ts.map tT) n)))), ((12, 0), some (.ow 1 n (ints (highL (g.ts.map tT) n)))), ((13, 0), some (.ow 1 x (ints ((addE (-1) a le).take x))))]⟩) (fun x => x ≤ n ∧ ∀ i, i < x → (lowL (f.ts.map tT) n).getD i 0 - (lowL (g.ts.map tT) n).getD i 0 ≤ (addE (-1) a le).getD i 0 ∧ (addE (-1) a le).getD i 0 ≤ (highL (f.ts.map tT) n).getD i 0 - (highL (g.ts.map tT) n).getD i 0) (fun x => n - x) 0 (by simp [C.spec_l8Divide, ints]) (by simp) ?_
      intro x2 hx2 R2 hR2
      obtain ⟨hj1, hj2⟩ := hx2
      refine wseq ?_
      refine wseq ?_
      refine wreg fun K hK => ?_
      simp [C.spec_l8Divide]
      refine hK _ ?_; clear hK K
      show AWp _ _ _ _ _
      refine wcond _ rfl (fun hc3 => ?_) (fun hc3 => ?_)
      · have h4 : x2 < n := by have := d_t hc3; omega
        have e1 := hEg x2 h4
        have bd1 := hab _ (List.getElem_mem (show x2 < a.length by omega))
        have bd2 := hgle2 _ (List.getElem_mem (show x2 < le.length by omega))
        have bd3 := lowL_bdQ hf hn hfne h4
        have bd4 := lowL_bdQ hg hgn hgne h4
        rw [getD_eq (by simpa using h4), getD_eq (by simpa using h4)] at bd3 bd4
        have hsn : ints ((addE (-1) a le).take x2) ++ [D.v (.int .i64 (a[x2] - le[x2]))] = ints ((addE (-1) a le).take (x2 + 1)) := by
          rw [List.take_succ_eq_append_getElem (by omega), e1]
          simp [ints]
        have hln : ((addE (-1) a le).take (x2 + 1)).length = x2 + 1 := by simp; omega
        have hgt : ((addE (-1) a le).take (x2 + 1))[x2]'(by omega) = a[x2] - le[x2] := by rw [List.getElem_take]; exact e1
        refine wskip ?_
        show AWp _ _ _ _ _
        refine wseq ?_
        refine wblock ?_
        refine wseq ?_
        refine wdrawI [(true, 0), (true, 1), (true, 2), (true, 3), (true, 4), (true, 5), (true, 6), (true, 7), (true, 8), (true, 9), (true, 10), (true, 11), (true, 12), (true, 13), (true, 14), (true, 15), (false, 16), (false, 17), (true, 18)] ⟨by kernel_rfl, by kernel_rfl⟩ ([0, 1, 2, 3, 4, 5, 6, 7, 8, 9, 10, 11, 12, 13, 14, 15, 16, 17, 18]) rfl fun K hK => ?_
        refine opsI_end fun L hL => ?_
        simp [C.spec_l8Divide, h4, hal, hgle1, get_ints, hG0, q0, g0, wrapOk (x := a[x2] - le[x2]) (by omega) (by omega), hsn, show (x2 + 1) * 8 ≤ 140737488355328 by omega]
        refine hL _ ?_; clear hL L
        simp [C.spec_l8Divide, h4, hal, hgle1, get_ints, hG0, q0, g0, wrapOk (x := a[x2] - le[x2]) (by omega) (by omega), hsn, show (x2 + 1) * 8 ≤ 140737488355328 by omega]
        refine hK _ ?_; clear hK K
        show AWp _ _ _ _ _
        refine wseq ?_
        refine wdrawI [(true, 0), (true, 1), (true, 2), (true, 3), (true, 4), (true, 5), (true, 6), (true, 7), (true, 8), (true, 9), (true, 10), (true, 11), (true, 12), (true, 13), (true, 14), (true, 15), (true, 16), (true, 17), (true, 18), (true, 19), (true, 20), (true, 21), (false, 22), (true, 23)] ⟨by kernel_rfl, by kernel_rfl⟩ ([0, 1, 2, 3, 4, 5, 6, 7, 8, 9, 10, 11, 12, 13, 14, 15, 16, 17, 18, 19, 20, 21, 22] ++ ([23])) rfl fun K hK => ?_
        refine opsI_seg fun L hL => ?_
        simp [C.spec_l8Divide, show ((x2 : Int) < (x2 : Int) + 1) by omega, h4, get_ints, hln, hgt, wrapOk (x := (lowL (f.ts.map tT) n)[x2]'(by simpa using h4) - (lowL (g.ts.map tT) n)[x2]'(by simpa using h4)) (by omega) (by omega), wrapOk (x := (highL (f.ts.map tT) n)[x2]'(by simpa using h4) - (highL (g.ts.map tT) n)[x2]'(by simpa using h4)) (by omega) (by omega)]
        refine wcall1 (spec_l1In_calls (a[x2] - le[x2]) ((lowL (f.ts.map tT) n)[x2]'(by simpa using h4) - (lowL (g.ts.map tT) n)[x2]'(by simpa using h4)) ((highL (f.ts.map tT) n)[x2]'(by simpa using h4) - (highL (g.ts.map tT) n)[x2]'(by simpa using h4))) (by simp) (by simp) ?_
        simp [C.spec_l8Divide, show ((x2 : Int) < (x2 : Int) + 1) by omega, h4, get_ints, hln, hgt, wrapOk (x := (lowL (f.ts.map tT) n)[x2]'(by simpa using h4) - (lowL (g.ts.map tT) n)[x2]'(by simpa using h4)) (by omega) (by omega), wrapOk (x := (highL (f.ts.map tT) n)[x2]'(by simpa using h4) - (highL (g.ts.map tT) n)[x2]'(by simpa using h4)) (by omega) (by omega)]
        refine hL _ ?_; clear hL L
        refine opsI_end fun L hL => ?_
        simp [C.spec_l8Divide, show ((x2 : Int) < (x2 : Int) + 1) by omega, h4, get_ints, hln, hgt, wrapOk (x := (lowL (f.ts.map tT) n)[x2]'(by simpa using h4) - (lowL (g.ts.map tT) n)[x2]'(by simpa using h4)) (by omega) (by omega), wrapOk (x := (highL (f.ts.map tT) n)[x2]'(by simpa using h4) - (highL (g.ts.map tT) n)[x2]'(by simpa using h4)) (by omega) (by omega)]
        refine hL _ ?_; clear hL L
        simp [C.spec_l8Divide, show ((x2 : Int) < (x2 : Int) + 1) by omega, h4, get_ints, hln, hgt, wrapOk (x := (lowL (f.ts.map tT) n)[x2]'(by simpa using h4) - (lowL (g.ts.map tT) n)[x2]'(by simpa using h4)) (by omega) (by omega), wrapOk (x := (highL (f.ts.map tT) n)[x2]'(by simpa using h4) - (highL (g.ts.map tT) n)[x2]'(by simpa using h4)) (by omega) (by omega)]
        refine hK _ ?_; clear hK K
        show AWp _ _ _ _ _
        refine wcond _ rfl (fun hc4 => ?_) (fun hc4 => ?_)
        · have hfail := hx1.fail (.inl fun h => by
            have h5 := h.2
            rw [hlq] at h5
            simp only [chkSQ, qdv] at h5
            have h6 := of_decide_eq_true h5
            have := h6.1 x2 h4
            rw [getD_eq (by simpa using h4), getD_eq (by simpa using h4), getD_eq (by omega), getD_eq (by simpa using h4), getD_eq (by simpa using h4), e1] at this
            simp [this.1, this.2] at hc4)
          refine wseq ?_
          refine wreg fun K hK => ?_
          simp [C.spec_l8Divide]
          refine hK _ ?_; clear hK K
          show AWp _ _ _ _ _
          refine wret ?_
          simp [C.spec_l8Divide, hfail, resQ]
        · have hbx : ((lowL (f.ts.map tT) n)[x2]'(by simpa using h4) - (lowL (g.ts.map tT) n)[x2]'(by simpa using h4) ≤ a[x2] - le[x2]) ∧ (a[x2] - le[x2] ≤ (highL (f.ts.map tT) n)[x2]'(by simpa using h4) - (highL (g.ts.map tT) n)[x2]'(by simpa using h4)) := by simpa using hc4
          refine wskip ?_
          show AWp _ _ _ _ _
          refine wreg fun K hK => ?_
          simp [C.spec_l8Divide, wrap_succ (show x2 < 4611686018427387904 by omega)]
          refine hK _ ?_; clear hK K
          simp [C.spec_l8Divide]
          refine cast (congrArg R2 ?_) (hR2 (x2 + 1) ⟨h4, fun i hi => ?_⟩ (by omega))
          · simp
          · rcases Nat.lt_succ_iff_lt_or_eq.1 hi with h | rfl
            · exact hj2 i h
            · rw [getD_eq (by simpa using h4), getD_eq (by simpa using h4), getD_eq (by omega), getD_eq (by simpa using h4), getD_eq (by simpa using h4), e1]
              exact hbx
      · have h4 : x2 = n := by have := d_f hc3; omega
        have hbox : inBoxQ f g n (addE (-1) a le) := fun i hi => hj2 i (by omega)
        have hb40 := inBoxQ_bd hf hg hn hgn hfne hgne hEl hbox
        have htk : (addE (-1) a le).take n = addE (-1) a le := List.take_of_length_le (by omega)
        have hqb : -1000000000000000000 ≤ c.tdiv lc ∧ c.tdiv lc ≤ 1000000000000000000 := by
          have h1 : (c.tdiv lc).natAbs ≤ c.natAbs := by
            rw [Int.natAbs_tdiv]
            exact Nat.div_le_self _ _
          omega
        generalize hQ : c.tdiv lc = q at hqb
        have hSk : SkOk fm le (addE (-1) a le) := SkOk.mk' (p := 20) (q := 40) hok ⟨by omega, hgle2⟩ ⟨by omega, hb40⟩ (by omega) (by omega)
        have hSb := hSk.bd
        have hpair := spec_l8Skew_calls fm le (addE (-1) a le) hSk
        rw [hnn] at hpair
        obtain ⟨H, hH⟩ : ∃ H, H = ah - lh - skw fm le (addE (-1) a le) := ⟨_, rfl⟩
        have hw1 : IntKind.i64.wrap (ah - lh) = ah - lh := wrapOk (by omega) (by omega)
        have hw2 : IntKind.i64.wrap (ah - lh - skw fm le (addE (-1) a le)) = H := by rw [hH]; exact wrapOk (by omega) (by omega)
        have hqd : qdv fm (a, ah) (le, lh) = (addE (-1) a le, H) := by rw [hH]; rfl
        refine wexit ?_
        show AWp _ _ _ _ _
        refine wseq ?_
        refine wdraw (.take 0 (.take 1 (.take 2 (.take 3 (.take 4 (.take 5 (.take 6 (.take 7 (.take 8 (.take 9 (.take 10 (.take 11 (.take 12 (.take 13 (.take 14 (.take 15 (.take 18 (.take 19 (.take 20 (.take 21 (.take 22 (.take 23 (.take 24 (.take 25 (.take 26 (.all [(16, .take 17 (.take 27 (.all [(28, .all [(29, .done)])]))), (28, .all [(16, .take 17 (.take 27 (.all [(29, .done)])))])])))))))))))))))))))))))))) ⟨by kernel_rfl, by kernel_rfl⟩ fun K hK => ?_
        have hJ : K ⟨ofL [(0, .d (.sh 1 n (rows lS fm))), (1, .d (.sh 3 g.ts.length (rows qtS g.ts))), (2, .d (.sh 3 (R'.length + 1) (rows qtS ((((a, ah), c) :: R').map qt)))), (8, .al (8, 0) [] 0 O.length), (9, .al (9, 0) [] 0 n), (10, .al (10, 0) [] 0 n), (11, .al (11, 0) [] 0 n), (12, .al (12, 0) [] 0 n), (15, .pt (15, 0) [] 0)], ofRO [((8, 0), some (.ow 3 O.length (rows qtS (O.map qt)))), ((9, 0), some (.ow 1 n (ints (lowL (f.ts.map tT) n)))), ((10, 0), some (.ow 1 n (ints (highL (f.ts.map tT) n)))), ((11, 0), some (.ow 1 n (ints (lowL (g.ts.map tT) n)))), ((12, 0), some (.ow 1 n (ints (highL (g.ts.map tT) n)))), ((15, 0), some (.bx [shI (addE (-1) a le), D.int H, D.int q]))]⟩ := by
          refine hK _ ?_; clear hK K
          show AWp _ _ _ _ _
          refine wseq ?_
          refine wseq ?_
          refine wdrawI [(true, 0), (true, 1), (true, 2), (true, 3), (true, 4), (true, 5), (true, 6), (true, 7), (true, 8), (true, 9), (true, 10), (true, 11), (true, 12), (false, 13), (true, 14), (true, 15), (true, 16), (true, 17), (true, 18), (false, 19), (true, 20), (true, 21), (true, 22), (true, 23), (true, 24), (true, 25), (true, 26)] ⟨by kernel_rfl, by kernel_rfl⟩ ([0, 1, 2, 3, 4, 5, 6, 7, 8, 9, 10, 11, 12, 13] ++ ([14, 15, 16, 17, 18, 19] ++ ([20, 21, 22, 23, 24, 25, 26]))) rfl fun K hK => ?_
          have hJ : K ⟨ofL [(0, .d (.sh 1 n (rows lS fm))), (1, .d (.sh 3 g.ts.length (rows qtS g.ts))), (2, .d (.sh 3 (R'.length + 1) (rows qtS ((((a, ah), c) :: R').map qt)))), (8, .al (8, 0) [] 0 O.length), (9, .al (9, 0) [] 0 n), (10, .al (10, 0) [] 0 n), (11, .al (11, 0) [] 0 n), (12, .al (12, 0) [] 0 n), (15, .pt (15, 0) [] 0), (139, .bool (!decide (((c.tmod lc = 0 ∧ (-1000000 ≤ q ∧ q ≤ 1000000)) ∧ (-200 ≤ H ∧ H ≤ 200)) ∧ ¬ O.length = 600)))], ofRO [((8, 0), some (.ow 3 O.length (rows qtS (O.map qt)))), ((9, 0), some (.ow 1 n (ints (lowL (f.ts.map tT) n)))), ((10, 0), some (.ow 1 n (ints (highL (f.ts.map tT) n)))), ((11, 0), some (.ow 1 n (ints (lowL (g.ts.map tT) n)))), ((12, 0), some (.ow 1 n (ints (highL (g.ts.map tT) n)))), ((15, 0), some (.bx [shI (addE (-1) a le), D.int H, D.int q]))]⟩ := by
            refine hK _ ?_; clear hK K
            show AWp _ _ _ _ _
            refine wcond _ rfl (fun hc5 => ?_) (fun hc5 => ?_)
            · have hr := nd_t hc5
              have hfail := hx1.fail (by
                rcases Classical.em (O.length = 600) with h | h
                · exact .inr h
                · refine .inl fun h2 => hr ⟨?_, h⟩
                  dsimp only at h2
                  rw [hlq, hlc, hQ, hqd] at h2
                  simp only [chkSQ, decide_eq_true_eq] at h2
                  exact ⟨⟨h2.1, h2.2.2.2⟩, h2.2.2.1⟩)
              refine wseq ?_
              refine wreg fun K hK => ?_
              simp [C.spec_l8Divide]
              refine hK _ ?_; clear hK K
              show AWp _ _ _ _ _
              refine wret ?_
              simp [C.spec_l8Divide, hfail, resQ]
            · obtain ⟨⟨⟨k1, k2⟩, k3⟩, k4⟩ := nd_f hc5
              have hchk : chkSQ f g n (addE (-1) a le, H) q = true := by simp only [chkSQ, decide_eq_true_eq]; exact ⟨hbox, k3, k2⟩
              have hstep := hx1.step hok hnn hg hgn (by dsimp only; rw [hlc]; exact k1) (by dsimp only; rw [hlq, hlc, hQ, hqd]; exact hchk) (by omega) (by dsimp only; rw [hlq, hqd]; exact hEl) (by dsimp only; rw [hlq, hqd]; exact hb40) (by dsimp only; rw [hlq, hqd]; exact k3) (by dsimp only; rw [hlc, hQ]; exact k2)
              dsimp only at hstep
              rw [hlq, hlc, hQ, hqd] at hstep
              have hga := step_gaQ (fm := fm) (g := g) (x := ((a, ah), c)) (R := R')
              dsimp only at hga
              rw [hlq, hlc, hQ, hqd] at hga
              dsimp only at hga
              have hQg : QL fm.length g.ts := qright_ql hg (by omega)
              have hQ1 : QL fm.length [⟨addE (-1) a le, H, q⟩] := ⟨by simp, fun t ht => by
                simp only [List.mem_singleton] at ht
                subst ht
                exact ⟨by dsimp only; omega, fun z hz => by have := hb40 z hz; omega, ⟨by dsimp only; omega, by dsimp only; omega⟩, k2⟩⟩
              have htm := spec_l8Times_calls fm g.ts [⟨addE (-1) a le, H, q⟩] hok hQg hQ1
              have hPA := prodQ_abs (fm := fm) hQg hQ1
              have hPE := prodQ_e (fm := fm) hQg hQ1
              have hPL := prodQ_len fm g.ts [⟨addE (-1) a le, H, q⟩]
              generalize hPR : prodQ fm g.ts [⟨addE (-1) a le, H, q⟩] = PP at htm hPA hPE hPL hga
              simp only [List.length_cons, List.length_nil, rows, qtS, List.append_nil, Nat.zero_add] at htm
              rw [hnn] at htm
              have hsnO : rows qtS (O.map qt) ++ [shI (addE (-1) a le), D.v (.int .i64 H), D.v (.int .i64 q)] = rows qtS ((O ++ [((addE (-1) a le, H), q)]).map qt) := by
                have := qtS_snoc (O.map qt) ⟨addE (-1) a le, H, q⟩
                rw [this, List.map_append]
                rfl
              refine wskip ?_
              show AWp _ _ _ _ _
              refine wseq ?_
              refine wreg fun K hK => ?_
              simp [C.spec_l8Divide, hsnO, show (O.length + 1) * 40 ≤ 140737488355328 by omega]
              refine hK _ ?_; clear hK K
              show AWp _ _ _ _ _
              refine wseq ?_
              refine wregI ([0, 1, 2, 3, 4] ++ ([5])) rfl fun K hK => ?_
              refine opsI_seg fun L hL => ?_
              simp [C.spec_l8Divide, hEl]
              refine wcall1 (htm) (by simp [hEl]) (by simp) ?_
              simp [C.spec_l8Divide, hEl]
              refine hL _ ?_; clear hL L
              refine opsI_end fun L hL => ?_
              simp [C.spec_l8Divide, hEl]
              refine hL _ ?_; clear hL L
              simp [C.spec_l8Divide, hEl]
              refine hK _ ?_; clear hK K
              show AWp _ _ _ _ _
              refine wseq ?_
              refine wseq ?_
              refine wreg fun K hK => ?_
              simp [C.spec_l8Divide]
              refine hK _ ?_; clear hK K
              show AWp _ _ _ _ _
              refine wblock ?_
              have hPl : (gaQ PP).length ≤ 600 := by
                have h1 := gaQ_len PP
                simp only [List.length_cons, List.length_nil] at hPL
                omega
              have hPA2 : absQ PP ≤ 600000000000000 := by
                have h1 := absQ_le (l := PP) (B := 1000000000000) fun t ht => by
                  rw [← hPR] at ht
                  obtain ⟨x, hx, y, hy, rfl⟩ := prodQ_mem ht
                  simp only [List.mem_singleton] at hy
                  subst hy
                  have := mul_bd (hQg.2 x hx).2.2.2 k2
                  simp only [mulT2]
                  omega
                simp only [List.length_cons, List.length_nil] at hPL
                have h2 : PP.length * 1000000000000 ≤ 600 * 1000000000000 := Nat.mul_le_mul_right _ (by omega)
                omega
              have hrn := hx1.rn
              simp only [List.length_cons] at hrn
              refine wloop (fun x : Nat => ⟨ofL [(0, .d (.sh 1 n (rows lS fm))), (1, .d (.sh 3 g.ts.length (rows qtS g.ts))), (2, .d (.sh 3 (R'.length + 1) (rows qtS ((((a, ah), c) :: R').map qt)))), (8, .al (8, 0) [] 0 (O.length + 1)), (9, .al (9, 0) [] 0 n), (10, .al (10, 0) [] 0 n), (11, .al (11, 0) [] 0 n), (12, .al (12, 0) [] 0 n), (16, .al (16, 0) [] 0 (gaQ PP).length), (17, .int x)], ofRO [((8, 0), some (.ow 3 (O.length + 1) (rows qtS ((O ++ [((addE (-1) a le, H), q)]).map qt)))), ((9, 0), some (.ow 1 n (ints (lowL (f.ts.map tT) n)))), ((10, 0), some (.ow 1 n (ints (highL (f.ts.map tT) n)))), ((11, 0), some (.ow 1 n (ints (lowL (g.ts.map tT) n)))), ((12, 0), some (.ow 1 n (ints (highL (g.ts.map tT) n)))), ((16, 0), some (.ow 3 (gaQ PP).length (rows qtO (((gaQ PP).map ngT).take x ++ (gaQ PP).drop x))))]⟩) (fun x => x ≤ (gaQ PP).length) (fun x => (gaQ PP).length - x) 0 (by simp [C.spec_l8Divide]) (by simp) ?_
              intro x3 hx3 R3 hR3
              refine wseq ?_
              refine wseq ?_
              refine wreg fun K hK => ?_
              simp [C.spec_l8Divide]
              refine hK _ ?_; clear hK K
              show AWp _ _ _ _ _
              refine wcond _ rfl (fun hc6 => ?_) (fun hc6 => ?_)
              · have h6 : x3 < (gaQ PP).length := by have := d_t hc6; omega
                obtain ⟨M, m1, m2, m3, m4⟩ := ng_step (gaQ PP) x3 h6
                rw [m1]
                have hM : x3 < M.length := by omega
                have hcm : (gaQ PP)[x3].c.natAbs < 4611686018427387904 := Nat.lt_of_le_of_lt (gaQ_c (List.getElem_mem h6)) hPA
                have hwc : IntKind.i64.wrap (-(gaQ PP)[x3].c) = -(gaQ PP)[x3].c := wrapOk (by omega) (by omega)
                have hset : (rows qtO M).set (3 * x3 + 2) (.v (.int .i64 (-(gaQ PP)[x3].c))) = rows qtO (((gaQ PP).map ngT).take (x3 + 1) ++ (gaQ PP).drop (x3 + 1)) := by
                  rw [qtO_set2 hM, m3 hM, ← m4]
                  rfl
                refine wskip ?_
                show AWp _ _ _ _ _
                refine wseq ?_
                refine wblock ?_
                refine wreg fun K hK => ?_
                simp [C.spec_l8Divide, h6, qtO_2 hM, m3 hM, m2, hwc, hset, modify_const]
                refine hK _ ?_; clear hK K
                show AWp _ _ _ _ _
                refine wreg fun K hK => ?_
                simp [C.spec_l8Divide, wrap_succ (show x3 < 4611686018427387904 by omega)]
                refine hK _ ?_; clear hK K
                simp [C.spec_l8Divide]
                refine cast (congrArg R3 ?_) (hR3 (x3 + 1) h6 (by omega))
                simp
              · have h6 : x3 = (gaQ PP).length := by have := d_f hc6; omega
                have hall : ((gaQ PP).map ngT).take x3 ++ (gaQ PP).drop x3 = (gaQ PP).map ngT := by rw [h6, List.drop_length, List.append_nil, List.take_of_length_le (by simp)]
                rw [hall]
                have hng : (gaQ PP).map (fun t => (⟨t.e, t.h, 0 - t.c⟩ : Qtm)) = (gaQ PP).map ngT := List.map_congr_left fun t _ => by simp [ngT]
                rw [hng] at hga
                have hgt := spec_l8Gather_calls ((((a, ah), c) :: R').map qt ++ (gaQ PP).map ngT) (by simp; omega) (by
                  rw [absQ_append, absQ_ng, absQ_qt]
                  have h1 := hx1.ra
                  rw [absQK_K] at h1
                  have h2 := absQ_ga PP
                  omega) (fun t ht => by
                  rcases List.mem_append.1 ht with ht | ht
                  · obtain ⟨x, hx, rfl⟩ := List.mem_map.1 ht
                    have := (hx1.rl x hx).1.1
                    simp only [qt]
                    omega
                  · obtain ⟨u, hu, rfl⟩ := List.mem_map.1 ht
                    have := gaQ_e (p := fun e => e.length = fm.length) (fun t ht => hPE t ht) u hu
                    simp only [ngT]
                    omega)
                rw [hga] at hgt
                have hgl3 : ((((a, ah), c) :: R').map qt ++ (gaQ PP).map ngT).length = R'.length + 1 + (gaQ PP).length := by simp; omega
                rw [hgl3, rows_append] at hgt
                refine wexit ?_
                show AWp _ _ _ _ _
                refine wregI ([0, 1, 2, 3, 4, 5] ++ ([6])) rfl fun K hK => ?_
                have hJ : K ⟨ofL [(0, .d (.sh 1 n (rows lS fm))), (1, .d (.sh 3 g.ts.length (rows qtS g.ts))), (2, .d (.sh 3 (nf qlt (stepQ fm g ((a, ah), c) R')).length (rows qtS ((nf qlt (stepQ fm g ((a, ah), c) R')).map qt)))), (8, .al (8, 0) [] 0 (O.length + 1)), (9, .al (9, 0) [] 0 n), (10, .al (10, 0) [] 0 n), (11, .al (11, 0) [] 0 n), (12, .al (12, 0) [] 0 n)], ofRO [((8, 0), some (.ow 3 (O.length + 1) (rows qtS ((O ++ [((addE (-1) a le, H), q)]).map qt)))), ((9, 0), some (.ow 1 n (ints (lowL (f.ts.map tT) n)))), ((10, 0), some (.ow 1 n (ints (highL (f.ts.map tT) n)))), ((11, 0), some (.ow 1 n (ints (lowL (g.ts.map tT) n)))), ((12, 0), some (.ow 1 n (ints (highL (g.ts.map tT) n))))]⟩ := by
                  refine hK _ ?_; clear hK K
                  simp [C.spec_l8Divide]
                  refine cast (congrArg R1 ?_) (hR1 (nf qlt (stepQ fm g ((a, ah), c) R'), O ++ [((addE (-1) a le, H), q)]) hstep (by simp; omega))
                  simp
                clear hK
                refine opsI_seg fun L hL => ?_
                simp [C.spec_l8Divide, shareL_app, qtS_share2, qtO_solid2, show (R'.length + 1) * 40 ≤ 140737488355328 by omega, show (R'.length + 1 + (gaQ PP).length) * 40 ≤ 140737488355328 by omega]
                refine ⟨fun hlf => ?_, fun hlf => ?_⟩
                all_goals try simp only [if_true, true_and]
                all_goals
                  refine wcall1 hgt (by simp [C.spec_l8Divide, shareL_app, qtS_share2, qtO_solid2, show (R'.length + 1) * 40 ≤ 140737488355328 by omega, show (R'.length + 1 + (gaQ PP).length) * 40 ≤ 140737488355328 by omega]) (by simp) ?_
                  simp [C.spec_l8Divide, shareL_app, qtS_share2, qtO_solid2, show (R'.length + 1) * 40 ≤ 140737488355328 by omega, show (R'.length + 1 + (gaQ PP).length) * 40 ≤ 140737488355328 by omega]
                  refine hL _ ?_
                  refine opsI_end fun L2 hL2 => ?_
                  simp [C.spec_l8Divide, shareL_app, qtS_share2, qtO_solid2, show (R'.length + 1) * 40 ≤ 140737488355328 by omega, show (R'.length + 1 + (gaQ PP).length) * 40 ≤ 140737488355328 by omega]
                  refine hL2 _ ?_
                  simp [C.spec_l8Divide, shareL_app, qtS_share2, qtO_solid2, show (R'.length + 1) * 40 ≤ 140737488355328 by omega, show (R'.length + 1 + (gaQ PP).length) * 40 ≤ 140737488355328 by omega]
                  refine cast (congrArg K ?_) hJ
                  simp [C.spec_l8Divide, shareL_app, qtS_share2, qtO_solid2, show (R'.length + 1) * 40 ≤ 140737488355328 by omega, show (R'.length + 1 + (gaQ PP).length) * 40 ≤ 140737488355328 by omega]
          clear hK
          by_cases k1 : c.tmod lc = 0
          · by_cases k2 : (-1000000 ≤ q ∧ q ≤ 1000000)
            · by_cases k3 : (-200 ≤ H ∧ H ≤ 200)
              · refine opsI_seg fun L hL => ?_
                simp [C.spec_l8Divide, q2, g2, hgle5, hG0, k1, k2, k3]
                refine wcall1 (spec_l1In_calls q (-1000000) 1000000) (by simp) (by simp) ?_
                simp [C.spec_l8Divide, q2, g2, hgle5, hG0, k1, k2, k3]
                refine hL _ ?_; clear hL L
                refine opsI_seg fun L hL => ?_
                simp [C.spec_l8Divide, q2, g2, hgle5, hG0, k1, k2, k3]
                refine wcall1 (spec_l1In_calls H (-200) 200) (by simp) (by simp) ?_
                simp [C.spec_l8Divide, q2, g2, hgle5, hG0, k1, k2, k3]
                refine hL _ ?_; clear hL L
                refine opsI_end fun L hL => ?_
                simp [C.spec_l8Divide, q2, g2, hgle5, hG0, k1, k2, k3]
                refine hL _ ?_; clear hL L
                simp [C.spec_l8Divide, q2, g2, hgle5, hG0, k1, k2, k3]
                refine cast (congrArg K ?_) hJ
                simp [ieq600, k1, k2, k3]
              · refine opsI_seg fun L hL => ?_
                simp [C.spec_l8Divide, q2, g2, hgle5, hG0, k1, k2, k3]
                refine wcall1 (spec_l1In_calls q (-1000000) 1000000) (by simp) (by simp) ?_
                simp [C.spec_l8Divide, q2, g2, hgle5, hG0, k1, k2, k3]
                refine hL _ ?_; clear hL L
                refine opsI_seg fun L hL => ?_
                simp [C.spec_l8Divide, q2, g2, hgle5, hG0, k1, k2, k3]
                refine wcall1 (spec_l1In_calls H (-200) 200) (by simp) (by simp) ?_
                simp [C.spec_l8Divide, q2, g2, hgle5, hG0, k1, k2, k3]
                refine hL _ ?_; clear hL L
                refine opsI_end fun L hL => ?_
                simp [C.spec_l8Divide, q2, g2, hgle5, hG0, k1, k2, k3]
                refine hL _ ?_; clear hL L
                simp [C.spec_l8Divide, q2, g2, hgle5, hG0, k1, k2, k3]
                refine cast (congrArg K ?_) hJ
                simp [ieq600, k1, k2, k3]
            · refine opsI_seg fun L hL => ?_
              simp [C.spec_l8Divide, q2, g2, hgle5, hG0, k1, k2]
              refine wcall1 (spec_l1In_calls q (-1000000) 1000000) (by simp) (by simp) ?_
              simp [C.spec_l8Divide, q2, g2, hgle5, hG0, k1, k2]
              refine hL _ ?_; clear hL L
              refine opsI_seg fun L hL => ?_
              simp [C.spec_l8Divide, q2, g2, hgle5, hG0, k1, k2]
              refine hL _ ?_; clear hL L
              refine opsI_end fun L hL => ?_
              simp [C.spec_l8Divide, q2, g2, hgle5, hG0, k1, k2]
              refine hL _ ?_; clear hL L
              simp [C.spec_l8Divide, q2, g2, hgle5, hG0, k1, k2]
              refine cast (congrArg K ?_) hJ
              simp [ieq600, k1, k2]
          · refine opsI_seg fun L hL => ?_
            simp [C.spec_l8Divide, q2, g2, hgle5, hG0, k1]
            refine hL _ ?_; clear hL L
            refine opsI_seg fun L hL => ?_
            simp [C.spec_l8Divide, q2, g2, hgle5, hG0, k1]
            refine hL _ ?_; clear hL L
            refine opsI_end fun L hL => ?_
            simp [C.spec_l8Divide, q2, g2, hgle5, hG0, k1]
            refine hL _ ?_; clear hL L
            simp [C.spec_l8Divide, q2, g2, hgle5, hG0, k1]
            refine cast (congrArg K ?_) hJ
            simp [ieq600, k1]
        clear hK
        simp [C.spec_l8Divide, q0, q1, q2, g0, g1, g2, hw1, hw2, hgle5, hQ, wrapOk (x := q) (by omega) (by omega), htk, hEl, hG0, h4]
        repeat' first
          | (refine wcall1 hpair (by simp [hEl]) (by simp) ?_; simp [C.spec_l8Divide, q0, q1, q2, g0, g1, g2, hw1, hw2, hgle5, hQ, wrapOk (x := q) (by omega) (by omega), htk, hEl, hG0, h4])
          | exact hJ
          | (refine cast (congrArg K ?_) hJ; simp; done)
          | (refine cast (congrArg K ?_) hJ; simp [hEl]; done)
          | (refine cast (congrArg K ?_) hJ; simp [shI, hEl]; done)
          | (refine cast (congrArg K ?_) hJ; simp [shI, hEl]; trace_state; fail)
          | refine And.intro ?_ ?_
    · have hR0 : R = [] := by
        cases R with
        | nil => rfl
        | cons y R' => simp at hc2
      subst hR0
      have hdone := hx1.done
      refine wexit ?_
      show AWp _ _ _ _ _
      refine wseq ?_
      refine wreg fun K hK => ?_
      simp [C.spec_l8Divide]
      refine hK _ ?_; clear hK K
      show AWp _ _ _ _ _
      refine wret ?_
      simp [C.spec_l8Divide, hdone, resQ]

end Go.Proofs.Ytocknokodgnlbaa.Ab
namespace Go.Proofs.Ytocknokodgnlbaa.Ab
open Go
set_option linter.unusedSimpArgs false
set_option linter.unusedVariables false
set_option maxRecDepth 10000
set_option maxHeartbeats 2000000
theorem sl8Div_calls (fm : List (List Int)) (f g : Qsm) (hok : FormOk fm) (hf : QRight f) (hg : QRight g) (hn : f.v = fm.length) (hgn : g.v = fm.length) (hgne : g.ts ≠ []) (o : Option (List (QK × Int))) (ho : divQ fm (chkSQ f g fm.length) g 600 (f.ts.map qp) = o) : ACalls Try.prog F.spec_l8Divide [.d (.sh 1 fm.length (rows lS fm)), .d (.sh 3 g.ts.length (rows qtS g.ts)), .d (.sh 3 f.ts.length (rows qtS f.ts))] [] false (fun outs res => outs = [] ∧ res = [.one (.ow 3 ((o.getD []).map qt).length (rows qtS ((o.getD []).map qt))), .one (D.bool o.isSome)]) := by
  refine ACalls.weak1 (ACalls.mono (spec_l8Divide_calls fm f g hok hf hg hn hgn hgne) ?_)
  rintro outs res ⟨h1, h2⟩
  refine ⟨h1, ?_⟩
  rw [h2, ho]
  cases o with
  | none => simp [resQ, rows]
  | some O => simp [resQ]
theorem spec_DivideQSums_calls (fm : List (List Int)) (f g : Qsm) (h0 : fm.length < 4611686018427387904) (hI : I64 fm) (hx : f.ts.length < 4611686018427387904) (hxe : ∀ t ∈ f.ts, t.e.length < 4611686018427387904) (hy : g.ts.length < 4611686018427387904) (hye : ∀ t ∈ g.ts, t.e.length < 4611686018427387904) : ACalls Try.prog F.spec_DivideQSums [.d (.sh 1 fm.length (rows lS fm)), aQ f, aQ g] [] true (fun outs res => outs = [] ∧ WkRs res [.ag (qO (divQF fm f g).1), .one (D.bool (divQF fm f g).2)]) := by
  have hcall := spec_l8Two_calls fm f g h0 hI hx hxe hy hye
  generalize hB : decide (FormOk fm ∧ QRight f ∧ QRight g ∧ f.v = fm.length ∧ g.v = fm.length) = B at hcall
  refine ACalls.of_body (C := C.spec_DivideQSums) (n := Try.f32.ntmps) tabT folT Try.func32 rfl (by kernel_rfl) rfl (Nat.le_of_ble_eq_true rfl) (by decide) (by kernel_rfl) (by kernel_rfl) rfl (by simp) (by simp) ?_
  simp only [Try.f32]
  refine wseq ?_
  refine wreg fun K hK => ?_
  simp [C.spec_DivideQSums, qS]
  refine hK _ ?_; clear hK K
  show AWp _ _ _ _ _
  refine wseq ?_
  refine wseq ?_
  refine wregI ([0, 1, 2, 3] ++ ([4, 5, 6, 7, 8, 9, 10])) rfl fun K hK => ?_
  have hJ : K ⟨ofL [(0, .d (.sh 1 fm.length (rows lS fm))), (4, .pt (4, 0) [] 0), (5, .pt (5, 0) [] 0), (6, .pt (6, 0) [] 0), (20, .bool (!(B && !decide (g.ts = []))))], ofRO [((4, 0), some (.bx (qS f))), ((5, 0), some (.bx (qS g))), ((6, 0), some (.bx [D.int 0, .v (.slice none 0 0)]))]⟩ := by
    refine hK _ ?_; clear hK K
    show AWp _ _ _ _ _
    refine wcond _ rfl (fun hc1 => ?_) (fun hc1 => ?_)
    · have hr : ¬ QFit fm f g := by
        rintro ⟨h1, h2⟩
        rw [← hB, decide_eq_true h1] at hc1
        simp [h2] at hc1
      have hm : divQF fm f g = (zeroQ, false) := if_neg hr
      refine wseq ?_
      refine wreg fun K hK => ?_
      simp [C.spec_DivideQSums, qS]
      refine hK _ ?_; clear hK K
      show AWp _ _ _ _ _
      refine wret ?_
      simp [C.spec_DivideQSums, qS, hm, qO, zeroQ, rows]
    · have hr : (FormOk fm ∧ QRight f ∧ QRight g ∧ f.v = fm.length ∧ g.v = fm.length) ∧ g.ts ≠ [] := by
        rw [← hB] at hc1
        simpa using hc1
      have hfit : QFit fm f g := hr
      obtain ⟨⟨hok, hf, hg, hn, hgn⟩, hgne⟩ := hr
      have hm : divQF fm f g = endQd f.v (divQ fm (chkSQ f g fm.length) g 600 (f.ts.map qp)) := by
        rw [← divQS_eq]
        exact if_pos hfit
      have hgood := fun O (ho : divQ fm (chkSQ f g fm.length) g 600 (f.ts.map qp) = some O) => divQ_good hfit ho
      obtain ⟨o, ho⟩ : ∃ o, divQ fm (chkSQ f g fm.length) g 600 (f.ts.map qp) = o := ⟨_, rfl⟩
      have hDiv := sl8Div_calls fm f g hok hf hg hn hgn hgne o ho
      rw [ho] at hm hgood
      refine wskip ?_
      show AWp _ _ _ _ _
      refine wseq ?_
      refine wregI ([0, 1, 2, 3, 4, 5] ++ ([6, 7, 8, 9, 10])) rfl fun K hK => ?_
      refine opsI_seg fun L hL => ?_
      simp [C.spec_DivideQSums, qS]
      refine wcall (hDiv) (by simp) (by simp) (by simp) ?_
      rintro outs res ⟨rfl, rfl⟩
      simp [C.spec_DivideQSums, qS]
      refine hL _ ?_; clear hL L
      refine opsI_end fun L hL => ?_
      simp [C.spec_DivideQSums, qS]
      refine hL _ ?_; clear hL L
      simp [C.spec_DivideQSums, qS]
      refine hK _ ?_; clear hK K
      show AWp _ _ _ _ _
      refine wseq ?_
      refine wseq ?_
      refine wreg fun K hK => ?_
      simp [C.spec_DivideQSums, qS]
      refine hK _ ?_; clear hK K
      show AWp _ _ _ _ _
      refine wcond _ rfl (fun hc2 => ?_) (fun hc2 => ?_)
      · have hno : o = none := by
          cases o with
          | none => rfl
          | some O => simp at hc2
        subst hno
        refine wseq ?_
        refine wreg fun K hK => ?_
        simp [C.spec_DivideQSums, qS]
        refine hK _ ?_; clear hK K
        show AWp _ _ _ _ _
        refine wret ?_
        simp [C.spec_DivideQSums, qS, hm, endQd, zeroQ, qO, rows]
      · obtain ⟨O, rfl⟩ : ∃ O, o = some O := by
          cases o with
          | none => simp at hc2
          | some O => exact ⟨O, rfl⟩
        obtain ⟨hd, hz, hl, hch, hO, _⟩ := hgood O rfl
        have hn8 : fm.length ≤ 8 := by have := hok.1; omega
        have hcb : ∀ t ∈ O.map qt, t.c.natAbs ≤ 1000000 := fun t ht => by
          obtain ⟨x, hx, rfl⟩ := List.mem_map.1 ht
          have h1 := hch x hx
          simp only [chkSQ] at h1
          have h2 := (of_decide_eq_true h1).2.2
          simp only [qt]
          omega
        have hel : ∀ t ∈ O.map qt, t.e.length = fm.length := fun t ht => by
          obtain ⟨x, hx, rfl⟩ := List.mem_map.1 ht
          exact hl x hx
        have hab := absQ_le hcb
        have hll : (O.map qt).length ≤ 600 := by simpa using hO
        have hga := enQ_ga (v := f.v) hd hz
        rw [← hm] at hga
        have hgl := gaQ_len (O.map qt)
        have hgat := spec_l8Gather_calls (O.map qt) (by omega) (by have h9 : (O.map qt).length * 1000000 ≤ 600 * 1000000 := Nat.mul_le_mul_right _ hll; omega) (fun t ht => by have := hel t ht; omega)
        simp only [List.length_map] at hgat
        refine wskip ?_
        show AWp _ _ _ _ _
        refine wseq ?_
        refine wdrawI [(true, 0), (true, 2), (true, 3), (false, 1), (false, 4), (true, 5), (true, 6), (false, 7), (true, 8)] ⟨by kernel_rfl, by kernel_rfl⟩ ([0, 2, 3, 1] ++ ([4] ++ ([5, 6, 7, 8]))) rfl fun K hK => ?_
        refine opsI_seg fun L hL => ?_
        simp [C.spec_DivideQSums, qS, hO]
        refine wcall1 (hgat) (by simp [qS, hO]) (by simp) ?_
        simp [C.spec_DivideQSums, qS, hO]
        refine hL _ ?_; clear hL L
        refine opsI_seg fun L hL => ?_
        simp [C.spec_DivideQSums, qS, hO]
        refine wcall1 (l8Shut_calls (gaQ (O.map qt)) f.v (by omega) (gaQ_e (p := fun e => e.length < 4611686018427387904) fun t ht => by have := hel t ht; omega)) (by simp) (by simp) ?_
        simp [C.spec_DivideQSums, qS, hO]
        refine hL _ ?_; clear hL L
        refine opsI_end fun L hL => ?_
        simp [C.spec_DivideQSums, qS, hO]
        refine hL _ ?_; clear hL L
        simp [C.spec_DivideQSums, qS, hO]
        refine hK _ ?_; clear hK K
        show AWp _ _ _ _ _
        refine wret ?_
        simp [C.spec_DivideQSums, qS, hga, qO]
  clear hK
  by_cases hb : B = true
  · refine opsI_seg fun L hL => ?_
    simp [C.spec_DivideQSums, qS, hb]
    refine wcall1 (hcall) (by simp) (by simp) ?_
    simp [C.spec_DivideQSums, qS, hb]
    refine hL _ ?_; clear hL L
    refine opsI_end fun L hL => ?_
    simp [C.spec_DivideQSums, qS, hb]
    refine hL _ ?_; clear hL L
    simp [C.spec_DivideQSums, qS, hb]
    refine cast (congrArg K ?_) hJ
    simp [ieq0, qS, hb]
  · refine opsI_seg fun L hL => ?_
    simp [C.spec_DivideQSums, qS, hb]
    refine wcall1 (hcall) (by simp) (by simp) ?_
    simp [C.spec_DivideQSums, qS, hb]
    refine hL _ ?_; clear hL L
    refine opsI_end fun L hL => ?_
    simp [C.spec_DivideQSums, qS, hb]
    refine hL _ ?_; clear hL L
    simp [C.spec_DivideQSums, qS, hb]
    refine cast (congrArg K ?_) hJ
    simp [ieq0, qS, hb]
theorem sDivQ_calls (fm : List (List Int)) (f g : Qsm) (h0 : fm.length < 4611686018427387904) (hI : I64 fm) (hx : f.ts.length < 4611686018427387904) (hxe : ∀ t ∈ f.ts, t.e.length < 4611686018427387904) (hy : g.ts.length < 4611686018427387904) (hye : ∀ t ∈ g.ts, t.e.length < 4611686018427387904) : ACalls Try.prog F.spec_DivideQSums [.d (.sh 1 fm.length (rows lS fm)), aQ f, aQ g] [] true (fun outs res => outs = [] ∧ res = [.ag (qO (divQF fm f g).1), .one (D.bool (divQF fm f g).2)]) := (spec_DivideQSums_calls fm f g h0 hI hx hxe hy hye).weak1

end Go.Proofs.Ytocknokodgnlbaa.Ab
namespace Go.Proofs.Ytocknokodgnlbaa.Ab
open Go
set_option linter.unusedSimpArgs false
set_option linter.unusedVariables false
section
variable {K : Type} [DecidableEq K] {lt : K → K → Bool} {mul : K → K → K}
def vl (φ : K → Int) : List (K × Int) → Int
  | [] => 0
  | x :: l => x.2 * φ x.1 + vl φ l
omit [DecidableEq K] in
theorem vl_app (φ : K → Int) : ∀ l r : List (K × Int), vl φ (l ++ r) = vl φ l + vl φ r
  | [], r => by simp [vl]
  | x :: l, r => by simp only [List.cons_append, vl, vl_app φ l r]; omega
theorem co_vl (k : K) : ∀ l : List (K × Int), co k l = vl (fun e => if e = k then 1 else 0) l
  | [] => rfl
  | x :: l => by
    simp only [co, vl, co_vl k l]
    split <;> simp
theorem nf_vl (ho : Ord lt) {l r : List (K × Int)} (h : ∀ φ, vl φ l = vl φ r) : nf lt l = nf lt r :=
  nf_unique ho (nf_desc ho _) (nf_nz _) fun k => by rw [nf_co, co_vl, co_vl, h]
omit [DecidableEq K] in
theorem vl_congr {φ ψ : K → Int} : ∀ {l : List (K × Int)}, (∀ x ∈ l, φ x.1 = ψ x.1) → vl φ l = vl ψ l
  | [], _ => rfl
  | x :: l, h => by
    simp only [vl, h x (by simp), vl_congr (l := l) fun y hy => h y (by simp [hy])]
omit [DecidableEq K] in
theorem vl_add (φ ψ : K → Int) : ∀ l : List (K × Int), vl (fun e => φ e + ψ e) l = vl φ l + vl ψ l
  | [] => rfl
  | x :: l => by
    simp only [vl, vl_add φ ψ l, Int.mul_add]
    omega
omit [DecidableEq K] in
theorem vl_mul (c : Int) (φ : K → Int) : ∀ l : List (K × Int), vl (fun e => c * φ e) l = c * vl φ l
  | [] => by simp [vl]
  | x :: l => by
    simp only [vl, vl_mul c φ l, Int.mul_add]
    rw [Int.mul_left_comm]
omit [DecidableEq K] in
theorem vl_zero : ∀ l : List (K × Int), vl (fun _ => 0) l = 0
  | [] => rfl
  | x :: l => by simp [vl, vl_zero l]
omit [DecidableEq K] in
theorem vl_fub {J : Type} (φ : K → J → Int) (b : List (J × Int)) : ∀ a : List (K × Int), vl (fun e => vl (fun e' => φ e e') b) a = vl (fun e' => vl (fun e => φ e e') a) b
  | [] => by
    simp only [vl]
    rw [vl_zero]
  | x :: a => by
    simp only [vl]
    rw [vl_add, vl_mul, vl_fub φ b a]
omit [DecidableEq K] in
theorem vl_map (g : K → K) (q : Int) (φ : K → Int) : ∀ l : List (K × Int), vl φ (l.map fun y => (g y.1, q * y.2)) = q * vl (fun e => φ (g e)) l
  | [] => by simp [vl]
  | x :: l => by
    simp only [List.map_cons, vl, vl_map g q φ l, Int.mul_add, Int.mul_assoc]
omit [DecidableEq K] in
theorem vl_prodK (φ : K → Int) (g : List (K × Int)) : ∀ a : List (K × Int), vl φ (prodK mul a g) = vl (fun e => vl (fun e' => φ (mul e e')) g) a
  | [] => rfl
  | x :: a => by
    have := vl_prodK φ g a
    unfold prodK at this ⊢
    simp only [List.flatMap_cons, vl_app, vl, this]
    unfold mulT
    rw [vl_map]
omit [DecidableEq K] in
theorem vl_prod_com {D : K → Prop} (hc : ∀ a b, D a → D b → mul a b = mul b a) (φ : K → Int) {a b : List (K × Int)} (ha : ∀ x ∈ a, D x.1) (hb : ∀ x ∈ b, D x.1) : vl φ (prodK mul a b) = vl φ (prodK mul b a) := by
  rw [vl_prodK, vl_prodK, vl_fub]
  exact vl_congr fun x hx => vl_congr fun y hy => by rw [hc _ _ (ha y hy) (hb x hx)]
omit [DecidableEq K] in
omit [DecidableEq K] in
end
end Go.Proofs.Ytocknokodgnlbaa.Ab
namespace Go.Proofs.Ytocknokodgnlbaa.Ab
open Go
set_option linter.unusedSimpArgs false
set_option linter.unusedVariables false
end Go.Proofs.Ytocknokodgnlbaa.Ab
namespace Go.Proofs.Ytocknokodgnlbaa.Ab
open Go
end Go.Proofs.Ytocknokodgnlbaa.Ab
namespace Go.Proofs.Ytocknokodgnlbaa.Ab
open Go
set_option linter.unusedSimpArgs false
set_option linter.unusedVariables false
set_option maxRecDepth 10000
set_option maxHeartbeats 2000000
end Go.Proofs.Ytocknokodgnlbaa.Ab
namespace Go.Proofs.Ytocknokodgnlbaa.Ab
open Go
set_option linter.unusedSimpArgs false
set_option linter.unusedVariables false
/-! ### Powers of residues -/
/-! ### Equal modulo the prime -/
/-! ### Values -/
def ValOk (f : Lau) (ys : List Int) : Prop := Right f ∧ (ys.length : Int) = f.v ∧ ∀ y ∈ ys, y % 32003 ≠ 0
noncomputable instance (f : Lau) (ys : List Int) : Decidable (ValOk f ys) := Classical.propDecidable _
end Go.Proofs.Ytocknokodgnlbaa.Ab
namespace Go.Proofs.Ytocknokodgnlbaa.Ab
open Go
set_option linter.unusedSimpArgs false
set_option linter.unusedVariables false
set_option maxRecDepth 10000
set_option maxHeartbeats 2000000
def byts (xs : List Int) : List D := xs.map fun x => D.v (.int .u8 x)
@[simp] theorem byts_length (xs : List Int) : (byts xs).length = xs.length := by simp [byts]
theorem byts_0 {xs : List Int} {i : Nat} (h : i < xs.length) : (byts xs)[i]? = some (D.v (.int .u8 xs[i])) ∧ ∀ h', (byts xs)[i]'h' = D.v (.int .u8 xs[i]) := by
  unfold byts
  exact ⟨by simp [h], fun _ => by simp⟩
theorem and_bd (x : Int) {m : Int} {b : Nat} (hm : (BitVec.ofInt 64 m).toNat = b) (hb : b < 4611686018427387904) : 0 ≤ IntKind.i64.wrap ((BitVec.ofInt 64 x &&& BitVec.ofInt 64 m).toNat : Int) ∧ IntKind.i64.wrap ((BitVec.ofInt 64 x &&& BitVec.ofInt 64 m).toNat : Int) ≤ b := by
  have h1 : (BitVec.ofInt 64 x &&& BitVec.ofInt 64 m).toNat ≤ b := by
    rw [BitVec.toNat_and, hm]
    exact Nat.and_le_right
  rw [wrapOk (by omega) (by omega)]
  omega
theorem ints_snocA (xs : List Int) (x : Int) : ints xs ++ [D.v (.int .i64 x)] = ints (xs ++ [x]) := by simp [ints]
/-- The cursor at place i of a code. -/
def cur (xs : List Int) (i : Nat) (h : Int) : D := .bx [.sh 1 xs.length (byts xs), D.int i, D.int h]
attribute [local simp] cur
/-- What a drawing does: the cursor goes on, a number comes. -/
def DrawI (xs : List Int) (p : Int → Prop) (outs : List D) (res : List RV) : Prop := ∃ (i' : Nat) (h' r : Int), i' ≤ xs.length ∧ p r ∧ outs = [cur xs i' h'] ∧ res = [.one (D.int r)]
def DrawE (xs : List Int) (p : List Int → Prop) (outs : List D) (res : List RV) : Prop := ∃ (i' : Nat) (h' : Int) (e : List Int), i' ≤ xs.length ∧ p e ∧ outs = [cur xs i' h'] ∧ res = [.one (owI e)]
theorem laws_big_calls (xs : List Int) : ACalls Try.prog F.laws_big [.d (.sh 1 xs.length (byts xs))] [] true (fun outs res => outs = [] ∧ res = [.one (D.bool (decide (1048576 < (xs.length : Int))))]) := by
  refine ACalls.of_body (C := C.laws_big) (n := Try.f10.ntmps) tabT folT Try.func10 rfl (by kernel_rfl) rfl (Nat.le_of_ble_eq_true rfl) (by decide) (by kernel_rfl) (by kernel_rfl) rfl (by simp) (by simp) ?_
  simp only [Try.f10]
  refine wseq ?_
  refine wreg fun K hK => ?_
  simp [C.laws_big]
  refine hK _ ?_; clear hK K
  show AWp _ _ _ _ _
  refine wseq ?_
  refine wreg fun K hK => ?_
  simp [C.laws_big]
  refine hK _ ?_; clear hK K
  show AWp _ _ _ _ _
  refine wret ?_
  simp [C.laws_big]

theorem spec_l1New_calls (xs : List Int) (hx : xs.length ≤ 1048576) : ACalls Try.prog F.spec_l1New [.d (.sh 1 xs.length (byts xs))] [] false (fun outs res => outs = [] ∧ ∃ h : Int, res = [.one (cur xs 0 h)]) := by
  refine ACalls.of_body (C := C.spec_l1New) (n := Try.f49.ntmps) tabT folT Try.func49 rfl (by kernel_rfl) rfl (Nat.le_of_ble_eq_true rfl) (by decide) (by kernel_rfl) (by kernel_rfl) rfl (by simp) (by simp) ?_
  simp only [Try.f49]
  refine wseq ?_
  refine wreg fun K hK => ?_
  simp [C.spec_l1New]
  refine hK _ ?_; clear hK K
  show AWp _ _ _ _ _
  refine wseq ?_
  refine wreg fun K hK => ?_
  simp [C.spec_l1New]
  rw [wrapOk (x := 124929 + (xs.length : Int)) (by omega) (by omega)]
  refine hK _ ?_; clear hK K
  show AWp _ _ _ _ _
  refine wseq ?_
  refine wseq ?_
  refine wreg fun K hK => ?_
  simp [C.spec_l1New]
  refine hK _ ?_; clear hK K
  show AWp _ _ _ _ _
  refine wblock ?_
  refine wloop (fun x : Nat × Int => ⟨ofL [(0, .d (.sh 1 xs.length (byts xs))), (3, .int x.2), (4, .int x.1)], ofRO []⟩) (fun x => x.1 ≤ xs.length) (fun x => xs.length - x.1) (0, 124929 + (xs.length : Int)) (by simp [C.spec_l1New]) (by simp) ?_
  intro x1 hx1 R1 hR1
  obtain ⟨j, h⟩ := x1
  dsimp only at hx1 ⊢
  refine wseq ?_
  refine wseq ?_
  refine wreg fun K hK => ?_
  have hJ : K ⟨ofL [(0, .d (.sh 1 xs.length (byts xs))), (3, .int h), (4, .int j), (15, .bool (decide (j < xs.length ∧ (j : Int) < 4000)))], ofRO []⟩ := by
    refine hK _ ?_; clear hK K
    show AWp _ _ _ _ _
    refine wcond _ rfl (fun hc1 => ?_) (fun hc1 => ?_)
    · have hh := d_t hc1
      have h1 : j < xs.length := hh.1
      refine wskip ?_
      show AWp _ _ _ _ _
      refine wseq ?_
      refine wblock ?_
      refine wreg fun K hK => ?_
      simp [C.spec_l1New, h1, byts_0 h1]
      refine hK _ ?_; clear hK K
      show AWp _ _ _ _ _
      refine wreg fun K hK => ?_
      simp [C.spec_l1New, wrap_succ (show j < 4611686018427387904 by omega)]
      refine hK _ ?_; clear hK K
      simp [C.spec_l1New]
      exact hR1 (j + 1, _) h1 (by dsimp only; omega)
    · refine wexit ?_
      show AWp _ _ _ _ _
      refine wseq ?_
      refine wreg fun K hK => ?_
      simp [C.spec_l1New]
      refine hK _ ?_; clear hK K
      show AWp _ _ _ _ _
      refine wret ?_
      simp [C.spec_l1New, cur]
  clear hK
  by_cases ha : j < xs.length
  · simp [C.spec_l1New, ha]
    refine cast (congrArg K ?_) hJ
    simp [ha]
  · simp [C.spec_l1New, ha]
    refine cast (congrArg K ?_) hJ
    simp [ha]

theorem spec_l1Byte_calls (xs : List Int) (i : Nat) (h : Int) (hi : i ≤ xs.length) (hx : xs.length ≤ 1048576) : ACalls Try.prog F.spec_l1Byte [.pt (0, 0) [] 0] [((0, 0), cur xs i h)] false (DrawI xs (fun r => 0 ≤ r ∧ r ≤ 255)) := by
  refine ACalls.of_body (C := C.spec_l1Byte) (n := Try.f111.ntmps) tabT folT Try.func111 rfl (by kernel_rfl) rfl (Nat.le_of_ble_eq_true rfl) (by decide) (by kernel_rfl) (by kernel_rfl) rfl (by simp) (by simp) ?_
  simp only [Try.f111]
  refine wseq ?_
  refine wreg fun K hK => ?_
  simp [C.spec_l1Byte, cur]
  refine hK _ ?_; clear hK K
  show AWp _ _ _ _ _
  refine wseq ?_
  refine wreg fun K hK => ?_
  simp [C.spec_l1Byte, cur]
  refine hK _ ?_; clear hK K
  show AWp _ _ _ _ _
  refine wseq ?_
  refine wdrawI [(true, 0), (true, 1), (true, 2), (true, 3), (true, 4), (true, 5), (true, 6), (true, 7), (true, 8), (true, 9), (true, 10), (true, 11), (true, 12)] ⟨by kernel_rfl, by kernel_rfl⟩ ([0, 1, 2, 3, 4, 5, 6, 7, 8, 9, 10, 11, 12]) rfl fun K hK => ?_
  refine opsI_end fun L hL => ?_
  simp [C.spec_l1Byte, cur]
  refine hL _ ?_; clear hL L
  simp [C.spec_l1Byte, cur]
  refine hK _ ?_; clear hK K
  show AWp _ _ _ _ _
  refine wseq ?_
  refine wseq ?_
  refine wdraw (.take 0 (.take 1 (.take 2 (.take 3 (.take 4 (.take 5 (.take 6 (.take 7 (.take 8 (.take 9 (.done))))))))))) ⟨by kernel_rfl, by kernel_rfl⟩ fun K hK => ?_
  simp [C.spec_l1Byte, cur]
  refine hK _ ?_; clear hK K
  show AWp _ _ _ _ _
  refine wcond _ rfl (fun hc1 => ?_) (fun hc1 => ?_)
  · have h1 : i < xs.length := by have := d_t hc1; omega
    refine wseq ?_
    refine wdrawI [(true, 0), (true, 1), (true, 2), (true, 3), (true, 4), (true, 5), (true, 6), (true, 7), (true, 8), (true, 9), (true, 10), (true, 11), (true, 12), (true, 13), (true, 14)] ⟨by kernel_rfl, by kernel_rfl⟩ ([0, 1, 2, 3, 4, 5, 6, 7, 8, 9, 10, 11, 12, 13, 14]) rfl fun K hK => ?_
    refine opsI_end fun L hL => ?_
    simp [C.spec_l1Byte, cur, h1, byts_0 h1]
    refine hL _ ?_; clear hL L
    simp [C.spec_l1Byte, cur, h1, byts_0 h1]
    refine hK _ ?_; clear hK K
    show AWp _ _ _ _ _
    refine wreg fun K hK => ?_
    simp [C.spec_l1Byte, cur, wrap_succ (show i < 4611686018427387904 by omega)]
    refine hK _ ?_; clear hK K
    show AWp _ _ _ _ _
    refine wseq ?_
    refine wreg fun K hK => ?_
    simp [C.spec_l1Byte, cur]
    refine hK _ ?_; clear hK K
    show AWp _ _ _ _ _
    refine wret ?_
    simp [C.spec_l1Byte, cur, cur]
    exact ⟨i + 1, _, _, h1, and_bd (m := 255) (b := 255) _ (by decide) (by decide), rfl, rfl⟩
  · have h1 : ¬ i < xs.length := by have := d_f hc1; omega
    refine wskip ?_
    show AWp _ _ _ _ _
    refine wseq ?_
    refine wreg fun K hK => ?_
    simp [C.spec_l1Byte, cur]
    refine hK _ ?_; clear hK K
    show AWp _ _ _ _ _
    refine wret ?_
    simp [C.spec_l1Byte, cur, cur]
    exact ⟨i, _, _, hi, and_bd (m := 255) (b := 255) _ (by decide) (by decide), rfl, rfl⟩

theorem spec_l1Below_calls (xs : List Int) (i : Nat) (h n : Int) (hi : i ≤ xs.length) (hx : xs.length ≤ 1048576) (hn : 0 < n ∧ n ≤ 256) : ACalls Try.prog F.spec_l1Below [.pt (0, 0) [] 0, .int n] [((0, 0), cur xs i h)] false (DrawI xs (fun r => 0 ≤ r ∧ r < n)) := by
  refine ACalls.of_body (C := C.spec_l1Below) (n := Try.f50.ntmps) tabT folT Try.func50 rfl (by kernel_rfl) rfl (Nat.le_of_ble_eq_true rfl) (by decide) (by kernel_rfl) (by kernel_rfl) rfl (by simp) (by simp) ?_
  simp only [Try.f50]
  refine wseq ?_
  refine wreg fun K hK => ?_
  simp [C.spec_l1Below, cur]
  refine hK _ ?_; clear hK K
  show AWp _ _ _ _ _
  refine wseq ?_
  refine wseq ?_
  refine wreg fun K hK => ?_
  simp [C.spec_l1Below, cur]
  refine hK _ ?_; clear hK K
  show AWp _ _ _ _ _
  refine wcond _ rfl (fun hc1 => ?_) (fun hc1 => ?_)
  · have := d_t hc1; omega
  · refine wskip ?_
    show AWp _ _ _ _ _
    refine wseq ?_
    refine wseq ?_
    refine wreg fun K hK => ?_
    simp [C.spec_l1Below, cur]
    refine hK _ ?_; clear hK K
    show AWp _ _ _ _ _
    refine wcond _ rfl (fun hc2 => ?_) (fun hc2 => ?_)
    · refine wseq ?_
      refine wregI ([0, 1] ++ ([2, 3, 4])) rfl fun K hK => ?_
      refine opsI_seg fun L hL => ?_
      simp [C.spec_l1Below, cur, show ¬ n = 0 by omega]
      refine wcall (spec_l1Byte_calls xs i h hi hx) (by simp) (by simp) (by simp) ?_
      rintro outs res ⟨i', h', r, q1, q2, rfl, rfl⟩
      simp [C.spec_l1Below, cur, show ¬ n = 0 by omega]
      refine hL _ ?_; clear hL L
      refine opsI_end fun L hL => ?_
      simp [C.spec_l1Below, cur, show ¬ n = 0 by omega]
      refine hL _ ?_; clear hL L
      simp [C.spec_l1Below, cur, show ¬ n = 0 by omega]
      refine hK _ ?_; clear hK K
      show AWp _ _ _ _ _
      refine wret ?_
      simp [C.spec_l1Below, cur]
      exact ⟨i', h', r.tmod n, q1, ⟨Int.tmod_nonneg _ q2.1, Int.tmod_lt_of_pos _ hn.1⟩, rfl, rfl⟩
    · have := d_f hc2; omega

theorem spec_dExp_calls (xs : List Int) (i : Nat) (h : Int) (n : Nat) (hi : i ≤ xs.length) (hx : xs.length ≤ 1048576) (hn : n ≤ 8) : ACalls Try.prog F.spec_dExp [.pt (0, 0) [] 0, .int n] [((0, 0), cur xs i h)] false (DrawE xs (fun e => e.length = n ∧ ∀ x ∈ e, -2 ≤ x ∧ x ≤ 2)) := by
  refine ACalls.of_body (C := C.spec_dExp) (n := Try.f113.ntmps) tabT folT Try.func113 rfl (by kernel_rfl) rfl (Nat.le_of_ble_eq_true rfl) (by decide) (by kernel_rfl) (by kernel_rfl) rfl (by simp) (by simp) ?_
  simp only [Try.f113]
  refine wseq ?_
  refine wreg fun K hK => ?_
  simp [C.spec_dExp, cur]
  refine hK _ ?_; clear hK K
  show AWp _ _ _ _ _
  refine wseq ?_
  refine wreg fun K hK => ?_
  simp [C.spec_dExp, cur]
  refine hK _ ?_; clear hK K
  show AWp _ _ _ _ _
  refine wseq ?_
  refine wseq ?_
  refine wreg fun K hK => ?_
  simp [C.spec_dExp, cur]
  refine hK _ ?_; clear hK K
  show AWp _ _ _ _ _
  refine wblock ?_
  refine wloop (fun x : Nat × List Int × Nat × Int => ⟨ofL [(0, .pt (0, 0) [] 0), (1, .int n), (5, .al (5, 0) [] 0 x.1), (6, .int x.1), (1000, .pt (0, 0) [] 0)], ofRO [((0, 0), some (cur xs x.2.2.1 x.2.2.2)), ((5, 0), some (.ow 1 x.1 (ints x.2.1)))]⟩) (fun x => x.1 ≤ n ∧ x.2.1.length = x.1 ∧ (∀ y ∈ x.2.1, -2 ≤ y ∧ y ≤ 2) ∧ x.2.2.1 ≤ xs.length) (fun x => n - x.1) (0, [], i, h) (by simp [C.spec_dExp, ints]) ⟨by simp, rfl, by simp, hi⟩ ?_
  intro x1 hx1 R1 hR1
  obtain ⟨j, e, i1, h1⟩ := x1
  obtain ⟨g1, g2, g3, g4⟩ := hx1
  dsimp only at g1 g2 g3 g4 ⊢
  refine wseq ?_
  refine wseq ?_
  refine wreg fun K hK => ?_
  simp [C.spec_dExp, cur]
  refine hK _ ?_; clear hK K
  show AWp _ _ _ _ _
  refine wcond _ rfl (fun hc1 => ?_) (fun hc1 => ?_)
  · have hj : j < n := by have := d_t hc1; omega
    refine wskip ?_
    show AWp _ _ _ _ _
    refine wseq ?_
    refine wblock ?_
    refine wregI ([0, 1, 2] ++ ([3, 4, 5, 6])) rfl fun K hK => ?_
    refine opsI_seg fun L hL => ?_
    simp [C.spec_dExp, cur, ints_snocA, show (j + 1) * 8 ≤ 140737488355328 by omega]
    refine wcall (spec_l1Below_calls xs i1 h1 5 g4 hx (by omega)) (by simp) (by simp) (by simp) ?_
    rintro outs res ⟨i', h', r, q1, q2, rfl, rfl⟩
    simp [C.spec_dExp, cur, ints_snocA, show (j + 1) * 8 ≤ 140737488355328 by omega]
    refine hL _ ?_; clear hL L
    refine opsI_end fun L hL => ?_
    simp [C.spec_dExp, cur, ints_snocA, show (j + 1) * 8 ≤ 140737488355328 by omega]
    refine hL _ ?_; clear hL L
    simp [C.spec_dExp, cur, ints_snocA, show (j + 1) * 8 ≤ 140737488355328 by omega]
    refine hK _ ?_; clear hK K
    show AWp _ _ _ _ _
    refine wreg fun K hK => ?_
    simp [C.spec_dExp, cur, wrap_succ (show j < 4611686018427387904 by omega)]
    refine hK _ ?_; clear hK K
    simp [C.spec_dExp, cur]
    rw [wrapOk (x := r - 2) (by omega) (by omega)]
    refine hR1 (j + 1, e ++ [r - 2], i', h') ⟨hj, by dsimp only; simp; omega, ?_, q1⟩ (by dsimp only; omega)
    dsimp only
    intro y hy
    rcases List.mem_append.1 hy with hy | hy
    · exact g3 y hy
    · simp only [List.mem_singleton] at hy
      omega
  · have hj : j = n := by have := d_f hc1; omega
    refine wexit ?_
    show AWp _ _ _ _ _
    refine wseq ?_
    refine wreg fun K hK => ?_
    simp [C.spec_dExp, cur]
    refine hK _ ?_; clear hK K
    show AWp _ _ _ _ _
    refine wret ?_
    simp [C.spec_dExp, cur]
    exact ⟨i1, h1, e, g4, ⟨by omega, g3⟩, by simp [hj, g2, owI]⟩

end Go.Proofs.Ytocknokodgnlbaa.Ab
namespace Go.Proofs.Ytocknokodgnlbaa.Ab
open Go
set_option linter.unusedSimpArgs false
set_option linter.unusedVariables false
set_option maxRecDepth 10000
set_option maxHeartbeats 2000000
attribute [local simp] cur
/-- A sum as it is drawn. -/
def Drawn (n : Nat) (f : Lau) : Prop := Right f ∧ f.v = n ∧ f.ts.length ≤ 4 ∧ ∀ t ∈ f.ts, (-16 ≤ t.c ∧ t.c ≤ 16) ∧ ∀ x ∈ t.e, -2 ≤ x ∧ x ≤ 2
theorem co_at {K : Type} [DecidableEq K] {lt : K → K → Bool} (ho : Ord lt) : ∀ {l : List (K × Int)}, Desc lt l → ∀ x ∈ l, co x.1 l = x.2
  | y :: l, h, x, hx => by
    rcases List.mem_cons.1 hx with rfl | hx
    · simp only [co, if_true]
      rw [co_none x.1 l (desc_tail_ne ho h)]
      omega
    · have hne := desc_tail_ne ho h x hx
      simp only [co]
      rw [if_neg (fun e => hne e.symm), co_at ho (List.pairwise_cons.1 h).2 x hx]
      omega
end Go.Proofs.Ytocknokodgnlbaa.Ab
namespace Go.Proofs.Ytocknokodgnlbaa.Ab
open Go
set_option linter.unusedSimpArgs false
set_option linter.unusedVariables false
set_option maxRecDepth 10000
set_option maxHeartbeats 2000000
attribute [local simp] cur
theorem laws_ints_calls (a b : List Int) (hx : a.length < 4611686018427387904) : ACalls Try.prog F.laws_ints [.d (shI a), .d (shI b)] [] true (fun outs res => outs = [] ∧ res = [.one (D.bool (decide (a = b)))]) := by
  refine ACalls.of_body (C := C.laws_ints) (n := Try.f61.ntmps) tabT folT Try.func61 rfl (by kernel_rfl) rfl (Nat.le_of_ble_eq_true rfl) (by decide) (by kernel_rfl) (by kernel_rfl) rfl (by simp) (by simp) ?_
  simp only [Try.f61]
  refine wseq ?_
  refine wreg fun K hK => ?_
  simp [C.laws_ints]
  refine hK _ ?_; clear hK K
  show AWp _ _ _ _ _
  refine wseq ?_
  refine wseq ?_
  refine wreg fun K hK => ?_
  simp [C.laws_ints]
  refine hK _ ?_; clear hK K
  show AWp _ _ _ _ _
  refine wcond _ rfl (fun hc1 => ?_) (fun hc1 => ?_)
  · refine wseq ?_
    refine wreg fun K hK => ?_
    simp [C.laws_ints]
    refine hK _ ?_; clear hK K
    show AWp _ _ _ _ _
    refine wret ?_
    have hc : ¬ a.length = b.length := by simp at hc1; omega
    simp [C.laws_ints]
    intro e; simp [e] at hc
  · refine wskip ?_
    show AWp _ _ _ _ _
    refine wseq ?_
    refine wseq ?_
    refine wreg fun K hK => ?_
    simp [C.laws_ints]
    refine hK _ ?_; clear hK K
    show AWp _ _ _ _ _
    refine wblock ?_
    have e : a.length = b.length := by simp at hc1; omega
    refine wloop (fun k : Nat => ⟨ofL [(0, .d (shI a)), (1, .d (shI b)), (5, FV.int k)], ofRO []⟩) (fun k => k ≤ a.length ∧ a.take k = b.take k) (fun k => a.length - k) 0 (by simp [C.laws_ints]) (by simp) ?_
    intro x1 hx1 R1 hR1
    obtain ⟨hk, ht⟩ := hx1
    refine wseq ?_
    refine wseq ?_
    refine wreg fun K hK => ?_
    simp [C.laws_ints]
    refine hK _ ?_; clear hK K
    show AWp _ _ _ _ _
    refine wcond _ rfl (fun hc2 => ?_) (fun hc2 => ?_)
    · refine wskip ?_
      show AWp _ _ _ _ _
      refine wseq ?_
      refine wblock ?_
      refine wseq ?_
      have h1 : x1 < a.length := by simpa using hc2
      have h2 : x1 < b.length := by omega
      refine wdraw (.take 0 (.take 1 (.take 2 (.take 3 (.take 4 (.take 5 (.take 6 (.take 7 (.take 8 (.done)))))))))) ⟨by kernel_rfl, by kernel_rfl⟩ fun K hK => ?_
      simp [C.laws_ints, h1, h2, get_ints]
      refine hK _ ?_; clear hK K
      show AWp _ _ _ _ _
      refine wcond _ rfl (fun hc3 => ?_) (fun hc3 => ?_)
      · refine wseq ?_
        refine wreg fun K hK => ?_
        simp [C.laws_ints]
        refine hK _ ?_; clear hK K
        show AWp _ _ _ _ _
        refine wret ?_
        have hc : ¬ a[x1] = b[x1] := by simpa using hc3
        simp [C.laws_ints]
        intro e2
        subst e2
        exact hc rfl
      · refine wskip ?_
        show AWp _ _ _ _ _
        refine wreg fun K hK => ?_
        simp [C.laws_ints, wrap_succ (show x1 < 4611686018427387904 by omega)]
        refine hK _ ?_; clear hK K
        simp [C.laws_ints]
        have hc : a[x1] = b[x1] := by simpa using hc3
        refine hR1 (x1 + 1) ⟨h1, ?_⟩ (by omega)
        rw [List.take_succ_eq_append_getElem h1, List.take_succ_eq_append_getElem h2, ht, hc]
    · refine wexit ?_
      show AWp _ _ _ _ _
      refine wseq ?_
      refine wreg fun K hK => ?_
      simp [C.laws_ints]
      refine hK _ ?_; clear hK K
      show AWp _ _ _ _ _
      refine wret ?_
      have hk2 : x1 = a.length := by simp at hc2; omega
      simp [C.laws_ints]
      rw [hk2, List.take_length, e, List.take_length] at ht
      exact ht

end Go.Proofs.Ytocknokodgnlbaa.Ab
namespace Go.Proofs.Ytocknokodgnlbaa.Ab
open Go
set_option linter.unusedSimpArgs false
set_option linter.unusedVariables false
set_option linter.unusedSectionVars false
section
variable {K : Type} [DecidableEq K] {lt : K → K → Bool} {mul dv : K → K → K} {D : K → Prop} {chk : K → Int → Bool}
theorem insK_top {k : K} {c : Int} (ho : Ord lt) (hc : c ≠ 0) : ∀ (l : List (K × Int)), (∀ x ∈ l, lt x.1 k = true) → insK lt k c l = (k, c) :: l
  | [], _ => by simp [insK, hc]
  | x :: l, h => by
    have hx := h x (by simp)
    have hne : ¬ x.1 = k := fun e => by rw [e, ho.irr] at hx; simp at hx
    simp only [insK]
    rw [if_neg hne, if_pos hx, if_neg hc]
theorem co_prodK_cons (q : K) (x : K × Int) (a g : List (K × Int)) : co q (prodK mul (x :: a) g) = co q (mulT mul x.1 x.2 g) + co q (prodK mul a g) := by
  unfold prodK
  rw [List.flatMap_cons, co_append]
theorem prodK_mem {a g : List (K × Int)} {y : K × Int} (h : y ∈ prodK mul a g) : ∃ x ∈ a, ∃ z ∈ g, y = (mul x.1 z.1, x.2 * z.2) := by
  unfold prodK at h
  obtain ⟨x, hx, h⟩ := List.mem_flatMap.1 h
  obtain ⟨z, hz, h⟩ := List.mem_map.1 h
  exact ⟨x, hx, z, hz, h.symm⟩
/-- Division of a product by a factor. -/
theorem divGo_prod (ho : Ord lt) (ha : Act lt mul dv D) (hdm : ∀ a b, D a → D b → dv (mul a b) b = a) (hml : ∀ x y b, D x → D y → D b → lt x y = true → lt (mul x b) (mul y b) = true)
    {b : K} {d : Int} {gt : List (K × Int)} (hgd : Desc lt ((b, d) :: gt)) (hg0 : d ≠ 0) (hgD : ∀ x ∈ (b, d) :: gt, D x.1) :
    ∀ (k : Nat) (fs : List (K × Int)), Desc lt fs → Nz fs → (∀ x ∈ fs, D x.1 ∧ chk x.1 x.2 = true) → fs.length ≤ k → divGo lt mul dv chk ((b, d) :: gt) b d k (nf lt (prodK mul fs ((b, d) :: gt))) = some fs
  | k, [], _, _, _, _ => by cases k <;> rfl
  | 0, x :: fs, _, _, _, h => by simp at h
  | k + 1, x :: fs, hd, hz, hc, hk => by
    obtain ⟨hd1, hd2⟩ := List.pairwise_cons.1 hd
    have hxz := hz x (by simp)
    have hxD := (hc x (by simp)).1
    have hbD := hgD (b, d) (by simp)
    have hc0 : x.2 * d ≠ 0 := Int.mul_ne_zero hxz hg0
    have hgt := (List.pairwise_cons.1 hgd).1
    -- the greatest term
    have hrest : ∀ y ∈ mulT mul x.1 x.2 gt ++ prodK mul fs ((b, d) :: gt), lt y.1 (mul x.1 b) = true := fun y hy => by
      rcases List.mem_append.1 hy with hy | hy
      · obtain ⟨z, hzg, rfl⟩ := List.mem_map.1 hy
        exact ha.mul_lt _ _ _ hxD (hgD z (by simp [hzg])) hbD (hgt z hzg)
      · obtain ⟨u, hu, z, hzg, rfl⟩ := prodK_mem hy
        have huD := (hc u (by simp [hu])).1
        have h1 := hml _ _ b huD hxD hbD (hd1 u hu)
        rcases List.mem_cons.1 hzg with rfl | hzg
        · exact h1
        · exact ho.tr _ _ _ (ha.mul_lt _ _ _ huD (hgD z (by simp [hzg])) hbD (hgt z hzg)) h1
    have hR : nf lt (prodK mul (x :: fs) ((b, d) :: gt)) = (mul x.1 b, x.2 * d) :: nf lt (mulT mul x.1 x.2 gt ++ prodK mul fs ((b, d) :: gt)) := by
      have e : prodK mul (x :: fs) ((b, d) :: gt) = (mul x.1 b, x.2 * d) :: (mulT mul x.1 x.2 gt ++ prodK mul fs ((b, d) :: gt)) := rfl
      rw [e]
      show insK lt (mul x.1 b) (x.2 * d) (nf lt _) = _
      refine insK_top ho hc0 _ fun y hy => ?_
      obtain ⟨z, hzz, e2⟩ := nf_mem hy
      rw [← e2]
      exact hrest z hzz
    rw [hR]
    simp only [divGo]
    have h1 : (x.2 * d).tmod d = 0 := Int.mul_tmod_left _ _
    have h2 : (x.2 * d).tdiv d = x.2 := Int.mul_tdiv_cancel _ hg0
    rw [hdm _ _ hxD hbD, h1, h2, if_pos ⟨rfl, (hc x (by simp)).2⟩]
    have hnf : nf lt ((mul x.1 b, x.2 * d) :: nf lt (mulT mul x.1 x.2 gt ++ prodK mul fs ((b, d) :: gt)) ++ mulT mul x.1 (-x.2) ((b, d) :: gt)) = nf lt (prodK mul fs ((b, d) :: gt)) := by
      refine nf_unique ho (nf_desc ho _) (nf_nz _) fun q => ?_
      rw [nf_co, ← hR, co_append, nf_co, co_prodK_cons, co_mulT_neg]
      omega
    rw [hnf, divGo_prod ho ha hdm hml hgd hg0 hgD k fs hd2 (fun y hy => hz y (by simp [hy])) (fun y hy => hc y (by simp [hy])) (by simpa using hk)]
    rfl
end
end Go.Proofs.Ytocknokodgnlbaa.Ab
namespace Go.Proofs.Ytocknokodgnlbaa.Ab
open Go
set_option linter.unusedSimpArgs false
set_option linter.unusedVariables false
theorem lau_eta (f : Lau) : (⟨f.v, (f.ts.map pr).map tm⟩ : Lau) = f := by
  rw [List.map_map]
  have : tm ∘ pr = id := rfl
  rw [this, List.map_id]
end Go.Proofs.Ytocknokodgnlbaa.Ab
namespace Go.Proofs.Ytocknokodgnlbaa.Ab
open Go
set_option linter.unusedSimpArgs false
set_option linter.unusedVariables false
set_option maxRecDepth 10000
set_option maxHeartbeats 2000000
end Go.Proofs.Ytocknokodgnlbaa.Ab
namespace Go.Proofs.Ytocknokodgnlbaa.Ab
open Go
set_option linter.unusedSimpArgs false
set_option linter.unusedVariables false
theorem addE_comm1 : ∀ (a b : List Int), a.length = b.length → addE 1 a b = addE 1 b a
  | [], [], _ => rfl
  | x :: a, y :: b, h => by
    simp only [addE, addE_comm1 a b (by simpa using h), Int.one_mul]
    rw [Int.add_comm]
theorem prodL_eq (a b : List (List Int × Int)) : prodL a b = prodK (addE 1) a b := rfl
/-! ### The ring -/
theorem ring_com {n : Nat} {f g : Lau} (hf : ∀ x ∈ f.ts.map pr, x.1.length = n) (hg : ∀ x ∈ g.ts.map pr, x.1.length = n) : nf lexlt (prodL (f.ts.map pr) (g.ts.map pr)) = nf lexlt (prodL (g.ts.map pr) (f.ts.map pr)) :=
  nf_vl lexOrd fun φ => by
    rw [prodL_eq, prodL_eq]
    exact vl_prod_com (D := fun e => e.length = n) (fun a b h1 h2 => addE_comm1 a b (h1.trans h2.symm)) φ hf hg
theorem addE_zero1 : ∀ (n : Nat) (a : List Int), a.length = n → addE 1 (List.replicate n 0) a = a
  | 0, [], _ => rfl
  | n + 1, x :: a, h => by
    simp only [List.replicate_succ, addE, addE_zero1 n a (by simpa using h)]
    simp
theorem one_mul {n : Nat} {f : Lau} (hf : Right f) (hn : f.v = n) : mulF (oneF n) f = (f, true) ∧ mulF f (oneF n) = (f, true) := by
  have hn8 : 1 ≤ n ∧ n ≤ 8 := by have := hf.1; omega
  have h1 := oneF_right hn8
  have hl : ∀ x ∈ f.ts.map pr, x.1.length = n := fun x hx => by
    obtain ⟨t, ht, rfl⟩ := List.mem_map.1 hx
    exact (right_dig hf hn t ht).1
  have h1l : ∀ x ∈ (oneF n).ts.map pr, x.1.length = n := fun x hx => by
    simp only [oneF, List.map_cons, List.map_nil, List.mem_singleton] at hx
    subst hx
    simp [pr]
  have e : prodL ((oneF n).ts.map pr) (f.ts.map pr) = f.ts.map pr := by
    simp only [oneF, List.map_cons, List.map_nil, prodL, List.flatMap_cons, List.flatMap_nil, List.append_nil]
    have : ∀ l : List (List Int × Int), (∀ x ∈ l, x.1.length = n) → l.map (fun y => (addE 1 (pr ⟨List.replicate n 0, 1⟩).1 y.1, (pr ⟨List.replicate n 0, 1⟩).2 * y.2)) = l := fun l hl => by
      refine (List.map_congr_left fun x hx => ?_).trans (List.map_id l)
      simp only [pr, addE_zero1 n x.1 (hl x hx), Int.one_mul, id]
    exact this _ hl
  have enf : nf lexlt (f.ts.map pr) = f.ts.map pr := (nf_unique lexOrd (pr_desc hf) (pr_nz hf) fun k => rfl).symm
  constructor
  · unfold mulF
    rw [if_pos ⟨h1, hf, hn.symm⟩, e]
    unfold shutF
    rw [enf]
    have : (⟨(oneF n).v, (f.ts.map pr).map tm⟩ : Lau) = f := by
      rw [show (oneF n).v = f.v from hn.symm]
      exact lau_eta f
    rw [this, if_pos hf]
  · unfold mulF
    rw [if_pos ⟨hf, h1, hn⟩]
    unfold shutF
    rw [ring_com hl h1l, e, enf, lau_eta, if_pos hf]
/-! ### Values -/
end Go.Proofs.Ytocknokodgnlbaa.Ab
namespace Go.Proofs.Ytocknokodgnlbaa.Ab
open Go
set_option linter.unusedSimpArgs false
set_option linter.unusedVariables false
theorem skw_bd {fm : List (List Int)} {a b : List Int} {F E E' : Nat} (hF : ∀ i, i < fm.length → ∀ j, j < fm.length → (at2 fm i j).natAbs ≤ F) (ha : a.length = fm.length) (hb : b.length = fm.length) (hE : ∀ x ∈ a, -(E : Int) ≤ x ∧ x ≤ E) (hE' : ∀ x ∈ b, -(E' : Int) ≤ x ∧ x ≤ E') :
    (skw fm a b).natAbs ≤ fm.length * (fm.length * (E * F * E')) := by
  refine sm_bd _ fun i hi => sm_bd _ fun j hj => ?_
  have h1 : (a.getD i 0).natAbs ≤ E := by
    rw [int_eq (by omega)]
    have := hE _ (List.getElem_mem (show i < a.length by omega))
    omega
  have h2 : (b.getD j 0).natAbs ≤ E' := by
    rw [int_eq (by omega)]
    have := hE' _ (List.getElem_mem (show j < b.length by omega))
    omega
  exact mulB (mulB h1 (hF i hi j hj)) h2
/-- The product of keys. -/
def qm2 (fm : List (List Int)) (a b : QK) : QK := (addE 1 a.1 b.1, a.2 + b.2 + skw fm a.1 b.1)
theorem prodQ_qp (fm : List (List Int)) (a b : List Qtm) : (prodQ fm a b).map qp = prodK (qm2 fm) (a.map qp) (b.map qp) := by
  induction a with
  | nil => rfl
  | cons x a ih =>
    unfold prodQ prodK at ih ⊢
    simp only [List.flatMap_cons, List.map_append, List.map_cons, ih]
    congr 1
    unfold mulT
    rw [List.map_map, List.map_map]
    rfl
/-! ### Bounds -/
structure BdQ (n : Nat) (f : Qsm) (L C E H : Nat) : Prop where
  right : QRight f
  v : f.v = n
  len : f.ts.length ≤ L
  co : ∀ t ∈ f.ts, t.c.natAbs ≤ C
  ex : ∀ t ∈ f.ts, t.e.length = n ∧ ∀ x ∈ t.e, -(E : Int) ≤ x ∧ x ≤ E
  hf : ∀ t ∈ f.ts, -(H : Int) ≤ t.h ∧ t.h ≤ H
structure BqL (n : Nat) (l : List (QK × Int)) (L C E H : Nat) : Prop where
  len : l.length ≤ L
  co : ∀ x ∈ l, x.2.natAbs ≤ C
  ex : ∀ x ∈ l, x.1.1.length = n ∧ ∀ y ∈ x.1.1, -(E : Int) ≤ y ∧ y ≤ E
  hf : ∀ x ∈ l, -(H : Int) ≤ x.1.2 ∧ x.1.2 ≤ H
theorem BdQ.qp {n : Nat} {f : Qsm} {L C E H : Nat} (h : BdQ n f L C E H) : BqL n (f.ts.map Ab.qp) L C E H := by
  refine ⟨by simpa using h.len, fun x hx => ?_, fun x hx => ?_, fun x hx => ?_⟩ <;> obtain ⟨t, ht, rfl⟩ := List.mem_map.1 hx
  · exact h.co t ht
  · exact h.ex t ht
  · exact h.hf t ht
theorem absQK2_le {l : List (QK × Int)} {B : Nat} (h : ∀ x ∈ l, x.2.natAbs ≤ B) (k : QK) : (co k l).natAbs ≤ l.length * B := by
  induction l with
  | nil => simp [co]
  | cons x l ih =>
    have h1 := h x (by simp)
    have h2 := ih fun y hy => h y (by simp [hy])
    simp only [co, List.length_cons, Nat.add_mul, Nat.one_mul]
    split <;> omega
theorem enq_bnd {n : Nat} (hn : 1 ≤ n ∧ n ≤ 8) {l : List (QK × Int)} {L C E H : Nat} (h : BqL n l L C E H) (hL : L ≤ 600) (hC : L * C ≤ 1000000) (hE : E ≤ 20) (hH : H ≤ 200) :
    enQ n ((nf qlt l).map qt) = (⟨n, (nf qlt l).map qt⟩, true) ∧ BdQ n ⟨n, (nf qlt l).map qt⟩ L (L * C) E H := by
  have hab2 : l.length * C ≤ L * C := Nat.mul_le_mul_right C h.len
  have hl := nf_len (lt := qlt) l
  have hll := h.len
  have hd := nf_desc qOrd l
  have hz := nf_nz (lt := qlt) l
  have key : ∀ x ∈ nf qlt l, x.2.natAbs ≤ L * C ∧ (x.1.1.length = n ∧ ∀ y ∈ x.1.1, -(E : Int) ≤ y ∧ y ≤ E) ∧ -(H : Int) ≤ x.1.2 ∧ x.1.2 ≤ H := fun x hx => by
    have h1 := co_at qOrd hd x hx
    rw [nf_co] at h1
    have h2 := absQK2_le h.co x.1
    obtain ⟨z, hz1, hz2⟩ := nf_mem hx
    have h3 := h.ex z hz1
    have h4 := h.hf z hz1
    rw [hz2] at h3 h4
    exact ⟨by omega, h3, h4⟩
  have hR : QRight ⟨n, (nf qlt l).map qt⟩ := by
    refine ⟨by dsimp only; omega, by dsimp only; rw [List.length_map]; omega, fun t hm => ?_, ?_⟩
    · obtain ⟨x, hx, rfl⟩ := List.mem_map.1 hm
      have h1 := key x hx
      refine ⟨by simp only [qt]; omega, hz x hx, by simp only [qt]; omega, by simp only [qt]; omega, fun y hy => ?_⟩
      have := h1.2.1.2 y hy
      omega
    · unfold DescQ
      rw [List.pairwise_map]
      exact hd
  refine ⟨if_pos hR, hR, rfl, by dsimp only; rw [List.length_map]; omega, fun t hm => ?_, fun t hm => ?_, fun t hm => ?_⟩ <;> obtain ⟨x, hx, rfl⟩ := List.mem_map.1 hm
  · exact (key x hx).1
  · exact (key x hx).2.1
  · exact (key x hx).2.2
theorem BqL.prod {fm : List (List Int)} {a b : List (QK × Int)} {L C E H L' C' E' H' F : Nat} (hF : ∀ i, i < fm.length → ∀ j, j < fm.length → (at2 fm i j).natAbs ≤ F) (ha : BqL fm.length a L C E H) (hb : BqL fm.length b L' C' E' H') :
    BqL fm.length (prodK (qm2 fm) a b) (L * L') (C * C') (E + E') (H + H' + fm.length * (fm.length * (E * F * E'))) := by
  have hlen : ∀ a b : List (QK × Int), (prodK (qm2 fm) a b).length = a.length * b.length := fun a b => by
    induction a with
    | nil => simp [prodK]
    | cons x a ih =>
      unfold prodK mulT at ih ⊢
      simp only [List.flatMap_cons, List.length_append, List.length_map, ih, List.length_cons, Nat.add_mul, Nat.one_mul]
      omega
  refine ⟨by rw [hlen]; exact Nat.mul_le_mul ha.len hb.len, fun x hx => ?_, fun x hx => ?_, fun x hx => ?_⟩ <;> obtain ⟨y, hy, z, hz, rfl⟩ := prodK_mem hx <;> have h1 := ha.ex y hy <;> have h2 := hb.ex z hz
  · dsimp only
    rw [Int.natAbs_mul]
    exact Nat.mul_le_mul (ha.co y hy) (hb.co z hz)
  · refine ⟨by simp only [qm2]; rw [addE_length _ _ _ (by omega)]; exact h1.1, fun u hu => ?_⟩
    have := addE_mem (a := y.1.1) (b := z.1.1) (by omega) (p := E) (q := E') h1.2 h2.2 u hu
    omega
  · have h3 := skw_bd hF h1.1 h2.1 h1.2 h2.2
    have h4 := ha.hf y hy
    have h5 := hb.hf z hz
    simp only [qm2]
    omega
/-- A sum whose terms are those of a list of keys. -/
theorem mulQ_eq {fm : List (List Int)} (hok : FormOk fm) {f g : Qsm} (hf : QRight f) (hg : QRight g) (hv : f.v = fm.length) (hw : g.v = fm.length) : mulQF fm f g = enQ fm.length ((nf qlt (prodK (qm2 fm) (f.ts.map qp) (g.ts.map qp))).map qt) := by
  unfold mulQF
  rw [if_pos ⟨hok, hf, hg, hv, hw⟩, hv]
  unfold gaQ
  rw [prodQ_qp]
end Go.Proofs.Ytocknokodgnlbaa.Ab
namespace Go.Proofs.Ytocknokodgnlbaa.Ab
open Go
set_option linter.unusedSimpArgs false
set_option linter.unusedVariables false
/-- A form and sums as they are drawn. -/
def FormS (fm : List (List Int)) : Prop := FormOk fm ∧ fm.length ≤ 3 ∧ ∀ i, i < fm.length → ∀ j, j < fm.length → (at2 fm i j).natAbs ≤ 3
def DrawnQ (n : Nat) (f : Qsm) : Prop := BdQ n f 3 9 2 3
def SmQ (f : Qsm) : Prop := f.ts.length < 4611686018427387904 ∧ ∀ t ∈ f.ts, t.e.length < 4611686018427387904
theorem BdQ.sm {n : Nat} {f : Qsm} {L C E H : Nat} (h : BdQ n f L C E H) : SmQ f := by
  have h1 := h.right.1
  have h2 := h.right.2.1
  refine ⟨by omega, fun t ht => ?_⟩
  have := (h.ex t ht).1
  have := h.v
  omega
theorem BqL.mono {n : Nat} {l : List (QK × Int)} {L C E H L' C' E' H' : Nat} (h : BqL n l L C E H) (h1 : L ≤ L') (h2 : C ≤ C') (h3 : E ≤ E') (h4 : H ≤ H') : BqL n l L' C' E' H' :=
  ⟨Nat.le_trans h.len h1, fun t ht => Nat.le_trans (h.co t ht) h2, fun t ht => ⟨(h.ex t ht).1, fun x hx => by have := (h.ex t ht).2 x hx; omega⟩, fun t ht => by have := h.hf t ht; omega⟩
theorem BqL.prod3 {fm : List (List Int)} (hs : FormS fm) {a b : List (QK × Int)} {L C E H L' C' E' H' : Nat} (ha : BqL fm.length a L C E H) (hb : BqL fm.length b L' C' E' H') :
    BqL fm.length (prodK (qm2 fm) a b) (L * L') (C * C') (E + E') (H + H' + 3 * (3 * (E * 3 * E'))) := by
  refine (BqL.prod hs.2.2 ha hb).mono (Nat.le_refl _) (Nat.le_refl _) (Nat.le_refl _) ?_
  have h1 : fm.length * (E * 3 * E') ≤ 3 * (E * 3 * E') := Nat.mul_le_mul_right _ hs.2.1
  have h2 : fm.length * (fm.length * (E * 3 * E')) ≤ 3 * (3 * (E * 3 * E')) := Nat.mul_le_mul hs.2.1 h1
  omega
theorem qsm_eta (f : Qsm) : (⟨f.v, (f.ts.map qp).map qt⟩ : Qsm) = f := by
  rw [List.map_map]
  have : qt ∘ qp = id := rfl
  rw [this, List.map_id]
end Go.Proofs.Ytocknokodgnlbaa.Ab
namespace Go.Proofs.Ytocknokodgnlbaa.Ab
open Go
set_option linter.unusedSimpArgs false
set_option linter.unusedVariables false
theorem qmul_turn (fm : List (List Int)) (f g : List (QK × Int)) : nf qlt (prodK (qm2 fm) g f) = nf qlt (prodK (qmul fm) f g) :=
  nf_vl qOrd fun φ => by
    rw [vl_prodK, vl_prodK, vl_fub]
    rfl
theorem div_mulQ {fm : List (List Int)} {f g P : Qsm} (hok : FormOk fm) (hf : QRight f) (hg : QRight g) (hv : f.v = fm.length) (hw : g.v = fm.length) (hne : g.ts ≠ []) (hP : mulQF fm g f = (P, true)) : divQF fm P g = (f, true) := by
  rw [mulQ_eq hok hg hf hw hv, qmul_turn] at hP
  unfold enQ at hP
  split at hP
  · rename_i hR
    injection hP with hP _
    subst hP
    unfold divQF
    rw [if_pos ⟨⟨hok, hR, hg, rfl, hw⟩, hne⟩]
    simp only [map_qp]
    match hgt : g.ts, hne with
    | t :: ts, _ =>
      have hd := divGo_prod (mul := qmul fm) (dv := qdv fm) (chk := chkIQ) qOrd (qAct fm fm.length) (fun a b h1 h2 => qdv_mul (h1.trans h2.symm)) (fun x y b h1 h2 h3 h => by
          rw [qlt_iff] at h ⊢
          rcases h with ⟨e, h⟩ | h
          · left
            refine ⟨by simp only [qmul, e], ?_⟩
            simp only [qmul, e]
            omega
          · right
            simp only [qmul]
            rw [lexlt_addE2 _ _ _ (h3.trans h1.symm) (h3.trans h2.symm)]
            exact h)
        (b := qk t) (d := t.c) (gt := ts.map qp) (by have := qp_desc hg; rw [hgt] at this; exact this) (qp_nz hg (qp t) (by rw [hgt]; simp))
        (fun x hx => by have := qp_dig hg hw; rw [hgt] at this; exact (this x hx).1.1) 600 (f.ts.map qp) (qp_desc hf) (qp_nz hf)
        (fun x hx => ⟨(qp_dig hf hv x hx).1.1, by
          obtain ⟨u, hu, rfl⟩ := List.mem_map.1 hx
          have := qright_he hf hv u hu
          exact decide_eq_true ⟨this.2.1, this.2.2.1, this.2.2.2.2.2, this.2.2.2.1, this.2.2.2.2.1⟩⟩) (by simpa using hf.2.1)
      have e : divQ fm chkIQ g 600 (nf qlt (prodK (qmul fm) (f.ts.map qp) ((t :: ts).map qp))) = some (f.ts.map qp) := by
        unfold divQ leadQ leadQC
        rw [hgt]
        exact hd
      rw [e]
      have e2 : endQd (fm.length : Int) (some (f.ts.map qp)) = enQ f.v ((f.ts.map qp).map qt) := by rw [hv]; rfl
      rw [e2]
      unfold enQ
      rw [qsm_eta f, if_pos hf]
  · injection hP with _ h
    simp at h
theorem mul_divQ {fm : List (List Int)} {h g r : Qsm} (hd : divQF fm h g = (r, true)) : QRight r ∧ mulQF fm g r = (h, true) := by
  unfold divQF at hd
  split at hd
  · rename_i hc
    cases hO : divQ fm chkIQ g 600 (h.ts.map qp) with
    | none => rw [hO] at hd; simp [endQd] at hd
    | some O =>
      obtain ⟨g1, g2, g3, g4, g5, g6⟩ := divQ_good hc hO
      obtain ⟨⟨hok, hh, hg, hv, hw⟩, hne⟩ := hc
      rw [hO] at hd
      simp only [endQd, enQ] at hd
      split at hd
      · rename_i hR
        injection hd with hd _
        subst hd
        refine ⟨hR, ?_⟩
        rw [mulQ_eq hok hg hR hw hv, qmul_turn]
        simp only [map_qp]
        have e : nf qlt (prodK (qmul fm) O (g.ts.map qp)) = h.ts.map qp := (nf_unique qOrd (qp_desc hh) (qp_nz hh) g6).symm
        rw [e, ← hv]
        unfold enQ
        rw [qsm_eta h, if_pos hh]
      · injection hd with _ q
        simp at q
  · injection hd with _ q
    simp at q
end Go.Proofs.Ytocknokodgnlbaa.Ab
namespace Go.Proofs.Ytocknokodgnlbaa.Ab
open Go
set_option linter.unusedSimpArgs false
set_option linter.unusedVariables false
set_option maxRecDepth 10000
set_option maxHeartbeats 2000000
attribute [local simp] cur
theorem lO_snocZ (l : List (List Int)) (n : Nat) : rows lO l ++ [D.ow 1 n (ints (List.replicate n 0))] = rows lO (l ++ [List.replicate n 0]) := by
  rw [rows_append]
  simp [rows, lO, owI]
/-- A skew matrix of n rows, small. -/
def Sk3 (n : Nat) (fm : List (List Int)) : Prop := fm.length = n ∧ (∀ r ∈ fm, r.length = n) ∧ ∀ p, p < n → ∀ q, q < n → (at2 fm p q).natAbs ≤ 3 ∧ at2 fm p q + at2 fm q p = 0
theorem Sk3.zero (n : Nat) : Sk3 n (List.replicate n (List.replicate n 0)) := by
  have e : ∀ p, p < n → ∀ q, at2 (List.replicate n (List.replicate n 0)) p q = 0 := fun p hp q => by
    unfold at2
    rw [show (List.replicate n (List.replicate n (0 : Int))).getD p [] = List.replicate n 0 by simp [List.getD_eq_getElem?_getD, hp]]
    simp [List.getD_eq_getElem?_getD, List.getElem?_replicate]
    split <;> rfl
  refine ⟨by simp, fun r hr => by rw [List.eq_of_mem_replicate hr]; simp, fun p hp q hq => ?_⟩
  rw [e p hp q, e q hq p]
  simp
theorem at2_set {fm : List (List Int)} {i : Nat} (hi : i < fm.length) (r : List Int) (p q : Nat) : at2 (fm.set i r) p q = if p = i then r.getD q 0 else at2 fm p q := by
  unfold at2
  by_cases h : p = i
  · subst h
    simp [List.getD_eq_getElem?_getD, hi]
  · rw [if_neg h]
    simp [List.getD_eq_getElem?_getD, List.getElem?_set_ne (Ne.symm h)]
theorem getD_set {r : List Int} {j : Nat} (hj : j < r.length) (x : Int) (q : Nat) : (r.set j x).getD q 0 = if q = j then x else r.getD q 0 := by
  by_cases h : q = j
  · subst h
    simp [List.getD_eq_getElem?_getD, hj]
  · rw [if_neg h]
    simp [List.getD_eq_getElem?_getD, List.getElem?_set_ne (Ne.symm h)]
theorem Sk3.step {n : Nat} {fm : List (List Int)} (h : Sk3 n fm) {i j : Nat} (hi : i < n) (hj : j < i) {x : Int} (hx : x.natAbs ≤ 3) : Sk3 n ((fm.set i ((fm.getD i []).set j x)).set j ((fm.getD j []).set i (-x))) := by
  obtain ⟨h1, h2, h3⟩ := h
  have hri : (fm.getD i []).length = n := by rw [row_eq (by omega)]; exact h2 _ (List.getElem_mem _)
  have hrj : (fm.getD j []).length = n := by rw [row_eq (by omega)]; exact h2 _ (List.getElem_mem _)
  have e : ∀ p q, at2 ((fm.set i ((fm.getD i []).set j x)).set j ((fm.getD j []).set i (-x))) p q = if p = j ∧ q = i then -x else if p = i ∧ q = j then x else at2 fm p q := fun p q => by
    rw [at2_set (by simp; omega), at2_set (by omega), getD_set (by omega), getD_set (by omega)]
    unfold at2
    by_cases c1 : p = j
    · subst c1
      by_cases c2 : q = i
      · simp [c2]
      · simp [c2, show ¬ p = i by omega]
    · by_cases c2 : p = i
      · subst c2
        by_cases c3 : q = j <;> simp [c1, c3]
      · simp [c1, c2]
  refine ⟨by simp [h1], fun r hr => ?_, fun p hp q hq => ?_⟩
  · rcases List.mem_or_eq_of_mem_set hr with hr | rfl
    · rcases List.mem_or_eq_of_mem_set hr with hr | rfl
      · exact h2 r hr
      · simpa using hri
    · simpa using hrj
  · rw [e p q, e q p]
    have := h3 p hp q hq
    by_cases c1 : p = j ∧ q = i
    · rw [if_pos c1, if_neg (by omega), if_pos (by omega)]
      omega
    · rw [if_neg c1]
      by_cases c2 : p = i ∧ q = j
      · rw [if_pos c2, if_pos (by omega)]
        omega
      · rw [if_neg c2, if_neg (by omega), if_neg (by omega)]
        exact this
theorem Sk3.form {n : Nat} {fm : List (List Int)} (h : Sk3 n fm) (hn : 1 ≤ n ∧ n ≤ 3) : FormS fm := by
  obtain ⟨h1, h2, h3⟩ := h
  refine ⟨⟨by omega, fun i hi => ?_, fun i hi j hj => ?_⟩, by omega, fun i hi j hj => (h3 i (by omega) j (by omega)).1⟩
  · rw [row_eq hi, h1]
    exact h2 _ (List.getElem_mem _)
  · have := h3 i (by omega) j (by omega)
    unfold Skp
    omega
def DrawFm (xs : List Int) (n : Nat) (outs : List D) (res : List RV) : Prop := ∃ (i' : Nat) (h' : Int) (fm : List (List Int)), i' ≤ xs.length ∧ Sk3 n fm ∧ outs = [cur xs i' h'] ∧ res = [.one (.ow 1 n (rows lO fm))]
def DrawQf (xs : List Int) (n : Nat) (outs : List D) (res : List RV) : Prop := ∃ (i' : Nat) (h' : Int) (f : Qsm), i' ≤ xs.length ∧ DrawnQ n f ∧ outs = [cur xs i' h'] ∧ res = [.ag (qO f)]
def DrawT3 (outs : List D) (res : List RV) : Prop := ∃ (fm : List (List Int)) (f g h : Qsm), FormS fm ∧ DrawnQ fm.length f ∧ DrawnQ fm.length g ∧ DrawnQ fm.length h ∧ outs = [] ∧ res = [.one (.ow 1 fm.length (rows lO fm)), .ag (qO f), .ag (qO g), .ag (qO h)]
theorem spec_dForm_calls (xs : List Int) (i : Nat) (h : Int) (n : Nat) (hi : i ≤ xs.length) (hx : xs.length ≤ 1048576) (hn : 1 ≤ n ∧ n ≤ 3) : ACalls Try.prog F.spec_dForm [.pt (0, 0) [] 0, .int n] [((0, 0), cur xs i h)] false (DrawFm xs n) := by
  refine ACalls.of_body (C := C.spec_dForm) (n := Try.f76.ntmps) tabT folT Try.func76 rfl (by kernel_rfl) rfl (Nat.le_of_ble_eq_true rfl) (by decide) (by kernel_rfl) (by kernel_rfl) rfl (by simp) (by simp) ?_
  simp only [Try.f76]
  refine wseq ?_
  refine wreg fun K hK => ?_
  simp [C.spec_dForm, cur]
  refine hK _ ?_; clear hK K
  show AWp _ _ _ _ _
  refine wseq ?_
  refine wreg fun K hK => ?_
  simp [C.spec_dForm, cur]
  refine hK _ ?_; clear hK K
  show AWp _ _ _ _ _
  refine wseq ?_
  refine wseq ?_
  refine wreg fun K hK => ?_
  simp [C.spec_dForm, cur]
  refine hK _ ?_; clear hK K
  show AWp _ _ _ _ _
  refine wblock ?_
  refine wloop (fun x : Nat × List (List Int) => ⟨ofL [(0, .pt (0, 0) [] 0), (1, .int n), (5, .al (5, 0) [] 0 x.1), (6, .int x.1), (1000, .pt (0, 0) [] 0)], ofRO [((0, 0), some (cur xs i h)), ((5, 0), some (.ow 1 x.1 (rows lO x.2)))]⟩) (fun x => x.1 ≤ n ∧ x.2 = List.replicate x.1 (List.replicate n 0)) (fun x => n - x.1) (0, []) (by simp [C.spec_dForm, rows]) (by simp) ?_
  intro x1 hx1 R1 hR1
  obtain ⟨k, l⟩ := x1
  obtain ⟨hk, hl⟩ := hx1
  dsimp only at hk hl ⊢
  refine wseq ?_
  refine wseq ?_
  refine wreg fun K hK => ?_
  simp [C.spec_dForm, cur]
  refine hK _ ?_; clear hK K
  show AWp _ _ _ _ _
  refine wcond _ rfl (fun hc1 => ?_) (fun hc1 => ?_)
  · have hk1 : k < n := by have := d_t hc1; omega
    refine wskip ?_
    show AWp _ _ _ _ _
    refine wseq ?_
    refine wblock ?_
    refine wreg fun K hK => ?_
    simp [C.spec_dForm, cur, zeros_ints, lO_snocZ, show (k + 1) * 24 ≤ 140737488355328 by omega, show (8 : Int) * n ≤ 281474976710656 by omega, show (n : Int) ≤ 281474976710656 by omega]
    refine hK _ ?_; clear hK K
    show AWp _ _ _ _ _
    refine wreg fun K hK => ?_
    simp [C.spec_dForm, cur, wrap_succ (show k < 4611686018427387904 by omega)]
    refine hK _ ?_; clear hK K
    simp [C.spec_dForm, cur]
    refine cast (congrArg R1 ?_) (hR1 (k + 1, l ++ [List.replicate n 0]) ⟨hk1, ?_⟩ (by dsimp only; omega))
    · simp
    · dsimp only
      rw [hl, List.replicate_succ']
  · have hk1 : k = n := by have := d_f hc1; omega
    subst hk1
    have hz := Sk3.zero k
    rw [← hl] at hz
    refine wexit ?_
    show AWp _ _ _ _ _
    refine wseq ?_
    refine wseq ?_
    refine wreg fun K hK => ?_
    simp [C.spec_dForm, cur, hn.1]
    refine hK _ ?_; clear hK K
    show AWp _ _ _ _ _
    refine wblock ?_
    refine wloop (fun x : Nat × List (List Int) × Nat × Int => ⟨ofL [(0, .pt (0, 0) [] 0), (1, .int k), (5, .al (5, 0) [] 0 k), (7, .int x.1), (1000, .pt (0, 0) [] 0)], ofRO [((0, 0), some (cur xs x.2.2.1 x.2.2.2)), ((5, 0), some (.ow 1 k (rows lO x.2.1)))]⟩) (fun x => x.1 ≤ k ∧ Sk3 k x.2.1 ∧ x.2.2.1 ≤ xs.length) (fun x => k - x.1) (0, l, i, h) (by simp [C.spec_dForm]) ⟨by simp, hz, hi⟩ ?_
    intro x2 hx2 R2 hR2
    obtain ⟨a, fm, i1, h1⟩ := x2
    obtain ⟨g1, g2, g3⟩ := hx2
    dsimp only at g1 g2 g3 ⊢
    refine wseq ?_
    refine wseq ?_
    refine wreg fun K hK => ?_
    simp [C.spec_dForm, cur]
    refine hK _ ?_; clear hK K
    show AWp _ _ _ _ _
    refine wcond _ rfl (fun hc2 => ?_) (fun hc2 => ?_)
    · have ha : a < k := by have := d_t hc2; omega
      refine wskip ?_
      show AWp _ _ _ _ _
      refine wseq ?_
      refine wblock ?_
      refine wseq ?_
      refine wreg fun K hK => ?_
      simp [C.spec_dForm, cur]
      refine hK _ ?_; clear hK K
      show AWp _ _ _ _ _
      refine wblock ?_
      refine wloop (fun x : Nat × List (List Int) × Nat × Int => ⟨ofL [(0, .pt (0, 0) [] 0), (1, .int k), (5, .al (5, 0) [] 0 k), (7, .int a), (8, .int x.1), (1000, .pt (0, 0) [] 0)], ofRO [((0, 0), some (cur xs x.2.2.1 x.2.2.2)), ((5, 0), some (.ow 1 k (rows lO x.2.1)))]⟩) (fun x => x.1 ≤ a ∧ Sk3 k x.2.1 ∧ x.2.2.1 ≤ xs.length) (fun x => a - x.1) (0, fm, i1, h1) (by simp [C.spec_dForm]) ⟨by simp, g2, g3⟩ ?_
      intro x3 hx3 R3 hR3
      obtain ⟨b, fn, i2, h2⟩ := x3
      obtain ⟨q1, q2, q3⟩ := hx3
      dsimp only at q1 q2 q3 ⊢
      refine wseq ?_
      refine wseq ?_
      refine wreg fun K hK => ?_
      simp [C.spec_dForm, cur]
      refine hK _ ?_; clear hK K
      show AWp _ _ _ _ _
      refine wcond _ rfl (fun hc3 => ?_) (fun hc3 => ?_)
      · have hb : b < a := by have := d_t hc3; omega
        have hal : a < fn.length := by have := q2.1; omega
        have hbl : b < fn.length := by have := q2.1; omega
        have hra : fn[a].length = k := q2.2.1 _ (List.getElem_mem hal)
        have hrb : fn[b].length = k := q2.2.1 _ (List.getElem_mem hbl)
        refine wskip ?_
        show AWp _ _ _ _ _
        refine wseq ?_
        refine wblock ?_
        refine wseq ?_
        refine wregI ([0, 1] ++ ([2, 3])) rfl fun K hK => ?_
        refine opsI_seg fun L hL => ?_
        simp [C.spec_dForm, cur]
        refine wcall (spec_l1Below_calls xs i2 h2 7 q3 hx (by omega)) (by simp) (by simp) (by simp) ?_
        rintro outs res ⟨i3, h3, r, p1, p2, rfl, rfl⟩
        simp [C.spec_dForm, cur]
        refine hL _ ?_; clear hL L
        refine opsI_end fun L hL => ?_
        simp [C.spec_dForm, cur]
        refine hL _ ?_; clear hL L
        simp [C.spec_dForm, cur]
        refine hK _ ?_; clear hK K
        show AWp _ _ _ _ _
        refine wseq ?_
        have hw : IntKind.i64.wrap (r - 3) = r - 3 := wrapOk (by omega) (by omega)
        have hw2 : IntKind.i64.wrap (-(r - 3)) = -(r - 3) := wrapOk (by omega) (by omega)
        have hset1 : (rows lO fn).set a (.ow 1 k (ints (fn[a].set b (r - 3)))) = rows lO (fn.set a (fn[a].set b (r - 3))) := by
          have := lO_set hal (fn[a].set b (r - 3))
          rwa [List.length_set, hra] at this
        have hbl2 : b < (fn.set a (fn[a].set b (r - 3))).length := by simpa using hbl
        have hgb : (fn.set a (fn[a].set b (r - 3)))[b] = fn[b] := List.getElem_set_ne (by omega) _
        have hset2 : (rows lO (fn.set a (fn[a].set b (r - 3)))).set b (.ow 1 k (ints (fn[b].set a (-(r - 3))))) = rows lO ((fn.set a (fn[a].set b (r - 3))).set b (fn[b].set a (-(r - 3)))) := by
          have := lO_set hbl2 (fn[b].set a (-(r - 3)))
          rwa [List.length_set, hrb] at this
        refine wreg fun K hK => ?_
        simp [C.spec_dForm, cur, ha, lO_0 hal, hra, show b < k by omega, hw, hset1, modify_const, ints_set]
        refine hK _ ?_; clear hK K
        show AWp _ _ _ _ _
        refine wreg fun K hK => ?_
        simp [C.spec_dForm, cur, lO_0 hbl2, hgb, hrb, show b < k by omega, ha, hw2, hset2, modify_const, ints_set]
        refine hK _ ?_; clear hK K
        show AWp _ _ _ _ _
        refine wreg fun K hK => ?_
        simp [C.spec_dForm, cur, wrap_succ (show b < 4611686018427387904 by omega)]
        refine hK _ ?_; clear hK K
        simp [C.spec_dForm, cur]
        have hst := q2.step ha hb (x := r - 3) (by omega)
        rw [row_eq hal, row_eq hbl] at hst
        refine cast (congrArg R3 ?_) (hR3 (b + 1, (fn.set a (fn[a].set b (r - 3))).set b (fn[b].set a (-(r - 3))), i3, h3) ⟨hb, hst, p1⟩ (by dsimp only; omega))
        simp
      · have hb : b = a := by have := d_f hc3; omega
        refine wexit ?_
        show AWp _ _ _ _ _
        refine wreg fun K hK => ?_
        simp [C.spec_dForm, cur, wrap_succ (show a < 4611686018427387904 by omega)]
        refine hK _ ?_; clear hK K
        simp [C.spec_dForm, cur]
        exact hR2 (a + 1, fn, i2, h2) ⟨ha, q2, q3⟩ (by dsimp only; omega)
    · have ha : a = k := by have := d_f hc2; omega
      refine wexit ?_
      show AWp _ _ _ _ _
      refine wseq ?_
      refine wreg fun K hK => ?_
      simp [C.spec_dForm, cur]
      refine hK _ ?_; clear hK K
      show AWp _ _ _ _ _
      refine wret ?_
      simp [C.spec_dForm, cur]
      exact ⟨i1, h1, fm, g3, g2, rfl, rfl⟩

theorem spec_dQSum_calls (xs : List Int) (i : Nat) (h : Int) (n : Nat) (hi : i ≤ xs.length) (hx : xs.length ≤ 1048576) (hn : 1 ≤ n ∧ n ≤ 8) : ACalls Try.prog F.spec_dQSum [.pt (0, 0) [] 0, .int n] [((0, 0), cur xs i h)] false (DrawQf xs n) := by
  refine ACalls.of_body (C := C.spec_dQSum) (n := Try.f77.ntmps) tabT folT Try.func77 rfl (by kernel_rfl) rfl (Nat.le_of_ble_eq_true rfl) (by decide) (by kernel_rfl) (by kernel_rfl) rfl (by simp) (by simp) ?_
  simp only [Try.f77]
  refine wseq ?_
  refine wreg fun K hK => ?_
  simp [C.spec_dQSum, cur]
  refine hK _ ?_; clear hK K
  show AWp _ _ _ _ _
  refine wseq ?_
  refine wreg fun K hK => ?_
  simp [C.spec_dQSum, cur]
  refine hK _ ?_; clear hK K
  show AWp _ _ _ _ _
  refine wseq ?_
  refine wregI ([0, 1] ++ ([2])) rfl fun K hK => ?_
  refine opsI_seg fun L hL => ?_
  simp [C.spec_dQSum, cur]
  refine wcall (spec_l1Below_calls xs i h 4 hi hx (by omega)) (by simp) (by simp) (by simp) ?_
  rintro outs res ⟨i1, h1, c, q1, q2, rfl, rfl⟩
  simp [C.spec_dQSum, cur]
  refine hL _ ?_; clear hL L
  refine opsI_end fun L hL => ?_
  simp [C.spec_dQSum, cur]
  refine hL _ ?_; clear hL L
  simp [C.spec_dQSum, cur]
  refine hK _ ?_; clear hK K
  show AWp _ _ _ _ _
  refine wseq ?_
  refine wseq ?_
  obtain ⟨m, rfl⟩ : ∃ m : Nat, c = m := ⟨c.toNat, by omega⟩
  refine wreg fun K hK => ?_
  simp [C.spec_dQSum, cur]
  refine hK _ ?_; clear hK K
  show AWp _ _ _ _ _
  refine wblock ?_
  refine wloop (fun x : Nat × List Qtm × Nat × Int => ⟨ofL [(0, .pt (0, 0) [] 0), (1, .int n), (4, .pt (4, 0) [] 0), (5, .al (5, 0) [] 0 x.1), (6, .int m), (7, .int x.1), (1000, .pt (0, 0) [] 0)], ofRO [((0, 0), some (cur xs x.2.2.1 x.2.2.2)), ((4, 0), some (.bx [D.int 0, .v (.slice none 0 0)])), ((5, 0), some (.ow 3 x.1 (rows qtO x.2.1)))]⟩) (fun x => x.1 ≤ m ∧ x.2.1.length = x.1 ∧ (∀ t ∈ x.2.1, (t.e.length = n ∧ ∀ z ∈ t.e, -2 ≤ z ∧ z ≤ 2) ∧ (-3 ≤ t.h ∧ t.h ≤ 3) ∧ -3 ≤ t.c ∧ t.c ≤ 3) ∧ x.2.2.1 ≤ xs.length) (fun x => m - x.1) (0, [], i1, h1) (by simp [C.spec_dQSum, rows]) ⟨by simp, rfl, by simp, q1⟩ ?_
  intro x1 hx1 R1 hR1
  obtain ⟨j, L, i2, h2⟩ := x1
  obtain ⟨g1, g2, g3, g4⟩ := hx1
  dsimp only at g1 g2 g3 g4 ⊢
  refine wseq ?_
  refine wseq ?_
  refine wreg fun K hK => ?_
  simp [C.spec_dQSum, cur]
  refine hK _ ?_; clear hK K
  show AWp _ _ _ _ _
  refine wcond _ rfl (fun hc1 => ?_) (fun hc1 => ?_)
  · have hj : j < m := by have := d_t hc1; omega
    refine wskip ?_
    show AWp _ _ _ _ _
    refine wseq ?_
    refine wblock ?_
    refine wregI ([0, 1, 2, 3] ++ ([4, 5] ++ ([6, 7, 8] ++ ([9, 10, 11, 12, 13])))) rfl fun K hK => ?_
    refine opsI_seg fun L hL => ?_
    simp [C.spec_dQSum, cur, show (j + 1) * 40 ≤ 140737488355328 by omega]
    refine wcall (spec_dExp_calls xs i2 h2 n g4 hx hn.2) (by simp) (by simp) (by simp) ?_
    rintro outs res ⟨i3, h3, e, p1, p2, rfl, rfl⟩
    simp [C.spec_dQSum, cur, show (j + 1) * 40 ≤ 140737488355328 by omega]
    refine hL _ ?_; clear hL L
    refine opsI_seg fun L hL => ?_
    simp [C.spec_dQSum, cur, show (j + 1) * 40 ≤ 140737488355328 by omega]
    refine wcall (spec_l1Below_calls xs i3 h3 7 p1 hx (by omega)) (by simp) (by simp) (by simp) ?_
    rintro outs res ⟨i4, h4, u, s1, s2, rfl, rfl⟩
    simp [C.spec_dQSum, cur, show (j + 1) * 40 ≤ 140737488355328 by omega]
    refine hL _ ?_; clear hL L
    refine opsI_seg fun L hL => ?_
    simp [C.spec_dQSum, cur, show (j + 1) * 40 ≤ 140737488355328 by omega]
    refine wcall (spec_l1Below_calls xs i4 h4 7 s1 hx (by omega)) (by simp) (by simp) (by simp) ?_
    rintro outs res ⟨i5, h5, v, u1, u2, rfl, rfl⟩
    simp [C.spec_dQSum, cur, show (j + 1) * 40 ≤ 140737488355328 by omega]
    refine hL _ ?_; clear hL L
    refine opsI_end fun L hL => ?_
    simp [C.spec_dQSum, cur, show (j + 1) * 40 ≤ 140737488355328 by omega]
    refine hL _ ?_; clear hL L
    simp [C.spec_dQSum, cur, show (j + 1) * 40 ≤ 140737488355328 by omega]
    refine hK _ ?_; clear hK K
    show AWp _ _ _ _ _
    refine wreg fun K hK => ?_
    simp [C.spec_dQSum, cur, wrap_succ (show j < 4611686018427387904 by omega)]
    refine hK _ ?_; clear hK K
    simp [C.spec_dQSum, cur]
    rw [wrapOk (x := u - 3) (by omega) (by omega), wrapOk (x := v - 3) (by omega) (by omega)]
    refine cast (congrArg R1 ?_) (hR1 (j + 1, L ++ [⟨e, u - 3, v - 3⟩], i5, h5) ⟨hj, by dsimp only; simp; omega, ?_, u1⟩ (by dsimp only; omega))
    · rw [← qtO_snoc]
      simp
    · dsimp only
      intro t ht
      rcases List.mem_append.1 ht with ht | ht
      · exact g3 t ht
      · simp only [List.mem_singleton] at ht
        subst ht
        exact ⟨p2, ⟨by dsimp only; omega, by dsimp only; omega⟩, by dsimp only; omega, by dsimp only; omega⟩
  · have hj : j = m := by have := d_f hc1; omega
    have hB : BqL n (L.map qp) 3 3 2 3 := by
      refine ⟨by simp; omega, fun x hx => ?_, fun x hx => ?_, fun x hx => ?_⟩ <;> obtain ⟨t, ht, rfl⟩ := List.mem_map.1 hx
      · have := (g3 t ht).2.2
        simp only [qp]
        omega
      · exact (g3 t ht).1
      · exact (g3 t ht).2.1
    have hQ := (enq_bnd hn hB (by omega) (by omega) (by omega) (by omega)).2
    have habs : absQ L < 4611686018427387904 := by
      have := absQ_le (B := 3) (l := L) fun t ht => by have := (g3 t ht).2.2; omega
      omega
    have hgat := spec_l8Gather_calls L (by omega) habs (fun t ht => by have := (g3 t ht).1.1; omega)
    rw [g2] at hgat
    refine wexit ?_
    show AWp _ _ _ _ _
    refine wseq ?_
    refine wregI ([0, 1, 2] ++ ([3, 4])) rfl fun K hK => ?_
    refine opsI_seg fun L hL => ?_
    simp [C.spec_dQSum, cur]
    refine wcall1 (hgat) (by simp [cur]) (by simp) ?_
    simp [C.spec_dQSum, cur]
    refine hL _ ?_; clear hL L
    refine opsI_end fun L hL => ?_
    simp [C.spec_dQSum, cur]
    refine hL _ ?_; clear hL L
    simp [C.spec_dQSum, cur]
    refine hK _ ?_; clear hK K
    show AWp _ _ _ _ _
    refine wret ?_
    simp [C.spec_dQSum, cur]
    exact ⟨i2, h2, ⟨n, gaQ L⟩, g4, hQ, rfl, by simp [qO]⟩

theorem spec_DrawThreeQSums_calls (xs : List Int) (hx : xs.length ≤ 1048576) : ACalls Try.prog F.spec_DrawThreeQSums [.d (.sh 1 xs.length (byts xs))] [] false DrawT3 := by
  refine ACalls.of_body (C := C.spec_DrawThreeQSums) (n := Try.f23.ntmps) tabT folT Try.func23 rfl (by kernel_rfl) rfl (Nat.le_of_ble_eq_true rfl) (by decide) (by kernel_rfl) (by kernel_rfl) rfl (by simp) (by simp) ?_
  simp only [Try.f23]
  refine wseq ?_
  refine wreg fun K hK => ?_
  simp [C.spec_DrawThreeQSums]
  refine hK _ ?_; clear hK K
  show AWp _ _ _ _ _
  refine wseq ?_
  refine wregI ([0, 1] ++ ([2])) rfl fun K hK => ?_
  refine opsI_seg fun L hL => ?_
  simp [C.spec_DrawThreeQSums]
  refine wcall (spec_l1New_calls xs hx) (by simp) (by simp) (by simp) ?_
  rintro outs res ⟨rfl, h0, rfl⟩
  simp [C.spec_DrawThreeQSums]
  refine hL _ ?_; clear hL L
  refine opsI_end fun L hL => ?_
  simp [C.spec_DrawThreeQSums]
  refine hL _ ?_; clear hL L
  simp [C.spec_DrawThreeQSums]
  refine hK _ ?_; clear hK K
  show AWp _ _ _ _ _
  refine wseq ?_
  refine wregI ([0, 1] ++ ([2, 3])) rfl fun K hK => ?_
  refine opsI_seg fun L hL => ?_
  simp [C.spec_DrawThreeQSums]
  refine wcall (spec_l1Below_calls xs 0 h0 2 (by omega) hx (by omega)) (by simp) (by simp) (by simp) ?_
  rintro outs res ⟨i1, h1, c, q1, q2, rfl, rfl⟩
  simp [C.spec_DrawThreeQSums]
  refine hL _ ?_; clear hL L
  refine opsI_end fun L hL => ?_
  simp [C.spec_DrawThreeQSums]
  refine hL _ ?_; clear hL L
  simp [C.spec_DrawThreeQSums]
  refine hK _ ?_; clear hK K
  show AWp _ _ _ _ _
  refine wseq ?_
  obtain ⟨n, hn⟩ : ∃ n : Nat, 2 + c = n := ⟨(2 + c).toNat, by omega⟩
  have hw : IntKind.i64.wrap (2 + c) = n := by rw [wrapOk (by omega) (by omega), hn]
  refine wregI ([0, 1, 2] ++ ([3, 4, 5] ++ ([6, 7, 8] ++ ([9, 10, 11] ++ ([12, 13, 14, 15]))))) rfl fun K hK => ?_
  refine opsI_seg fun L hL => ?_
  simp [C.spec_DrawThreeQSums, hw, qO]
  refine wcall (spec_dForm_calls xs i1 h1 n q1 hx (by omega)) (by simp) (by simp) (by simp) ?_
  rintro outs res ⟨i2, h2, fm, p1, p2, rfl, rfl⟩
  simp [C.spec_DrawThreeQSums, hw, qO]
  refine hL _ ?_; clear hL L
  refine opsI_seg fun L hL => ?_
  simp [C.spec_DrawThreeQSums, hw, qO]
  refine wcall (spec_dQSum_calls xs i2 h2 n p1 hx (by omega)) (by simp) (by simp) (by simp) ?_
  rintro outs res ⟨i3, h3, f, s1, s2, rfl, rfl⟩
  simp [C.spec_DrawThreeQSums, hw, qO]
  refine hL _ ?_; clear hL L
  refine opsI_seg fun L hL => ?_
  simp [C.spec_DrawThreeQSums, hw, qO]
  refine wcall (spec_dQSum_calls xs i3 h3 n s1 hx (by omega)) (by simp) (by simp) (by simp) ?_
  rintro outs res ⟨i4, h4, g, u1, u2, rfl, rfl⟩
  simp [C.spec_DrawThreeQSums, hw, qO]
  refine hL _ ?_; clear hL L
  refine opsI_seg fun L hL => ?_
  simp [C.spec_DrawThreeQSums, hw, qO]
  refine wcall (spec_dQSum_calls xs i4 h4 n u1 hx (by omega)) (by simp) (by simp) (by simp) ?_
  rintro outs res ⟨i5, h5, k, v1, v2, rfl, rfl⟩
  simp [C.spec_DrawThreeQSums, hw, qO]
  refine hL _ ?_; clear hL L
  refine opsI_end fun L hL => ?_
  simp [C.spec_DrawThreeQSums, hw, qO]
  refine hL _ ?_; clear hL L
  simp [C.spec_DrawThreeQSums, hw, qO]
  refine hK _ ?_; clear hK K
  show AWp _ _ _ _ _
  refine wret ?_
  simp [C.spec_DrawThreeQSums]
  have hl := p2.1
  exact ⟨fm, f, g, k, p2.form (by omega), by rw [hl]; exact s2, by rw [hl]; exact u2, by rw [hl]; exact v2, rfl, by simp [qO, hl]⟩

end Go.Proofs.Ytocknokodgnlbaa.Ab
namespace Go.Proofs.Ytocknokodgnlbaa.Ab
open Go
end Go.Proofs.Ytocknokodgnlbaa.Ab
namespace Go.Proofs.Ytocknokodgnlbaa.Ab
open Go
set_option linter.unusedSimpArgs false
set_option linter.unusedVariables false
set_option maxRecDepth 10000
set_option maxHeartbeats 2000000
theorem laws_qsums_calls (f g : Qsm) (hx : f.ts.length < 4611686018427387904) (hxe : ∀ t ∈ f.ts, t.e.length < 4611686018427387904) : ACalls Try.prog F.laws_qsums [aQ f, aQ g] [] true (fun outs res => outs = [] ∧ res = [.one (D.bool (decide (f = g)))]) := by
  refine ACalls.of_body (C := C.laws_qsums) (n := Try.f25.ntmps) tabT folT Try.func25 rfl (by kernel_rfl) rfl (Nat.le_of_ble_eq_true rfl) (by decide) (by kernel_rfl) (by kernel_rfl) rfl (by simp) (by simp) ?_
  simp only [Try.f25]
  refine wseq ?_
  refine wreg fun K hK => ?_
  simp [C.laws_qsums, qS]
  refine hK _ ?_; clear hK K
  show AWp _ _ _ _ _
  refine wseq ?_
  refine wseq ?_
  refine wregI ([0, 1, 2, 3, 4, 5, 6, 7, 8, 9, 10, 11, 12, 13]) rfl fun K hK => ?_
  have hJ : K ⟨ofL [(2, .pt (2, 0) [] 0), (3, .pt (3, 0) [] 0), (19, .bool (!decide (f.v = g.v ∧ (f.ts.length : Int) = g.ts.length)))], ofRO [((2, 0), some (.bx (qS f))), ((3, 0), some (.bx (qS g)))]⟩ := by
    refine hK _ ?_; clear hK K
    show AWp _ _ _ _ _
    refine wcond _ rfl (fun hc1 => ?_) (fun hc1 => ?_)
    · have hc := nd_t hc1
      refine wseq ?_
      refine wreg fun K hK => ?_
      simp [C.laws_qsums, qS]
      refine hK _ ?_; clear hK K
      show AWp _ _ _ _ _
      refine wret ?_
      simp [C.laws_qsums, qS]
      intro e
      subst e
      exact hc ⟨rfl, rfl⟩
    · have hc0 := nd_f hc1
      have hc : f.v = g.v ∧ f.ts.length = g.ts.length := ⟨hc0.1, by have := hc0.2; omega⟩
      refine wskip ?_
      show AWp _ _ _ _ _
      refine wseq ?_
      refine wseq ?_
      refine wreg fun K hK => ?_
      simp [C.laws_qsums, qS]
      refine hK _ ?_; clear hK K
      show AWp _ _ _ _ _
      refine wblock ?_
      refine wloop (fun k : Nat => ⟨ofL [(2, .pt (2, 0) [] 0), (3, .pt (3, 0) [] 0), (5, FV.int k)], ofRO [((2, 0), some (.bx (qS f))), ((3, 0), some (.bx (qS g)))]⟩) (fun k => k ≤ f.ts.length ∧ f.ts.take k = g.ts.take k) (fun k => f.ts.length - k) 0 (by simp [C.laws_qsums, qS]) (by simp) ?_
      intro x1 hx1 R1 hR1
      obtain ⟨hk, ht⟩ := hx1
      refine wseq ?_
      refine wseq ?_
      refine wreg fun K hK => ?_
      simp [C.laws_qsums, qS]
      refine hK _ ?_; clear hK K
      show AWp _ _ _ _ _
      refine wcond _ rfl (fun hc2 => ?_) (fun hc2 => ?_)
      · have h1 : x1 < f.ts.length := by have := d_t hc2; omega
        have h2 : x1 < g.ts.length := by omega
        refine wskip ?_
        show AWp _ _ _ _ _
        refine wseq ?_
        refine wblock ?_
        refine wseq ?_
        refine wdrawI [(true, 0), (true, 1), (true, 2), (true, 3), (true, 4), (true, 5), (true, 6), (true, 7), (true, 8), (true, 9), (true, 10), (true, 11), (true, 12), (true, 13), (true, 14), (true, 15), (true, 16), (true, 17), (true, 18), (true, 19), (true, 20), (true, 21), (true, 22), (true, 23), (true, 24), (true, 25), (true, 26), (true, 27), (true, 28), (true, 29), (true, 30), (true, 31), (true, 32), (true, 33), (true, 34), (true, 35), (true, 36), (true, 37), (true, 38), (true, 39), (true, 40), (false, 41), (true, 42), (true, 43)] ⟨by kernel_rfl, by kernel_rfl⟩ ([0, 1, 2, 3, 4, 5, 6, 7, 8, 9, 10, 11, 12, 13, 14, 15, 16, 17, 18, 19, 20, 21, 22, 23, 24, 25, 26, 27, 28, 29, 30, 31, 32, 33, 34, 35, 36, 37, 38, 39, 40, 41] ++ ([42, 43])) rfl fun K hK => ?_
        have hJ : K ⟨ofL [(2, .pt (2, 0) [] 0), (3, .pt (3, 0) [] 0), (5, FV.int x1), (70, .bool (!decide (f.ts[x1].c = g.ts[x1].c ∧ f.ts[x1].h = g.ts[x1].h ∧ f.ts[x1].e = g.ts[x1].e)))], ofRO [((2, 0), some (.bx (qS f))), ((3, 0), some (.bx (qS g)))]⟩ := by
          refine hK _ ?_; clear hK K
          show AWp _ _ _ _ _
          refine wcond _ rfl (fun hc3 => ?_) (fun hc3 => ?_)
          · have hb := nd_t hc3
            refine wseq ?_
            refine wreg fun K hK => ?_
            simp [C.laws_qsums, qS]
            refine hK _ ?_; clear hK K
            show AWp _ _ _ _ _
            refine wret ?_
            simp [C.laws_qsums, qS]
            intro e
            subst e
            exact hb ⟨rfl, rfl, rfl⟩
          · have hb := nd_f hc3
            refine wskip ?_
            show AWp _ _ _ _ _
            refine wreg fun K hK => ?_
            simp [C.laws_qsums, qS, wrap_succ (show x1 < 4611686018427387904 by omega)]
            refine hK _ ?_; clear hK K
            simp [C.laws_qsums, qS]
            refine hR1 (x1 + 1) ⟨h1, ?_⟩ (by omega)
            have he : f.ts[x1] = g.ts[x1] := by
              cases hf : f.ts[x1]
              cases hg : g.ts[x1]
              simp only [hf, hg] at hb
              simp [hb.1, hb.2.1, hb.2.2]
            rw [List.take_succ_eq_append_getElem h1, List.take_succ_eq_append_getElem h2, ht, he]
        clear hK
        by_cases ha : f.ts[x1].c = g.ts[x1].c
        · by_cases hb : f.ts[x1].h = g.ts[x1].h
          · refine opsI_seg fun L hL => ?_
            simp [C.laws_qsums, qS, h1, h2, qtS_0 h1, qtS_1 h1, qtS_2 h1, qtS_0 h2, qtS_1 h2, qtS_2 h2, ha, hb]
            refine wcall1 (laws_ints_calls f.ts[x1].e g.ts[x1].e (hxe _ (List.getElem_mem h1))) (by simp) (by simp) ?_
            simp [C.laws_qsums, qS, h1, h2, qtS_0 h1, qtS_1 h1, qtS_2 h1, qtS_0 h2, qtS_1 h2, qtS_2 h2, ha, hb]
            refine hL _ ?_; clear hL L
            refine opsI_end fun L hL => ?_
            simp [C.laws_qsums, qS, h1, h2, qtS_0 h1, qtS_1 h1, qtS_2 h1, qtS_0 h2, qtS_1 h2, qtS_2 h2, ha, hb]
            refine hL _ ?_; clear hL L
            simp [C.laws_qsums, qS, h1, h2, qtS_0 h1, qtS_1 h1, qtS_2 h1, qtS_0 h2, qtS_1 h2, qtS_2 h2, ha, hb]
            refine cast (congrArg K ?_) hJ
            simp [ibne, qS, ha, hb]
          · refine opsI_seg fun L hL => ?_
            simp [C.laws_qsums, qS, h1, h2, qtS_0 h1, qtS_1 h1, qtS_2 h1, qtS_0 h2, qtS_1 h2, qtS_2 h2, ha, hb]
            refine hL _ ?_; clear hL L
            refine opsI_end fun L hL => ?_
            simp [C.laws_qsums, qS, h1, h2, qtS_0 h1, qtS_1 h1, qtS_2 h1, qtS_0 h2, qtS_1 h2, qtS_2 h2, ha, hb]
            refine hL _ ?_; clear hL L
            simp [C.laws_qsums, qS, h1, h2, qtS_0 h1, qtS_1 h1, qtS_2 h1, qtS_0 h2, qtS_1 h2, qtS_2 h2, ha, hb]
            refine cast (congrArg K ?_) hJ
            simp [ibne, qS, ha, hb]
        · refine opsI_seg fun L hL => ?_
          simp [C.laws_qsums, qS, h1, h2, qtS_0 h1, qtS_1 h1, qtS_2 h1, qtS_0 h2, qtS_1 h2, qtS_2 h2, ha]
          refine hL _ ?_; clear hL L
          refine opsI_end fun L hL => ?_
          simp [C.laws_qsums, qS, h1, h2, qtS_0 h1, qtS_1 h1, qtS_2 h1, qtS_0 h2, qtS_1 h2, qtS_2 h2, ha]
          refine hL _ ?_; clear hL L
          simp [C.laws_qsums, qS, h1, h2, qtS_0 h1, qtS_1 h1, qtS_2 h1, qtS_0 h2, qtS_1 h2, qtS_2 h2, ha]
          refine cast (congrArg K ?_) hJ
          simp [ibne, qS, ha]
      · have h1 : x1 = f.ts.length := by have := d_f hc2; omega
        refine wexit ?_
        show AWp _ _ _ _ _
        refine wseq ?_
        refine wreg fun K hK => ?_
        simp [C.laws_qsums, qS]
        refine hK _ ?_; clear hK K
        show AWp _ _ _ _ _
        refine wret ?_
        simp [C.laws_qsums, qS]
        rw [h1, List.take_length, hc.2, List.take_length] at ht
        cases f
        cases g
        simp only at hc ht
        simp [hc.1, ht]
  clear hK
  by_cases ha : f.v = g.v
  · refine opsI_end fun L hL => ?_
    simp [C.laws_qsums, qS, ha]
    refine hL _ ?_; clear hL L
    simp [C.laws_qsums, qS, ha]
    refine cast (congrArg K ?_) hJ
    simp [ibne, qS, ha]
  · refine opsI_end fun L hL => ?_
    simp [C.laws_qsums, qS, ha]
    refine hL _ ?_; clear hL L
    simp [C.laws_qsums, qS, ha]
    refine cast (congrArg K ?_) hJ
    simp [ibne, qS, ha]

theorem laws_qtimes_calls (fm : List (List Int)) (f g : Qsm) (h0 : fm.length < 4611686018427387904) (hI : I64 fm) (hx : f.ts.length < 4611686018427387904) (hxe : ∀ t ∈ f.ts, t.e.length < 4611686018427387904) (hy : g.ts.length < 4611686018427387904) (hye : ∀ t ∈ g.ts, t.e.length < 4611686018427387904) : ACalls Try.prog F.laws_qtimes [.d (.sh 1 fm.length (rows lS fm)), aQ f, aQ g] [] true (fun outs res => outs = [] ∧ res = [.ag (qO (mulQF fm f g).1)]) := by
  refine ACalls.of_body (C := C.laws_qtimes) (n := Try.f26.ntmps) tabT folT Try.func26 rfl (by kernel_rfl) rfl (Nat.le_of_ble_eq_true rfl) (by decide) (by kernel_rfl) (by kernel_rfl) rfl (by simp) (by simp) ?_
  simp only [Try.f26]
  refine wseq ?_
  refine wreg fun K hK => ?_
  simp [C.laws_qtimes, qS, qO]
  refine hK _ ?_; clear hK K
  show AWp _ _ _ _ _
  refine wseq ?_
  refine wregI ([0, 1, 2, 3] ++ ([4, 5, 6, 7, 8, 9])) rfl fun K hK => ?_
  refine opsI_seg fun L hL => ?_
  simp [C.laws_qtimes, qS, qO]
  refine wcall1 (iMulQ_calls doneOkQ fm f g h0 hI hx hxe hy hye) (by simp) (by simp) ?_
  simp [C.laws_qtimes, qS, qO]
  refine hL _ ?_; clear hL L
  refine opsI_end fun L hL => ?_
  simp [C.laws_qtimes, qS, qO]
  refine hL _ ?_; clear hL L
  simp [C.laws_qtimes, qS, qO]
  refine hK _ ?_; clear hK K
  show AWp _ _ _ _ _
  refine wseq ?_
  refine wreg fun K hK => ?_
  simp [C.laws_qtimes, qS, qO]
  refine hK _ ?_; clear hK K
  show AWp _ _ _ _ _
  refine wret ?_
  simp [C.laws_qtimes, qS, qO]

end Go.Proofs.Ytocknokodgnlbaa.Ab
namespace Go.Proofs.Ytocknokodgnlbaa.Ab
open Go
set_option linter.unusedSimpArgs false
set_option linter.unusedVariables false
set_option maxRecDepth 10000
set_option maxHeartbeats 2000000
end Go.Proofs.Ytocknokodgnlbaa.Ab
namespace Go.Proofs.Ytocknokodgnlbaa.Ab
open Go
set_option linter.unusedSimpArgs false
set_option linter.unusedVariables false
set_option maxRecDepth 10000
set_option maxHeartbeats 2000000
theorem FormS.i64 {fm : List (List Int)} (h : FormS fm) : I64 fm := fun r hr x hx => by
  obtain ⟨i, hi, rfl⟩ := List.getElem_of_mem hr
  obtain ⟨j, hj, rfl⟩ := List.getElem_of_mem hx
  have h1 := h.1.2.1 i hi
  rw [row_eq hi] at h1
  have h2 := h.2.2 i hi j (by omega)
  rw [at2_eq hi hj] at h2
  omega
end Go.Proofs.Ytocknokodgnlbaa.Ab
namespace Go.Proofs.Ytocknokodgnlbaa.Ab
open Go
set_option linter.unusedSimpArgs false
set_option linter.unusedVariables false
set_option maxRecDepth 10000
set_option maxHeartbeats 2000000
theorem laws_FnQuantumDivided_calls (xs : List Int) : ACalls Try.prog F.laws_FnQuantumDivided [.d (.sh 1 xs.length (byts xs))] [] true (fun outs res => outs = [] ∧ res = [.one (D.bool true)]) := by
  refine ACalls.of_body (C := C.laws_FnQuantumDivided) (n := Try.f6.ntmps) tabT folT Try.func6 rfl (by kernel_rfl) rfl (Nat.le_of_ble_eq_true rfl) (by decide) (by kernel_rfl) (by kernel_rfl) rfl (by simp) (by simp) ?_
  simp only [Try.f6]
  refine wseq ?_
  refine wreg fun K hK => ?_
  simp [C.laws_FnQuantumDivided, qO, qS]
  refine hK _ ?_; clear hK K
  show AWp _ _ _ _ _
  refine wseq ?_
  refine wseq ?_
  refine wregI ([0, 1] ++ ([])) rfl fun K hK => ?_
  refine opsI_seg fun L hL => ?_
  simp [C.laws_FnQuantumDivided, qO, qS]
  refine wcall1 (laws_big_calls xs) (by simp) (by simp) ?_
  simp [C.laws_FnQuantumDivided, qO, qS]
  refine hL _ ?_; clear hL L
  refine opsI_end fun L hL => ?_
  simp only [AOpsI]
  refine hL _ ?_; clear hL L
  simp [C.laws_FnQuantumDivided, qO, qS]
  refine hK _ ?_; clear hK K
  show AWp _ _ _ _ _
  refine wcond _ rfl (fun hc1 => ?_) (fun hc1 => ?_)
  · refine wseq ?_
    refine wreg fun K hK => ?_
    simp [C.laws_FnQuantumDivided, qO, qS]
    refine hK _ ?_; clear hK K
    show AWp _ _ _ _ _
    refine wret ?_
    simp [C.laws_FnQuantumDivided, qO, qS]
  · have hx : xs.length ≤ 1048576 := by have := d_f hc1; omega
    refine wskip ?_
    show AWp _ _ _ _ _
    refine wseq ?_
    refine wregI ([0, 1] ++ ([2, 3, 4, 5, 6, 7, 8, 9, 10, 11, 12, 13])) rfl fun K hK => ?_
    refine opsI_seg fun L hL => ?_
    simp [C.laws_FnQuantumDivided, qO, qS]
    refine wcall (spec_DrawThreeQSums_calls xs hx) (by simp) (by simp) (by simp) ?_
    rintro outs res ⟨fm, f, g, h, hs, hf, hg, hh, rfl, rfl⟩
    simp [C.laws_FnQuantumDivided, qO, qS]
    refine hL _ ?_; clear hL L
    refine opsI_end fun L hL => ?_
    simp [C.laws_FnQuantumDivided, qO, qS]
    refine hL _ ?_; clear hL L
    simp [C.laws_FnQuantumDivided, qO, qS]
    refine hK _ ?_; clear hK K
    show AWp _ _ _ _ _
    refine wseq ?_
    have hfl := hf.sm
    have hgl := hg.sm
    have hhl := hh.sm
    have h0 : fm.length < 4611686018427387904 := by have := hs.2.1; omega
    have hI := hs.i64
    have hok := hs.1
    obtain ⟨P, hP, hPs⟩ : ∃ P, mulQF fm g f = (P, true) ∧ SmQ P := by
      obtain ⟨p1, p2⟩ := enq_bnd (by have := hok.1; omega) (hg.qp.prod3 hs hf.qp) (by omega) (by omega) (by omega) (by omega)
      exact ⟨_, (mulQ_eq hok hg.right hf.right hg.v hf.v).trans p1, p2.sm⟩
    have hMul := iMulQ_calls doneOkQ fm g f h0 hI hgl.1 hgl.2 hfl.1 hfl.2
    rw [hP] at hMul
    refine wregI ([0, 1, 2, 3] ++ ([4, 5, 6, 7, 8, 9])) rfl fun K hK => ?_
    refine opsI_seg fun L hL => ?_
    simp [C.laws_FnQuantumDivided, qO, qS]
    refine wcall1 (hMul) (by simp) (by simp) ?_
    simp [C.laws_FnQuantumDivided, qO, qS]
    refine hL _ ?_; clear hL L
    refine opsI_end fun L hL => ?_
    simp [C.laws_FnQuantumDivided, qO, qS]
    refine hL _ ?_; clear hL L
    simp [C.laws_FnQuantumDivided, qO, qS]
    refine hK _ ?_; clear hK K
    show AWp _ _ _ _ _
    refine wseq ?_
    refine wseq ?_
    refine wreg fun K hK => ?_
    simp [C.laws_FnQuantumDivided, qO, qS]
    refine hK _ ?_; clear hK K
    show AWp _ _ _ _ _
    refine wcond _ rfl (fun hc2 => ?_) (fun hc2 => ?_)
    · simp at hc2
    · refine wskip ?_
      show AWp _ _ _ _ _
      refine wseq ?_
      obtain ⟨Q, b, hQ, hb, hbf⟩ : ∃ Q b, divQF fm P g = (Q, b) ∧ b = decide (0 < (g.ts.length : Int)) ∧ (b = true → Q = f) := by
        by_cases hz : g.ts = []
        · refine ⟨zeroQ, false, ?_, by simp [hz], by simp⟩
          unfold divQF
          rw [if_neg (fun h => h.2 hz)]
        · refine ⟨f, true, div_mulQ hok hf.right hg.right hf.v hg.v hz hP, ?_, fun _ => rfl⟩
          have : 0 < g.ts.length := List.length_pos_iff.2 hz
          simp
          omega
      have hDiv := iDivQ_calls fm P g h0 hI hPs.1 hPs.2 hgl.1 hgl.2
      rw [hQ] at hDiv
      refine wregI ([0, 1, 2, 3] ++ ([4, 5, 6, 7, 8, 9])) rfl fun K hK => ?_
      refine opsI_seg fun L hL => ?_
      simp [C.laws_FnQuantumDivided, qO, qS]
      refine wcall1 (hDiv) (by simp) (by simp) ?_
      simp [C.laws_FnQuantumDivided, qO, qS]
      refine hL _ ?_; clear hL L
      refine opsI_end fun L hL => ?_
      simp [C.laws_FnQuantumDivided, qO, qS]
      refine hL _ ?_; clear hL L
      simp [C.laws_FnQuantumDivided, qO, qS]
      refine hK _ ?_; clear hK K
      show AWp _ _ _ _ _
      refine wseq ?_
      refine wseq ?_
      refine wregI ([0, 1, 2, 3, 4, 5, 6, 7, 8, 9, 10, 11] ++ ([12, 13, 14])) rfl fun K hK => ?_
      have hJ : K ⟨ofL [(3, .al (3, 0) [] 0 fm.length), (5, .pt (5, 0) [] 0), (6, .pt (6, 0) [] 0), (54, .bool false)], ofRO [((3, 0), some (.ow 1 fm.length (rows lO fm))), ((5, 0), some (.bx (qO g))), ((6, 0), some (.bx (qO h)))]⟩ := by
        refine hK _ ?_; clear hK K
        show AWp _ _ _ _ _
        refine wcond _ rfl (fun hc3 => ?_) (fun hc3 => ?_)
        · simp at hc3
        · refine wskip ?_
          show AWp _ _ _ _ _
          refine wseq ?_
          obtain ⟨Q2, b2, hQ2⟩ : ∃ Q2 b2, divQF fm h g = (Q2, b2) := ⟨_, _, rfl⟩
          have hD2 := iDivQ_calls fm h g h0 hI hhl.1 hhl.2 hgl.1 hgl.2
          rw [hQ2] at hD2
          have hS2 := sDivQ_calls fm h g h0 hI hhl.1 hhl.2 hgl.1 hgl.2
          rw [hQ2] at hS2
          refine wregI ([0, 1, 2, 3] ++ ([4, 5, 6, 7, 8, 9])) rfl fun K hK => ?_
          refine opsI_seg fun L hL => ?_
          simp [C.laws_FnQuantumDivided, qO, qS]
          refine wcall1 (hD2) (by simp) (by simp) ?_
          simp [C.laws_FnQuantumDivided, qO, qS]
          refine hL _ ?_; clear hL L
          refine opsI_end fun L hL => ?_
          simp [C.laws_FnQuantumDivided, qO, qS]
          refine hL _ ?_; clear hL L
          simp [C.laws_FnQuantumDivided, qO, qS]
          refine hK _ ?_; clear hK K
          show AWp _ _ _ _ _
          refine wseq ?_
          refine wregI ([0, 1, 2, 3] ++ ([4, 5, 6, 7, 8, 9])) rfl fun K hK => ?_
          refine opsI_seg fun L hL => ?_
          simp [C.laws_FnQuantumDivided, qO, qS]
          refine wcall1 (hS2) (by simp) (by simp) ?_
          simp [C.laws_FnQuantumDivided, qO, qS]
          refine hL _ ?_; clear hL L
          refine opsI_end fun L hL => ?_
          simp [C.laws_FnQuantumDivided, qO, qS]
          refine hL _ ?_; clear hL L
          simp [C.laws_FnQuantumDivided, qO, qS]
          refine hK _ ?_; clear hK K
          show AWp _ _ _ _ _
          refine wseq ?_
          refine wdrawI [(true, 0), (true, 1), (true, 2), (true, 3), (true, 4), (true, 5), (true, 6), (true, 7), (true, 8), (true, 9), (true, 11), (false, 10), (false, 12), (true, 13), (true, 14), (true, 15)] ⟨by kernel_rfl, by kernel_rfl⟩ ([0, 1, 2, 3, 4, 5, 6, 7, 8, 9, 11, 10] ++ ([12] ++ ([13, 14, 15]))) rfl fun K hK => ?_
          have hJ : K ⟨ofL [(2, .bool true)], ofRO []⟩ := by
            refine hK _ ?_; clear hK K
            show AWp _ _ _ _ _
            refine wret ?_
            simp [C.laws_FnQuantumDivided, qO, qS]
          clear hK
          by_cases hb2 : b2 = true
          · rw [hb2] at hQ2
            obtain ⟨hQR, hmg⟩ := mul_divQ hQ2
            have hQl : Q2.ts.length < 4611686018427387904 ∧ ∀ t ∈ Q2.ts, t.e.length < 4611686018427387904 := by
              refine ⟨by have := hQR.2.1; omega, fun t ht => ?_⟩
              have h1 := (hQR.2.2.1 t ht).1
              have h2 := hQR.1
              omega
            have hT2 := laws_qtimes_calls fm g Q2 h0 hI hgl.1 hgl.2 hQl.1 hQl.2
            rw [hmg] at hT2
            refine opsI_seg fun L hL => ?_
            simp [C.laws_FnQuantumDivided, qO, qS, hb2]
            refine wcall1 (hT2) (by simp) (by simp) ?_
            simp [C.laws_FnQuantumDivided, qO, qS, hb2]
            refine hL _ ?_; clear hL L
            refine opsI_seg fun L hL => ?_
            simp [C.laws_FnQuantumDivided, qO, qS, hb2]
            refine wcall1 (laws_qsums_calls h h hhl.1 hhl.2) (by simp) (by simp) ?_
            simp [C.laws_FnQuantumDivided, qO, qS, hb2]
            refine hL _ ?_; clear hL L
            refine opsI_end fun L hL => ?_
            simp [C.laws_FnQuantumDivided, qO, qS, hb2]
            refine hL _ ?_; clear hL L
            simp [C.laws_FnQuantumDivided, qO, qS, hb2]
            refine cast (congrArg K ?_) hJ
            simp [qO, qS, hb2]
          · refine opsI_seg fun L hL => ?_
            simp [C.laws_FnQuantumDivided, qO, qS, hb2]
            refine hL _ ?_; clear hL L
            refine opsI_seg fun L hL => ?_
            simp [C.laws_FnQuantumDivided, qO, qS, hb2]
            refine hL _ ?_; clear hL L
            refine opsI_end fun L hL => ?_
            simp [C.laws_FnQuantumDivided, qO, qS, hb2]
            refine hL _ ?_; clear hL L
            simp [C.laws_FnQuantumDivided, qO, qS, hb2]
            refine cast (congrArg K ?_) hJ
            simp [qO, qS, hb2]
      clear hK
      by_cases hz : g.ts = []
      · obtain rfl : b = false := by rw [hb]; simp [hz]
        refine opsI_seg fun L hL => ?_
        simp [C.laws_FnQuantumDivided, qO, qS, hz]
        refine hL _ ?_; clear hL L
        refine opsI_end fun L hL => ?_
        simp [C.laws_FnQuantumDivided, qO, qS, hz]
        refine hL _ ?_; clear hL L
        simp [C.laws_FnQuantumDivided, qO, qS, hz]
        refine cast (congrArg K ?_) hJ
        simp [qO, qS, hz]
      · obtain rfl : b = true := by rw [hb]; have : 0 < g.ts.length := List.length_pos_iff.2 hz; simp; omega
        obtain rfl : f = Q := (hbf rfl).symm
        refine opsI_seg fun L hL => ?_
        simp [C.laws_FnQuantumDivided, qO, qS, show (decide ((0 : Int) < g.ts.length)) = true by have : 0 < g.ts.length := List.length_pos_iff.2 hz; simp; omega, show (0 : Int) < g.ts.length by have : 0 < g.ts.length := List.length_pos_iff.2 hz; omega, show 0 < g.ts.length from List.length_pos_iff.2 hz, hz]
        refine wcall1 (laws_qsums_calls f f hfl.1 hfl.2) (by simp) (by simp) ?_
        simp [C.laws_FnQuantumDivided, qO, qS, show (decide ((0 : Int) < g.ts.length)) = true by have : 0 < g.ts.length := List.length_pos_iff.2 hz; simp; omega, show (0 : Int) < g.ts.length by have : 0 < g.ts.length := List.length_pos_iff.2 hz; omega, show 0 < g.ts.length from List.length_pos_iff.2 hz, hz]
        refine hL _ ?_; clear hL L
        refine opsI_end fun L hL => ?_
        simp [C.laws_FnQuantumDivided, qO, qS, show (decide ((0 : Int) < g.ts.length)) = true by have : 0 < g.ts.length := List.length_pos_iff.2 hz; simp; omega, show (0 : Int) < g.ts.length by have : 0 < g.ts.length := List.length_pos_iff.2 hz; omega, show 0 < g.ts.length from List.length_pos_iff.2 hz, hz]
        refine hL _ ?_; clear hL L
        simp [C.laws_FnQuantumDivided, qO, qS, show (decide ((0 : Int) < g.ts.length)) = true by have : 0 < g.ts.length := List.length_pos_iff.2 hz; simp; omega, show (0 : Int) < g.ts.length by have : 0 < g.ts.length := List.length_pos_iff.2 hz; omega, show 0 < g.ts.length from List.length_pos_iff.2 hz, hz]
        refine cast (congrArg K ?_) hJ
        simp [qO, qS, hz]

end Go.Proofs.Ytocknokodgnlbaa.Ab
namespace Go.Proofs.Ytocknokodgnlbaa.Ab
open Go Go.ChangeShapes Go.WideShapes Go.ChangeAt Go.RowKit
set_option linter.unusedSimpArgs false
set_option linter.unusedVariables false
set_option maxRecDepth 100000
section
variable {H : Type} {enc : TypeId × Value → H} {W : World}
theorem rows_byts (l : List Int) : rows (fun n => [D.v (.int .u8 n)]) l = byts l := by
  induction l with
  | nil => rfl
  | cons x l ih => simp [rows, ih, byts]
def CodeB (l : List Int) : Prop := (∀ x ∈ l, 0 ≤ x ∧ x ≤ 255) ∧ l.length * 1 ≤ 140737488351232
theorem opCode : Opens enc Try.prog W 22 1 (List Int) (fun l => [.sh 1 l.length (byts l)]) CodeB :=
  (Opens.slice (Opens.byte Try.underlying5 (by kernel_rfl)) (by omega) Try.underlying22 (by kernel_rfl) (by kernel_rfl)).to id (fun l => by simp [rows_byts]) (fun _ => rfl) (fun _ h => h)
theorem argCode : Arg enc Try.prog W 22 (List Int) (fun l => .d (.sh 1 l.length (byts l))) CodeB := Arg.one opCode (by kernel_rfl) (of_decide_eq_true (by kernel_rfl)) (by kernel_rfl)
end
end Go.Proofs.Ytocknokodgnlbaa.Ab
namespace Go.Proofs.Ytocknokodgnlbaa.Ab
open Go
theorem lawQd (xs : List Int) : ACalls Try.prog F.laws_FnQuantumDivided [.d (.sh 1 xs.length (byts xs))] [] true (fun outs res => outs = [] ∧ res = [.one (D.bool true)]) := laws_FnQuantumDivided_calls xs
end Go.Proofs.Ytocknokodgnlbaa.Ab
