/- What a division keeps from step to step. Greatest exponents, sums of coded terms, division: the reference's side. The sum that a quantum sum becomes with 1 in place of q: the reference's, the program's. The law of the sums that quantum sums become. Lists of lists of numbers as trees. More arguments of this program's laws, read as trees: lists of lists, quantum sums. Quantum sums with 1 in place of q: the law, without a premise left. No condition. -/
import Derived.Test.YtdgeponcnlkaiaaKCe
import Derived.Test.YtdgeponcnlkaiaaKCd
import Derived.Test.YtdgeponcnlkaiaaKCc
set_option linter.unusedVariables false
set_option linter.unusedSimpArgs false
namespace Go.Proofs.Ytdgeponcnlkaiaa.Ab
open Go
set_option linter.unusedSimpArgs false
set_option linter.unusedVariables false
structure DivJ (chk : List Int → Int → Bool) (f g : Lau) (n : Nat) (R O : List (List Int × Int)) : Prop where
  run : divL chk g 600 (f.ts.map pr) = (divL chk g (600 - O.length) R).map (O ++ ·)
  ol : O.length ≤ 600
  rd : Desc lexlt R
  rl : ∀ y ∈ R, y.1.length = n ∧ ∀ z ∈ y.1, -60 ≤ z ∧ z ≤ 60
  ra : absK R ≤ 600000000 + O.length * 600000000000000
  rn : R.length ≤ 600 + O.length * 600
  od : ∀ x ∈ O, x.1.length = n ∧ ∀ z ∈ x.1, -40 ≤ z ∧ z ≤ 40
theorem absK_le {l : List (List Int × Int)} {B : Nat} (h : ∀ x ∈ l, x.2.natAbs ≤ B) : absK l ≤ l.length * B := by
  induction l with
  | nil => simp [absK]
  | cons x l ih =>
    have h1 := h x (by simp)
    have h2 := ih fun y hy => h y (by simp [hy])
    simp only [absK, List.map_cons, List.sum_cons, List.length_cons, Nat.add_mul, Nat.one_mul] at h2 ⊢
    omega
theorem right_absK {f : Lau} (h : Right f) : absK (f.ts.map pr) ≤ 600000000 := by
  have h1 : absK (f.ts.map pr) ≤ (f.ts.map pr).length * 1000000 := absK_le fun x hx => by
    obtain ⟨t, ht, rfl⟩ := List.mem_map.1 hx
    have := (h.2.2.1 t ht).2.2.1
    simp only [pr]
    omega
  have h2 := h.2.1
  simp only [List.length_map] at h1
  exact Nat.le_trans h1 (by omega)
theorem DivJ.start (chk : List Int → Int → Bool) {f g : Lau} {n : Nat} (hf : Right f) (hn : f.v = n) : DivJ chk f g n (f.ts.map pr) [] := by
  refine ⟨?_, by simp, pr_desc hf, fun y hy => ?_, by simpa using right_absK hf, by simpa using hf.2.1, by simp⟩
  · simp only [List.length_nil, Nat.sub_zero, List.nil_append]
    cases divL chk g 600 (f.ts.map pr) <;> rfl
  · obtain ⟨t, ht, rfl⟩ := List.mem_map.1 hy
    have := right_he hf hn t ht
    exact ⟨this.1, fun z hz => by have := this.2 z hz; omega⟩
theorem DivJ.dig {chk : List Int → Int → Bool} {f g : Lau} {n : Nat} {R O : List (List Int × Int)} (h : DivJ chk f g n R O) : ∀ y ∈ R, y.1.length = n ∧ Dig y.1 := fun y hy => ⟨(h.rl y hy).1, fun z hz => by have := (h.rl y hy).2 z hz; omega⟩
theorem DivJ.done {chk : List Int → Int → Bool} {f g : Lau} {n : Nat} {O : List (List Int × Int)} (h : DivJ chk f g n [] O) : divL chk g 600 (f.ts.map pr) = some O := by
  rw [h.run]
  cases 600 - O.length <;> simp [divL, divGo]
theorem DivJ.fail {chk : List Int → Int → Bool} {f g : Lau} {n : Nat} {x : List Int × Int} {R O : List (List Int × Int)} (h : DivJ chk f g n (x :: R) O) (hc : ¬ (x.2.tmod (leadC g) = 0 ∧ chk (addE (-1) x.1 (leadE g)) (x.2.tdiv (leadC g)) = true) ∨ O.length = 600) : divL chk g 600 (f.ts.map pr) = none := by
  rw [h.run]
  rcases Nat.eq_zero_or_pos (600 - O.length) with e | e
  · rw [e]; rfl
  · obtain ⟨k, hk⟩ : ∃ k, 600 - O.length = k + 1 := ⟨600 - O.length - 1, by omega⟩
    rw [hk]
    rcases hc with hc | hc
    · simp only [divL, divGo]
      rw [if_neg hc]
      rfl
    · omega
def stepL (g : Lau) (x : List Int × Int) (R : List (List Int × Int)) : List (List Int × Int) := x :: R ++ mulT (addE 1) (addE (-1) x.1 (leadE g)) (-(x.2.tdiv (leadC g))) (g.ts.map pr)
theorem addE_bd {B C : Int} : ∀ {a b : List Int} {k : Int}, (k = 1 ∨ k = -1) → a.length = b.length → (∀ z ∈ a, -B ≤ z ∧ z ≤ B) → (∀ z ∈ b, -C ≤ z ∧ z ≤ C) → ∀ z ∈ addE k a b, -(B + C) ≤ z ∧ z ≤ B + C
  | [], [], k, _, _, _, _ => by simp [addE]
  | x :: a, y :: b, k, hk, h, ha, hb => by
    intro z hz
    have h1 := ha x (by simp)
    have h2 := hb y (by simp)
    simp only [addE, List.mem_cons] at hz
    rcases hz with rfl | hz
    · rcases hk with rfl | rfl <;> omega
    · exact addE_bd hk (by simpa using h) (fun z hz => ha z (by simp [hz])) (fun z hz => hb z (by simp [hz])) z hz
  | [], _ :: _, _, _, h, _, _ => by simp at h
  | _ :: _, [], _, _, h, _, _ => by simp at h
theorem DivJ.step {chk : List Int → Int → Bool} {f g : Lau} {n : Nat} {x : List Int × Int} {R O : List (List Int × Int)} (h : DivJ chk f g n (x :: R) O) (hg : Right g) (hgn : g.v = n) (hm : x.2.tmod (leadC g) = 0) (hc : chk (addE (-1) x.1 (leadE g)) (x.2.tdiv (leadC g)) = true) (h6 : O.length < 600)
    (hel : (addE (-1) x.1 (leadE g)).length = n) (hb : ∀ z ∈ addE (-1) x.1 (leadE g), -40 ≤ z ∧ z ≤ 40) (hq : -1000000 ≤ x.2.tdiv (leadC g) ∧ x.2.tdiv (leadC g) ≤ 1000000) :
    DivJ chk f g n (nf lexlt (stepL g x R)) (O ++ [(addE (-1) x.1 (leadE g), x.2.tdiv (leadC g))]) := by
  have hga := right_absK hg
  have hgl := hg.2.1
  have hab := nf_abs (lt := lexlt) (stepL g x R)
  have hlen : (O ++ [(addE (-1) x.1 (leadE g), x.2.tdiv (leadC g))]).length = O.length + 1 := by simp
  refine ⟨?_, by omega, nf_desc lexOrd _, fun y hy => ?_, ?_, ?_, fun y hy => ?_⟩
  · rw [h.run]
    obtain ⟨k, hk⟩ : ∃ k, 600 - O.length = k + 1 := ⟨600 - O.length - 1, by omega⟩
    rw [hlen, hk, show 600 - (O.length + 1) = k by omega]
    simp only [divL, divGo]
    rw [if_pos ⟨hm, hc⟩]
    simp only [Option.map_map, stepL]
    congr 1
    funext z
    simp
  · obtain ⟨z, hz, e⟩ := nf_mem hy
    rw [← e]
    unfold stepL at hz
    rcases List.mem_append.1 hz with hz | hz
    · exact h.rl z hz
    · obtain ⟨u, hu, rfl⟩ := List.mem_map.1 hz
      obtain ⟨t, ht, rfl⟩ := List.mem_map.1 hu
      have ht2 := right_he hg hgn t ht
      refine ⟨by simp only [pr]; rw [addE_length _ _ _ (hel.trans ht2.1.symm)]; exact hel, ?_⟩
      exact addE_bd (B := 40) (C := 20) (.inl rfl) (hel.trans ht2.1.symm) hb ht2.2
  · refine Nat.le_trans hab.1 ?_
    unfold stepL
    rw [absK_append, mulT_abs, hlen]
    have h1 := h.ra
    have h2 : (-(x.2.tdiv (leadC g))).natAbs * absK (g.ts.map pr) ≤ 1000000 * 600000000 := Nat.mul_le_mul (by omega) hga
    omega
  · refine Nat.le_trans hab.2 ?_
    unfold stepL
    rw [List.length_append, mulT_length, List.length_map, hlen]
    have h1 := h.rn
    omega
  · rcases List.mem_append.1 hy with hy | hy
    · exact h.od y hy
    · simp only [List.mem_singleton] at hy
      subst hy
      exact ⟨hel, hb⟩
theorem inBox_bd {f g : Lau} {n : Nat} (hf : Right f) (hg : Right g) (hn : f.v = n) (hgn : g.v = n) (hfne : f.ts ≠ []) (hgne : g.ts ≠ []) {e : List Int} (hl : e.length = n) (hb : inBox f g n e) : ∀ z ∈ e, -40 ≤ z ∧ z ≤ 40 := by
  intro z hz
  obtain ⟨i, hi, rfl⟩ := List.getElem_of_mem hz
  have h1 := hb i (by omega)
  obtain ⟨_, t1, ht1, q1⟩ := lowL_at hfne (show i < n by omega)
  obtain ⟨_, t2, ht2, q2⟩ := lowL_at hgne (show i < n by omega)
  obtain ⟨_, t3, ht3, q3⟩ := highL_at hfne (show i < n by omega)
  obtain ⟨_, t4, ht4, q4⟩ := highL_at hgne (show i < n by omega)
  have b : ∀ {u : Lau} (hu : Right u) (hun : u.v = n) {t : Trm} (ht : t ∈ u.ts), -20 ≤ t.e.getD i 0 ∧ t.e.getD i 0 ≤ 20 := fun {u} hu hun {t} ht => by
    have := right_he hu hun t ht
    rw [getD_eq (by omega)]
    exact this.2 _ (List.getElem_mem _)
  have b1 := b hf hn ht1
  have b2 := b hg hgn ht2
  have b3 := b hf hn ht3
  have b4 := b hg hgn ht4
  rw [q1, q2, q3, q4, getD_eq hi] at h1
  omega
theorem lowL_bd {f : Lau} {n : Nat} (hf : Right f) (hn : f.v = n) (hne : f.ts ≠ []) {i : Nat} (hi : i < n) : (-20 ≤ (lowL f.ts n).getD i 0 ∧ (lowL f.ts n).getD i 0 ≤ 20) ∧ -20 ≤ (highL f.ts n).getD i 0 ∧ (highL f.ts n).getD i 0 ≤ 20 := by
  obtain ⟨_, t1, ht1, q1⟩ := lowL_at hne hi
  obtain ⟨_, t3, ht3, q3⟩ := highL_at hne hi
  have b : ∀ {t : Trm} (ht : t ∈ f.ts), -20 ≤ t.e.getD i 0 ∧ t.e.getD i 0 ≤ 20 := fun {t} ht => by
    have := right_he hf hn t ht
    rw [getD_eq (by omega)]
    exact this.2 _ (List.getElem_mem _)
  rw [q1, q3]
  exact ⟨b ht1, b ht3⟩
theorem lead_mem {g : Lau} (h : g.ts ≠ []) : ∃ t ∈ g.ts, leadE g = t.e ∧ leadC g = t.c := by
  unfold leadE leadC
  match hh : g.ts, h with
  | t :: ts, _ => exact ⟨t, by simp, rfl, rfl⟩
theorem lead_get {g : Lau} (h : 0 < g.ts.length) : (g.ts[0]'h).e = leadE g ∧ (g.ts[0]'h).c = leadC g := by
  unfold leadE leadC
  match hh : g.ts, h with
  | t :: ts, _ => simp
/-- The rest behind a step, as the reference reckons it. -/
theorem step_coded {g : Lau} {n : Nat} (hg : Right g) (hgn : g.v = n) {x : List Int × Int} {R : List (List Int × Int)} (hR : ∀ y ∈ x :: R, y.1.length = n ∧ Dig y.1) (hel : (addE (-1) x.1 (leadE g)).length = n) (hb : ∀ z ∈ addE (-1) x.1 (leadE g), -40 ≤ z ∧ z ≤ 40) :
    nf ilt ((x :: R).map kc ++ (nf ilt (prodM (keyA 0 (List.replicate n 0)) [(keyA 0 (addE (-1) x.1 (leadE g)), x.2.tdiv (leadC g))] (g.ts.map kt))).map (fun y => (y.1, -1 * y.2))) = (nf lexlt (stepL g x R)).map kc := by
  generalize he : addE (-1) x.1 (leadE g) = e at hel hb
  generalize hq : x.2.tdiv (leadC g) = q
  have h1 : prodM (keyA 0 (List.replicate n 0)) [(keyA 0 e, q)] (g.ts.map kt) = (mulT (addE 1) e q (g.ts.map pr)).map kc := by
    simp only [prodM, List.flatMap_cons, List.flatMap_nil, List.append_nil, mulT, List.map_map]
    apply List.map_congr_left
    intro t ht
    have ht2 := right_he hg hgn t ht
    have hk := keyA_add e t.e 0 0 0 (hel.trans ht2.1.symm)
    simp only [Int.add_zero, Int.sub_zero] at hk
    simp only [Function.comp, pM, kt, kc, pr]
    rw [hk, hel]
  have hM : Exps n (mulT (addE 1) e q (g.ts.map pr)) := fun y hy => by
    obtain ⟨u, hu, rfl⟩ := List.mem_map.1 hy
    obtain ⟨t, ht, rfl⟩ := List.mem_map.1 hu
    have ht2 := right_he hg hgn t ht
    refine ⟨by simp only [pr]; rw [addE_length _ _ _ (hel.trans ht2.1.symm)]; exact hel, fun z hz => ?_⟩
    have := addE_bd (B := 40) (C := 20) (.inl rfl) (hel.trans ht2.1.symm) hb ht2.2 z hz
    omega
  rw [h1, nf_key _ hM, List.map_map]
  have h2 : (fun y : Int × Int => (y.1, -1 * y.2)) ∘ kc = kc ∘ fun y : List Int × Int => (y.1, -1 * y.2) := rfl
  rw [h2, ← List.map_map, ← List.map_append, nf_key]
  · congr 1
    refine nf_unique lexOrd (nf_desc lexOrd _) (nf_nz _) fun k => ?_
    rw [nf_co, stepL, he, hq, co_append, co_append, co_mulT_neg]
    congr 1
    have : ∀ l : List (List Int × Int), co k (l.map fun y => (y.1, -1 * y.2)) = -co k l := fun l => by
      induction l with
      | nil => rfl
      | cons y l ih =>
        simp only [List.map_cons, co, ih]
        split <;> omega
    rw [this, nf_co]
  · intro y hy
    rcases List.mem_append.1 hy with hy | hy
    · exact hR y hy
    · obtain ⟨z, hz, rfl⟩ := List.mem_map.1 hy
      exact nf_exps hM z hz
end Go.Proofs.Ytdgeponcnlkaiaa.Ab
namespace Go.Proofs.Ytdgeponcnlkaiaa.Ab
open Go
set_option linter.unusedSimpArgs false
set_option linter.unusedVariables false
set_option maxRecDepth 10000
set_option maxHeartbeats 2000000
theorem spec_l2Most_calls (f : Lau) (n : Nat) (hn : f.v = n) (hn8 : n ≤ 8) (h0 : 0 < f.ts.length) (hl : f.ts.length ≤ 600) (he : ∀ t ∈ f.ts, t.e.length = n) : ACalls Try.prog F.spec_l2Most [aF f] [] true (fun outs res => outs = [] ∧ res = [.one (owI (highL f.ts n))]) := by
  have h0e := he _ (List.getElem_mem h0)
  refine ACalls.of_body (C := C.spec_l2Most) (n := Try.f196.ntmps) tabT folT Try.func196 rfl (by kernel_rfl) rfl (Nat.le_of_ble_eq_true rfl) (by decide) (by kernel_rfl) (by kernel_rfl) rfl (by simp) (by simp) ?_
  simp only [Try.f196]
  refine wseq ?_
  refine wreg fun K hK => ?_
  simp [C.spec_l2Most, fS, hn]
  refine hK _ ?_; clear hK K
  show AWp _ _ _ _ _
  refine wseq ?_
  refine wregI ([0, 1, 2, 3, 4, 5] ++ ([6])) rfl fun K hK => ?_
  refine opsI_seg fun L hL => ?_
  simp [C.spec_l2Most, fS, hn, h0, tS_0 h0]
  refine wcall1 (spec_l1Ints_calls f.ts[0].e (by omega)) (by simp) (by simp) ?_
  simp [C.spec_l2Most, fS, hn, h0, tS_0 h0]
  refine hL _ ?_; clear hL L
  refine opsI_end fun L hL => ?_
  simp [C.spec_l2Most, fS, hn, h0, tS_0 h0]
  refine hL _ ?_; clear hL L
  simp [C.spec_l2Most, fS, hn, h0, tS_0 h0]
  refine hK _ ?_; clear hK K
  show AWp _ _ _ _ _
  refine wseq ?_
  refine wseq ?_
  refine wreg fun K hK => ?_
  simp [C.spec_l2Most, fS, hn]
  refine hK _ ?_; clear hK K
  show AWp _ _ _ _ _
  refine wblock ?_
  refine wloop (fun x : Nat => ⟨ofL [(1, .pt (1, 0) [] 0), (3, .al (3, 0) [] 0 n), (4, .int x)], ofRO [((1, 0), some (.bx (fS f))), ((3, 0), some (.ow 1 n (ints (highA (headE f.ts) (f.ts.take x) n))))]⟩) (fun x => x ≤ f.ts.length) (fun x => f.ts.length - x) 0 (by simp [C.spec_l2Most, fS, hn, highA_start f.ts n h0 he, h0e]) (by simp) ?_
  intro x1 hx1 R1 hR1
  refine wseq ?_
  refine wseq ?_
  refine wreg fun K hK => ?_
  simp [C.spec_l2Most, fS, hn]
  refine hK _ ?_; clear hK K
  show AWp _ _ _ _ _
  refine wcond _ rfl (fun hc1 => ?_) (fun hc1 => ?_)
  · have h1 : x1 < f.ts.length := d_t hc1
    have h1e := he _ (List.getElem_mem h1)
    refine wskip ?_
    show AWp _ _ _ _ _
    refine wseq ?_
    refine wblock ?_
    refine wseq ?_
    refine wreg fun K hK => ?_
    simp [C.spec_l2Most, fS, hn]
    refine hK _ ?_; clear hK K
    show AWp _ _ _ _ _
    refine wblock ?_
    refine wloop (fun x : Nat => ⟨ofL [(1, .pt (1, 0) [] 0), (3, .al (3, 0) [] 0 n), (4, .int x1), (5, .int x)], ofRO [((1, 0), some (.bx (fS f))), ((3, 0), some (.ow 1 n (ints ((highA (headE f.ts) (f.ts.take (x1 + 1)) n).take x ++ (highA (headE f.ts) (f.ts.take x1) n).drop x))))]⟩) (fun x => x ≤ n) (fun x => n - x) 0 (by simp [C.spec_l2Most, fS, hn]) (by simp) ?_
    intro x2 hx2 R2 hR2
    refine wseq ?_
    refine wseq ?_
    refine wreg fun K hK => ?_
    simp [C.spec_l2Most, fS, hn]
    refine hK _ ?_; clear hK K
    show AWp _ _ _ _ _
    refine wcond _ rfl (fun hc2 => ?_) (fun hc2 => ?_)
    · have h2 : x2 < n := by have := d_t hc2; omega
      have hg1 := mix_get (highA (headE f.ts) (f.ts.take (x1 + 1)) n) (highA (headE f.ts) (f.ts.take x1) n) x2 (by simpa using h2) (by simp)
      have hg2 : maxF (headE f.ts x2) (f.ts.take (x1 + 1)) x2 = max (maxF (headE f.ts x2) (f.ts.take x1) x2) (f.ts[x1].e[x2]'(by omega)) := by
        rw [List.take_succ_eq_append_getElem h1, maxF_snoc, getD_eq (by omega)]
      have hset := mix_set (highA (headE f.ts) (f.ts.take (x1 + 1)) n) (highA (headE f.ts) (f.ts.take x1) n) x2 (by simpa using h2) (by simp)
      rw [highA_get _ _ _ _ h2] at hset hg1
      rw [hg2] at hset
      have hlen : ((highA (headE f.ts) (f.ts.take (x1 + 1)) n).take x2 ++ (highA (headE f.ts) (f.ts.take x1) n).drop x2).length = n := by simp; omega
      generalize hM : (highA (headE f.ts) (f.ts.take (x1 + 1)) n).take x2 ++ (highA (headE f.ts) (f.ts.take x1) n).drop x2 = M at hset hg1 hlen
      have h2M : x2 < M.length := by omega
      rw [List.getElem?_eq_getElem h2M] at hg1
      have hg3 : M[x2] = maxF (headE f.ts x2) (f.ts.take x1) x2 := by injection hg1
      rw [← hg3] at hset
      refine wskip ?_
      show AWp _ _ _ _ _
      refine wseq ?_
      refine wblock ?_
      refine wdrawI [(true, 0), (true, 1), (true, 2), (true, 3), (true, 4), (true, 5), (true, 6), (true, 7), (true, 8), (true, 9), (true, 10), (true, 11), (true, 12), (true, 13), (true, 14), (true, 15), (true, 16), (false, 17)] ⟨by kernel_rfl, by kernel_rfl⟩ ([0, 1, 2, 3, 4, 5, 6, 7, 8, 9, 10, 11, 12, 13, 14, 15, 16, 17]) rfl fun K hK => ?_
      refine opsI_end fun L hL => ?_
      simp [C.spec_l2Most, fS, hn, h1, tS_0 h1, h1e, h2, hlen, get_ints, h2M]
      refine hL _ ?_; clear hL L
      simp [C.spec_l2Most, fS, hn, h1, tS_0 h1, h1e, h2, hlen, get_ints, h2M]
      refine hK _ ?_; clear hK K
      show AWp _ _ _ _ _
      refine wreg fun K hK => ?_
      simp [C.spec_l2Most, fS, hn, wrap_succ (show x2 < 4611686018427387904 by omega), hset, modify_const, ints_set]
      refine hK _ ?_; clear hK K
      simp [C.spec_l2Most, fS, hn]
      refine cast (congrArg R2 ?_) (hR2 (x2 + 1) h2 (by omega))
      simp [fS, hn]
    · have h2 : x2 = n := by have := d_f hc2; omega
      refine wexit ?_
      show AWp _ _ _ _ _
      refine wreg fun K hK => ?_
      simp [C.spec_l2Most, fS, hn, wrap_succ (show x1 < 4611686018427387904 by omega)]
      refine hK _ ?_; clear hK K
      simp [C.spec_l2Most, fS, hn]
      refine cast (congrArg R1 ?_) (hR1 (x1 + 1) h1 (by omega))
      simp [fS, hn, h2, List.take_of_length_le, List.drop_of_length_le]
  · have h1 : x1 = f.ts.length := by have := d_f hc1; omega
    refine wexit ?_
    show AWp _ _ _ _ _
    refine wseq ?_
    refine wreg fun K hK => ?_
    simp [C.spec_l2Most, fS, hn]
    refine hK _ ?_; clear hK K
    show AWp _ _ _ _ _
    refine wret ?_
    simp [C.spec_l2Most, fS, hn, h1, highL]

def scM (k : Int) (x : Int × Int) : Int × Int := (x.1, k * x.2)
theorem scM_abs (k : Int) : ∀ b : List (Int × Int), absL (b.map (scM k)) = k.natAbs * absL b
  | [] => rfl
  | x :: b => by
    have := scM_abs k b
    simp only [absL, List.map_cons, List.sum_cons, scM] at this ⊢
    rw [Int.natAbs_mul, Nat.mul_add]
    simp only [List.map_map] at this ⊢
    omega
theorem scM_bd {k : Int} {b : List (Int × Int)} {x : Int × Int} (hx : x ∈ b) {B : Nat} (h : k.natAbs * absL b < B) : -(B : Int) < k * x.2 ∧ k * x.2 < B := by
  have h1 := absL_mem hx
  have h2 : (k * x.2).natAbs ≤ k.natAbs * absL b := by
    rw [Int.natAbs_mul]
    exact Nat.mul_le_mul_left _ h1
  omega
theorem spec_l2Plus_calls (a b : List (Int × Int)) (k : Int) (hl : a.length + b.length ≤ 1000000) (hc : absL a + k.natAbs * absL b < 4611686018427387904) : ACalls Try.prog F.spec_l2Plus [.d (.sh 2 a.length (rows gM a)), .int k, .d (.sh 2 b.length (rows gM b))] [] true (fun outs res => outs = [] ∧ res = [.one (.ow 2 (nf ilt (a ++ b.map (scM k))).length (rows gM (nf ilt (a ++ b.map (scM k)))))]) := by
  refine ACalls.of_body (C := C.spec_l2Plus) (n := Try.f198.ntmps) tabT folT Try.func198 rfl (by kernel_rfl) rfl (Nat.le_of_ble_eq_true rfl) (by decide) (by kernel_rfl) (by kernel_rfl) rfl (by simp) (by simp) ?_
  simp only [Try.f198]
  refine wseq ?_
  refine wreg fun K hK => ?_
  simp [C.spec_l2Plus]
  refine hK _ ?_; clear hK K
  show AWp _ _ _ _ _
  refine wseq ?_
  refine wreg fun K hK => ?_
  simp [C.spec_l2Plus, show a.length * 16 ≤ 140737488355328 by omega]
  refine hK _ ?_; clear hK K
  show AWp _ _ _ _ _
  refine wseq ?_
  refine wseq ?_
  refine wreg fun K hK => ?_
  simp [C.spec_l2Plus]
  refine hK _ ?_; clear hK K
  show AWp _ _ _ _ _
  refine wblock ?_
  refine wloop (fun x : Nat => ⟨ofL [(1, .int k), (2, .d (.sh 2 b.length (rows gM b))), (7, .al (7, 0) [] 0 (a.length + x)), (8, .int x)], ofRO [((7, 0), some (.ow 2 (a.length + x) (rows gM (a ++ (b.take x).map (scM k)))))]⟩) (fun x => x ≤ b.length) (fun x => b.length - x) 0 (by simp [C.spec_l2Plus]) (by simp) ?_
  intro x1 hx1 R1 hR1
  refine wseq ?_
  refine wseq ?_
  refine wreg fun K hK => ?_
  simp [C.spec_l2Plus]
  refine hK _ ?_; clear hK K
  show AWp _ _ _ _ _
  refine wcond _ rfl (fun hc1 => ?_) (fun hc1 => ?_)
  · have h1 : x1 < b.length := by have := d_t hc1; omega
    have hbd := scM_bd (List.getElem_mem h1) (show k.natAbs * absL b < 4611686018427387904 by omega)
    refine wskip ?_
    show AWp _ _ _ _ _
    refine wseq ?_
    refine wblock ?_
    refine wdrawI [(true, 0), (true, 1), (true, 2), (true, 3), (true, 4), (true, 5), (true, 6), (true, 7), (true, 8), (true, 9), (true, 10), (true, 11), (true, 12), (true, 13), (false, 14), (false, 15), (true, 16)] ⟨by kernel_rfl, by kernel_rfl⟩ ([0, 1, 2, 3, 4, 5, 6, 7, 8, 9, 10, 11, 12, 13, 14, 15, 16]) rfl fun K hK => ?_
    refine opsI_end fun L hL => ?_
    simp [C.spec_l2Plus, h1, gM_0 h1, gM_1 h1, gM_snoc, wrapOk (x := k * b[x1].2) (by omega) (by omega), show (a.length + x1 + 1) * 16 ≤ 140737488355328 by omega]
    refine hL _ ?_; clear hL L
    simp [C.spec_l2Plus, h1, gM_0 h1, gM_1 h1, gM_snoc, wrapOk (x := k * b[x1].2) (by omega) (by omega), show (a.length + x1 + 1) * 16 ≤ 140737488355328 by omega]
    refine hK _ ?_; clear hK K
    show AWp _ _ _ _ _
    refine wreg fun K hK => ?_
    simp [C.spec_l2Plus, wrap_succ (show x1 < 4611686018427387904 by omega)]
    refine hK _ ?_; clear hK K
    simp [C.spec_l2Plus]
    refine cast (congrArg R1 ?_) (hR1 (x1 + 1) h1 (by omega))
    rw [List.take_succ_eq_append_getElem h1, List.map_append]
    simp [scM, Nat.add_assoc]
  · have h1 : x1 = b.length := by have := d_f hc1; omega
    have htk : List.take b.length (List.map (scM k) b) = List.map (scM k) b := List.take_of_length_le (by simp)
    refine wexit ?_
    show AWp _ _ _ _ _
    refine wseq ?_
    refine wregI ([0, 1] ++ ([2])) rfl fun K hK => ?_
    refine opsI_seg fun L hL => ?_
    simp [C.spec_l2Plus, h1, htk]
    refine wcall1 (spec_l2Gather_calls (a ++ b.map (scM k)) (by simp; omega) (by rw [absL_append, scM_abs]; omega)) (by simp [h1, htk]) (by simp) ?_
    simp [C.spec_l2Plus, h1, htk]
    refine hL _ ?_; clear hL L
    refine opsI_end fun L hL => ?_
    simp [C.spec_l2Plus, h1, htk]
    refine hL _ ?_; clear hL L
    simp [C.spec_l2Plus, h1, htk]
    refine hK _ ?_; clear hK K
    show AWp _ _ _ _ _
    refine wret ?_
    simp [C.spec_l2Plus]

@[simp] theorem lowL_length (ts : List Trm) (n : Nat) : (lowL ts n).length = n := by simp [lowL]
@[simp] theorem highL_length (ts : List Trm) (n : Nat) : (highL ts n).length = n := by simp [highL]
theorem kt_abs (ts : List Trm) : absL (ts.map kt) = absK (ts.map pr) := by
  simp only [absL, absK, List.map_map]
  rfl
theorem kc_abs (l : List (List Int × Int)) : absL (l.map kc) = absK l := by
  simp only [absL, absK, List.map_map]
  rfl
theorem prodM_one (base k q : Int) : ∀ G : List (Int × Int), (prodM base [(k, q)] G).length = G.length ∧ absL (prodM base [(k, q)] G) = q.natAbs * absL G := by
  intro G
  refine ⟨by simp [prodM_len], ?_⟩
  simp only [prodM, List.flatMap_cons, List.flatMap_nil, List.append_nil]
  induction G with
  | nil => rfl
  | cons y G ih =>
    simp only [absL, List.map_cons, List.sum_cons, List.map_map] at ih ⊢
    rw [Nat.mul_add, ← ih, pM, Int.natAbs_mul]
theorem ieq600 (n : Nat) : ((n : Int) == 600) = decide (n = 600) := by
  rw [Bool.eq_iff_iff]; simp; omega
theorem kc_pr : kc ∘ pr = kt := rfl
theorem endF_some (v : Int) (O : List (List Int × Int)) : endF v (some O) = ((if Right ⟨v, O.map tm⟩ then ⟨v, O.map tm⟩ else zeroF), decide (Right ⟨v, O.map tm⟩)) := by
  simp only [endF]
  split <;> simp_all
theorem shut_coded (O : List (List Int × Int)) (n : Nat) (hl : O.length ≤ 1000000) (he : ∀ x ∈ O, Dig x.1 ∧ x.1.length = n) (hv : n ≤ 8) : ACalls Try.prog F.spec_l2Shut [.d (.sh 2 O.length (rows gM (O.map kc))), .int n] [] true (fun outs res => outs = [] ∧ res = [.ag (fO (endF n (some O)).1), .one (D.bool (endF n (some O)).2)]) := by
  have := l2Shut_calls (O.map tm) n (by simpa using hl) (fun t ht => by
    obtain ⟨x, hx, rfl⟩ := List.mem_map.1 ht
    exact he x hx) hv
  simp only [List.length_map, List.map_map, kt_tm] at this
  rw [endF_some]
  exact this
theorem right_open {f : Lau} (h : Right f) {n : Nat} (hn : f.v = n) (h8 : n ≤ 8) : ∀ t ∈ f.ts, Dig t.e ∧ t.e.length ≤ 8 := fun t ht => by
  have := right_he h hn t ht
  exact ⟨fun z hz => by have := this.2 z hz; omega, by omega⟩
theorem spec_l2Divide_calls (f g : Lau) (n : Nat) (hf : Right f) (hg : Right g) (hn : f.v = n) (hgn : g.v = n) (hgne : g.ts ≠ []) : ACalls Try.prog F.spec_l2Divide [aF f, aF g] [] true (fun outs res => outs = [] ∧ WkRs res [.ag (fO (endF f.v (divL (chkS f g n) g 600 (f.ts.map pr))).1), .one (D.bool (endF f.v (divL (chkS f g n) g 600 (f.ts.map pr))).2)]) := by
  have hv : n ≤ 8 := by have := hf.1; omega
  have hfl := hf.2.1
  have hgl := hg.2.1
  have he := right_he hf hn
  have heg := right_he hg hgn
  have hG0 : 0 < g.ts.length := List.length_pos_iff.2 hgne
  obtain ⟨hl1, hl2⟩ := lead_get hG0
  have hgood := hg.2.2.1 _ (List.getElem_mem hG0)
  have hgle := heg _ (List.getElem_mem hG0)
  rw [hl1] at hgle
  have hgc : leadC g ≠ 0 ∧ -1000000 ≤ leadC g ∧ leadC g ≤ 1000000 := by rw [← hl2]; exact ⟨hgood.2.1, hgood.2.2.1⟩
  refine ACalls.of_body (C := C.spec_l2Divide) (n := Try.f118.ntmps) tabT folT Try.func118 rfl (by kernel_rfl) rfl (Nat.le_of_ble_eq_true rfl) (by decide) (by kernel_rfl) (by kernel_rfl) rfl (by simp) (by simp) ?_
  simp only [Try.f118]
  refine wseq ?_
  refine wreg fun K hK => ?_
  simp [C.spec_l2Divide, fS, hn, hgn]
  refine hK _ ?_; clear hK K
  show AWp _ _ _ _ _
  refine wseq ?_
  refine wregI ([0, 1, 2] ++ ([3])) rfl fun K hK => ?_
  refine opsI_seg fun L hL => ?_
  simp [C.spec_l2Divide, fS, hn, hgn]
  refine wcall1 (spec_l2Base_calls n hv) (by simp [fS, hn, hgn]) (by simp) ?_
  simp [C.spec_l2Divide, fS, hn, hgn]
  refine hL _ ?_; clear hL L
  refine opsI_end fun L hL => ?_
  simp [C.spec_l2Divide, fS, hn, hgn]
  refine hL _ ?_; clear hL L
  simp [C.spec_l2Divide, fS, hn, hgn]
  refine hK _ ?_; clear hK K
  show AWp _ _ _ _ _
  refine wseq ?_
  refine wregI ([0, 1] ++ ([2])) rfl fun K hK => ?_
  refine opsI_seg fun L hL => ?_
  simp [C.spec_l2Divide, fS, hn, hgn]
  refine wcall1 (spec_l2Open_calls f (by omega) (right_open hf hn hv)) (by simp [fS, hn, hgn]) (by simp) ?_
  simp [C.spec_l2Divide, fS, hn, hgn]
  refine hL _ ?_; clear hL L
  refine opsI_end fun L hL => ?_
  simp [C.spec_l2Divide, fS, hn, hgn]
  refine hL _ ?_; clear hL L
  simp [C.spec_l2Divide, fS, hn, hgn]
  refine hK _ ?_; clear hK K
  show AWp _ _ _ _ _
  refine wseq ?_
  refine wregI ([0, 1] ++ ([2])) rfl fun K hK => ?_
  refine opsI_seg fun L hL => ?_
  simp [C.spec_l2Divide, fS, hn, hgn]
  refine wcall1 (spec_l2Open_calls g (by omega) (right_open hg hgn hv)) (by simp [fS, hn, hgn]) (by simp) ?_
  simp [C.spec_l2Divide, fS, hn, hgn]
  refine hL _ ?_; clear hL L
  refine opsI_end fun L hL => ?_
  simp [C.spec_l2Divide, fS, hn, hgn]
  refine hL _ ?_; clear hL L
  simp [C.spec_l2Divide, fS, hn, hgn]
  refine hK _ ?_; clear hK K
  show AWp _ _ _ _ _
  refine wseq ?_
  refine wreg fun K hK => ?_
  simp [C.spec_l2Divide, fS, hn, hgn]
  refine hK _ ?_; clear hK K
  show AWp _ _ _ _ _
  refine wseq ?_
  refine wseq ?_
  refine wreg fun K hK => ?_
  simp [C.spec_l2Divide, fS, hn, hgn]
  refine hK _ ?_; clear hK K
  show AWp _ _ _ _ _
  refine wcond _ rfl (fun hc1 => ?_) (fun hc1 => ?_)
  · have hf0 : f.ts = [] := by simpa using hc1
    have hd0 : divL (chkS f g n) g 600 (f.ts.map pr) = some [] := by rw [hf0]; rfl
    refine wseq ?_
    refine wregI ([0, 1, 2, 3] ++ ([4, 5, 6, 7])) rfl fun K hK => ?_
    refine opsI_seg fun L hL => ?_
    simp [C.spec_l2Divide, fS, hn, hgn, rows]
    refine wcall1 (shut_coded [] n (by simp) (by simp) hv) (by simp [fS, hn, hgn, rows]) (by simp) ?_
    simp [C.spec_l2Divide, fS, hn, hgn, rows]
    refine hL _ ?_; clear hL L
    refine opsI_end fun L hL => ?_
    simp [C.spec_l2Divide, fS, hn, hgn, rows]
    refine hL _ ?_; clear hL L
    simp [C.spec_l2Divide, fS, hn, hgn, rows]
    refine hK _ ?_; clear hK K
    show AWp _ _ _ _ _
    refine wret ?_
    simp [C.spec_l2Divide, fS, hn, hgn, hd0, fO]
  · have hfne : f.ts ≠ [] := by intro e; simp [e] at hc1
    have hF0 : 0 < f.ts.length := List.length_pos_iff.2 hfne
    refine wskip ?_
    show AWp _ _ _ _ _
    refine wseq ?_
    refine wdrawI [(true, 0), (true, 2), (false, 1), (false, 3), (true, 4), (true, 5)] ⟨by kernel_rfl, by kernel_rfl⟩ ([0, 2, 1] ++ ([3] ++ ([4, 5]))) rfl fun K hK => ?_
    refine opsI_seg fun L hL => ?_
    simp [C.spec_l2Divide, fS, hn, hgn]
    refine wcall1 (spec_l2Least_calls f n hn hv hF0 hfl (fun t ht => (he t ht).1)) (by simp [fS, hn, hgn]) (by simp) ?_
    simp [C.spec_l2Divide, fS, hn, hgn]
    refine hL _ ?_; clear hL L
    refine opsI_seg fun L hL => ?_
    simp [C.spec_l2Divide, fS, hn, hgn]
    refine wcall1 (spec_l2Most_calls f n hn hv hF0 hfl (fun t ht => (he t ht).1)) (by simp [fS, hn, hgn]) (by simp) ?_
    simp [C.spec_l2Divide, fS, hn, hgn]
    refine hL _ ?_; clear hL L
    refine opsI_end fun L hL => ?_
    simp [C.spec_l2Divide, fS, hn, hgn]
    refine hL _ ?_; clear hL L
    simp [C.spec_l2Divide, fS, hn, hgn]
    refine hK _ ?_; clear hK K
    show AWp _ _ _ _ _
    refine wseq ?_
    refine wdrawI [(true, 0), (true, 2), (false, 1), (false, 3), (true, 4), (true, 5)] ⟨by kernel_rfl, by kernel_rfl⟩ ([0, 2, 1] ++ ([3] ++ ([4, 5]))) rfl fun K hK => ?_
    refine opsI_seg fun L hL => ?_
    simp [C.spec_l2Divide, fS, hn, hgn]
    refine wcall1 (spec_l2Least_calls g n hgn hv hG0 hgl (fun t ht => (heg t ht).1)) (by simp [fS, hn, hgn]) (by simp) ?_
    simp [C.spec_l2Divide, fS, hn, hgn]
    refine hL _ ?_; clear hL L
    refine opsI_seg fun L hL => ?_
    simp [C.spec_l2Divide, fS, hn, hgn]
    refine wcall1 (spec_l2Most_calls g n hgn hv hG0 hgl (fun t ht => (heg t ht).1)) (by simp [fS, hn, hgn]) (by simp) ?_
    simp [C.spec_l2Divide, fS, hn, hgn]
    refine hL _ ?_; clear hL L
    refine opsI_end fun L hL => ?_
    simp [C.spec_l2Divide, fS, hn, hgn]
    refine hL _ ?_; clear hL L
    simp [C.spec_l2Divide, fS, hn, hgn]
    refine hK _ ?_; clear hK K
    show AWp _ _ _ _ _
    refine wseq ?_
    refine wblock ?_
    refine wloop (fun x : List (List Int × Int) × List (List Int × Int) => ⟨ofL [(2, .pt (2, 0) [] 0), (3, .pt (3, 0) [] 0), (4, .pt (4, 0) [] 0), (6, .int (keyA 0 (List.replicate n 0))), (7, .al (7, 0) [] 0 x.1.length), (8, .al (8, 0) [] 0 g.ts.length), (9, .al (9, 0) [] 0 x.2.length), (10, .al (10, 0) [] 0 n), (11, .al (11, 0) [] 0 n), (12, .al (12, 0) [] 0 n), (13, .al (13, 0) [] 0 n)], ofRO [((2, 0), some (.bx (fS f))), ((3, 0), some (.bx (fS g))), ((4, 0), some (.bx [D.int 0, .v (.slice none 0 0)])), ((7, 0), some (.ow 2 x.1.length (rows gM (x.1.map kc)))), ((8, 0), some (.ow 2 g.ts.length (rows gM (g.ts.map kt)))), ((9, 0), some (.ow 2 x.2.length (rows gM (x.2.map kc)))), ((10, 0), some (.ow 1 n (ints (lowL f.ts n)))), ((11, 0), some (.ow 1 n (ints (highL f.ts n)))), ((12, 0), some (.ow 1 n (ints (lowL g.ts n)))), ((13, 0), some (.ow 1 n (ints (highL g.ts n))))]⟩) (fun x => DivJ (chkS f g n) f g n x.1 x.2) (fun x => 600 - x.2.length) (f.ts.map pr, []) (by simp [C.spec_l2Divide, fS, hn, hgn, rows, kc_pr]) (DivJ.start _ hf hn) ?_
    intro x1 hx1 R1 hR1
    obtain ⟨R, O⟩ := x1
    dsimp only at hx1 ⊢
    refine wseq ?_
    refine wseq ?_
    refine wreg fun K hK => ?_
    simp [C.spec_l2Divide, fS, hn, hgn]
    refine hK _ ?_; clear hK K
    show AWp _ _ _ _ _
    refine wcond _ rfl (fun hc2 => ?_) (fun hc2 => ?_)
    · obtain ⟨⟨a, c⟩, R', rfl⟩ : ∃ y R', R = y :: R' := by
        cases R with
        | nil => simp at hc2
        | cons y R' => exact ⟨y, R', rfl⟩
      have ha := hx1.dig (a, c) (by simp)
      have hc0 : -1000000000000000000 ≤ c ∧ c ≤ 1000000000000000000 := by
        have h1 := hx1.ra
        have h2 := hx1.ol
        simp only [absK, List.map_cons, List.sum_cons] at h1
        omega
      have q0 := gM_0 (l := (keyA 0 a, c) :: R'.map kc) (i := 0) (by simp)
      have q1 := gM_1 (l := (keyA 0 a, c) :: R'.map kc) (i := 0) (by simp)
      have p0 := gM_0 (l := g.ts.map kt) (i := 0) (by simpa using hG0)
      have p1 := gM_1 (l := g.ts.map kt) (i := 0) (by simpa using hG0)
      simp only [List.getElem_map, kt, hl1, hl2, List.getElem_cons_zero] at p0 p1 q0 q1
      refine wskip ?_
      show AWp _ _ _ _ _
      refine wblock ?_
      refine wseq ?_
      refine wseq ?_
      refine wdraw (.take 0 (.take 1 (.take 2 (.take 3 (.take 4 (.take 5 (.take 6 (.take 7 (.take 8 (.take 9 (.done))))))))))) ⟨by kernel_rfl, by kernel_rfl⟩ fun K hK => ?_
      simp [C.spec_l2Divide, fS, hn, hgn, q1, p1, kc, hG0, hgc.1]
      refine hK _ ?_; clear hK K
      show AWp _ _ _ _ _
      refine wcond _ rfl (fun hc3 => ?_) (fun hc3 => ?_)
      · have hcm : c.tmod (leadC g) ≠ 0 := by simpa using hc3
        have hfail := hx1.fail (.inl fun h => hcm h.1)
        refine wseq ?_
        refine wreg fun K hK => ?_
        simp [C.spec_l2Divide, fS, hn, hgn]
        refine hK _ ?_; clear hK K
        show AWp _ _ _ _ _
        refine wret ?_
        simp [C.spec_l2Divide, fS, hn, hgn, hfail, endF, zeroF, fO, rows]
      · have hcm : c.tmod (leadC g) = 0 := by simpa using hc3
        have hcq := tmod_tdiv hcm
        have hqb : -1000000000000000000 ≤ c.tdiv (leadC g) ∧ c.tdiv (leadC g) ≤ 1000000000000000000 := by
          have h1 : (c.tdiv (leadC g)).natAbs ≤ c.natAbs := by
            rw [Int.natAbs_tdiv]
            exact Nat.div_le_self _ _
          omega
        generalize hQ : c.tdiv (leadC g) = q at hcq hqb
        have hal : a.length = n := ha.1
        have had : Dig a := ha.2
        have hab := (hx1.rl (a, c) (by simp)).2
        dsimp only at hab
        obtain ⟨hgle1, hgle2⟩ := hgle
        have hEl : (addE (-1) a (leadE g)).length = n := by rw [addE_length _ _ _ (by omega)]; exact hal
        have hEg : ∀ (i : Nat) (h : i < n), (addE (-1) a (leadE g))[i]'(by omega) = a[i]'(by omega) - (leadE g)[i]'(by omega) := fun i h => by
          have := getD_addE (-1) i a (leadE g) (by omega)
          rw [getD_eq (by omega), getD_eq (by omega), getD_eq (by omega)] at this
          omega
        have hfailq : ¬ chkS f g n (addE (-1) a (leadE g)) q = true ∨ O.length = 600 → divL (chkS f g n) g 600 (f.ts.map pr) = none := fun h => hx1.fail (h.imp (fun h1 h2 => h1 (by rw [← hQ]; exact h2.2)) id)
        refine wskip ?_
        show AWp _ _ _ _ _
        refine wseq ?_
        refine wdraw (.take 0 (.take 1 (.take 2 (.take 3 (.take 4 (.take 5 (.take 6 (.take 7 (.take 8 (.take 9 (.all [(10, .all [(11, .done)])]))))))))))) ⟨by kernel_rfl, by kernel_rfl⟩ fun K hK => ?_
        simp [C.spec_l2Divide, fS, hn, hgn, q1, p1, kc, hG0, hgc.1, hQ, wrapOk (x := q) (by omega) (by omega)]
        refine hK _ ?_; clear hK K
        show AWp _ _ _ _ _
        refine wseq ?_
        refine wdrawI [(true, 0), (true, 1), (true, 2), (true, 3), (true, 4), (true, 5), (false, 6), (true, 7)] ⟨by kernel_rfl, by kernel_rfl⟩ ([0, 1, 2, 3, 4, 5, 6] ++ ([7])) rfl fun K hK => ?_
        refine opsI_seg fun L hL => ?_
        simp [C.spec_l2Divide, fS, hn, hgn, q0, kc, hal]
        refine wcall1 (spec_l2Exp_calls a had (by omega)) (by simp [fS, hn, hgn, q0, kc, hal]) (by simp) ?_
        simp [C.spec_l2Divide, fS, hn, hgn, q0, kc, hal]
        refine hL _ ?_; clear hL L
        refine opsI_end fun L hL => ?_
        simp [C.spec_l2Divide, fS, hn, hgn, q0, kc, hal]
        refine hL _ ?_; clear hL L
        simp [C.spec_l2Divide, fS, hn, hgn, q0, kc, hal]
        refine hK _ ?_; clear hK K
        show AWp _ _ _ _ _
        refine wseq ?_
        refine wreg fun K hK => ?_
        simp [C.spec_l2Divide, fS, hn, hgn]
        refine hK _ ?_; clear hK K
        show AWp _ _ _ _ _
        refine wseq ?_
        refine wseq ?_
        refine wreg fun K hK => ?_
        simp [C.spec_l2Divide, fS, hn, hgn]
        refine hK _ ?_; clear hK K
        show AWp _ _ _ _ _
        refine wblock ?_
        refine wloop (fun x : Nat => ⟨ofL [(2, .pt (2, 0) [] 0), (3, .pt (3, 0) [] 0), (4, .pt (4, 0) [] 0), (6, .int (keyA 0 (List.replicate n 0))), (7, .al (7, 0) [] 0 (R'.length + 1)), (8, .al (8, 0) [] 0 g.ts.length), (9, .al (9, 0) [] 0 O.length), (10, .al (10, 0) [] 0 n), (11, .al (11, 0) [] 0 n), (12, .al (12, 0) [] 0 n), (13, .al (13, 0) [] 0 n), (14, .pt (14, 0) [] 0), (15, .al (15, 0) [] 0 n), (16, .al (16, 0) [] 0 x), (17, .int x)], ofRO [((2, 0), some (.bx (fS f))), ((3, 0), some (.bx (fS g))), ((4, 0), some (.bx [D.int 0, .v (.slice none 0 0)])), ((7, 0), some (.ow 2 (R'.length + 1) (rows gM ((keyA 0 a, c) :: R'.map kc)))), ((8, 0), some (.ow 2 g.ts.length (rows gM (g.ts.map kt)))), ((9, 0), some (.ow 2 O.length (rows gM (O.map kc)))), ((10, 0), some (.ow 1 n (ints (lowL f.ts n)))), ((11, 0), some (.ow 1 n (ints (highL f.ts n)))), ((12, 0), some (.ow 1 n (ints (lowL g.ts n)))), ((13, 0), some (.ow 1 n (ints (highL g.ts n)))), ((14, 0), some (.bx [D.int 0, D.int q])), ((15, 0), some (.ow 1 n (ints a))), ((16, 0), some (.ow 1 x (ints ((addE (-1) a (leadE g)).take x))))]⟩) (fun x => x ≤ n ∧ ∀ i, i < x → (lowL f.ts n).getD i 0 - (lowL g.ts n).getD i 0 ≤ (addE (-1) a (leadE g)).getD i 0 ∧ (addE (-1) a (leadE g)).getD i 0 ≤ (highL f.ts n).getD i 0 - (highL g.ts n).getD i 0) (fun x => n - x) 0 (by simp [C.spec_l2Divide, fS, hn, hgn, kc, hal, ints]) (by simp) ?_
        intro x2 hx2 R2 hR2
        obtain ⟨hj1, hj2⟩ := hx2
        refine wseq ?_
        refine wseq ?_
        refine wreg fun K hK => ?_
        simp [C.spec_l2Divide, fS, hn, hgn]
        refine hK _ ?_; clear hK K
        show AWp _ _ _ _ _
        refine wcond _ rfl (fun hc4 => ?_) (fun hc4 => ?_)
        · have h4 : x2 < n := by have := d_t hc4; omega
          have e1 := hEg x2 h4
          have bd1 := hab _ (List.getElem_mem (show x2 < a.length by omega))
          have bd2 := hgle2 _ (List.getElem_mem (show x2 < (leadE g).length by omega))
          have bd3 := lowL_bd hf hn hfne h4
          have bd4 := lowL_bd hg hgn hgne h4
          rw [getD_eq (by simpa using h4), getD_eq (by simpa using h4)] at bd3 bd4
          have hsn : ints ((addE (-1) a (leadE g)).take x2) ++ [D.v (.int .i64 (a[x2] - (leadE g)[x2]))] = ints ((addE (-1) a (leadE g)).take (x2 + 1)) := by
            rw [List.take_succ_eq_append_getElem (by omega), e1]
            simp [ints]
          have hln : ((addE (-1) a (leadE g)).take (x2 + 1)).length = x2 + 1 := by simp; omega
          have hgt : ((addE (-1) a (leadE g)).take (x2 + 1))[x2]'(by omega) = a[x2] - (leadE g)[x2] := by rw [List.getElem_take]; exact e1
          refine wskip ?_
          show AWp _ _ _ _ _
          refine wseq ?_
          refine wblock ?_
          refine wseq ?_
          refine wdrawI [(true, 0), (true, 1), (true, 2), (true, 3), (true, 4), (true, 5), (true, 6), (true, 7), (true, 8), (true, 9), (true, 10), (true, 11), (true, 12), (true, 13), (false, 14), (false, 15), (true, 16)] ⟨by kernel_rfl, by kernel_rfl⟩ ([0, 1, 2, 3, 4, 5, 6, 7, 8, 9, 10, 11, 12, 13, 14, 15, 16]) rfl fun K hK => ?_
          refine opsI_end fun L hL => ?_
          simp [C.spec_l2Divide, fS, hn, hgn, h4, hal, hgle1, get_ints, hG0, tS_0 hG0, hl1, wrapOk (x := a[x2] - (leadE g)[x2]) (by omega) (by omega), hsn, show (x2 + 1) * 8 ≤ 140737488355328 by omega]
          refine hL _ ?_; clear hL L
          simp [C.spec_l2Divide, fS, hn, hgn, h4, hal, hgle1, get_ints, hG0, tS_0 hG0, hl1, wrapOk (x := a[x2] - (leadE g)[x2]) (by omega) (by omega), hsn, show (x2 + 1) * 8 ≤ 140737488355328 by omega]
          refine hK _ ?_; clear hK K
          show AWp _ _ _ _ _
          refine wseq ?_
          refine wdrawI [(true, 0), (true, 1), (true, 2), (true, 3), (true, 4), (true, 5), (true, 6), (true, 7), (true, 8), (true, 9), (true, 10), (true, 11), (true, 12), (true, 13), (true, 14), (true, 15), (true, 16), (true, 17), (true, 18), (true, 19), (true, 20), (true, 21), (false, 22), (true, 23)] ⟨by kernel_rfl, by kernel_rfl⟩ ([0, 1, 2, 3, 4, 5, 6, 7, 8, 9, 10, 11, 12, 13, 14, 15, 16, 17, 18, 19, 20, 21, 22] ++ ([23])) rfl fun K hK => ?_
          refine opsI_seg fun L hL => ?_
          simp [C.spec_l2Divide, fS, hn, hgn, show ((x2 : Int) < (x2 : Int) + 1) by omega, h4, get_ints, hln, hgt, wrapOk (x := (lowL f.ts n)[x2]'(by simpa using h4) - (lowL g.ts n)[x2]'(by simpa using h4)) (by omega) (by omega), wrapOk (x := (highL f.ts n)[x2]'(by simpa using h4) - (highL g.ts n)[x2]'(by simpa using h4)) (by omega) (by omega)]
          refine wcall1 (spec_l1In_calls (a[x2] - (leadE g)[x2]) ((lowL f.ts n)[x2]'(by simpa using h4) - (lowL g.ts n)[x2]'(by simpa using h4)) ((highL f.ts n)[x2]'(by simpa using h4) - (highL g.ts n)[x2]'(by simpa using h4))) (by simp) (by simp) ?_
          simp [C.spec_l2Divide, fS, hn, hgn, show ((x2 : Int) < (x2 : Int) + 1) by omega, h4, get_ints, hln, hgt, wrapOk (x := (lowL f.ts n)[x2]'(by simpa using h4) - (lowL g.ts n)[x2]'(by simpa using h4)) (by omega) (by omega), wrapOk (x := (highL f.ts n)[x2]'(by simpa using h4) - (highL g.ts n)[x2]'(by simpa using h4)) (by omega) (by omega)]
          refine hL _ ?_; clear hL L
          refine opsI_end fun L hL => ?_
          simp [C.spec_l2Divide, fS, hn, hgn, show ((x2 : Int) < (x2 : Int) + 1) by omega, h4, get_ints, hln, hgt, wrapOk (x := (lowL f.ts n)[x2]'(by simpa using h4) - (lowL g.ts n)[x2]'(by simpa using h4)) (by omega) (by omega), wrapOk (x := (highL f.ts n)[x2]'(by simpa using h4) - (highL g.ts n)[x2]'(by simpa using h4)) (by omega) (by omega)]
          refine hL _ ?_; clear hL L
          simp [C.spec_l2Divide, fS, hn, hgn, show ((x2 : Int) < (x2 : Int) + 1) by omega, h4, get_ints, hln, hgt, wrapOk (x := (lowL f.ts n)[x2]'(by simpa using h4) - (lowL g.ts n)[x2]'(by simpa using h4)) (by omega) (by omega), wrapOk (x := (highL f.ts n)[x2]'(by simpa using h4) - (highL g.ts n)[x2]'(by simpa using h4)) (by omega) (by omega)]
          refine hK _ ?_; clear hK K
          show AWp _ _ _ _ _
          refine wcond _ rfl (fun hc5 => ?_) (fun hc5 => ?_)
          · have hfail := hfailq (.inl fun h => by
              simp only [chkS, decide_eq_true_eq] at h
              have := h.1 x2 h4
              rw [getD_eq (by simpa using h4), getD_eq (by simpa using h4), getD_eq (by omega), getD_eq (by simpa using h4), getD_eq (by simpa using h4), e1] at this
              simp [this.1, this.2] at hc5)
            refine wseq ?_
            refine wreg fun K hK => ?_
            simp [C.spec_l2Divide, fS, hn, hgn]
            refine hK _ ?_; clear hK K
            show AWp _ _ _ _ _
            refine wret ?_
            simp [C.spec_l2Divide, fS, hn, hgn, hfail, endF, zeroF, fO, rows]
          · have hbx : ((lowL f.ts n)[x2]'(by simpa using h4) - (lowL g.ts n)[x2]'(by simpa using h4) ≤ a[x2] - (leadE g)[x2]) ∧ (a[x2] - (leadE g)[x2] ≤ (highL f.ts n)[x2]'(by simpa using h4) - (highL g.ts n)[x2]'(by simpa using h4)) := by simpa using hc5
            refine wskip ?_
            show AWp _ _ _ _ _
            refine wreg fun K hK => ?_
            simp [C.spec_l2Divide, fS, hn, hgn, wrap_succ (show x2 < 4611686018427387904 by omega)]
            refine hK _ ?_; clear hK K
            simp [C.spec_l2Divide, fS, hn, hgn]
            refine cast (congrArg R2 ?_) (hR2 (x2 + 1) ⟨h4, fun i hi => ?_⟩ (by omega))
            · simp [fS, hn, hgn]
            · rcases Nat.lt_succ_iff_lt_or_eq.1 hi with h | rfl
              · exact hj2 i h
              · rw [getD_eq (by simpa using h4), getD_eq (by simpa using h4), getD_eq (by omega), getD_eq (by simpa using h4), getD_eq (by simpa using h4), e1]
                exact hbx
        · have h4 : x2 = n := by have := d_f hc4; omega
          have hbox : inBox f g n (addE (-1) a (leadE g)) := fun i hi => hj2 i (by omega)
          have hb40 := inBox_bd hf hg hn hgn hfne hgne hEl hbox
          have htk : (addE (-1) a (leadE g)).take n = addE (-1) a (leadE g) := List.take_of_length_le (by omega)
          refine wexit ?_
          show AWp _ _ _ _ _
          refine wseq ?_
          refine wregI ([0, 1] ++ ([2, 3])) rfl fun K hK => ?_
          refine opsI_seg fun L hL => ?_
          simp [C.spec_l2Divide, fS, hn, hgn, htk, h4, hEl]
          refine wcall1 (spec_l2Key_calls (addE (-1) a (leadE g)) (fun z hz => by have := hb40 z hz; omega) (by omega)) (by simp [fS, hn, hgn, htk, h4, hEl]) (by simp) ?_
          simp [C.spec_l2Divide, fS, hn, hgn, htk, h4, hEl]
          refine hL _ ?_; clear hL L
          refine opsI_end fun L hL => ?_
          simp [C.spec_l2Divide, fS, hn, hgn, htk, h4, hEl]
          refine hL _ ?_; clear hL L
          simp [C.spec_l2Divide, fS, hn, hgn, htk, h4, hEl]
          refine hK _ ?_; clear hK K
          show AWp _ _ _ _ _
          refine wseq ?_
          refine wseq ?_
          refine wregI ([0, 1, 2] ++ ([3, 4, 5, 6, 7, 8])) rfl fun K hK => ?_
          have hJ : K ⟨ofL [(2, .pt (2, 0) [] 0), (3, .pt (3, 0) [] 0), (4, .pt (4, 0) [] 0), (6, .int (keyA 0 (List.replicate n 0))), (7, .al (7, 0) [] 0 (R'.length + 1)), (8, .al (8, 0) [] 0 g.ts.length), (9, .al (9, 0) [] 0 O.length), (10, .al (10, 0) [] 0 n), (11, .al (11, 0) [] 0 n), (12, .al (12, 0) [] 0 n), (13, .al (13, 0) [] 0 n), (14, .pt (14, 0) [] 0), (133, .bool (!decide ((-1000000 ≤ q ∧ q ≤ 1000000) ∧ ¬ O.length = 600)))], ofRO [((2, 0), some (.bx (fS f))), ((3, 0), some (.bx (fS g))), ((4, 0), some (.bx [D.int 0, .v (.slice none 0 0)])), ((7, 0), some (.ow 2 (R'.length + 1) (rows gM ((keyA 0 a, c) :: R'.map kc)))), ((8, 0), some (.ow 2 g.ts.length (rows gM (g.ts.map kt)))), ((9, 0), some (.ow 2 O.length (rows gM (O.map kc)))), ((10, 0), some (.ow 1 n (ints (lowL f.ts n)))), ((11, 0), some (.ow 1 n (ints (highL f.ts n)))), ((12, 0), some (.ow 1 n (ints (lowL g.ts n)))), ((13, 0), some (.ow 1 n (ints (highL g.ts n)))), ((14, 0), some (.bx [D.int (keyA 0 (addE (-1) a (leadE g))), D.int q]))]⟩ := by
            refine hK _ ?_; clear hK K
            show AWp _ _ _ _ _
            refine wcond _ rfl (fun hc6 => ?_) (fun hc6 => ?_)
            · have hr := nd_t hc6
              have hfail := hfailq (by
                rcases Classical.em (O.length = 600) with h | h
                · exact .inr h
                · refine .inl fun h2 => hr ⟨?_, h⟩
                  simp only [chkS, decide_eq_true_eq] at h2
                  exact h2.2)
              refine wseq ?_
              refine wreg fun K hK => ?_
              simp [C.spec_l2Divide, fS, hn, hgn]
              refine hK _ ?_; clear hK K
              show AWp _ _ _ _ _
              refine wret ?_
              simp [C.spec_l2Divide, fS, hn, hgn, hfail, endF, zeroF, fO, rows]
            · obtain ⟨hq6, hO6⟩ := nd_f hc6
              have hE0 := keyA_key (a := addE (-1) a (leadE g)) (fun z hz => by have := hb40 z hz; omega) (by omega)
              have hB0 := keyA_key (a := List.replicate n 0) (fun z hz => by have := List.eq_of_mem_replicate hz; omega) (by simpa using hv)
              have hP := prodM_one (keyA 0 (List.replicate n 0)) (keyA 0 (addE (-1) a (leadE g))) q (g.ts.map kt)
              have hPn := nf_abs (lt := ilt) (prodM (keyA 0 (List.replicate n 0)) [(keyA 0 (addE (-1) a (leadE g)), q)] (g.ts.map kt))
              have hgA := right_absK hg
              have htm := spec_l2Times_calls [(keyA 0 (addE (-1) a (leadE g)), q)] (g.ts.map kt) (keyA 0 (List.replicate n 0)) hB0 (fun y hy => by simp only [List.mem_singleton] at hy; subst hy; exact ⟨hE0, hq6⟩) (right_mon hg hgn) (by simp) (by simpa using hgl)
              rw [kt_abs, List.length_map] at hP
              simp only [List.length_cons, List.length_nil, List.length_map, rows, gM, List.append_nil, List.nil_append, Nat.zero_add] at htm
              have hOl := hx1.ol
              have hRn := hx1.rn
              have hRa := hx1.ra
              have hstep := hx1.step hg hgn hcm (by rw [hQ]; simp only [chkS, decide_eq_true_eq]; exact ⟨hbox, hq6⟩) (by omega) hEl hb40 (by rw [hQ]; exact hq6)
              have hcoded := step_coded hg hgn hx1.dig hEl hb40
              rw [hQ] at hstep hcoded
              simp only [List.map_cons, kc] at hcoded
              have hsnO : rows gM (O.map kc) ++ [D.v (.int .i64 (keyA 0 (addE (-1) a (leadE g)))), D.v (.int .i64 q)] = rows gM ((O ++ [(addE (-1) a (leadE g), q)]).map kc) := by
                rw [gM_snoc]
                simp [kc]
              have hqA : q.natAbs * absK (g.ts.map pr) ≤ 1000000 * 600000000 := Nat.mul_le_mul (by omega) hgA
              have hplus := spec_l2Plus_calls ((keyA 0 a, c) :: R'.map kc) (nf ilt (prodM (keyA 0 (List.replicate n 0)) [(keyA 0 (addE (-1) a (leadE g)), q)] (g.ts.map kt))) (-1) (by
                simp only [List.length_cons, List.length_map] at hRn ⊢
                omega) (by
                have e1 : absL ((keyA 0 a, c) :: R'.map kc) = absK ((a, c) :: R') := kc_abs ((a, c) :: R')
                have e2 : absL (nf ilt (prodM (keyA 0 (List.replicate n 0)) [(keyA 0 (addE (-1) a (leadE g)), q)] (g.ts.map kt))) ≤ absL (prodM (keyA 0 (List.replicate n 0)) [(keyA 0 (addE (-1) a (leadE g)), q)] (g.ts.map kt)) := hPn.1
                rw [e1]
                simp only [Int.natAbs_neg, Int.natAbs_one, Nat.one_mul]
                omega)
              rw [show scM (-1) = fun y : Int × Int => (y.1, -1 * y.2) from rfl, hcoded] at hplus
              simp only [List.length_cons, List.length_map] at hplus
              refine wskip ?_
              show AWp _ _ _ _ _
              refine wseq ?_
              refine wreg fun K hK => ?_
              simp [C.spec_l2Divide, fS, hn, hgn, hsnO, show (O.length + 1) * 16 ≤ 140737488355328 by omega]
              refine hK _ ?_; clear hK K
              show AWp _ _ _ _ _
              refine wregI ([0, 1, 2, 3, 4, 5] ++ ([6] ++ ([7]))) rfl fun K hK => ?_
              refine opsI_seg fun L hL => ?_
              simp [C.spec_l2Divide, fS, hn, hgn]
              refine wcall1 (htm) (by simp) (by simp) ?_
              simp [C.spec_l2Divide, fS, hn, hgn]
              refine hL _ ?_; clear hL L
              refine opsI_seg fun L hL => ?_
              simp [C.spec_l2Divide, fS, hn, hgn]
              refine wcall1 (hplus) (by simp) (by simp) ?_
              simp [C.spec_l2Divide, fS, hn, hgn]
              refine hL _ ?_; clear hL L
              refine opsI_end fun L hL => ?_
              simp [C.spec_l2Divide, fS, hn, hgn]
              refine hL _ ?_; clear hL L
              simp [C.spec_l2Divide, fS, hn, hgn]
              refine hK _ ?_; clear hK K
              simp [C.spec_l2Divide, fS, hn, hgn]
              refine cast (congrArg R1 ?_) (hR1 (nf lexlt (stepL g (a, c) R'), O ++ [(addE (-1) a (leadE g), q)]) hstep (by simp; omega))
              simp [fS, hn, hgn]
          clear hK
          by_cases hqq : -1000000 ≤ q ∧ q ≤ 1000000
          · refine opsI_seg fun L hL => ?_
            simp [C.spec_l2Divide, fS, hn, hgn, hqq]
            refine wcall1 (spec_l1In_calls q (-1000000) 1000000) (by simp) (by simp) ?_
            simp [C.spec_l2Divide, fS, hn, hgn, hqq]
            refine hL _ ?_; clear hL L
            refine opsI_end fun L hL => ?_
            simp [C.spec_l2Divide, fS, hn, hgn, hqq]
            refine hL _ ?_; clear hL L
            simp [C.spec_l2Divide, fS, hn, hgn, hqq]
            refine cast (congrArg K ?_) hJ
            simp [ieq600, fS, hn, hgn, hqq]
          · refine opsI_seg fun L hL => ?_
            simp [C.spec_l2Divide, fS, hn, hgn, hqq]
            refine wcall1 (spec_l1In_calls q (-1000000) 1000000) (by simp) (by simp) ?_
            simp [C.spec_l2Divide, fS, hn, hgn, hqq]
            refine hL _ ?_; clear hL L
            refine opsI_end fun L hL => ?_
            simp [C.spec_l2Divide, fS, hn, hgn, hqq]
            refine hL _ ?_; clear hL L
            simp [C.spec_l2Divide, fS, hn, hgn, hqq]
            refine cast (congrArg K ?_) hJ
            simp [ieq600, fS, hn, hgn, hqq]
    · have hR0 : R = [] := by
        cases R with
        | nil => rfl
        | cons y R' => simp at hc2
      subst hR0
      have hdone := hx1.done
      have hOl := hx1.ol
      refine wexit ?_
      show AWp _ _ _ _ _
      refine wseq ?_
      refine wregI ([0, 1, 2, 3] ++ ([4, 5, 6, 7])) rfl fun K hK => ?_
      refine opsI_seg fun L hL => ?_
      simp [C.spec_l2Divide, fS, hn, hgn]
      refine wcall1 (shut_coded O n (by omega) (fun x hx => ⟨fun z hz => by have := (hx1.od x hx).2 z hz; omega, (hx1.od x hx).1⟩) hv) (by simp) (by simp) ?_
      simp [C.spec_l2Divide, fS, hn, hgn]
      refine hL _ ?_; clear hL L
      refine opsI_end fun L hL => ?_
      simp [C.spec_l2Divide, fS, hn, hgn]
      refine hL _ ?_; clear hL L
      simp [C.spec_l2Divide, fS, hn, hgn]
      refine hK _ ?_; clear hK K
      show AWp _ _ _ _ _
      refine wret ?_
      simp [C.spec_l2Divide, fS, hn, hgn, hdone, fO]

end Go.Proofs.Ytdgeponcnlkaiaa.Ab
namespace Go.Proofs.Ytdgeponcnlkaiaa.Ab
open Go
set_option linter.unusedSimpArgs false
set_option linter.unusedVariables false
set_option maxRecDepth 10000
set_option maxHeartbeats 2000000
def qc (t : Qtm) : List Int × Int := (t.e, t.c)
def qm (t : Qtm) : Int × Int := (keyA 0 t.e, t.c)
noncomputable def clsF (f : Qsm) : Lau × Bool := if QRight f then shutF f.v (f.ts.map qc) else (zeroF, false)
theorem qright_dig {f : Qsm} (h : QRight f) {n : Nat} (hn : f.v = n) : ∀ t ∈ f.ts, t.e.length = n ∧ Dig t.e ∧ (∀ x ∈ t.e, -20 ≤ x ∧ x ≤ 20) ∧ (-1000000 ≤ t.c ∧ t.c ≤ 1000000) := fun t ht => by
  obtain ⟨h1, _, h2, _, h3⟩ := h.2.2.1 t ht
  exact ⟨by omega, fun x hx => by have := h3 x hx; omega, h3, h2⟩
theorem qc_exps {f : Qsm} (h : QRight f) {n : Nat} (hn : f.v = n) : Exps n (f.ts.map qc) := fun x hx => by
  obtain ⟨t, ht, rfl⟩ := List.mem_map.1 hx
  have := qright_dig h hn t ht
  exact ⟨this.1, this.2.1⟩
theorem qm_kc (ts : List Qtm) : ts.map qm = (ts.map qc).map kc := by
  rw [List.map_map]
  rfl
theorem qm_abs {ts : List Qtm} (h : ∀ t ∈ ts, -1000000 ≤ t.c ∧ t.c ≤ 1000000) : absL (ts.map qm) ≤ ts.length * 1000000 := by
  induction ts with
  | nil => simp [absL]
  | cons x ts ih =>
    have h1 := h x (by simp)
    have h2 := ih fun t ht => h t (by simp [ht])
    have h3 : x.c.natAbs ≤ 1000000 := by omega
    simp only [absL, List.map_cons, List.sum_cons, List.length_cons, qm] at h2 ⊢
    omega
theorem spec_ClassicalOf_calls (f : Qsm) (hx : f.ts.length < 4611686018427387904) (hxe : ∀ t ∈ f.ts, t.e.length < 4611686018427387904) : ACalls Try.prog F.spec_ClassicalOf [aQ f] [] true (fun outs res => outs = [] ∧ WkRs res [.ag (fO (clsF f).1), .one (D.bool (clsF f).2)]) := by
  refine ACalls.of_body (C := C.spec_ClassicalOf) (n := Try.f68.ntmps) tabT folT Try.func68 rfl (by kernel_rfl) rfl (Nat.le_of_ble_eq_true rfl) (by decide) (by kernel_rfl) (by kernel_rfl) rfl (by simp) (by simp) ?_
  simp only [Try.f68]
  refine wseq ?_
  refine wreg fun K hK => ?_
  simp [C.spec_ClassicalOf, qS]
  refine hK _ ?_; clear hK K
  show AWp _ _ _ _ _
  refine wseq ?_
  refine wseq ?_
  refine wregI ([0, 1] ++ ([2])) rfl fun K hK => ?_
  refine opsI_seg fun L hL => ?_
  simp [C.spec_ClassicalOf, qS]
  refine wcall1 (spec_QSumOk_calls f hx hxe) (by simp) (by simp) ?_
  simp [C.spec_ClassicalOf, qS]
  refine hL _ ?_; clear hL L
  refine opsI_end fun L hL => ?_
  simp [C.spec_ClassicalOf, qS]
  refine hL _ ?_; clear hL L
  simp [C.spec_ClassicalOf, qS]
  refine hK _ ?_; clear hK K
  show AWp _ _ _ _ _
  refine wcond _ rfl (fun hc1 => ?_) (fun hc1 => ?_)
  · have hr := nd_t hc1
    have hm : clsF f = (zeroF, false) := if_neg hr
    refine wseq ?_
    refine wreg fun K hK => ?_
    simp [C.spec_ClassicalOf, qS]
    refine hK _ ?_; clear hK K
    show AWp _ _ _ _ _
    refine wret ?_
    simp [C.spec_ClassicalOf, qS, hm, fO, zeroF, rows]
  · have hr := nd_f hc1
    have hv := hr.1
    obtain ⟨n, hn⟩ : ∃ n : Nat, f.v = n := ⟨f.v.toNat, by omega⟩
    have hn8 : n ≤ 8 := by omega
    have hfl := hr.2.1
    have hD := qright_dig hr hn
    have hnf : nf ilt (f.ts.map qm) = (nf lexlt (f.ts.map qc)).map kc := by rw [qm_kc, nf_key _ (qc_exps hr hn)]
    have hnl := nf_len (lt := lexlt) (f.ts.map qc)
    rw [List.length_map] at hnl
    refine wskip ?_
    show AWp _ _ _ _ _
    refine wseq ?_
    refine wreg fun K hK => ?_
    simp [C.spec_ClassicalOf, qS]
    refine hK _ ?_; clear hK K
    show AWp _ _ _ _ _
    refine wseq ?_
    refine wseq ?_
    refine wreg fun K hK => ?_
    simp [C.spec_ClassicalOf, qS]
    refine hK _ ?_; clear hK K
    show AWp _ _ _ _ _
    refine wblock ?_
    refine wloop (fun x : Nat × List (Int × Int) => ⟨ofL [(1, .pt (1, 0) [] 0), (2, .pt (2, 0) [] 0), (4, .al (4, 0) [] 0 x.1), (5, .int x.1)], ofRO [((1, 0), some (.bx (qS f))), ((2, 0), some (.bx [D.int 0, .v (.slice none 0 0)])), ((4, 0), some (.ow 2 x.1 (rows gM x.2)))]⟩) (fun x => x.1 ≤ f.ts.length ∧ x.2 = (f.ts.take x.1).map qm) (fun x => f.ts.length - x.1) (0, []) (by simp [C.spec_ClassicalOf, qS, rows]) (by simp) ?_
    intro x1 hx1 R1 hR1
    obtain ⟨j, gs⟩ := x1
    obtain ⟨hj, hg⟩ := hx1
    dsimp only at hj hg ⊢
    refine wseq ?_
    refine wseq ?_
    refine wreg fun K hK => ?_
    simp [C.spec_ClassicalOf, qS]
    refine hK _ ?_; clear hK K
    show AWp _ _ _ _ _
    refine wcond _ rfl (fun hc2 => ?_) (fun hc2 => ?_)
    · have h1 : j < f.ts.length := by have := d_t hc2; omega
      have hgl : gs.length = j := by rw [hg]; simp; omega
      have hd1 := hD _ (List.getElem_mem h1)
      refine wskip ?_
      show AWp _ _ _ _ _
      refine wseq ?_
      refine wblock ?_
      refine wdrawI [(true, 0), (true, 1), (true, 2), (true, 3), (true, 4), (true, 5), (true, 6), (true, 8), (true, 9), (true, 10), (true, 11), (true, 12), (true, 13), (false, 7), (true, 14), (false, 15), (false, 16), (true, 17)] ⟨by kernel_rfl, by kernel_rfl⟩ ([0, 1, 2, 3, 4, 5, 6, 8, 9, 10, 11, 12, 13, 7] ++ ([14, 15, 16, 17])) rfl fun K hK => ?_
      refine opsI_seg fun L hL => ?_
      simp [C.spec_ClassicalOf, qS, h1, qtS_0 h1, qtS_1 h1, qtS_2 h1, gM_snoc, show (j + 1) * 16 ≤ 140737488355328 by omega]
      refine wcall1 (spec_l2Key_calls f.ts[j].e hd1.2.1 (by omega)) (by simp) (by simp) ?_
      simp [C.spec_ClassicalOf, qS, h1, qtS_0 h1, qtS_1 h1, qtS_2 h1, gM_snoc, show (j + 1) * 16 ≤ 140737488355328 by omega]
      refine hL _ ?_; clear hL L
      refine opsI_end fun L hL => ?_
      simp [C.spec_ClassicalOf, qS, h1, qtS_0 h1, qtS_1 h1, qtS_2 h1, gM_snoc, show (j + 1) * 16 ≤ 140737488355328 by omega]
      refine hL _ ?_; clear hL L
      simp [C.spec_ClassicalOf, qS, h1, qtS_0 h1, qtS_1 h1, qtS_2 h1, gM_snoc, show (j + 1) * 16 ≤ 140737488355328 by omega]
      refine hK _ ?_; clear hK K
      show AWp _ _ _ _ _
      refine wreg fun K hK => ?_
      simp [C.spec_ClassicalOf, qS, wrap_succ (show j < 4611686018427387904 by omega)]
      refine hK _ ?_; clear hK K
      simp [C.spec_ClassicalOf, qS]
      refine hR1 (j + 1, _) ⟨h1, ?_⟩ (by dsimp only; omega)
      dsimp only
      rw [hg, List.take_succ_eq_append_getElem h1, List.map_append]
      rfl
    · have h1 : j = f.ts.length := by have := d_f hc2; omega
      have hg2 : gs = f.ts.map qm := by rw [hg, h1, List.take_length]
      subst hg2
      subst h1
      have hG := spec_l2Gather_calls (f.ts.map qm) (by simp; omega) (by have := qm_abs (ts := f.ts) (fun t ht => (hD t ht).2.2.2); omega)
      rw [hnf] at hG
      simp only [List.length_map] at hG
      have hS := shut_coded (nf lexlt (f.ts.map qc)) n (by omega) (fun x hx => by have := nf_exps (qc_exps hr hn) x hx; exact ⟨this.2, this.1⟩) hn8
      refine wexit ?_
      show AWp _ _ _ _ _
      refine wseq ?_
      refine wdrawI [(true, 0), (true, 2), (true, 3), (false, 1), (false, 4), (true, 5), (true, 6), (false, 7), (true, 8)] ⟨by kernel_rfl, by kernel_rfl⟩ ([0, 2, 3, 1] ++ ([4] ++ ([5, 6, 7, 8]))) rfl fun K hK => ?_
      refine opsI_seg fun L hL => ?_
      simp [C.spec_ClassicalOf, qS, hn]
      refine wcall1 (hG) (by simp) (by simp) ?_
      simp [C.spec_ClassicalOf, qS, hn]
      refine hL _ ?_; clear hL L
      refine opsI_seg fun L hL => ?_
      simp [C.spec_ClassicalOf, qS, hn]
      refine wcall1 (hS) (by simp) (by simp) ?_
      simp [C.spec_ClassicalOf, qS, hn]
      refine hL _ ?_; clear hL L
      refine opsI_end fun L hL => ?_
      simp [C.spec_ClassicalOf, qS, hn]
      refine hL _ ?_; clear hL L
      simp [C.spec_ClassicalOf, qS, hn]
      refine hK _ ?_; clear hK K
      show AWp _ _ _ _ _
      refine wret ?_
      have hm : clsF f = endF n (some (nf lexlt (f.ts.map qc))) := by
        unfold clsF
        rw [if_pos hr, hn]
        rfl
      simp [C.spec_ClassicalOf, qS, hm, fO]
theorem sCls_calls (f : Qsm) (hx : f.ts.length < 4611686018427387904) (hxe : ∀ t ∈ f.ts, t.e.length < 4611686018427387904) : ACalls Try.prog F.spec_ClassicalOf [aQ f] [] true (fun outs res => outs = [] ∧ res = [.ag (fO (clsF f).1), .one (D.bool (clsF f).2)]) := (spec_ClassicalOf_calls f hx hxe).weak1

theorem impl_ClassicalOf_calls (hDone : DoneOk) (f : Qsm) (hx : f.ts.length < 4611686018427387904) (hxe : ∀ t ∈ f.ts, t.e.length < 4611686018427387904) : ACalls Try.prog F.impl_ClassicalOf [aQ f] [] true (fun outs res => outs = [] ∧ WkRs res [.ag (fO (clsF f).1), .one (D.bool (clsF f).2)]) := by
  refine ACalls.of_body (C := C.impl_ClassicalOf) (n := Try.f66.ntmps) tabT folT Try.func66 rfl (by kernel_rfl) rfl (Nat.le_of_ble_eq_true rfl) (by decide) (by kernel_rfl) (by kernel_rfl) rfl (by simp) (by simp) ?_
  simp only [Try.f66]
  refine wseq ?_
  refine wreg fun K hK => ?_
  simp [C.impl_ClassicalOf, qS]
  refine hK _ ?_; clear hK K
  show AWp _ _ _ _ _
  refine wseq ?_
  refine wseq ?_
  refine wregI ([0, 1] ++ ([2])) rfl fun K hK => ?_
  refine opsI_seg fun L hL => ?_
  simp [C.impl_ClassicalOf, qS]
  refine wcall1 (impl_QSumOk_calls f hx hxe) (by simp) (by simp) ?_
  simp [C.impl_ClassicalOf, qS]
  refine hL _ ?_; clear hL L
  refine opsI_end fun L hL => ?_
  simp [C.impl_ClassicalOf, qS]
  refine hL _ ?_; clear hL L
  simp [C.impl_ClassicalOf, qS]
  refine hK _ ?_; clear hK K
  show AWp _ _ _ _ _
  refine wcond _ rfl (fun hc1 => ?_) (fun hc1 => ?_)
  · have hr := nd_t hc1
    have hm : clsF f = (zeroF, false) := if_neg hr
    refine wseq ?_
    refine wreg fun K hK => ?_
    simp [C.impl_ClassicalOf, qS]
    refine hK _ ?_; clear hK K
    show AWp _ _ _ _ _
    refine wret ?_
    simp [C.impl_ClassicalOf, qS, hm, fO, zeroF, rows]
  · have hr := nd_f hc1
    have hv := hr.1
    obtain ⟨n, hn⟩ : ∃ n : Nat, f.v = n := ⟨f.v.toNat, by omega⟩
    have hn8 : n ≤ 8 := by omega
    have hfl := hr.2.1
    have hD := qright_dig hr hn
    have hm : clsF f = shutF n (f.ts.map qc) := by
      unfold clsF
      rw [if_pos hr, hn]
    refine wskip ?_
    show AWp _ _ _ _ _
    refine wseq ?_
    refine wregI ([0, 1, 2] ++ ([3])) rfl fun K hK => ?_
    refine opsI_seg fun L hL => ?_
    simp [C.impl_ClassicalOf, qS, hn]
    refine wcall1 (impl_newBuilding_calls n) (by simp) (by simp) ?_
    simp [C.impl_ClassicalOf, qS, hn]
    refine hL _ ?_; clear hL L
    refine opsI_end fun L hL => ?_
    simp [C.impl_ClassicalOf, qS, hn]
    refine hL _ ?_; clear hL L
    simp [C.impl_ClassicalOf, qS, hn]
    refine hK _ ?_; clear hK K
    show AWp _ _ _ _ _
    refine wseq ?_
    refine wseq ?_
    refine wreg fun K hK => ?_
    simp [C.impl_ClassicalOf, qS]
    refine hK _ ?_; clear hK K
    show AWp _ _ _ _ _
    refine wblock ?_
    refine wloop (fun x : Nat × List (List Int × Int) × List (List Int × Int) => ⟨ofL [(2, .pt (2, 0) [] 0), (4, .pt (4, 0) [] 0), (15, .d (.sh 3 f.ts.length (rows qtS f.ts))), (16, .int f.ts.length), (17, .int x.1)], ofRO [((2, 0), some (.bx [D.int 0, .v (.slice none 0 0)])), ((4, 0), some (.bx [D.int n, .mp x.2.1]))]⟩) (fun x => x.1 ≤ f.ts.length ∧ MapR n x.2.1 x.2.2 ∧ x.2.2.Perm ((f.ts.take x.1).map qc) ∧ absE x.2.2 ≤ x.1 * 1000000) (fun x => f.ts.length - x.1) (0, [], []) (by simp [C.impl_ClassicalOf, qS]) ⟨by simp, MapR.nil n, by simp, by simp [absE]⟩ ?_
    intro x1 hx1 R1 hR1
    obtain ⟨j, es, l⟩ := x1
    obtain ⟨hj, hM, hP, hA⟩ := hx1
    dsimp only at hj hM hP hA ⊢
    refine wseq ?_
    refine wreg fun K hK => ?_
    simp [C.impl_ClassicalOf, qS]
    refine hK _ ?_; clear hK K
    show AWp _ _ _ _ _
    refine wseq ?_
    refine wcond _ rfl (fun hc2 => ?_) (fun hc2 => ?_)
    · have h1 : j < f.ts.length := by have := d_t hc2; omega
      have hT := hD _ (List.getElem_mem h1)
      refine wskip ?_
      show AWp _ _ _ _ _
      refine wseq ?_
      refine wblock ?_
      refine wseq ?_
      refine wreg fun K hK => ?_
      simp [C.impl_ClassicalOf, qS, h1, qtS_0 h1, qtS_1 h1, qtS_2 h1]
      refine hK _ ?_; clear hK K
      show AWp _ _ _ _ _
      obtain ⟨a0, a1, a2, a3, a4, a5, a6, a7, hpa⟩ := eight (pad_length (e := f.ts[j].e) (by omega))
      have hval := hM.val _ hT.1
      have hco := co_abs f.ts[j].e l
      refine wdrawI [(true, 0), (true, 1), (true, 2), (true, 4), (true, 5), (false, 3), (false, 6)] ⟨by kernel_rfl, by kernel_rfl⟩ ([0, 1, 2, 4, 5, 3] ++ ([6] ++ ([]))) rfl fun K hK => ?_
      refine opsI_seg fun L hL => ?_
      simp [C.impl_ClassicalOf, qS, qtS]
      refine wcall1 (impl_keyOf_calls f.ts[j].e (by omega) a0 a1 a2 a3 a4 a5 a6 a7 hpa) (by simp) (by simp) ?_
      simp [C.impl_ClassicalOf, qS, qtS]
      refine hL _ ?_; clear hL L
      refine opsI_seg fun L hL => ?_
      simp [C.impl_ClassicalOf, qS, qtS]
      refine wcall1 (impl_building_add_calls n f.ts[j].c es a0 a1 a2 a3 a4 a5 a6 a7 (hM.len8 hn8) (by rw [← hpa, hval]; have := hT.2.2.2; omega)) (by simp) (by simp) ?_
      simp [C.impl_ClassicalOf, qS, qtS]
      refine hL _ ?_; clear hL L
      refine opsI_end fun L hL => ?_
      simp only [AOpsI]
      refine hL _ ?_; clear hL L
      simp [C.impl_ClassicalOf, qS, qtS]
      rw [← hpa]
      refine hK _ ?_; clear hK K
      show AWp _ _ _ _ _
      refine wreg fun K hK => ?_
      simp [C.impl_ClassicalOf, qS, wrap_succ (show j < 4611686018427387904 by omega)]
      refine hK _ ?_; clear hK K
      simp [C.impl_ClassicalOf, qS]
      refine hR1 (j + 1, _, (f.ts[j].e, f.ts[j].c) :: l) ⟨h1, hM.add hT.1 _, ?_, ?_⟩ (by dsimp only; omega)
      · dsimp only
        rw [List.take_succ_eq_append_getElem h1, List.map_append]
        refine (List.Perm.cons _ hP).trans ?_
        exact (List.perm_append_singleton _ _).symm
      · have := hT.2.2.2
        have h3 : f.ts[j].c.natAbs ≤ 1000000 := by omega
        simp only [absE, List.map_cons, List.sum_cons] at hA ⊢
        omega
    · have h1 : j = f.ts.length := by have := d_f hc2; omega
      have hall : l.Perm (f.ts.map qc) := by
        rw [h1, List.take_length] at hP
        exact hP
      have hlen : ∀ x ∈ l, x.1.length = n := fun x hx => by
        have := hall.subset hx
        obtain ⟨t, ht, rfl⟩ := List.mem_map.1 this
        exact (hD t ht).1
      have hll : l.length ≤ 1000000 := by rw [hall.length_eq, List.length_map]; omega
      have hs := shutF_perm hall n
      refine wexit ?_
      show AWp _ _ _ _ _
      refine wseq ?_
      refine wregI ([0, 1] ++ ([2, 3, 4, 5])) rfl fun K hK => ?_
      refine opsI_seg fun L hL => ?_
      simp [C.impl_ClassicalOf, qS, fO]
      refine wcall1 (hDone n es l hM hlen (by omega) hn8 hll) (by simp) (by simp) ?_
      simp [C.impl_ClassicalOf, qS, fO]
      refine hL _ ?_; clear hL L
      refine opsI_end fun L hL => ?_
      simp [C.impl_ClassicalOf, qS, fO]
      refine hL _ ?_; clear hL L
      simp [C.impl_ClassicalOf, qS, fO]
      refine hK _ ?_; clear hK K
      show AWp _ _ _ _ _
      refine wret ?_
      simp [C.impl_ClassicalOf, qS, hm, ← hs, fO]
theorem iCls_calls (hDone : DoneOk) (f : Qsm) (hx : f.ts.length < 4611686018427387904) (hxe : ∀ t ∈ f.ts, t.e.length < 4611686018427387904) : ACalls Try.prog F.impl_ClassicalOf [aQ f] [] true (fun outs res => outs = [] ∧ res = [.ag (fO (clsF f).1), .one (D.bool (clsF f).2)]) := (impl_ClassicalOf_calls hDone f hx hxe).weak1
theorem clsF_small (f : Qsm) : SmallF (clsF f).1 := by
  have hz : SmallF zeroF := ⟨by simp [zeroF], by simp [zeroF], by simp [zeroF, cntL]⟩
  unfold clsF
  split
  · rcases shutF_right f.v (f.ts.map qc) with q | q
    · exact small_right q
    · rw [q]
      exact hz
  · exact hz

end Go.Proofs.Ytdgeponcnlkaiaa.Ab
namespace Go.Proofs.Ytdgeponcnlkaiaa.Ab
open Go
set_option linter.unusedSimpArgs false
set_option linter.unusedVariables false
set_option maxRecDepth 10000
set_option maxHeartbeats 2000000
theorem laws_FnExactClassicalOf_calls (hDone : DoneOk) (f : Qsm) (f1 : f.ts.length < 4611686018427387904) (f2 : ∀ t ∈ f.ts, t.e.length < 4611686018427387904) : ACalls Try.prog F.laws_FnExactClassicalOf [aQ f] [] true (fun outs res => outs = [] ∧ res = [.one (D.bool true)]) := by
  have hgs := clsF_small f
  have hw := sCls_calls f f1 f2
  have hg := iCls_calls hDone f f1 f2
  generalize clsF f = g at hgs hw hg
  obtain ⟨g, b⟩ := g
  obtain ⟨hg1, hg2, hg3⟩ := hgs
  dsimp only at hg1 hg2 hg3
  dsimp only at hw hg
  refine ACalls.of_body (C := C.laws_FnExactClassicalOf) (n := Try.f12.ntmps) tabT folT Try.func12 rfl (by kernel_rfl) rfl (Nat.le_of_ble_eq_true rfl) (by decide) (by kernel_rfl) (by kernel_rfl) rfl (by simp) (by simp) ?_
  simp only [Try.f12]
  refine wseq ?_
  refine wreg fun K hK => ?_
  simp [C.laws_FnExactClassicalOf, fO, qO, qS]
  refine hK _ ?_; clear hK K
  show AWp _ _ _ _ _
  refine wseq ?_
  refine wreg fun K hK => ?_
  simp [C.laws_FnExactClassicalOf, fO, qO, qS]
  refine hK _ ?_; clear hK K
  show AWp _ _ _ _ _
  refine wseq ?_
  refine wregI ([0, 1, 2] ++ ([3])) rfl fun K hK => ?_
  refine opsI_seg fun L hL => ?_
  simp [C.laws_FnExactClassicalOf, fO, qO, qS]
  refine wcall (laws_szQSum_calls f 1048576 (by omega) (by omega) f1 f2) (by simp) (by simp) (by simp) ?_
  rintro outs res ⟨rfl, r1, rfl, hr1⟩
  simp [C.laws_FnExactClassicalOf, fO, qO, qS]
  refine hL _ ?_; clear hL L
  refine opsI_end fun L hL => ?_
  simp [C.laws_FnExactClassicalOf, fO, qO, qS]
  refine hL _ ?_; clear hL L
  simp [C.laws_FnExactClassicalOf, fO, qO, qS]
  refine hK _ ?_; clear hK K
  show AWp _ _ _ _ _
  refine wseq ?_
  refine wseq ?_
  refine wreg fun K hK => ?_
  simp [C.laws_FnExactClassicalOf, fO, qO, qS]
  refine hK _ ?_; clear hK K
  show AWp _ _ _ _ _
  refine wcond _ rfl (fun hc1 => ?_) (fun hc1 => ?_)
  · refine wseq ?_
    refine wreg fun K hK => ?_
    simp [C.laws_FnExactClassicalOf, fO, qO, qS]
    refine hK _ ?_; clear hK K
    show AWp _ _ _ _ _
    refine wret ?_
    simp [C.laws_FnExactClassicalOf, fO, qO, qS]
  · have q1 : 0 ≤ r1 := by have := d_f hc1; omega
    obtain ⟨fl, fe⟩ := szQ_small2 (ts := f.ts) q1 (by omega)
    have fk : cntL cntQT f.ts ≤ 3145728 := szQ_cnt2 q1 (by omega)
    refine wskip ?_
    show AWp _ _ _ _ _
    refine wseq ?_
    refine wregI ([0, 1] ++ ([2] ++ ([3, 4, 5, 6, 7, 8]))) rfl fun K hK => ?_
    refine opsI_seg fun L hL => ?_
    simp [C.laws_FnExactClassicalOf, fO, qO, qS]
    refine wcall1 (laws_toQSum_calls f fl fe) (by simp) (by simp) ?_
    simp [C.laws_FnExactClassicalOf, fO, qO, qS]
    refine hL _ ?_; clear hL L
    refine opsI_seg fun L hL => ?_
    simp [C.laws_FnExactClassicalOf, fO, qO, qS]
    refine wcall1 (hw) (by simp) (by simp) ?_
    simp [C.laws_FnExactClassicalOf, fO, qO, qS]
    refine hL _ ?_; clear hL L
    refine opsI_end fun L hL => ?_
    simp [C.laws_FnExactClassicalOf, fO, qO, qS]
    refine hL _ ?_; clear hL L
    simp [C.laws_FnExactClassicalOf, fO, qO, qS]
    refine hK _ ?_; clear hK K
    show AWp _ _ _ _ _
    refine wseq ?_
    refine wregI ([0, 1] ++ ([2, 3])) rfl fun K hK => ?_
    refine opsI_seg fun L hL => ?_
    simp [C.laws_FnExactClassicalOf, fO, qO, qS]
    refine wcall1 (laws_toQSum_calls f fl fe) (by simp) (by simp) ?_
    simp [C.laws_FnExactClassicalOf, fO, qO, qS]
    refine hL _ ?_; clear hL L
    refine opsI_end fun L hL => ?_
    simp [C.laws_FnExactClassicalOf, fO, qO, qS]
    refine hL _ ?_; clear hL L
    simp [C.laws_FnExactClassicalOf, fO, qO, qS]
    refine hK _ ?_; clear hK K
    show AWp _ _ _ _ _
    refine wseq ?_
    refine wregI ([0, 1] ++ ([2, 3, 4, 5, 6, 7])) rfl fun K hK => ?_
    refine opsI_seg fun L hL => ?_
    simp [C.laws_FnExactClassicalOf, fO, qO, qS]
    refine wcall1 (hg) (by simp) (by simp) ?_
    simp [C.laws_FnExactClassicalOf, fO, qO, qS]
    refine hL _ ?_; clear hL L
    refine opsI_end fun L hL => ?_
    simp [C.laws_FnExactClassicalOf, fO, qO, qS]
    refine hL _ ?_; clear hL L
    simp [C.laws_FnExactClassicalOf, fO, qO, qS]
    refine hK _ ?_; clear hK K
    show AWp _ _ _ _ _
    refine wseq ?_
    refine wseq ?_
    refine wregI ([0, 1, 2] ++ ([3, 4, 5, 6, 7, 8])) rfl fun K hK => ?_
    refine opsI_seg fun L hL => ?_
    simp [C.laws_FnExactClassicalOf, fO, qO, qS]
    refine wcall1 (laws_eqLaurent_calls g g (by omega) (fun t ht => by have := hg2 t ht; omega)) (by simp) (by simp) ?_
    simp [C.laws_FnExactClassicalOf, fO, qO, qS]
    refine hL _ ?_; clear hL L
    refine opsI_end fun L hL => ?_
    simp [C.laws_FnExactClassicalOf, fO, qO, qS]
    refine hL _ ?_; clear hL L
    simp [C.laws_FnExactClassicalOf, fO, qO, qS]
    refine hK _ ?_; clear hK K
    show AWp _ _ _ _ _
    refine wcond _ rfl (fun hc2 => ?_) (fun hc2 => ?_)
    · simp at hc2
    · refine wskip ?_
      show AWp _ _ _ _ _
      refine wseq ?_
      refine wseq ?_
      refine wdrawI [(true, 0), (true, 1), (false, 2), (false, 3), (true, 4)] ⟨by kernel_rfl, by kernel_rfl⟩ ([0, 1, 2] ++ ([3] ++ ([4]))) rfl fun K hK => ?_
      refine opsI_seg fun L hL => ?_
      simp [C.laws_FnExactClassicalOf, fO, qO, qS]
      refine wcall1 (laws_toQSum_calls f fl fe) (by simp) (by simp) ?_
      simp [C.laws_FnExactClassicalOf, fO, qO, qS]
      refine hL _ ?_; clear hL L
      refine opsI_seg fun L hL => ?_
      simp [C.laws_FnExactClassicalOf, fO, qO, qS]
      refine wcall1 (laws_eqQSum_calls f f f1 f2) (by simp) (by simp) ?_
      simp [C.laws_FnExactClassicalOf, fO, qO, qS]
      refine hL _ ?_; clear hL L
      refine opsI_end fun L hL => ?_
      simp [C.laws_FnExactClassicalOf, fO, qO, qS]
      refine hL _ ?_; clear hL L
      simp [C.laws_FnExactClassicalOf, fO, qO, qS]
      refine hK _ ?_; clear hK K
      show AWp _ _ _ _ _
      refine wcond _ rfl (fun hc3 => ?_) (fun hc3 => ?_)
      · simp at hc3
      · refine wskip ?_
        show AWp _ _ _ _ _
        refine wseq ?_
        refine wreg fun K hK => ?_
        simp [C.laws_FnExactClassicalOf, fO, qO, qS]
        refine hK _ ?_; clear hK K
        show AWp _ _ _ _ _
        refine wseq ?_
        refine wregI ([0, 1, 2] ++ ([3])) rfl fun K hK => ?_
        refine opsI_seg fun L hL => ?_
        simp [C.laws_FnExactClassicalOf, fO, qO, qS]
        refine wcall1 (laws_markQSum_calls f 1 (by omega) (by omega) f1) (by simp) (by simp) ?_
        simp [C.laws_FnExactClassicalOf, fO, qO, qS]
        refine hL _ ?_; clear hL L
        refine opsI_end fun L hL => ?_
        simp [C.laws_FnExactClassicalOf, fO, qO, qS]
        refine hL _ ?_; clear hL L
        simp [C.laws_FnExactClassicalOf, fO, qO, qS]
        refine hK _ ?_; clear hK K
        show AWp _ _ _ _ _
        refine wseq ?_
        refine wseq ?_
        refine wregI ([0, 1, 2, 3, 4, 5] ++ ([6, 7, 8, 9, 10, 11, 12])) rfl fun K hK => ?_
        refine opsI_seg fun L hL => ?_
        simp [C.laws_FnExactClassicalOf, fO, qO, qS, show (0 : Int) ≤ (1 : Int) + (cntL cntQT f.ts : Nat) by omega, show ¬ ((1 : Int) + (cntL cntQT f.ts : Nat) < 0) by omega]
        refine wcall1 (laws_eqLaurent_calls g g (by omega) (fun t ht => by have := hg2 t ht; omega)) (by simp) (by simp) ?_
        simp [C.laws_FnExactClassicalOf, fO, qO, qS, show (0 : Int) ≤ (1 : Int) + (cntL cntQT f.ts : Nat) by omega, show ¬ ((1 : Int) + (cntL cntQT f.ts : Nat) < 0) by omega]
        refine hL _ ?_; clear hL L
        refine opsI_end fun L hL => ?_
        simp [C.laws_FnExactClassicalOf, fO, qO, qS, show (0 : Int) ≤ (1 : Int) + (cntL cntQT f.ts : Nat) by omega, show ¬ ((1 : Int) + (cntL cntQT f.ts : Nat) < 0) by omega]
        refine hL _ ?_; clear hL L
        simp [C.laws_FnExactClassicalOf, fO, qO, qS, show (0 : Int) ≤ (1 : Int) + (cntL cntQT f.ts : Nat) by omega, show ¬ ((1 : Int) + (cntL cntQT f.ts : Nat) < 0) by omega]
        refine hK _ ?_; clear hK K
        show AWp _ _ _ _ _
        refine wcond _ rfl (fun hc4 => ?_) (fun hc4 => ?_)
        · simp at hc4
        · refine wskip ?_
          show AWp _ _ _ _ _
          refine wseq ?_
          refine wreg fun K hK => ?_
          simp [C.laws_FnExactClassicalOf, fO, qO, qS]
          refine hK _ ?_; clear hK K
          show AWp _ _ _ _ _
          refine wseq ?_
          refine wregI ([0, 1, 2] ++ ([3])) rfl fun K hK => ?_
          refine opsI_seg fun L hL => ?_
          simp [C.laws_FnExactClassicalOf, fO, qO, qS]
          refine wcall1 (laws_markLaurent_calls g 1 (by omega) (by omega) (by omega)) (by simp) (by simp) ?_
          simp [C.laws_FnExactClassicalOf, fO, qO, qS]
          refine hL _ ?_; clear hL L
          refine opsI_end fun L hL => ?_
          simp [C.laws_FnExactClassicalOf, fO, qO, qS]
          refine hL _ ?_; clear hL L
          simp [C.laws_FnExactClassicalOf, fO, qO, qS]
          refine hK _ ?_; clear hK K
          show AWp _ _ _ _ _
          refine wseq ?_
          refine wreg fun K hK => ?_
          simp [C.laws_FnExactClassicalOf, fO, qO, qS]
          refine hK _ ?_; clear hK K
          show AWp _ _ _ _ _
          refine wseq ?_
          refine wregI ([0, 1, 2] ++ ([3])) rfl fun K hK => ?_
          refine opsI_seg fun L hL => ?_
          simp [C.laws_FnExactClassicalOf, fO, qO, qS]
          refine wcall1 (laws_heldLaurent_calls g.v g.ts 1 (by omega) (by omega) (by omega)) (by simp) (by simp) ?_
          simp [C.laws_FnExactClassicalOf, fO, qO, qS]
          refine hL _ ?_; clear hL L
          refine opsI_end fun L hL => ?_
          simp [C.laws_FnExactClassicalOf, fO, qO, qS]
          refine hL _ ?_; clear hL L
          simp [C.laws_FnExactClassicalOf, fO, qO, qS]
          refine hK _ ?_; clear hK K
          show AWp _ _ _ _ _
          refine wseq ?_
          refine wseq ?_
          refine wreg fun K hK => ?_
          simp [C.laws_FnExactClassicalOf, fO, qO, qS]
          refine hK _ ?_; clear hK K
          show AWp _ _ _ _ _
          refine wcond _ rfl (fun hc5 => ?_) (fun hc5 => ?_)
          · have := d_t hc5; omega
          · refine wskip ?_
            show AWp _ _ _ _ _
            refine wseq ?_
            refine wseq ?_
            refine wreg fun K hK => ?_
            simp [C.laws_FnExactClassicalOf, fO, qO, qS]
            refine hK _ ?_; clear hK K
            show AWp _ _ _ _ _
            refine wcond _ rfl (fun hc6 => ?_) (fun hc6 => ?_)
            · simp at hc6
            · refine wskip ?_
              show AWp _ _ _ _ _
              refine wseq ?_
              refine wregI ([0, 1] ++ ([2] ++ ([3, 4, 5, 6, 7, 8]))) rfl fun K hK => ?_
              refine opsI_seg fun L hL => ?_
              simp [C.laws_FnExactClassicalOf, fO, qO, qS]
              refine wcall1 (laws_toQSum_calls f fl fe) (by simp) (by simp) ?_
              simp [C.laws_FnExactClassicalOf, fO, qO, qS]
              refine hL _ ?_; clear hL L
              refine opsI_seg fun L hL => ?_
              simp [C.laws_FnExactClassicalOf, fO, qO, qS]
              refine wcall1 (hg) (by simp) (by simp) ?_
              simp [C.laws_FnExactClassicalOf, fO, qO, qS]
              refine hL _ ?_; clear hL L
              refine opsI_end fun L hL => ?_
              simp [C.laws_FnExactClassicalOf, fO, qO, qS]
              refine hL _ ?_; clear hL L
              simp [C.laws_FnExactClassicalOf, fO, qO, qS]
              refine hK _ ?_; clear hK K
              show AWp _ _ _ _ _
              refine wseq ?_
              refine wseq ?_
              refine wregI ([0, 1, 2] ++ ([3, 4, 5, 6, 7, 8])) rfl fun K hK => ?_
              refine opsI_seg fun L hL => ?_
              simp [C.laws_FnExactClassicalOf, fO, qO, qS]
              refine wcall1 (laws_eqLaurent_calls g g (by omega) (fun t ht => by have := hg2 t ht; omega)) (by simp) (by simp) ?_
              simp [C.laws_FnExactClassicalOf, fO, qO, qS]
              refine hL _ ?_; clear hL L
              refine opsI_end fun L hL => ?_
              simp [C.laws_FnExactClassicalOf, fO, qO, qS]
              refine hL _ ?_; clear hL L
              simp [C.laws_FnExactClassicalOf, fO, qO, qS]
              refine hK _ ?_; clear hK K
              show AWp _ _ _ _ _
              refine wcond _ rfl (fun hc7 => ?_) (fun hc7 => ?_)
              · simp at hc7
              · refine wskip ?_
                show AWp _ _ _ _ _
                refine wseq ?_
                refine wreg fun K hK => ?_
                simp [C.laws_FnExactClassicalOf, fO, qO, qS]
                refine hK _ ?_; clear hK K
                show AWp _ _ _ _ _
                refine wseq ?_
                refine wregI ([0, 1, 2] ++ ([3])) rfl fun K hK => ?_
                refine opsI_seg fun L hL => ?_
                simp [C.laws_FnExactClassicalOf, fO, qO, qS]
                refine wcall1 (laws_heldLaurent_calls g.v g.ts 1 (by omega) (by omega) (by omega)) (by simp) (by simp) ?_
                simp [C.laws_FnExactClassicalOf, fO, qO, qS]
                refine hL _ ?_; clear hL L
                refine opsI_end fun L hL => ?_
                simp [C.laws_FnExactClassicalOf, fO, qO, qS]
                refine hL _ ?_; clear hL L
                simp [C.laws_FnExactClassicalOf, fO, qO, qS]
                refine hK _ ?_; clear hK K
                show AWp _ _ _ _ _
                refine wseq ?_
                refine wseq ?_
                refine wreg fun K hK => ?_
                simp [C.laws_FnExactClassicalOf, fO, qO, qS]
                refine hK _ ?_; clear hK K
                show AWp _ _ _ _ _
                refine wcond _ rfl (fun hc8 => ?_) (fun hc8 => ?_)
                · have := d_t hc8; omega
                · refine wskip ?_
                  show AWp _ _ _ _ _
                  refine wseq ?_
                  refine wseq ?_
                  refine wreg fun K hK => ?_
                  simp [C.laws_FnExactClassicalOf, fO, qO, qS]
                  refine hK _ ?_; clear hK K
                  show AWp _ _ _ _ _
                  refine wcond _ rfl (fun hc9 => ?_) (fun hc9 => ?_)
                  · simp at hc9
                  · refine wskip ?_
                    show AWp _ _ _ _ _
                    refine wseq ?_
                    refine wreg fun K hK => ?_
                    simp [C.laws_FnExactClassicalOf, fO, qO, qS]
                    refine hK _ ?_; clear hK K
                    show AWp _ _ _ _ _
                    refine wret ?_
                    simp [C.laws_FnExactClassicalOf, fO, qO, qS]

end Go.Proofs.Ytdgeponcnlkaiaa.Ab
namespace Go.Proofs.Ytdgeponcnlkaiaa.Ab
open Go
set_option linter.unusedSimpArgs false
set_option linter.unusedVariables false
set_option linter.unusedSectionVars false
def lS (l : List Int) : List D := [shI l]
def lO (l : List Int) : List D := [owI l]
theorem lS_one (l : List Int) : (lS l).length = 1 := rfl
theorem lO_one (l : List Int) : (lO l).length = 1 := rfl
@[simp] theorem lS_length (l : List (List Int)) : (rows lS l).length = l.length := by rw [rows_length lS_one l, Nat.one_mul]
@[simp] theorem lO_length (l : List (List Int)) : (rows lO l).length = l.length := by rw [rows_length lO_one l, Nat.one_mul]
@[simp] theorem lS_share (l : List (List Int)) : shareL (rows lO l) = rows lS l := by
  rw [rows_share]
  congr 1
  funext t
  simp [lO, lS, shareL, share, shareL_ints]
@[simp] theorem lO_noSh (l : List (List Int)) : noShL (rows lO l) := rows_noSh (fun t => by simp [lO, noShL, noSh, noShL_ints]) l
end Go.Proofs.Ytdgeponcnlkaiaa.Ab
namespace Go.Proofs.Ytdgeponcnlkaiaa.Ab
open Go Go.ChangeShapes Go.WideShapes Go.ChangeAt Go.RowKit
set_option linter.unusedSimpArgs false
set_option linter.unusedVariables false
set_option maxRecDepth 100000
section
variable {H : Type} {enc : TypeId × Value → H} {W : World}
def IntSSB (l : List (List Int)) : Prop := (∀ x ∈ l, IntsB x) ∧ l.length * 24 ≤ 140737488351232
theorem opIntSS : Opens enc Try.prog W 38 1 (List (List Int)) (fun l => [.sh 1 l.length (rows lS l)]) IntSSB :=
  (Opens.slice opInts (by omega) Try.underlying38 (by kernel_rfl) (by kernel_rfl)).to id (fun l => rfl) (fun _ => rfl) (fun _ h => h)
theorem argIntSS : Arg enc Try.prog W 38 (List (List Int)) (fun l => .d (.sh 1 l.length (rows lS l))) IntSSB := Arg.one opIntSS (by kernel_rfl) (of_decide_eq_true (by kernel_rfl)) (by kernel_rfl)
theorem IntSSB.small {l : List (List Int)} (h : IntSSB l) : l.length < 4611686018427387904 ∧ ∀ t ∈ l, t.length < 4611686018427387904 := by
  refine ⟨by have := h.2; omega, fun t ht => ?_⟩
  have := (h.1 t ht).2
  omega
def QtmB (t : Qtm) : Prop := IntsB t.e ∧ i64b t.h ∧ i64b t.c
theorem opQtm : Opens enc Try.prog W 209 3 Qtm qtS QtmB :=
  (Opens.struct3 opInts opInt opInt Try.underlying209 ⟨rfl, rfl⟩ ⟨rfl, rfl⟩ ⟨rfl, rfl⟩ (by kernel_rfl)).to (fun a => ⟨a.1, a.2.1, a.2.2⟩) (fun a => rfl) (fun _ => rfl) (fun _ h => ⟨h.1, h.2.1, h.2.2⟩)
def QtmsB (l : List Qtm) : Prop := (∀ x ∈ l, QtmB x) ∧ l.length * 40 ≤ 140737488351232
theorem opQtms : Opens enc Try.prog W 60 1 (List Qtm) (fun l => [.sh 3 l.length (rows qtS l)]) QtmsB :=
  Opens.slice opQtm (by omega) Try.underlying60 (by kernel_rfl) (by kernel_rfl)
def QsmB (f : Qsm) : Prop := i64b f.v ∧ QtmsB f.ts
theorem opQ : Opens enc Try.prog W 62 2 Qsm qS QsmB :=
  (Opens.struct2 opInt opQtms Try.underlying62 ⟨rfl, rfl⟩ ⟨rfl, rfl⟩ (by kernel_rfl)).to (fun a => ⟨a.1, a.2⟩) (fun a => rfl) (fun _ => rfl) (fun _ h => ⟨h.1, h.2⟩)
theorem argQ : Arg enc Try.prog W 62 Qsm (fun f => .ag ((qS f).map .d)) QsmB := Arg.agg opQ (by kernel_rfl) (of_decide_eq_true (by kernel_rfl)) Try.underlying62
theorem QsmB.small {f : Qsm} (h : QsmB f) : f.ts.length < 4611686018427387904 ∧ ∀ t ∈ f.ts, t.e.length < 4611686018427387904 := by
  refine ⟨by have := h.2.2; omega, fun t ht => ?_⟩
  have := (h.2.1 t ht).1.2
  omega
end
end Go.Proofs.Ytdgeponcnlkaiaa.Ab
namespace Go.Proofs.Ytdgeponcnlkaiaa.Ab
open Go
theorem lawCls (f : Qsm) (f1 : f.ts.length < 4611686018427387904) (f2 : ∀ t ∈ f.ts, t.e.length < 4611686018427387904) : ACalls Try.prog F.laws_FnExactClassicalOf [aQ f] [] true (fun outs res => outs = [] ∧ res = [.one (D.bool true)]) := laws_FnExactClassicalOf_calls doneOk f f1 f2
end Go.Proofs.Ytdgeponcnlkaiaa.Ab
