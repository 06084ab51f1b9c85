/- Three drawn sums; what the laws compare. Division finds the factor of a product again, over any keys. Laurent sums: what was multiplied is found again by division; what is divided is multiplied again. Division by maps: the greatest key, and what a step does. Division: both sides. Division of the program's sums. What was multiplied is found again by division: the law. A code of bytes as an argument, read as a tree. Division: the law over drawn sums, with its argument. No condition. -/
import Derived.Test.YtocknokodgnlbaaKAd
import Derived.Test.YtocknokodgnlbaaKAc
set_option linter.unusedVariables false
set_option linter.unusedSimpArgs false
namespace Go.Proofs.Ytocknokodgnlbaa.Ab
open Go
set_option linter.unusedSimpArgs false
set_option linter.unusedVariables false
set_option maxRecDepth 10000
set_option maxHeartbeats 2000000
attribute [local simp] cur
def DrawS (outs : List D) (res : List RV) : Prop := ∃ (n : Nat) (f g h : Lau), (1 ≤ n ∧ n ≤ 8) ∧ Drawn n f ∧ Drawn n g ∧ Drawn n h ∧ outs = [] ∧ res = [.ag (fO f), .ag (fO g), .ag (fO h)]
theorem spec_DrawSums_calls (xs : List Int) (hx : xs.length ≤ 1048576) : ACalls Try.prog F.spec_DrawSums [.d (.sh 1 xs.length (byts xs))] [] false DrawS := by
  refine ACalls.of_body (C := C.spec_DrawSums) (n := Try.f11.ntmps) tabT folT Try.func11 rfl (by kernel_rfl) rfl (Nat.le_of_ble_eq_true rfl) (by decide) (by kernel_rfl) (by kernel_rfl) rfl (by simp) (by simp) ?_
  simp only [Try.f11]
  refine wseq ?_
  refine wreg fun K hK => ?_
  simp [C.spec_DrawSums]
  refine hK _ ?_; clear hK K
  show AWp _ _ _ _ _
  refine wseq ?_
  refine wregI ([0, 1] ++ ([2])) rfl fun K hK => ?_
  refine opsI_seg fun L hL => ?_
  simp [C.spec_DrawSums]
  refine wcall (spec_l1New_calls xs hx) (by simp) (by simp) (by simp) ?_
  rintro outs res ⟨rfl, h0, rfl⟩
  simp [C.spec_DrawSums]
  refine hL _ ?_; clear hL L
  refine opsI_end fun L hL => ?_
  simp [C.spec_DrawSums]
  refine hL _ ?_; clear hL L
  simp [C.spec_DrawSums]
  refine hK _ ?_; clear hK K
  show AWp _ _ _ _ _
  refine wseq ?_
  refine wregI ([0, 1] ++ ([2, 3])) rfl fun K hK => ?_
  refine opsI_seg fun L hL => ?_
  simp [C.spec_DrawSums]
  refine wcall (spec_l1Below_calls xs 0 h0 2 (by omega) hx (by omega)) (by simp) (by simp) (by simp) ?_
  rintro outs res ⟨i1, h1, c, q1, q2, rfl, rfl⟩
  simp [C.spec_DrawSums]
  refine hL _ ?_; clear hL L
  refine opsI_end fun L hL => ?_
  simp [C.spec_DrawSums]
  refine hL _ ?_; clear hL L
  simp [C.spec_DrawSums]
  refine hK _ ?_; clear hK K
  show AWp _ _ _ _ _
  refine wseq ?_
  obtain ⟨n, hn⟩ : ∃ n : Nat, 2 + c = n := ⟨(2 + c).toNat, by omega⟩
  have hw : IntKind.i64.wrap (2 + c) = n := by rw [wrapOk (by omega) (by omega), hn]
  refine wregI ([0, 1, 2] ++ ([3, 4, 5] ++ ([6, 7, 8] ++ ([9, 10, 11])))) rfl fun K hK => ?_
  refine opsI_seg fun L hL => ?_
  simp [C.spec_DrawSums, hw, fO]
  refine wcall (spec_dLaurent_calls xs i1 h1 n q1 hx (by omega)) (by simp) (by simp) (by simp) ?_
  rintro outs res ⟨i2, h2, f, p1, p2, rfl, rfl⟩
  simp [C.spec_DrawSums, hw, fO]
  refine hL _ ?_; clear hL L
  refine opsI_seg fun L hL => ?_
  simp [C.spec_DrawSums, hw, fO]
  refine wcall (spec_dLaurent_calls xs i2 h2 n p1 hx (by omega)) (by simp) (by simp) (by simp) ?_
  rintro outs res ⟨i3, h3, g, s1, s2, rfl, rfl⟩
  simp [C.spec_DrawSums, hw, fO]
  refine hL _ ?_; clear hL L
  refine opsI_seg fun L hL => ?_
  simp [C.spec_DrawSums, hw, fO]
  refine wcall (spec_dLaurent_calls xs i3 h3 n s1 hx (by omega)) (by simp) (by simp) (by simp) ?_
  rintro outs res ⟨i4, h4, k, u1, u2, rfl, rfl⟩
  simp [C.spec_DrawSums, hw, fO]
  refine hL _ ?_; clear hL L
  refine opsI_end fun L hL => ?_
  simp [C.spec_DrawSums, hw, fO]
  refine hL _ ?_; clear hL L
  simp [C.spec_DrawSums, hw, fO]
  refine hK _ ?_; clear hK K
  show AWp _ _ _ _ _
  refine wret ?_
  simp [C.spec_DrawSums]
  exact ⟨n, f, g, k, by omega, p2, s2, u2, rfl, by simp [fO]⟩

theorem laws_ints_calls (a b : List Int) (hx : a.length < 4611686018427387904) : ACalls Try.prog F.laws_ints [.d (shI a), .d (shI b)] [] true (fun outs res => outs = [] ∧ res = [.one (D.bool (decide (a = b)))]) := by
  refine ACalls.of_body (C := C.laws_ints) (n := Try.f61.ntmps) tabT folT Try.func61 rfl (by kernel_rfl) rfl (Nat.le_of_ble_eq_true rfl) (by decide) (by kernel_rfl) (by kernel_rfl) rfl (by simp) (by simp) ?_
  simp only [Try.f61]
  refine wseq ?_
  refine wreg fun K hK => ?_
  simp [C.laws_ints]
  refine hK _ ?_; clear hK K
  show AWp _ _ _ _ _
  refine wseq ?_
  refine wseq ?_
  refine wreg fun K hK => ?_
  simp [C.laws_ints]
  refine hK _ ?_; clear hK K
  show AWp _ _ _ _ _
  refine wcond _ rfl (fun hc1 => ?_) (fun hc1 => ?_)
  · refine wseq ?_
    refine wreg fun K hK => ?_
    simp [C.laws_ints]
    refine hK _ ?_; clear hK K
    show AWp _ _ _ _ _
    refine wret ?_
    have hc : ¬ a.length = b.length := by simp at hc1; omega
    simp [C.laws_ints]
    intro e; simp [e] at hc
  · refine wskip ?_
    show AWp _ _ _ _ _
    refine wseq ?_
    refine wseq ?_
    refine wreg fun K hK => ?_
    simp [C.laws_ints]
    refine hK _ ?_; clear hK K
    show AWp _ _ _ _ _
    refine wblock ?_
    have e : a.length = b.length := by simp at hc1; omega
    refine wloop (fun k : Nat => ⟨ofL [(0, .d (shI a)), (1, .d (shI b)), (5, FV.int k)], ofRO []⟩) (fun k => k ≤ a.length ∧ a.take k = b.take k) (fun k => a.length - k) 0 (by simp [C.laws_ints]) (by simp) ?_
    intro x1 hx1 R1 hR1
    obtain ⟨hk, ht⟩ := hx1
    refine wseq ?_
    refine wseq ?_
    refine wreg fun K hK => ?_
    simp [C.laws_ints]
    refine hK _ ?_; clear hK K
    show AWp _ _ _ _ _
    refine wcond _ rfl (fun hc2 => ?_) (fun hc2 => ?_)
    · refine wskip ?_
      show AWp _ _ _ _ _
      refine wseq ?_
      refine wblock ?_
      refine wseq ?_
      have h1 : x1 < a.length := by simpa using hc2
      have h2 : x1 < b.length := by omega
      refine wdraw (.take 0 (.take 1 (.take 2 (.take 3 (.take 4 (.take 5 (.take 6 (.take 7 (.take 8 (.done)))))))))) ⟨by kernel_rfl, by kernel_rfl⟩ fun K hK => ?_
      simp [C.laws_ints, h1, h2, get_ints]
      refine hK _ ?_; clear hK K
      show AWp _ _ _ _ _
      refine wcond _ rfl (fun hc3 => ?_) (fun hc3 => ?_)
      · refine wseq ?_
        refine wreg fun K hK => ?_
        simp [C.laws_ints]
        refine hK _ ?_; clear hK K
        show AWp _ _ _ _ _
        refine wret ?_
        have hc : ¬ a[x1] = b[x1] := by simpa using hc3
        simp [C.laws_ints]
        intro e2
        subst e2
        exact hc rfl
      · refine wskip ?_
        show AWp _ _ _ _ _
        refine wreg fun K hK => ?_
        simp [C.laws_ints, wrap_succ (show x1 < 4611686018427387904 by omega)]
        refine hK _ ?_; clear hK K
        simp [C.laws_ints]
        have hc : a[x1] = b[x1] := by simpa using hc3
        refine hR1 (x1 + 1) ⟨h1, ?_⟩ (by omega)
        rw [List.take_succ_eq_append_getElem h1, List.take_succ_eq_append_getElem h2, ht, hc]
    · refine wexit ?_
      show AWp _ _ _ _ _
      refine wseq ?_
      refine wreg fun K hK => ?_
      simp [C.laws_ints]
      refine hK _ ?_; clear hK K
      show AWp _ _ _ _ _
      refine wret ?_
      have hk2 : x1 = a.length := by simp at hc2; omega
      simp [C.laws_ints]
      rw [hk2, List.take_length, e, List.take_length] at ht
      exact ht

theorem laws_laurents_calls (f g : Lau) (hx : f.ts.length < 4611686018427387904) (hxe : ∀ t ∈ f.ts, t.e.length < 4611686018427387904) : ACalls Try.prog F.laws_laurents [aF f, aF g] [] true (fun outs res => outs = [] ∧ res = [.one (D.bool (decide (f = g)))]) := by
  refine ACalls.of_body (C := C.laws_laurents) (n := Try.f14.ntmps) tabT folT Try.func14 rfl (by kernel_rfl) rfl (Nat.le_of_ble_eq_true rfl) (by decide) (by kernel_rfl) (by kernel_rfl) rfl (by simp) (by simp) ?_
  simp only [Try.f14]
  refine wseq ?_
  refine wreg fun K hK => ?_
  simp [C.laws_laurents, fS]
  refine hK _ ?_; clear hK K
  show AWp _ _ _ _ _
  refine wseq ?_
  refine wseq ?_
  refine wregI ([0, 1, 2, 3, 4, 5, 6, 7, 8, 9, 10, 11, 12, 13]) rfl fun K hK => ?_
  have hJ : K ⟨ofL [(2, .pt (2, 0) [] 0), (3, .pt (3, 0) [] 0), (19, .bool (!decide (f.v = g.v ∧ (f.ts.length : Int) = g.ts.length)))], ofRO [((2, 0), some (.bx (fS f))), ((3, 0), some (.bx (fS g)))]⟩ := by
    refine hK _ ?_; clear hK K
    show AWp _ _ _ _ _
    refine wcond _ rfl (fun hc1 => ?_) (fun hc1 => ?_)
    · have hc := nd_t hc1
      refine wseq ?_
      refine wreg fun K hK => ?_
      simp [C.laws_laurents, fS]
      refine hK _ ?_; clear hK K
      show AWp _ _ _ _ _
      refine wret ?_
      simp [C.laws_laurents, fS]
      intro e
      subst e
      exact hc ⟨rfl, rfl⟩
    · have hc0 := nd_f hc1
      have hc : f.v = g.v ∧ f.ts.length = g.ts.length := ⟨hc0.1, by have := hc0.2; omega⟩
      refine wskip ?_
      show AWp _ _ _ _ _
      refine wseq ?_
      refine wseq ?_
      refine wreg fun K hK => ?_
      simp [C.laws_laurents, fS]
      refine hK _ ?_; clear hK K
      show AWp _ _ _ _ _
      refine wblock ?_
      refine wloop (fun k : Nat => ⟨ofL [(2, .pt (2, 0) [] 0), (3, .pt (3, 0) [] 0), (5, FV.int k)], ofRO [((2, 0), some (.bx (fS f))), ((3, 0), some (.bx (fS g)))]⟩) (fun k => k ≤ f.ts.length ∧ f.ts.take k = g.ts.take k) (fun k => f.ts.length - k) 0 (by simp [C.laws_laurents, fS]) (by simp) ?_
      intro x1 hx1 R1 hR1
      obtain ⟨hk, ht⟩ := hx1
      refine wseq ?_
      refine wseq ?_
      refine wreg fun K hK => ?_
      simp [C.laws_laurents, fS]
      refine hK _ ?_; clear hK K
      show AWp _ _ _ _ _
      refine wcond _ rfl (fun hc2 => ?_) (fun hc2 => ?_)
      · have h1 : x1 < f.ts.length := by have := d_t hc2; omega
        have h2 : x1 < g.ts.length := by omega
        refine wskip ?_
        show AWp _ _ _ _ _
        refine wseq ?_
        refine wblock ?_
        refine wseq ?_
        refine wdrawI [(true, 0), (true, 1), (true, 2), (true, 3), (true, 4), (true, 5), (true, 6), (true, 7), (true, 8), (true, 9), (true, 10), (true, 11), (true, 12), (true, 13), (true, 14), (true, 15), (true, 16), (true, 17), (true, 18), (true, 19), (true, 20), (true, 21), (true, 22), (true, 23), (true, 24), (true, 25), (false, 26), (true, 27), (true, 28)] ⟨by kernel_rfl, by kernel_rfl⟩ ([0, 1, 2, 3, 4, 5, 6, 7, 8, 9, 10, 11, 12, 13, 14, 15, 16, 17, 18, 19, 20, 21, 22, 23, 24, 25, 26] ++ ([27, 28])) rfl fun K hK => ?_
        have hJ : K ⟨ofL [(2, .pt (2, 0) [] 0), (3, .pt (3, 0) [] 0), (5, FV.int x1), (55, .bool (!decide (f.ts[x1].c = g.ts[x1].c ∧ f.ts[x1].e = g.ts[x1].e)))], ofRO [((2, 0), some (.bx (fS f))), ((3, 0), some (.bx (fS g)))]⟩ := by
          refine hK _ ?_; clear hK K
          show AWp _ _ _ _ _
          refine wcond _ rfl (fun hc3 => ?_) (fun hc3 => ?_)
          · have hb := nd_t hc3
            refine wseq ?_
            refine wreg fun K hK => ?_
            simp [C.laws_laurents, fS]
            refine hK _ ?_; clear hK K
            show AWp _ _ _ _ _
            refine wret ?_
            simp [C.laws_laurents, fS]
            intro e
            subst e
            exact hb ⟨rfl, rfl⟩
          · have hb := nd_f hc3
            refine wskip ?_
            show AWp _ _ _ _ _
            refine wreg fun K hK => ?_
            simp [C.laws_laurents, fS, wrap_succ (show x1 < 4611686018427387904 by omega)]
            refine hK _ ?_; clear hK K
            simp [C.laws_laurents, fS]
            refine hR1 (x1 + 1) ⟨h1, ?_⟩ (by omega)
            have he : f.ts[x1] = g.ts[x1] := by
              cases hf : f.ts[x1]
              cases hg : g.ts[x1]
              simp only [hf, hg] at hb
              simp [hb.1, hb.2]
            rw [List.take_succ_eq_append_getElem h1, List.take_succ_eq_append_getElem h2, ht, he]
        clear hK
        by_cases ha : f.ts[x1].c = g.ts[x1].c
        · refine opsI_seg fun L hL => ?_
          simp [C.laws_laurents, fS, h1, h2, tS_0 h1, tS_1 h1, tS_0 h2, tS_1 h2, ha]
          refine wcall1 (laws_ints_calls f.ts[x1].e g.ts[x1].e (hxe _ (List.getElem_mem h1))) (by simp) (by simp) ?_
          simp [C.laws_laurents, fS, h1, h2, tS_0 h1, tS_1 h1, tS_0 h2, tS_1 h2, ha]
          refine hL _ ?_; clear hL L
          refine opsI_end fun L hL => ?_
          simp [C.laws_laurents, fS, h1, h2, tS_0 h1, tS_1 h1, tS_0 h2, tS_1 h2, ha]
          refine hL _ ?_; clear hL L
          simp [C.laws_laurents, fS, h1, h2, tS_0 h1, tS_1 h1, tS_0 h2, tS_1 h2, ha]
          refine cast (congrArg K ?_) hJ
          simp [ibne, fS, ha]
        · refine opsI_seg fun L hL => ?_
          simp [C.laws_laurents, fS, h1, h2, tS_0 h1, tS_1 h1, tS_0 h2, tS_1 h2, ha]
          refine hL _ ?_; clear hL L
          refine opsI_end fun L hL => ?_
          simp [C.laws_laurents, fS, h1, h2, tS_0 h1, tS_1 h1, tS_0 h2, tS_1 h2, ha]
          refine hL _ ?_; clear hL L
          simp [C.laws_laurents, fS, h1, h2, tS_0 h1, tS_1 h1, tS_0 h2, tS_1 h2, ha]
          refine cast (congrArg K ?_) hJ
          simp [ibne, fS, ha]
      · have h1 : x1 = f.ts.length := by have := d_f hc2; omega
        refine wexit ?_
        show AWp _ _ _ _ _
        refine wseq ?_
        refine wreg fun K hK => ?_
        simp [C.laws_laurents, fS]
        refine hK _ ?_; clear hK K
        show AWp _ _ _ _ _
        refine wret ?_
        simp [C.laws_laurents, fS]
        rw [h1, List.take_length, hc.2, List.take_length] at ht
        cases f
        cases g
        simp only at hc ht
        simp [hc.1, ht]
  clear hK
  by_cases ha : f.v = g.v
  · refine opsI_end fun L hL => ?_
    simp [C.laws_laurents, fS, ha]
    refine hL _ ?_; clear hL L
    simp [C.laws_laurents, fS, ha]
    refine cast (congrArg K ?_) hJ
    simp [ibne, fS, ha]
  · refine opsI_end fun L hL => ?_
    simp [C.laws_laurents, fS, ha]
    refine hL _ ?_; clear hL L
    simp [C.laws_laurents, fS, ha]
    refine cast (congrArg K ?_) hJ
    simp [ibne, fS, ha]

end Go.Proofs.Ytocknokodgnlbaa.Ab
namespace Go.Proofs.Ytocknokodgnlbaa.Ab
open Go
set_option linter.unusedSimpArgs false
set_option linter.unusedVariables false
set_option linter.unusedSectionVars false
section
variable {K : Type} [DecidableEq K] {lt : K → K → Bool} {mul dv : K → K → K} {D : K → Prop} {chk : K → Int → Bool}
theorem insK_top {k : K} {c : Int} (ho : Ord lt) (hc : c ≠ 0) : ∀ (l : List (K × Int)), (∀ x ∈ l, lt x.1 k = true) → insK lt k c l = (k, c) :: l
  | [], _ => by simp [insK, hc]
  | x :: l, h => by
    have hx := h x (by simp)
    have hne : ¬ x.1 = k := fun e => by rw [e, ho.irr] at hx; simp at hx
    simp only [insK]
    rw [if_neg hne, if_pos hx, if_neg hc]
theorem co_prodK_cons (q : K) (x : K × Int) (a g : List (K × Int)) : co q (prodK mul (x :: a) g) = co q (mulT mul x.1 x.2 g) + co q (prodK mul a g) := by
  unfold prodK
  rw [List.flatMap_cons, co_append]
theorem prodK_mem {a g : List (K × Int)} {y : K × Int} (h : y ∈ prodK mul a g) : ∃ x ∈ a, ∃ z ∈ g, y = (mul x.1 z.1, x.2 * z.2) := by
  unfold prodK at h
  obtain ⟨x, hx, h⟩ := List.mem_flatMap.1 h
  obtain ⟨z, hz, h⟩ := List.mem_map.1 h
  exact ⟨x, hx, z, hz, h.symm⟩
/-- Division of a product by a factor. -/
theorem divGo_prod (ho : Ord lt) (ha : Act lt mul dv D) (hdm : ∀ a b, D a → D b → dv (mul a b) b = a) (hml : ∀ x y b, D x → D y → D b → lt x y = true → lt (mul x b) (mul y b) = true)
    {b : K} {d : Int} {gt : List (K × Int)} (hgd : Desc lt ((b, d) :: gt)) (hg0 : d ≠ 0) (hgD : ∀ x ∈ (b, d) :: gt, D x.1) :
    ∀ (k : Nat) (fs : List (K × Int)), Desc lt fs → Nz fs → (∀ x ∈ fs, D x.1 ∧ chk x.1 x.2 = true) → fs.length ≤ k → divGo lt mul dv chk ((b, d) :: gt) b d k (nf lt (prodK mul fs ((b, d) :: gt))) = some fs
  | k, [], _, _, _, _ => by cases k <;> rfl
  | 0, x :: fs, _, _, _, h => by simp at h
  | k + 1, x :: fs, hd, hz, hc, hk => by
    obtain ⟨hd1, hd2⟩ := List.pairwise_cons.1 hd
    have hxz := hz x (by simp)
    have hxD := (hc x (by simp)).1
    have hbD := hgD (b, d) (by simp)
    have hc0 : x.2 * d ≠ 0 := Int.mul_ne_zero hxz hg0
    have hgt := (List.pairwise_cons.1 hgd).1
    -- the greatest term
    have hrest : ∀ y ∈ mulT mul x.1 x.2 gt ++ prodK mul fs ((b, d) :: gt), lt y.1 (mul x.1 b) = true := fun y hy => by
      rcases List.mem_append.1 hy with hy | hy
      · obtain ⟨z, hzg, rfl⟩ := List.mem_map.1 hy
        exact ha.mul_lt _ _ _ hxD (hgD z (by simp [hzg])) hbD (hgt z hzg)
      · obtain ⟨u, hu, z, hzg, rfl⟩ := prodK_mem hy
        have huD := (hc u (by simp [hu])).1
        have h1 := hml _ _ b huD hxD hbD (hd1 u hu)
        rcases List.mem_cons.1 hzg with rfl | hzg
        · exact h1
        · exact ho.tr _ _ _ (ha.mul_lt _ _ _ huD (hgD z (by simp [hzg])) hbD (hgt z hzg)) h1
    have hR : nf lt (prodK mul (x :: fs) ((b, d) :: gt)) = (mul x.1 b, x.2 * d) :: nf lt (mulT mul x.1 x.2 gt ++ prodK mul fs ((b, d) :: gt)) := by
      have e : prodK mul (x :: fs) ((b, d) :: gt) = (mul x.1 b, x.2 * d) :: (mulT mul x.1 x.2 gt ++ prodK mul fs ((b, d) :: gt)) := rfl
      rw [e]
      show insK lt (mul x.1 b) (x.2 * d) (nf lt _) = _
      refine insK_top ho hc0 _ fun y hy => ?_
      obtain ⟨z, hzz, e2⟩ := nf_mem hy
      rw [← e2]
      exact hrest z hzz
    rw [hR]
    simp only [divGo]
    have h1 : (x.2 * d).tmod d = 0 := Int.mul_tmod_left _ _
    have h2 : (x.2 * d).tdiv d = x.2 := Int.mul_tdiv_cancel _ hg0
    rw [hdm _ _ hxD hbD, h1, h2, if_pos ⟨rfl, (hc x (by simp)).2⟩]
    have hnf : nf lt ((mul x.1 b, x.2 * d) :: nf lt (mulT mul x.1 x.2 gt ++ prodK mul fs ((b, d) :: gt)) ++ mulT mul x.1 (-x.2) ((b, d) :: gt)) = nf lt (prodK mul fs ((b, d) :: gt)) := by
      refine nf_unique ho (nf_desc ho _) (nf_nz _) fun q => ?_
      rw [nf_co, ← hR, co_append, nf_co, co_prodK_cons, co_mulT_neg]
      omega
    rw [hnf, divGo_prod ho ha hdm hml hgd hg0 hgD k fs hd2 (fun y hy => hz y (by simp [hy])) (fun y hy => hc y (by simp [hy])) (by simpa using hk)]
    rfl
end
end Go.Proofs.Ytocknokodgnlbaa.Ab
namespace Go.Proofs.Ytocknokodgnlbaa.Ab
open Go
set_option linter.unusedSimpArgs false
set_option linter.unusedVariables false
theorem addE_vd : ∀ (a b : List Int), a.length = b.length → addE (-1) (addE 1 a b) b = a
  | [], [], _ => rfl
  | x :: a, y :: b, h => by
    simp only [addE, addE_vd a b (by simpa using h)]
    congr 1
    omega
  | [], _ :: _, h => by simp at h
  | _ :: _, [], h => by simp at h
theorem lau_eta (f : Lau) : (⟨f.v, (f.ts.map pr).map tm⟩ : Lau) = f := by
  rw [List.map_map]
  have : tm ∘ pr = id := rfl
  rw [this, List.map_id]
theorem pr_tm (l : List (List Int × Int)) : (l.map tm).map pr = l := by
  rw [List.map_map]
  exact List.map_id _
theorem div_mul {f g P : Lau} (hf : Right f) (hg : Right g) (hv : f.v = g.v) (hne : g.ts ≠ []) (hP : mulF f g = (P, true)) : divF P g = (f, true) := by
  have hm : mulF f g = shutF f.v (prodL (f.ts.map pr) (g.ts.map pr)) := if_pos ⟨hf, hg, hv⟩
  rw [hm] at hP
  unfold shutF at hP
  split at hP
  · rename_i hR
    injection hP with hP _
    subst hP
    obtain ⟨n, hn⟩ : ∃ n : Nat, f.v = n := ⟨f.v.toNat, by have := hf.1; omega⟩
    have hn2 : g.v = n := by omega
    unfold divF
    rw [if_pos ⟨⟨hR, hg, hv⟩, hne⟩]
    simp only [pr_tm]
    match hgt : g.ts, hne with
    | t :: ts, _ =>
      have hd := divGo_prod (mul := addE 1) (dv := addE (-1)) (chk := chkI) lexOrd (lauAct n) (fun a b h1 h2 => addE_vd a b (h1.trans h2.symm)) (fun x y b h1 h2 h3 h => by rw [lexlt_addE _ _ _ _ (h1.trans h3.symm) (h2.trans h3.symm)]; exact h)
        (b := t.e) (d := t.c) (gt := ts.map pr) (by have := pr_desc hg; rw [hgt] at this; exact this) ((hg.2.2.1 t (by rw [hgt]; simp)).2.1)
        (fun x hx => by have := pr_dig hg hn2; rw [hgt] at this; exact (this x hx).1) 600 (f.ts.map pr) (pr_desc hf) (pr_nz hf)
        (fun x hx => ⟨(pr_dig hf hn x hx).1, by
          obtain ⟨u, hu, rfl⟩ := List.mem_map.1 hx
          have := hf.2.2.1 u hu
          exact decide_eq_true ⟨this.2.2.2, this.2.1, this.2.2.1⟩⟩) (by simpa using hf.2.1)
      have e : divL chkI g 600 (nf lexlt (prodL (f.ts.map pr) ((t :: ts).map pr))) = some (f.ts.map pr) := by
        unfold divL leadE leadC
        rw [hgt]
        exact hd
      rw [e]
      simp only [endF, lau_eta]
      rw [if_pos hf]
  · injection hP with _ h
    simp at h
theorem mul_div {h g r : Lau} (hd : divF h g = (r, true)) : Right h ∧ Right r ∧ mulF r g = (h, true) := by
  unfold divF at hd
  split at hd
  · rename_i hc
    obtain ⟨⟨hh, hg, hv⟩, hne⟩ := hc
    cases hO : divL chkI g 600 (h.ts.map pr) with
    | none =>
      rw [hO] at hd
      simp [endF] at hd
    | some O =>
      rw [hO] at hd
      simp only [endF] at hd
      split at hd
      · rename_i hR
        injection hd with hd _
        subst hd
        refine ⟨hh, hR, ?_⟩
        have hx := divGo_exact _ _ _ hO
        have hm : mulF ⟨h.v, O.map tm⟩ g = shutF h.v (prodL ((O.map tm).map pr) (g.ts.map pr)) := if_pos ⟨hR, hg, hv⟩
        rw [hm, pr_tm]
        have hnf : nf lexlt (prodL O (g.ts.map pr)) = h.ts.map pr := (nf_unique lexOrd (pr_desc hh) (pr_nz hh) fun q => hx q).symm
        unfold shutF
        rw [hnf, lau_eta, if_pos hh]
      · injection hd with _ h1
        simp at h1
  · injection hd with _ h1
    simp at h1
end Go.Proofs.Ytocknokodgnlbaa.Ab
namespace Go.Proofs.Ytocknokodgnlbaa.Ab
open Go
set_option linter.unusedSimpArgs false
set_option linter.unusedVariables false
theorem lexlt_app : ∀ (a b z : List Int), a.length = b.length → lexlt (a ++ z) (b ++ z) = lexlt a b
  | [], [], z, _ => by simp [lexlt_irr, lexlt]
  | x :: a, y :: b, z, h => by simp [lexlt, lexlt_app a b z (by simpa using h)]
  | [], _ :: _, _, h => by simp at h
  | _ :: _, [], _, h => by simp at h
theorem lexlt_pad {a b : List Int} (h : a.length = b.length) : lexlt (pad a) (pad b) = lexlt a b := by
  unfold pad
  rw [← h]
  exact lexlt_app a b _ h
theorem mget_some {k : List Int} {v : Int} : ∀ {es : List (List Int × Int)}, mget k es = some v → (k, v) ∈ es
  | [], h => by simp [mget] at h
  | x :: es, h => by
    simp only [mget] at h
    split at h
    · rename_i e
      simp only [Option.some.injEq] at h
      subst h
      have : x = (k, x.2) := Prod.ext e rfl
      rw [← this]; simp
    · exact List.mem_cons_of_mem _ (mget_some h)
theorem mget_mem {k : List Int} {v : Int} : ∀ {es : List (List Int × Int)}, (es.map (·.1)).Nodup → (k, v) ∈ es → mget k es = some v
  | [], _, h => by simp at h
  | x :: es, hn, h => by
    simp only [List.map_cons, List.nodup_cons] at hn
    simp only [mget]
    rcases List.mem_cons.1 h with e | h
    · rw [← e]; simp
    · rw [if_neg]
      · exact mget_mem hn.2 h
      · rintro e
        exact hn.1 (List.mem_map.2 ⟨(k, v), h, e.symm⟩)
/-- The greatest key of what has come by. -/
structure TopJ (P : List (List Int × Int)) (top : List Int) : Prop where
  len : top.length = 8
  mem : P ≠ [] → ∃ c, (top, c) ∈ P
  max : ∀ y ∈ P, lexlt top y.1 = false
theorem TopJ.keep {P : List (List Int × Int)} {top : List Int} (h : TopJ P top) {y : List Int × Int} (hne : P ≠ []) (hy : lexlt top y.1 = false) : TopJ (P ++ [y]) top := by
  obtain ⟨c, hc⟩ := h.mem hne
  refine ⟨h.len, fun _ => ⟨c, by simp [hc]⟩, fun z hz => ?_⟩
  rcases List.mem_append.1 hz with hz | hz
  · exact h.max z hz
  · simp only [List.mem_singleton] at hz
    subst hz; exact hy
theorem TopJ.next {P : List (List Int × Int)} {top : List Int} (h : TopJ P top) {y : List Int × Int} (hl : y.1.length = 8) (hy : P = [] ∨ lexlt top y.1 = true) : TopJ (P ++ [y]) y.1 := by
  refine ⟨hl, fun _ => ⟨y.2, by simp⟩, fun z hz => ?_⟩
  rcases List.mem_append.1 hz with hz | hz
  · rcases hy with rfl | hy
    · simp at hz
    · cases hq : lexlt y.1 z.1 with
      | false => rfl
      | true =>
        have h1 := h.max z hz
        have h2 := lexlt_tr _ _ _ hy hq
        rw [h1] at h2; simp at h2
  · simp only [List.mem_singleton] at hz
    subst hz; exact lexlt_irr _
/-- The greatest key is that of the first term. -/
theorem top_head {n : Nat} {es l P : List (List Int × Int)} {top : List Int} {a : List Int} {c : Int} {R : List (List Int × Int)} (h : MapR n es l) (hl : ∀ x ∈ l, x.1.length = n) (hP : P.Perm es) (hT : TopJ P top) (hR : nf lexlt l = (a, c) :: R) :
    top = pad a ∧ mget top es = some c := by
  have hal : a.length = n := by
    obtain ⟨x, hx, e⟩ := nf_mem (y := (a, c)) (by rw [hR]; simp)
    have h9 := hl x hx
    rw [e] at h9
    exact h9
  have hd := nf_desc lexOrd l
  have hc := co_single lexOrd hd (x := (a, c)) (by rw [hR]; simp)
  rw [nf_co] at hc
  have hcz : c ≠ 0 := nf_nz l (a, c) (by rw [hR]; simp)
  have hva := h.val a hal
  have hga : mget (pad a) es = some c := by
    rw [hc] at hva
    cases hg : mget (pad a) es with
    | none => rw [hg] at hva; simp at hva; exact absurd hva.symm hcz
    | some v => rw [hg] at hva; simp at hva; rw [hva]
  have hmem := mget_some hga
  have hmP := hP.mem_iff.2 hmem
  obtain ⟨v, hv⟩ := hT.mem (by intro e; rw [e] at hmP; simp at hmP)
  have hvE := hP.mem_iff.1 hv
  obtain ⟨hvz, e, hel, he⟩ := h.nz _ hvE
  simp only at he hvz
  have hlt := hT.max _ hmP
  simp only at hlt
  rw [he, lexlt_pad (hel.trans hal.symm)] at hlt
  have hget := mget_mem h.nod hvE
  have hve := h.val e hel
  rw [← he, hget] at hve
  simp only [Option.getD_some] at hve
  have hco : co e (nf lexlt l) ≠ 0 := by rw [nf_co, ← hve]; exact hvz
  obtain ⟨z, hz, ez⟩ := co_mem hco
  have hea : e = a := by
    rw [hR] at hz hd
    rcases List.mem_cons.1 hz with rfl | hz
    · exact ez.symm
    · have h1 := List.rel_of_pairwise_cons hd hz
      simp only at h1
      rw [ez, hlt] at h1
      simp at h1
  subst hea
  exact ⟨he, by rw [he]; exact hga⟩
theorem pad_bd60 {e : List Int} {B : Int} (hB : 0 ≤ B) (hB2 : B ≤ 1000000) (h : ∀ x ∈ e, -B ≤ x ∧ x ≤ B) : ∀ x ∈ pad e, -1000000 ≤ x ∧ x ≤ 1000000 := fun x hx => by
  unfold pad at hx
  rcases List.mem_append.1 hx with hx | hx
  · have := h x hx; omega
  · have := List.eq_of_mem_replicate hx; omega
/-- What a step of division has put behind the rest so far. -/
def negT (e : List Int) (q : Int) (g : List Trm) : List (List Int × Int) := g.map fun t => (addE 1 e t.e, -q * t.c)
theorem negT_step {e : List Int} {q : Int} {g : List Trm} {i : Nat} (h : i < g.length) : negT e q (g.take (i + 1)) = negT e q (g.take i) ++ [(addE 1 e g[i].e, -q * g[i].c)] := by
  unfold negT
  rw [List.take_succ_eq_append_getElem h, List.map_append]
  rfl
theorem step_nf {g : Lau} {x : List Int × Int} {R l l2 : List (List Int × Int)} (hR : nf lexlt l = x :: R) (hl2 : l2.Perm (l ++ negT (addE (-1) x.1 (leadE g)) (x.2.tdiv (leadC g)) g.ts)) : nf lexlt l2 = nf lexlt (stepL g x R) := by
  refine nf_unique lexOrd (nf_desc lexOrd _) (nf_nz _) fun k => ?_
  rw [nf_co, co_perm k hl2, stepL, co_append, co_append, ← hR, nf_co]
  congr 1
  unfold negT mulT
  rw [List.map_map]
  rfl
end Go.Proofs.Ytocknokodgnlbaa.Ab
namespace Go.Proofs.Ytocknokodgnlbaa.Ab
open Go
theorem addE_dv2 : ∀ (a b : List Int), a.length = b.length → addE (-1) (addE 1 a b) b = a
  | [], [], _ => rfl
  | x :: a, y :: b, h => by
    simp only [addE, addE_dv2 a b (by simpa using h)]
    congr 1
    omega
  | [], _ :: _, h => by simp at h
  | _ :: _, [], h => by simp at h
structure DivO (g : Lau) (n : Nat) (R O : List (List Int × Int)) : Prop where
  od : Desc lexlt O
  oz : Nz O
  ol : ∀ x ∈ O, x.1.length = n
  sep : ∀ x ∈ O, ∀ y ∈ R, lexlt y.1 (addE 1 x.1 (leadE g)) = true
theorem DivO.step {g : Lau} {n : Nat} {x : List Int × Int} {R O : List (List Int × Int)} (h : DivO g n (x :: R) O) (hR : Desc lexlt (x :: R)) (hRl : ∀ y ∈ x :: R, y.1.length = n) (hg : Right g) (hgn : g.v = n) (hne : g.ts ≠ []) (hm : x.2.tmod (leadC g) = 0) (hq : x.2.tdiv (leadC g) ≠ 0) :
    DivO g n (nf lexlt (stepL g x R)) (O ++ [(addE (-1) x.1 (leadE g), x.2.tdiv (leadC g))]) := by
  have hgm : g.ts.map pr = (leadE g, leadC g) :: (g.ts.tail.map pr) := by
    unfold leadE leadC
    match hh : g.ts, hne with
    | t :: ts, _ => rfl
  have hgd := pr_desc hg
  have hgD := pr_dig hg hgn
  rw [hgm] at hgd hgD
  have hbl : (leadE g).length = n := (hgD (leadE g, leadC g) (by simp)).1
  have hxl := hRl x (by simp)
  have hless := step_less lexOrd (lauAct n) hR hRl hgd (fun y hy => (hgD y hy).1) hm
  rw [← hgm] at hless
  have hel : (addE (-1) x.1 (leadE g)).length = n := by rw [addE_length _ _ _ (hxl.trans hbl.symm)]; exact hxl
  have hback : addE 1 (addE (-1) x.1 (leadE g)) (leadE g) = x.1 := addE_dv _ _ (hxl.trans hbl.symm)
  refine ⟨?_, fun y hy => ?_, fun y hy => ?_, fun y hy z hz => ?_⟩
  · refine List.pairwise_append.2 ⟨h.od, List.pairwise_singleton .., fun y hy z hz => ?_⟩
    simp only [List.mem_singleton] at hz
    subst hz
    have h1 := h.sep y hy x (by simp)
    have hyl := h.ol y hy
    have h2 := lexlt_addE (-1) x.1 (addE 1 y.1 (leadE g)) (leadE g) (hxl.trans hbl.symm) (by rw [addE_length _ _ _ (hyl.trans hbl.symm)]; exact hyl.trans hbl.symm)
    rw [addE_dv2 _ _ (hyl.trans hbl.symm)] at h2
    show lexlt (addE (-1) x.1 (leadE g)) y.1 = true
    rw [h2]
    exact h1
  · rcases List.mem_append.1 hy with hy | hy
    · exact h.oz y hy
    · simp only [List.mem_singleton] at hy
      subst hy; exact hq
  · rcases List.mem_append.1 hy with hy | hy
    · exact h.ol y hy
    · simp only [List.mem_singleton] at hy
      subst hy; exact hel
  · have h1 := (hless z hz).1
    rcases List.mem_append.1 hy with hy | hy
    · exact lexlt_tr _ _ _ h1 (h.sep y hy x (by simp))
    · simp only [List.mem_singleton] at hy
      subst hy
      show lexlt z.1 (addE 1 (addE (-1) x.1 (leadE g)) (leadE g)) = true
      rw [hback]
      exact h1
theorem DivO.nf {g : Lau} {n : Nat} {R O : List (List Int × Int)} (h : DivO g n R O) : Ab.nf lexlt O = O := (nf_unique lexOrd h.od h.oz fun k => rfl).symm
theorem DivO.shut {g : Lau} {n : Nat} {R O : List (List Int × Int)} (h : DivO g n R O) (v : Int) : shutF v O = endF v (some O) := by
  unfold shutF endF
  rw [h.nf]
theorem cmpL_gt (a b : List Int) : decide (0 < cmpL a b) = lexlt b a := by
  have := cmpL_pos a b
  by_cases h : cmpL a b ≤ 0
  · rw [decide_eq_true h] at this
    rw [decide_eq_false (by omega)]
    cases hh : lexlt b a with
    | false => rfl
    | true => rw [hh] at this; simp at this
  · rw [decide_eq_false h] at this
    rw [decide_eq_true (by omega)]
    cases hh : lexlt b a with
    | true => rfl
    | false => rw [hh] at this; simp at this
end Go.Proofs.Ytocknokodgnlbaa.Ab
namespace Go.Proofs.Ytocknokodgnlbaa.Ab
open Go
set_option linter.unusedSimpArgs false
set_option linter.unusedVariables false
set_option maxRecDepth 10000
set_option maxHeartbeats 2000000
theorem spec_DivideLaurents_calls (f g : Lau) (hx : f.ts.length < 4611686018427387904) (hxe : ∀ t ∈ f.ts, t.e.length < 4611686018427387904) (hy : g.ts.length < 4611686018427387904) (hye : ∀ t ∈ g.ts, t.e.length < 4611686018427387904) : ACalls Try.prog F.spec_DivideLaurents [aF f, aF g] [] true (fun outs res => outs = [] ∧ WkRs res [.ag (fO (divF f g).1), .one (D.bool (divF f g).2)]) := by
  have hcall := spec_l2Two_calls f g hx hxe hy hye
  generalize hB : decide (Right f ∧ Right g ∧ f.v = g.v) = B at hcall
  refine ACalls.of_body (C := C.spec_DivideLaurents) (n := Try.f15.ntmps) tabT folT Try.func15 rfl (by kernel_rfl) rfl (Nat.le_of_ble_eq_true rfl) (by decide) (by kernel_rfl) (by kernel_rfl) rfl (by simp) (by simp) ?_
  simp only [Try.f15]
  refine wseq ?_
  refine wreg fun K hK => ?_
  simp [C.spec_DivideLaurents, fS]
  refine hK _ ?_; clear hK K
  show AWp _ _ _ _ _
  refine wseq ?_
  refine wseq ?_
  refine wregI ([0, 1, 2] ++ ([3, 4, 5, 6, 7, 8, 9])) rfl fun K hK => ?_
  have hJ : K ⟨ofL [(2, .pt (2, 0) [] 0), (3, .pt (3, 0) [] 0), (4, .pt (4, 0) [] 0), (15, .bool (!(B && !decide (g.ts = []))))], ofRO [((2, 0), some (.bx (fS f))), ((3, 0), some (.bx (fS g))), ((4, 0), some (.bx [D.int 0, .v (.slice none 0 0)]))]⟩ := by
    refine hK _ ?_; clear hK K
    show AWp _ _ _ _ _
    refine wcond _ rfl (fun hc1 => ?_) (fun hc1 => ?_)
    · have hr : ¬ ((Right f ∧ Right g ∧ f.v = g.v) ∧ g.ts ≠ []) := by
        rintro ⟨h1, h2⟩
        rw [← hB, decide_eq_true h1] at hc1
        simp [h2] at hc1
      have hm : divF f g = (zeroF, false) := if_neg hr
      refine wseq ?_
      refine wreg fun K hK => ?_
      simp [C.spec_DivideLaurents, fS]
      refine hK _ ?_; clear hK K
      show AWp _ _ _ _ _
      refine wret ?_
      simp [C.spec_DivideLaurents, fS, hm, fO, zeroF, rows]
    · have hr : (Right f ∧ Right g ∧ f.v = g.v) ∧ g.ts ≠ [] := by
        rw [← hB] at hc1
        simpa using hc1
      obtain ⟨⟨hf, hg, hfg⟩, hne⟩ := hr
      obtain ⟨n, hn⟩ : ∃ n : Nat, f.v = n := ⟨f.v.toNat, by have := hf.1; omega⟩
      have hgn : g.v = n := by omega
      have hm : divF f g = endF f.v (divL (chkS f g n) g 600 (f.ts.map pr)) := by
        rw [← divS_eq]
        unfold divS
        rw [if_pos ⟨⟨hf, hg, hfg⟩, hne⟩, hn]
        rfl
      refine wskip ?_
      show AWp _ _ _ _ _
      refine wseq ?_
      refine wregI ([0, 1, 2] ++ ([3, 4, 5, 6])) rfl fun K hK => ?_
      refine opsI_seg fun L hL => ?_
      simp [C.spec_DivideLaurents, fS]
      refine wcall1 ((spec_l2Divide_calls f g n hf hg hn hgn hne).weak1) (by simp) (by simp) ?_
      simp [C.spec_DivideLaurents, fS]
      refine hL _ ?_; clear hL L
      refine opsI_end fun L hL => ?_
      simp [C.spec_DivideLaurents, fS]
      refine hL _ ?_; clear hL L
      simp [C.spec_DivideLaurents, fS]
      refine hK _ ?_; clear hK K
      show AWp _ _ _ _ _
      refine wret ?_
      simp [C.spec_DivideLaurents, fS, hm, fO]
  clear hK
  by_cases hb : B = true
  · refine opsI_seg fun L hL => ?_
    simp [C.spec_DivideLaurents, fS, hb]
    refine wcall1 (hcall) (by simp) (by simp) ?_
    simp [C.spec_DivideLaurents, fS, hb]
    refine hL _ ?_; clear hL L
    refine opsI_end fun L hL => ?_
    simp [C.spec_DivideLaurents, fS, hb]
    refine hL _ ?_; clear hL L
    simp [C.spec_DivideLaurents, fS, hb]
    refine cast (congrArg K ?_) hJ
    simp [ieq0, fS, hb]
  · refine opsI_seg fun L hL => ?_
    simp [C.spec_DivideLaurents, fS, hb]
    refine wcall1 (hcall) (by simp) (by simp) ?_
    simp [C.spec_DivideLaurents, fS, hb]
    refine hL _ ?_; clear hL L
    refine opsI_end fun L hL => ?_
    simp [C.spec_DivideLaurents, fS, hb]
    refine hL _ ?_; clear hL L
    simp [C.spec_DivideLaurents, fS, hb]
    refine cast (congrArg K ?_) hJ
    simp [ieq0, fS, hb]
theorem sDiv_calls (f g : Lau) (hx : f.ts.length < 4611686018427387904) (hxe : ∀ t ∈ f.ts, t.e.length < 4611686018427387904) (hy : g.ts.length < 4611686018427387904) (hye : ∀ t ∈ g.ts, t.e.length < 4611686018427387904) : ACalls Try.prog F.spec_DivideLaurents [aF f, aF g] [] true (fun outs res => outs = [] ∧ res = [.ag (fO (divF f g).1), .one (D.bool (divF f g).2)]) := (spec_DivideLaurents_calls f g hx hxe hy hye).weak1

end Go.Proofs.Ytocknokodgnlbaa.Ab
namespace Go.Proofs.Ytocknokodgnlbaa.Ab
open Go
set_option linter.unusedSimpArgs false
set_option linter.unusedVariables false
set_option maxRecDepth 10000
set_option maxHeartbeats 2000000
attribute [local simp] mapKV flatInt tileB
structure LJ (n : Nat) (es l : List (List Int × Int)) (B : Nat) : Prop where
  map : MapR n es l
  len : ∀ x ∈ l, x.1.length = n
  abs : absE l ≤ B
theorem LJ.add {n : Nat} {es l : List (List Int × Int)} {B : Nat} (h : LJ n es l B) {e : List Int} (he : e.length = n) {c : Int} {X : Nat} (hc : c.natAbs ≤ X) : LJ n (madd es (pad e) c) ((e, c) :: l) (B + X) := by
  refine ⟨h.map.add he c, fun x hx => ?_, ?_⟩
  · rcases List.mem_cons.1 hx with rfl | hx
    · exact he
    · exact h.len x hx
  · have := h.abs
    simp only [absE, List.map_cons, List.sum_cons] at *
    omega
theorem LJ.val {n : Nat} {es l : List (List Int × Int)} {B : Nat} (h : LJ n es l B) {e : List Int} (he : e.length = n) {c : Int} {X : Nat} (hc : c.natAbs ≤ X) (hB : B + X ≤ 4000000000000000000) : -9223372036854775808 ≤ c + (mget (pad e) es).getD 0 ∧ c + (mget (pad e) es).getD 0 < 9223372036854775808 := by
  have h1 := h.map.val e he
  have h2 := co_abs e l
  have h3 := h.abs
  rw [h1]
  omega
theorem LJ.mono {n : Nat} {es l : List (List Int × Int)} {B C : Nat} (h : LJ n es l B) (hB : B ≤ C) : LJ n es l C := ⟨h.map, h.len, Nat.le_trans h.abs hB⟩
theorem divF_some {f g : Lau} {n : Nat} (hf : Right f) (hg : Right g) (hn : f.v = n) (hgn : g.v = n) (hne : g.ts ≠ []) : divF f g = endF n (divL chkI g 600 (f.ts.map pr)) := by
  unfold divF
  rw [if_pos ⟨⟨hf, hg, by omega⟩, hne⟩, hn]
theorem impl_DivideLaurents_l1 (f g : Lau) (n : Nat) (hn : f.v = n) (hv : n ≤ 8) (hf : Right f) (hfl : f.ts.length ≤ 600) (Q0 : AEx → St → Prop) (hX0 : ∀ es l, LJ n es l 600000000 → l.Perm (f.ts.map pr) → Q0 (.exit 0) ⟨ofL [(2, .pt (2, 0) [] 0), (3, .pt (3, 0) [] 0), (4, .pt (4, 0) [] 0), (6, .pt (6, 0) [] 0), (34, .d (.sh 2 f.ts.length (rows tS f.ts))), (35, .int f.ts.length), (36, .int f.ts.length), (37, .bool false)], ofRO [((2, 0), some (.bx (fS f))), ((3, 0), some (.bx (fS g))), ((4, 0), some (.bx [D.int 0, .v (.slice none 0 0)])), ((6, 0), some (.bx [D.int n, .mp es]))]⟩) : AWp C.impl_DivideLaurents (codeAt Try.f13 [1, 1, 1, 0, 1, 0]) 0 Q0 ⟨ofL [(2, .pt (2, 0) [] 0), (3, .pt (3, 0) [] 0), (4, .pt (4, 0) [] 0), (6, .pt (6, 0) [] 0), (34, .d (.sh 2 f.ts.length (rows tS f.ts))), (35, .int f.ts.length), (36, .int 0)], ofRO [((2, 0), some (.bx (fS f))), ((3, 0), some (.bx (fS g))), ((4, 0), some (.bx [D.int 0, .v (.slice none 0 0)])), ((6, 0), some (.bx [D.int n, .mp []]))]⟩ := by
  simp only [codeAt, Try.f13, walkCode]
  refine wloop (fun x : Nat × List (List Int × Int) × List (List Int × Int) => ⟨ofL [(2, .pt (2, 0) [] 0), (3, .pt (3, 0) [] 0), (4, .pt (4, 0) [] 0), (6, .pt (6, 0) [] 0), (34, .d (.sh 2 f.ts.length (rows tS f.ts))), (35, .int f.ts.length), (36, .int x.1)], ofRO [((2, 0), some (.bx (fS f))), ((3, 0), some (.bx (fS g))), ((4, 0), some (.bx [D.int 0, .v (.slice none 0 0)])), ((6, 0), some (.bx [D.int n, .mp x.2.1]))]⟩) (fun x => x.1 ≤ f.ts.length ∧ LJ n x.2.1 x.2.2 (x.1 * 1000000) ∧ x.2.2.Perm ((f.ts.map pr).take x.1)) (fun x => f.ts.length - x.1) (0, [], []) (by simp [C.impl_DivideLaurents, fS, hn]) ⟨by simp, ⟨MapR.nil n, by simp, by simp [absE]⟩, by simp⟩ ?_
  intro x1 hx1 R1 hR1
  obtain ⟨i, es, l⟩ := x1
  obtain ⟨hi, hLJ, hP⟩ := hx1
  dsimp only at hi hLJ hP ⊢
  refine wseq ?_
  refine wreg fun K hK => ?_
  simp [C.impl_DivideLaurents, fS]
  refine hK _ ?_; clear hK K
  show AWp _ _ _ _ _
  refine wseq ?_
  refine wcond _ rfl (fun hc2 => ?_) (fun hc2 => ?_)
  · have hif : i < f.ts.length := by have := d_t hc2; omega
    have hT := right_dig hf hn _ (List.getElem_mem hif)
    refine wskip ?_
    show AWp _ _ _ _ _
    refine wseq ?_
    refine wblock ?_
    refine wseq ?_
    refine wreg fun K hK => ?_
    simp [C.impl_DivideLaurents, fS, hif, tS_0 hif, tS_1 hif]
    refine hK _ ?_; clear hK K
    show AWp _ _ _ _ _
    obtain ⟨a0, a1, a2, a3, a4, a5, a6, a7, hpa⟩ := eight (pad_length (e := f.ts[i].e) (by omega))
    have hval := hLJ.val hT.1 (c := f.ts[i].c) (X := 1000000) (by omega) (by omega)
    rw [hpa] at hval
    refine wdrawI [(true, 0), (true, 1), (true, 2), (true, 4), (true, 5), (false, 3), (false, 6)] ⟨by kernel_rfl, by kernel_rfl⟩ ([0, 1, 2, 4, 5, 3] ++ ([6] ++ ([]))) rfl fun K hK => ?_
    refine opsI_seg fun L hL => ?_
    simp [C.impl_DivideLaurents, fS, tS]
    refine wcall1 (impl_keyOf_calls f.ts[i].e (by omega) a0 a1 a2 a3 a4 a5 a6 a7 hpa) (by simp) (by simp) ?_
    simp [C.impl_DivideLaurents, fS, tS]
    refine hL _ ?_; clear hL L
    refine opsI_seg fun L hL => ?_
    simp [C.impl_DivideLaurents, fS, tS]
    refine wcall1 (impl_building_add_calls n f.ts[i].c es a0 a1 a2 a3 a4 a5 a6 a7 (hLJ.map.len8 hv) hval) (by simp) (by simp) ?_
    simp [C.impl_DivideLaurents, fS, tS]
    refine hL _ ?_; clear hL L
    refine opsI_end fun L hL => ?_
    simp only [AOpsI]
    refine hL _ ?_; clear hL L
    simp [C.impl_DivideLaurents, fS, tS]
    rw [← hpa]
    refine hK _ ?_; clear hK K
    show AWp _ _ _ _ _
    refine wreg fun K hK => ?_
    simp [C.impl_DivideLaurents, fS, wrap_succ (show i < 4611686018427387904 by omega)]
    refine hK _ ?_; clear hK K
    simp [C.impl_DivideLaurents, fS]
    refine cast (congrArg R1 ?_) (hR1 (i + 1, madd es (pad f.ts[i].e) f.ts[i].c, (f.ts[i].e, f.ts[i].c) :: l) ⟨hif, ?_, ?_⟩ (by dsimp only; omega))
    · simp [fS, hn]
    · have := hLJ.add hT.1 (c := f.ts[i].c) (X := 1000000) (by omega)
      dsimp only
      rwa [Nat.add_mul, Nat.one_mul]
    · dsimp only
      rw [List.take_succ_eq_append_getElem (by simpa using hif)]
      refine (List.Perm.cons _ hP).trans ?_
      simp only [List.getElem_map, pr]
      exact (List.perm_append_singleton _ _).symm
  · have hif : i = f.ts.length := by have := d_f hc2; omega
    have hall : l.Perm (f.ts.map pr) := by
      rw [List.take_of_length_le (by simp; omega)] at hP
      exact hP
    refine wexit ?_
    refine cast (congrArg (Q0 (.exit 0)) ?_) (hX0 es l (hLJ.mono (by rw [hif]; omega)) hall)
    simp [fS, hn, hif]

theorem impl_DivideLaurents_r21 (f g : Lau) (n : Nat) (hn : f.v = n) (es eo P rest : List (List Int × Int)) (k0 k1 k2 k3 k4 k5 k6 k7 t0 t1 t2 t3 t4 t5 t6 t7 xc : Int) (i : Nat) (i0 : Nat) (Q0 : AEx → St → Prop) (hJ0 : Q0 .normal ⟨ofL [(2, .pt (2, 0) [] 0), (3, .pt (3, 0) [] 0), (4, .pt (4, 0) [] 0), (6, .pt (6, 0) [] 0), (9, .pt (9, 0) [] 0), (10, .pt (10, 0) [] 0), (11, .pt (11, 0) [] 0), (12, .bool (decide (P = []))), (13, .pt (13, 0) [] 0), (65, .it (65, 0) (6, 0) [1] (rest.eraseIdx i) (some ([k0, k1, k2, k3, k4, k5, k6, k7], xc))), (76, .bool (decide (P = [] ∨ lexlt [t0, t1, t2, t3, t4, t5, t6, t7] [k0, k1, k2, k3, k4, k5, k6, k7] = true)))], ofRO [((2, 0), some (.bx (fS f))), ((3, 0), some (.bx (fS g))), ((4, 0), some (.bx [D.int 0, .v (.slice none 0 0)])), ((6, 0), some (.bx [D.int n, .mp es])), ((9, 0), some (.bx [D.int n, .mp eo])), ((10, 0), some (.bx [shI (leadE g), D.int (leadC g)])), ((11, 0), some (.bx [D.int t0, D.int t1, D.int t2, D.int t3, D.int t4, D.int t5, D.int t6, D.int t7])), ((13, 0), some (.bx [D.int k0, D.int k1, D.int k2, D.int k3, D.int k4, D.int k5, D.int k6, D.int k7])), ((65, 0), some .itr)]⟩) : AWp C.impl_DivideLaurents (codeAt Try.f13 [1, 1, 1, 1, 1, 1, 0, 0, 0, 1, 0, 1, 1, 0, 1, 0, 0, 1, 1, 0, 1, 0]) i0 Q0 ⟨ofL [(2, .pt (2, 0) [] 0), (3, .pt (3, 0) [] 0), (4, .pt (4, 0) [] 0), (6, .pt (6, 0) [] 0), (9, .pt (9, 0) [] 0), (10, .pt (10, 0) [] 0), (11, .pt (11, 0) [] 0), (12, .bool (decide (P = []))), (13, .pt (13, 0) [] 0), (65, .it (65, 0) (6, 0) [1] (rest.eraseIdx i) (some ([k0, k1, k2, k3, k4, k5, k6, k7], xc)))], ofRO [((2, 0), some (.bx (fS f))), ((3, 0), some (.bx (fS g))), ((4, 0), some (.bx [D.int 0, .v (.slice none 0 0)])), ((6, 0), some (.bx [D.int n, .mp es])), ((9, 0), some (.bx [D.int n, .mp eo])), ((10, 0), some (.bx [shI (leadE g), D.int (leadC g)])), ((11, 0), some (.bx [D.int t0, D.int t1, D.int t2, D.int t3, D.int t4, D.int t5, D.int t6, D.int t7])), ((13, 0), some (.bx [D.int k0, D.int k1, D.int k2, D.int k3, D.int k4, D.int k5, D.int k6, D.int k7])), ((65, 0), some .itr)]⟩ := by
  simp only [codeAt, Try.f13, walkCode]
  refine wdrawI [(true, 0), (true, 1), (true, 2), (true, 3), (false, 4), (true, 5), (true, 6)] ⟨by kernel_rfl, by kernel_rfl⟩ ([0, 1, 2, 3, 4] ++ ([5, 6])) rfl fun K hK => ?_
  have hJ : K ⟨ofL [(2, .pt (2, 0) [] 0), (3, .pt (3, 0) [] 0), (4, .pt (4, 0) [] 0), (6, .pt (6, 0) [] 0), (9, .pt (9, 0) [] 0), (10, .pt (10, 0) [] 0), (11, .pt (11, 0) [] 0), (12, .bool (decide (P = []))), (13, .pt (13, 0) [] 0), (65, .it (65, 0) (6, 0) [1] (rest.eraseIdx i) (some ([k0, k1, k2, k3, k4, k5, k6, k7], xc))), (76, .bool (decide (P = [] ∨ lexlt [t0, t1, t2, t3, t4, t5, t6, t7] [k0, k1, k2, k3, k4, k5, k6, k7] = true)))], ofRO [((2, 0), some (.bx (fS f))), ((3, 0), some (.bx (fS g))), ((4, 0), some (.bx [D.int 0, .v (.slice none 0 0)])), ((6, 0), some (.bx [D.int n, .mp es])), ((9, 0), some (.bx [D.int n, .mp eo])), ((10, 0), some (.bx [shI (leadE g), D.int (leadC g)])), ((11, 0), some (.bx [D.int t0, D.int t1, D.int t2, D.int t3, D.int t4, D.int t5, D.int t6, D.int t7])), ((13, 0), some (.bx [D.int k0, D.int k1, D.int k2, D.int k3, D.int k4, D.int k5, D.int k6, D.int k7])), ((65, 0), some .itr)]⟩ := by
    refine hK _ ?_; clear hK K
    exact hJ0
  clear hK
  by_cases hp : P = []
  · refine opsI_seg fun L hL => ?_
    simp [C.impl_DivideLaurents, fS, ints, sh8, hp]
    refine hL _ ?_; clear hL L
    refine opsI_end fun L hL => ?_
    simp [C.impl_DivideLaurents, fS, ints, sh8, hp]
    refine hL _ ?_; clear hL L
    simp [C.impl_DivideLaurents, fS, ints, sh8, hp]
    refine cast (congrArg K ?_) hJ
    simp [cmpL_gt, hn, fS, hp]
  · refine opsI_seg fun L hL => ?_
    simp [C.impl_DivideLaurents, fS, ints, sh8, hp]
    refine wcall1 (slices_Compare_int_int_calls [k0, k1, k2, k3, k4, k5, k6, k7] [t0, t1, t2, t3, t4, t5, t6, t7] (by simp)) (by simp [fS, ints, sh8]) (by simp) ?_
    simp [C.impl_DivideLaurents, fS, ints, sh8, hp]
    refine hL _ ?_; clear hL L
    refine opsI_end fun L hL => ?_
    simp [C.impl_DivideLaurents, fS, ints, sh8, hp]
    refine hL _ ?_; clear hL L
    simp [C.impl_DivideLaurents, fS, ints, sh8, hp]
    refine cast (congrArg K ?_) hJ
    simp [cmpL_gt, hn, fS, hp]

theorem impl_DivideLaurents_l3 (f g : Lau) (n : Nat) (hn : f.v = n) (es eo : List (List Int × Int)) (hm8 : mapLen 8 es) (Q0 : AEx → St → Prop) (hX0 : ∀ P top cur, P.Perm es → TopJ P top → Q0 (.exit 4) ⟨ofL [(2, .pt (2, 0) [] 0), (3, .pt (3, 0) [] 0), (4, .pt (4, 0) [] 0), (6, .pt (6, 0) [] 0), (9, .pt (9, 0) [] 0), (10, .pt (10, 0) [] 0), (11, .pt (11, 0) [] 0), (12, .bool (decide (P = []))), (65, .it (65, 0) (6, 0) [1] [] cur), (67, .bool false)], ofRO [((2, 0), some (.bx (fS f))), ((3, 0), some (.bx (fS g))), ((4, 0), some (.bx [D.int 0, .v (.slice none 0 0)])), ((6, 0), some (.bx [D.int n, .mp es])), ((9, 0), some (.bx [D.int n, .mp eo])), ((10, 0), some (.bx [shI (leadE g), D.int (leadC g)])), ((11, 0), some (.bx (ints top))), ((65, 0), some .itr)]⟩) : AWp C.impl_DivideLaurents (codeAt Try.f13 [1, 1, 1, 1, 1, 1, 0, 0, 0, 1, 0, 1, 1, 0, 1, 0]) 4 Q0 ⟨ofL [(2, .pt (2, 0) [] 0), (3, .pt (3, 0) [] 0), (4, .pt (4, 0) [] 0), (6, .pt (6, 0) [] 0), (9, .pt (9, 0) [] 0), (10, .pt (10, 0) [] 0), (11, .pt (11, 0) [] 0), (12, .bool (decide (([] : List (List Int × Int)) = []))), (65, .it (65, 0) (6, 0) [1] es none)], ofRO [((2, 0), some (.bx (fS f))), ((3, 0), some (.bx (fS g))), ((4, 0), some (.bx [D.int 0, .v (.slice none 0 0)])), ((6, 0), some (.bx [D.int n, .mp es])), ((9, 0), some (.bx [D.int n, .mp eo])), ((10, 0), some (.bx [shI (leadE g), D.int (leadC g)])), ((11, 0), some (.bx (ints [0, 0, 0, 0, 0, 0, 0, 0]))), ((65, 0), some .itr)]⟩ := by
  simp only [codeAt, Try.f13, walkCode]
  refine wloop (fun x : List (List Int × Int) × List Int × List (List Int × Int) × Option (List Int × Int) => ⟨ofL [(2, .pt (2, 0) [] 0), (3, .pt (3, 0) [] 0), (4, .pt (4, 0) [] 0), (6, .pt (6, 0) [] 0), (9, .pt (9, 0) [] 0), (10, .pt (10, 0) [] 0), (11, .pt (11, 0) [] 0), (12, .bool (decide (x.1 = []))), (65, .it (65, 0) (6, 0) [1] x.2.2.1 x.2.2.2)], ofRO [((2, 0), some (.bx (fS f))), ((3, 0), some (.bx (fS g))), ((4, 0), some (.bx [D.int 0, .v (.slice none 0 0)])), ((6, 0), some (.bx [D.int n, .mp es])), ((9, 0), some (.bx [D.int n, .mp eo])), ((10, 0), some (.bx [shI (leadE g), D.int (leadC g)])), ((11, 0), some (.bx (ints x.2.1))), ((65, 0), some .itr)]⟩) (fun x => (x.1 ++ x.2.2.1).Perm es ∧ TopJ x.1 x.2.1) (fun x => x.2.2.1.length) ([], [0, 0, 0, 0, 0, 0, 0, 0], es, none) (by simp [C.impl_DivideLaurents, fS, hn, ints]) ⟨by simp, ⟨rfl, by simp, by simp⟩⟩ ?_
  intro x3 hx3 R3 hR3
  obtain ⟨P, top, rest, cur⟩ := x3
  obtain ⟨hq, hT⟩ := hx3
  dsimp only at hq hT ⊢
  refine wseq ?_
  refine wreg fun K hK => ?_
  simp [C.impl_DivideLaurents, fS]
  refine ⟨fun hrest => ?_, fun i xk xc hxi => ?_⟩
  · refine hK _ ?_; clear hK K
    show AWp _ _ _ _ _
    refine wseq ?_
    refine wcond _ rfl (fun hc4 => ?_) (fun hc4 => ?_)
    · simp at hc4
    · subst hrest
      have hqe : P.Perm es := by simpa using hq
      refine wexit ?_
      refine cast (congrArg (Q0 (.exit 4)) ?_) (hX0 P top cur hqe hT)
      simp [fS, hn]
  · refine hK _ ?_; clear hK K
    show AWp _ _ _ _ _
    refine wseq ?_
    refine wcond _ rfl (fun hc6 => ?_) (fun hc6 => ?_)
    · have hxm : (xk, xc) ∈ rest := List.mem_of_getElem? hxi
      have hxl := hm8 _ (hq.subset (List.mem_append_right P hxm))
      dsimp only at hxl
      obtain ⟨k0, k1, k2, k3, k4, k5, k6, k7, rfl⟩ := eight hxl
      obtain ⟨t0, t1, t2, t3, t4, t5, t6, t7, rfl⟩ := eight hT.len
      have hil : i < rest.length := by
        rcases Nat.lt_or_ge i rest.length with h | h
        · exact h
        · rw [List.getElem?_eq_none h] at hxi; simp at hxi
      have hper : (P ++ [([k0, k1, k2, k3, k4, k5, k6, k7], xc)] ++ rest.eraseIdx i).Perm es := by
        have hget : rest[i] = ([k0, k1, k2, k3, k4, k5, k6, k7], xc) := by
          rw [List.getElem?_eq_getElem hil] at hxi
          injection hxi
        have h9 := erase_perm rest i hil
        rw [hget] at h9
        refine List.Perm.trans ?_ hq
        rw [List.append_assoc]
        exact List.Perm.append_left _ h9
      refine wskip ?_
      show AWp _ _ _ _ _
      refine wblock ?_
      refine wseq ?_
      refine wreg fun K hK => ?_
      simp [C.impl_DivideLaurents, fS, ints]
      refine hK _ ?_; clear hK K
      show AWp _ _ _ _ _
      refine wseq ?_
      refine wcode (c' := codeAt Try.f13 [1, 1, 1, 1, 1, 1, 0, 0, 0, 1, 0, 1, 1, 0, 1, 0, 0, 1, 1, 0, 1, 0]) (by kernel_rfl) ?_
      refine impl_DivideLaurents_r21 f g n hn es eo P rest k0 k1 k2 k3 k4 k5 k6 k7 t0 t1 t2 t3 t4 t5 t6 t7 xc i _ _ ?_
      show AWp _ _ _ _ _
      refine wcond _ rfl (fun hc7 => ?_) (fun hc7 => ?_)
      · have hcm := d_t hc7
        refine wreg fun K hK => ?_
        simp [C.impl_DivideLaurents, fS]
        refine hK _ ?_; clear hK K
        simp [C.impl_DivideLaurents, fS]
        refine cast (congrArg R3 ?_) (hR3 (P ++ [([k0, k1, k2, k3, k4, k5, k6, k7], xc)], [k0, k1, k2, k3, k4, k5, k6, k7], rest.eraseIdx i, some ([k0, k1, k2, k3, k4, k5, k6, k7], xc)) ⟨hper, hT.next rfl hcm⟩ (by dsimp only; rw [List.length_eraseIdx_of_lt hil]; omega))
        simp [fS, hn, ints]
      · have hcm := d_f hc7
        have hPn : P ≠ [] := fun e => hcm (.inl e)
        have hlt : lexlt [t0, t1, t2, t3, t4, t5, t6, t7] [k0, k1, k2, k3, k4, k5, k6, k7] = false := by
          cases hh : lexlt [t0, t1, t2, t3, t4, t5, t6, t7] [k0, k1, k2, k3, k4, k5, k6, k7] with
          | false => rfl
          | true => exact absurd (.inr hh) hcm
        refine wskip ?_
        simp [C.impl_DivideLaurents, fS]
        refine cast (congrArg R3 ?_) (hR3 (P ++ [([k0, k1, k2, k3, k4, k5, k6, k7], xc)], [t0, t1, t2, t3, t4, t5, t6, t7], rest.eraseIdx i, some ([k0, k1, k2, k3, k4, k5, k6, k7], xc)) ⟨hper, hT.keep hPn hlt⟩ (by dsimp only; rw [List.length_eraseIdx_of_lt hil]; omega))
        simp [fS, hn, ints, hPn]
    · simp at hc6

theorem impl_DivideLaurents_r24 (f g : Lau) (n : Nat) (es eo : List (List Int × Int)) (a0 a1 a2 a3 a4 a5 a6 a7 b0 b1 b2 b3 b4 b5 b6 b7 c : Int) (hgl8 : (leadE g).length ≤ 8) (hpb : pad (leadE g) = [b0, b1, b2, b3, b4, b5, b6, b7]) (hba : ∀ x ∈ [a0, a1, a2, a3, a4, a5, a6, a7], -1000000 ≤ x ∧ x ≤ 1000000) (hbb : ∀ x ∈ [b0, b1, b2, b3, b4, b5, b6, b7], -1000000 ≤ x ∧ x ≤ 1000000) (i0 : Nat) (Q0 : AEx → St → Prop) (hJ0 : Q0 .normal ⟨ofL [(2, .pt (2, 0) [] 0), (3, .pt (3, 0) [] 0), (4, .pt (4, 0) [] 0), (6, .pt (6, 0) [] 0), (9, .pt (9, 0) [] 0), (10, .pt (10, 0) [] 0), (14, .int c), (15, .pt (15, 0) [] 0)], ofRO [((2, 0), some (.bx (fS f))), ((3, 0), some (.bx (fS g))), ((4, 0), some (.bx [D.int 0, .v (.slice none 0 0)])), ((6, 0), some (.bx [D.int n, .mp es])), ((9, 0), some (.bx [D.int n, .mp eo])), ((10, 0), some (.bx [shI (leadE g), D.int (leadC g)])), ((15, 0), some (.bx [D.int (a0 + -1 * b0), D.int (a1 + -1 * b1), D.int (a2 + -1 * b2), D.int (a3 + -1 * b3), D.int (a4 + -1 * b4), D.int (a5 + -1 * b5), D.int (a6 + -1 * b6), D.int (a7 + -1 * b7)]))]⟩) : AWp C.impl_DivideLaurents (codeAt Try.f13 [1, 1, 1, 1, 1, 1, 0, 0, 0, 1, 0, 1, 1, 1, 1, 0]) i0 Q0 ⟨ofL [(2, .pt (2, 0) [] 0), (3, .pt (3, 0) [] 0), (4, .pt (4, 0) [] 0), (6, .pt (6, 0) [] 0), (9, .pt (9, 0) [] 0), (10, .pt (10, 0) [] 0), (11, .pt (11, 0) [] 0), (14, .int c)], ofRO [((2, 0), some (.bx (fS f))), ((3, 0), some (.bx (fS g))), ((4, 0), some (.bx [D.int 0, .v (.slice none 0 0)])), ((6, 0), some (.bx [D.int n, .mp es])), ((9, 0), some (.bx [D.int n, .mp eo])), ((10, 0), some (.bx [shI (leadE g), D.int (leadC g)])), ((11, 0), some (.bx (ints [a0, a1, a2, a3, a4, a5, a6, a7])))]⟩ := by
  simp only [codeAt, Try.f13, walkCode]
  refine wdraw (.take 0 (.take 1 (.take 2 (.all [(3, .all [(4, .all [(5, .all [(6, .done)])]), (5, .all [(4, .all [(6, .done)])])]), (5, .all [(3, .all [(4, .all [(6, .done)])])])])))) ⟨by kernel_rfl, by kernel_rfl⟩ fun K hK => ?_
  have hJ : K ⟨ofL [(2, .pt (2, 0) [] 0), (3, .pt (3, 0) [] 0), (4, .pt (4, 0) [] 0), (6, .pt (6, 0) [] 0), (9, .pt (9, 0) [] 0), (10, .pt (10, 0) [] 0), (14, .int c), (15, .pt (15, 0) [] 0)], ofRO [((2, 0), some (.bx (fS f))), ((3, 0), some (.bx (fS g))), ((4, 0), some (.bx [D.int 0, .v (.slice none 0 0)])), ((6, 0), some (.bx [D.int n, .mp es])), ((9, 0), some (.bx [D.int n, .mp eo])), ((10, 0), some (.bx [shI (leadE g), D.int (leadC g)])), ((15, 0), some (.bx [D.int (a0 + -1 * b0), D.int (a1 + -1 * b1), D.int (a2 + -1 * b2), D.int (a3 + -1 * b3), D.int (a4 + -1 * b4), D.int (a5 + -1 * b5), D.int (a6 + -1 * b6), D.int (a7 + -1 * b7)]))]⟩ := by
    refine hK _ ?_; clear hK K
    exact hJ0
  clear hK
  have hk1 := impl_keyOf_calls (leadE g) (by omega) b0 b1 b2 b3 b4 b5 b6 b7 hpb
  have hk2 := impl_plusExp_calls (-1) a0 a1 a2 a3 a4 a5 a6 a7 b0 b1 b2 b3 b4 b5 b6 b7 (by omega) hba hbb
  simp [C.impl_DivideLaurents, fS, ints]
  repeat' first
    | (refine wcall1 hk1 (by simp) (by simp) ?_; simp [C.impl_DivideLaurents, fS])
    | (refine wcall1 hk2 (by simp) (by simp) ?_; simp [C.impl_DivideLaurents, fS])
    | (refine cast (congrArg K ?_) hJ; simp [fS]; done)
    | refine ⟨?_, ?_⟩

theorem impl_DivideLaurents_r26 (f g : Lau) (n : Nat) (hn : f.v = n) (hv : n ≤ 8) (es eo O : List (List Int × Int)) (E : List Int) (e0 e1 e2 e3 e4 e5 e6 e7 c q : Int) (hgc0 : leadC g ≠ 0) (hsh : shareL (List.take n [D.v (.int .i64 e0), D.v (.int .i64 e1), D.v (.int .i64 e2), D.v (.int .i64 e3), D.v (.int .i64 e4), D.v (.int .i64 e5), D.v (.int .i64 e6), D.v (.int .i64 e7)]) = ints E) (hEl : E.length = n) (heol : eo.length = O.length) (i0 : Nat) (Q0 : AEx → St → Prop) (hJ0 : Q0 .normal ⟨ofL [(2, .pt (2, 0) [] 0), (3, .pt (3, 0) [] 0), (4, .pt (4, 0) [] 0), (6, .pt (6, 0) [] 0), (9, .pt (9, 0) [] 0), (10, .pt (10, 0) [] 0), (15, .pt (15, 0) [] 0), (16, .int q), (119, .bool (!decide (((c.tmod (leadC g) = 0 ∧ okE E n = true) ∧ (q ≠ 0 ∧ -1000000 ≤ q ∧ q ≤ 1000000)) ∧ ¬ O.length = 600)))], ofRO [((2, 0), some (.bx (fS f))), ((3, 0), some (.bx (fS g))), ((4, 0), some (.bx [D.int 0, .v (.slice none 0 0)])), ((6, 0), some (.bx [D.int n, .mp es])), ((9, 0), some (.bx [D.int n, .mp eo])), ((10, 0), some (.bx [shI (leadE g), D.int (leadC g)])), ((15, 0), some (.bx [D.int e0, D.int e1, D.int e2, D.int e3, D.int e4, D.int e5, D.int e6, D.int e7]))]⟩) : AWp C.impl_DivideLaurents (codeAt Try.f13 [1, 1, 1, 1, 1, 1, 0, 0, 0, 1, 0, 1, 1, 1, 1, 1, 1, 0, 0]) i0 Q0 ⟨ofL [(2, .pt (2, 0) [] 0), (3, .pt (3, 0) [] 0), (4, .pt (4, 0) [] 0), (6, .pt (6, 0) [] 0), (9, .pt (9, 0) [] 0), (10, .pt (10, 0) [] 0), (14, .int c), (15, .pt (15, 0) [] 0), (16, .int q)], ofRO [((2, 0), some (.bx (fS f))), ((3, 0), some (.bx (fS g))), ((4, 0), some (.bx [D.int 0, .v (.slice none 0 0)])), ((6, 0), some (.bx [D.int n, .mp es])), ((9, 0), some (.bx [D.int n, .mp eo])), ((10, 0), some (.bx [shI (leadE g), D.int (leadC g)])), ((15, 0), some (.bx [D.int e0, D.int e1, D.int e2, D.int e3, D.int e4, D.int e5, D.int e6, D.int e7]))]⟩ := by
  simp only [codeAt, Try.f13, walkCode]
  refine wdrawI [(true, 0), (true, 1), (true, 2), (true, 3), (true, 4), (true, 5), (true, 6), (true, 7), (true, 8), (true, 9), (true, 10), (false, 11), (true, 12), (true, 13), (true, 14), (true, 15), (false, 16), (true, 17), (true, 18), (true, 19), (true, 20), (true, 21), (true, 22), (true, 23), (true, 24), (true, 25), (true, 26)] ⟨by kernel_rfl, by kernel_rfl⟩ ([0, 1, 2, 3, 4, 5, 6, 7, 8, 9, 10, 11] ++ ([12, 13, 14, 15, 16] ++ ([17, 18, 19, 20, 21, 22, 23, 24, 25, 26]))) rfl fun K hK => ?_
  have hJ : K ⟨ofL [(2, .pt (2, 0) [] 0), (3, .pt (3, 0) [] 0), (4, .pt (4, 0) [] 0), (6, .pt (6, 0) [] 0), (9, .pt (9, 0) [] 0), (10, .pt (10, 0) [] 0), (15, .pt (15, 0) [] 0), (16, .int q), (119, .bool (!decide (((c.tmod (leadC g) = 0 ∧ okE E n = true) ∧ (q ≠ 0 ∧ -1000000 ≤ q ∧ q ≤ 1000000)) ∧ ¬ O.length = 600)))], ofRO [((2, 0), some (.bx (fS f))), ((3, 0), some (.bx (fS g))), ((4, 0), some (.bx [D.int 0, .v (.slice none 0 0)])), ((6, 0), some (.bx [D.int n, .mp es])), ((9, 0), some (.bx [D.int n, .mp eo])), ((10, 0), some (.bx [shI (leadE g), D.int (leadC g)])), ((15, 0), some (.bx [D.int e0, D.int e1, D.int e2, D.int e3, D.int e4, D.int e5, D.int e6, D.int e7]))]⟩ := by
    refine hK _ ?_; clear hK K
    exact hJ0
  clear hK
  by_cases g1 : c.tmod (leadC g) = 0
  · by_cases g2 : okE E n = true
    · by_cases g3 : (q ≠ 0 ∧ -1000000 ≤ q ∧ q ≤ 1000000)
      · refine opsI_seg fun L hL => ?_
        simp [C.impl_DivideLaurents, fS, hgc0, hn, show ((n : Int) ≤ 8) by omega, hv, Nat.min_eq_left hv, hsh, hEl, heol, g1, g2, g3]
        refine wcall1 (impl_expOk_calls E n (by omega)) (by simp [fS, hgc0, hn, show ((n : Int) ≤ 8) by omega, hv, Nat.min_eq_left hv, hsh, hEl, heol]) (by simp) ?_
        simp [C.impl_DivideLaurents, fS, hgc0, hn, show ((n : Int) ≤ 8) by omega, hv, Nat.min_eq_left hv, hsh, hEl, heol, g1, g2, g3]
        refine hL _ ?_; clear hL L
        refine opsI_seg fun L hL => ?_
        simp [C.impl_DivideLaurents, fS, hgc0, hn, show ((n : Int) ≤ 8) by omega, hv, Nat.min_eq_left hv, hsh, hEl, heol, g1, g2, g3]
        refine wcall1 (impl_coefOk_calls q) (by simp) (by simp) ?_
        simp [C.impl_DivideLaurents, fS, hgc0, hn, show ((n : Int) ≤ 8) by omega, hv, Nat.min_eq_left hv, hsh, hEl, heol, g1, g2, g3]
        refine hL _ ?_; clear hL L
        refine opsI_end fun L hL => ?_
        simp [C.impl_DivideLaurents, fS, hgc0, hn, show ((n : Int) ≤ 8) by omega, hv, Nat.min_eq_left hv, hsh, hEl, heol, g1, g2, g3]
        refine hL _ ?_; clear hL L
        simp [C.impl_DivideLaurents, fS, hgc0, hn, show ((n : Int) ≤ 8) by omega, hv, Nat.min_eq_left hv, hsh, hEl, heol, g1, g2, g3]
        refine cast (congrArg K ?_) hJ
        simp [ieq600, hn, fS, g1, g2, g3]
      · refine opsI_seg fun L hL => ?_
        simp [C.impl_DivideLaurents, fS, hgc0, hn, show ((n : Int) ≤ 8) by omega, hv, Nat.min_eq_left hv, hsh, hEl, heol, g1, g2, g3]
        refine wcall1 (impl_expOk_calls E n (by omega)) (by simp [fS, hgc0, hn, show ((n : Int) ≤ 8) by omega, hv, Nat.min_eq_left hv, hsh, hEl, heol]) (by simp) ?_
        simp [C.impl_DivideLaurents, fS, hgc0, hn, show ((n : Int) ≤ 8) by omega, hv, Nat.min_eq_left hv, hsh, hEl, heol, g1, g2, g3]
        refine hL _ ?_; clear hL L
        refine opsI_seg fun L hL => ?_
        simp [C.impl_DivideLaurents, fS, hgc0, hn, show ((n : Int) ≤ 8) by omega, hv, Nat.min_eq_left hv, hsh, hEl, heol, g1, g2, g3]
        refine wcall1 (impl_coefOk_calls q) (by simp) (by simp) ?_
        simp [C.impl_DivideLaurents, fS, hgc0, hn, show ((n : Int) ≤ 8) by omega, hv, Nat.min_eq_left hv, hsh, hEl, heol, g1, g2, g3]
        refine hL _ ?_; clear hL L
        refine opsI_end fun L hL => ?_
        simp [C.impl_DivideLaurents, fS, hgc0, hn, show ((n : Int) ≤ 8) by omega, hv, Nat.min_eq_left hv, hsh, hEl, heol, g1, g2, g3]
        refine hL _ ?_; clear hL L
        simp [C.impl_DivideLaurents, fS, hgc0, hn, show ((n : Int) ≤ 8) by omega, hv, Nat.min_eq_left hv, hsh, hEl, heol, g1, g2, g3]
        refine cast (congrArg K ?_) hJ
        simp [ieq600, hn, fS, g1, g2, g3]
    · refine opsI_seg fun L hL => ?_
      simp [C.impl_DivideLaurents, fS, hgc0, hn, show ((n : Int) ≤ 8) by omega, hv, Nat.min_eq_left hv, hsh, hEl, heol, g1, g2]
      refine wcall1 (impl_expOk_calls E n (by omega)) (by simp [fS, hgc0, hn, show ((n : Int) ≤ 8) by omega, hv, Nat.min_eq_left hv, hsh, hEl, heol]) (by simp) ?_
      simp [C.impl_DivideLaurents, fS, hgc0, hn, show ((n : Int) ≤ 8) by omega, hv, Nat.min_eq_left hv, hsh, hEl, heol, g1, g2]
      refine hL _ ?_; clear hL L
      refine opsI_seg fun L hL => ?_
      simp [C.impl_DivideLaurents, fS, hgc0, hn, show ((n : Int) ≤ 8) by omega, hv, Nat.min_eq_left hv, hsh, hEl, heol, g1, g2]
      refine hL _ ?_; clear hL L
      refine opsI_end fun L hL => ?_
      simp [C.impl_DivideLaurents, fS, hgc0, hn, show ((n : Int) ≤ 8) by omega, hv, Nat.min_eq_left hv, hsh, hEl, heol, g1, g2]
      refine hL _ ?_; clear hL L
      simp [C.impl_DivideLaurents, fS, hgc0, hn, show ((n : Int) ≤ 8) by omega, hv, Nat.min_eq_left hv, hsh, hEl, heol, g1, g2]
      refine cast (congrArg K ?_) hJ
      simp [ieq600, hn, fS, g1, g2]
  · refine opsI_seg fun L hL => ?_
    simp [C.impl_DivideLaurents, fS, hgc0, hn, show ((n : Int) ≤ 8) by omega, hv, Nat.min_eq_left hv, hsh, hEl, heol, g1]
    refine hL _ ?_; clear hL L
    refine opsI_seg fun L hL => ?_
    simp [C.impl_DivideLaurents, fS, hgc0, hn, show ((n : Int) ≤ 8) by omega, hv, Nat.min_eq_left hv, hsh, hEl, heol, g1]
    refine hL _ ?_; clear hL L
    refine opsI_end fun L hL => ?_
    simp [C.impl_DivideLaurents, fS, hgc0, hn, show ((n : Int) ≤ 8) by omega, hv, Nat.min_eq_left hv, hsh, hEl, heol, g1]
    refine hL _ ?_; clear hL L
    simp [C.impl_DivideLaurents, fS, hgc0, hn, show ((n : Int) ≤ 8) by omega, hv, Nat.min_eq_left hv, hsh, hEl, heol, g1]
    refine cast (congrArg K ?_) hJ
    simp [ieq600, hn, fS, g1]

theorem impl_DivideLaurents_l4 (f g : Lau) (n : Nat) (hn : f.v = n) (hgn : g.v = n) (hv : n ≤ 8) (hg : Right g) (hgl : g.ts.length ≤ 600) (es l eo2 O : List (List Int × Int)) (hOl : O.length ≤ 600) (hLr : LJ n es l (600000000 + O.length * 600000000000000)) (E : List Int) (hEl : E.length = n) (e0 e1 e2 e3 e4 e5 e6 e7 q : Int) (hpe : pad E = [e0, e1, e2, e3, e4, e5, e6, e7]) (hbe : ∀ x ∈ [e0, e1, e2, e3, e4, e5, e6, e7], -1000000 ≤ x ∧ x ≤ 1000000) (g3 : q ≠ 0 ∧ -1000000 ≤ q ∧ q ≤ 1000000) (Q0 : AEx → St → Prop) (hX0 : ∀ es2 l2, LJ n es2 l2 (600000000 + O.length * 600000000000000 + 600000000000000) → l2.Perm (l ++ negT E q g.ts) → Q0 (.exit 6) ⟨ofL [(2, .pt (2, 0) [] 0), (3, .pt (3, 0) [] 0), (4, .pt (4, 0) [] 0), (6, .pt (6, 0) [] 0), (9, .pt (9, 0) [] 0), (10, .pt (10, 0) [] 0), (15, .pt (15, 0) [] 0), (16, .int q), (126, .d (.sh 2 g.ts.length (rows tS g.ts))), (127, .int g.ts.length), (128, .int g.ts.length), (129, .bool false)], ofRO [((2, 0), some (.bx (fS f))), ((3, 0), some (.bx (fS g))), ((4, 0), some (.bx [D.int 0, .v (.slice none 0 0)])), ((6, 0), some (.bx [D.int n, .mp es2])), ((9, 0), some (.bx [D.int n, .mp eo2])), ((10, 0), some (.bx [shI (leadE g), D.int (leadC g)])), ((15, 0), some (.bx [D.int e0, D.int e1, D.int e2, D.int e3, D.int e4, D.int e5, D.int e6, D.int e7]))]⟩) : AWp C.impl_DivideLaurents (codeAt Try.f13 [1, 1, 1, 1, 1, 1, 0, 0, 0, 1, 0, 1, 1, 1, 1, 1, 1, 1, 1, 1, 0]) 6 Q0 ⟨ofL [(2, .pt (2, 0) [] 0), (3, .pt (3, 0) [] 0), (4, .pt (4, 0) [] 0), (6, .pt (6, 0) [] 0), (9, .pt (9, 0) [] 0), (10, .pt (10, 0) [] 0), (15, .pt (15, 0) [] 0), (16, .int q), (126, .d (.sh 2 g.ts.length (rows tS g.ts))), (127, .int g.ts.length), (128, .int 0)], ofRO [((2, 0), some (.bx (fS f))), ((3, 0), some (.bx (fS g))), ((4, 0), some (.bx [D.int 0, .v (.slice none 0 0)])), ((6, 0), some (.bx [D.int n, .mp es])), ((9, 0), some (.bx [D.int n, .mp eo2])), ((10, 0), some (.bx [shI (leadE g), D.int (leadC g)])), ((15, 0), some (.bx [D.int e0, D.int e1, D.int e2, D.int e3, D.int e4, D.int e5, D.int e6, D.int e7]))]⟩ := by
  simp only [codeAt, Try.f13, walkCode]
  refine wloop (fun x : Nat × List (List Int × Int) × List (List Int × Int) => ⟨ofL [(2, .pt (2, 0) [] 0), (3, .pt (3, 0) [] 0), (4, .pt (4, 0) [] 0), (6, .pt (6, 0) [] 0), (9, .pt (9, 0) [] 0), (10, .pt (10, 0) [] 0), (15, .pt (15, 0) [] 0), (16, .int q), (126, .d (.sh 2 g.ts.length (rows tS g.ts))), (127, .int g.ts.length), (128, .int x.1)], ofRO [((2, 0), some (.bx (fS f))), ((3, 0), some (.bx (fS g))), ((4, 0), some (.bx [D.int 0, .v (.slice none 0 0)])), ((6, 0), some (.bx [D.int n, .mp x.2.1])), ((9, 0), some (.bx [D.int n, .mp eo2])), ((10, 0), some (.bx [shI (leadE g), D.int (leadC g)])), ((15, 0), some (.bx [D.int e0, D.int e1, D.int e2, D.int e3, D.int e4, D.int e5, D.int e6, D.int e7]))]⟩) (fun x => x.1 ≤ g.ts.length ∧ LJ n x.2.1 x.2.2 (600000000 + O.length * 600000000000000 + x.1 * 1000000000000) ∧ x.2.2.Perm (l ++ negT E q (g.ts.take x.1))) (fun x => g.ts.length - x.1) (0, es, l) (by simp [C.impl_DivideLaurents, fS, hn, hgn, hpe]) ⟨by simp, hLr.mono (by dsimp only; omega), by simp [negT]⟩ ?_
  intro x4 hx4 R4 hR4
  obtain ⟨j, es2, l2⟩ := x4
  obtain ⟨hj, hL2, hP2⟩ := hx4
  dsimp only at hj hL2 hP2 ⊢
  refine wseq ?_
  refine wreg fun K hK => ?_
  simp [C.impl_DivideLaurents, fS]
  refine hK _ ?_; clear hK K
  show AWp _ _ _ _ _
  refine wseq ?_
  refine wcond _ rfl (fun hc9 => ?_) (fun hc9 => ?_)
  · have hjg : j < g.ts.length := by have := d_t hc9; omega
    have hU := right_dig hg hgn _ (List.getElem_mem hjg)
    refine wskip ?_
    show AWp _ _ _ _ _
    refine wseq ?_
    refine wblock ?_
    refine wseq ?_
    refine wreg fun K hK => ?_
    simp [C.impl_DivideLaurents, fS, hjg, tS_0 hjg, tS_1 hjg]
    refine hK _ ?_; clear hK K
    show AWp _ _ _ _ _
    obtain ⟨u0, u1, u2, u3, u4, u5, u6, u7, hpu⟩ := eight (pad_length (e := g.ts[j].e) (by omega))
    have hbu := pad_bd hU.2.2.1
    rw [hpu] at hbu
    have hadd : [e0 + 1 * u0, e1 + 1 * u1, e2 + 1 * u2, e3 + 1 * u3, e4 + 1 * u4, e5 + 1 * u5, e6 + 1 * u6, e7 + 1 * u7] = pad (addE 1 E g.ts[j].e) := by
      rw [← pad_add (by omega), hpe, hpu]
      simp [addE]
    have hnl : (addE 1 E g.ts[j].e).length = n := by rw [addE_length _ _ _ (by omega)]; exact hEl
    have hcc := mul_bd (x := -q) (y := g.ts[j].c) (by omega) hU.2.2.2
    have hvj := hL2.val hnl (c := -q * g.ts[j].c) (X := 1000000000000) (by omega) (by omega)
    rw [← hadd] at hvj
    refine wdrawI [(true, 0), (true, 1), (true, 2), (true, 3), (true, 6), (true, 7), (true, 8), (true, 9), (true, 10), (false, 4), (false, 5), (false, 11)] ⟨by kernel_rfl, by kernel_rfl⟩ ([0, 1, 2, 3, 6, 7, 8, 9, 10, 4] ++ ([5] ++ ([11] ++ ([])))) rfl fun K hK => ?_
    refine opsI_seg fun L hL => ?_
    simp [C.impl_DivideLaurents, fS, tS, wrapOk (x := -q) (by omega) (by omega), wrapOk (x := -q * g.ts[j].c) (by omega) (by omega)]
    refine wcall1 (impl_keyOf_calls g.ts[j].e (by omega) u0 u1 u2 u3 u4 u5 u6 u7 hpu) (by simp) (by simp) ?_
    simp [C.impl_DivideLaurents, fS, tS, wrapOk (x := -q) (by omega) (by omega), wrapOk (x := -q * g.ts[j].c) (by omega) (by omega)]
    refine hL _ ?_; clear hL L
    refine opsI_seg fun L hL => ?_
    simp [C.impl_DivideLaurents, fS, tS, wrapOk (x := -q) (by omega) (by omega), wrapOk (x := -q * g.ts[j].c) (by omega) (by omega)]
    refine wcall1 (impl_plusExp_calls 1 e0 e1 e2 e3 e4 e5 e6 e7 u0 u1 u2 u3 u4 u5 u6 u7 (by omega) hbe hbu) (by simp) (by simp) ?_
    simp [C.impl_DivideLaurents, fS, tS, wrapOk (x := -q) (by omega) (by omega), wrapOk (x := -q * g.ts[j].c) (by omega) (by omega)]
    refine hL _ ?_; clear hL L
    refine opsI_seg fun L hL => ?_
    simp [C.impl_DivideLaurents, fS, tS, wrapOk (x := -q) (by omega) (by omega), wrapOk (x := -q * g.ts[j].c) (by omega) (by omega)]
    refine wcall1 (impl_building_add_calls n (-q * g.ts[j].c) es2 (e0 + 1 * u0) (e1 + 1 * u1) (e2 + 1 * u2) (e3 + 1 * u3) (e4 + 1 * u4) (e5 + 1 * u5) (e6 + 1 * u6) (e7 + 1 * u7) (hL2.map.len8 hv) hvj) (by simp) (by simp) ?_
    simp [C.impl_DivideLaurents, fS, tS, wrapOk (x := -q) (by omega) (by omega), wrapOk (x := -q * g.ts[j].c) (by omega) (by omega)]
    refine hL _ ?_; clear hL L
    refine opsI_end fun L hL => ?_
    simp only [AOpsI]
    refine hL _ ?_; clear hL L
    simp [C.impl_DivideLaurents, fS, tS, wrapOk (x := -q) (by omega) (by omega), wrapOk (x := -q * g.ts[j].c) (by omega) (by omega)]
    simp only [Int.one_mul] at hadd
    rw [hadd]
    refine hK _ ?_; clear hK K
    show AWp _ _ _ _ _
    refine wreg fun K hK => ?_
    simp [C.impl_DivideLaurents, fS, wrap_succ (show j < 4611686018427387904 by omega)]
    refine hK _ ?_; clear hK K
    simp [C.impl_DivideLaurents, fS]
    refine cast (congrArg R4 ?_) (hR4 (j + 1, madd es2 (pad (addE 1 E g.ts[j].e)) (-q * g.ts[j].c), (addE 1 E g.ts[j].e, -q * g.ts[j].c) :: l2) ⟨hjg, ?_, ?_⟩ (by dsimp only; omega))
    · simp [fS, hn, hgn]
    · have := hL2.add hnl (c := -q * g.ts[j].c) (X := 1000000000000) (by omega)
      exact this.mono (by dsimp only; omega)
    · dsimp only
      rw [negT_step hjg, ← List.append_assoc]
      exact (List.Perm.cons _ hP2).trans (List.perm_append_singleton _ _).symm
  · have hjg : j = g.ts.length := by have := d_f hc9; omega
    rw [hjg, List.take_length] at hP2
    refine wexit ?_
    refine cast (congrArg (Q0 (.exit 6)) ?_) (hX0 es2 l2 (hL2.mono (by omega)) hP2)
    simp [fS, hn, hgn, hjg]

theorem impl_DivideLaurents_calls (hDone : DoneOk) (f g : Lau) (hx : f.ts.length < 4611686018427387904) (hxe : ∀ t ∈ f.ts, t.e.length < 4611686018427387904) (hy : g.ts.length < 4611686018427387904) (hye : ∀ t ∈ g.ts, t.e.length < 4611686018427387904) : ACalls Try.prog F.impl_DivideLaurents [aF f, aF g] [] true (fun outs res => outs = [] ∧ WkRs res [.ag (fO (divF f g).1), .one (D.bool (divF f g).2)]) := by
  have hcall := impl_bothOk_calls f g hx hxe hy hye
  generalize hB : decide (Right f ∧ Right g ∧ f.v = g.v) = B at hcall
  refine ACalls.of_body (C := C.impl_DivideLaurents) (n := Try.f13.ntmps) tabT folT Try.func13 rfl (by kernel_rfl) rfl (Nat.le_of_ble_eq_true rfl) (by decide) (by kernel_rfl) (by kernel_rfl) rfl (by simp) (by simp) ?_
  simp only [Try.f13]
  refine wseq ?_
  refine wreg fun K hK => ?_
  simp [C.impl_DivideLaurents, fS]
  refine hK _ ?_; clear hK K
  show AWp _ _ _ _ _
  refine wseq ?_
  refine wseq ?_
  refine wregI ([0, 1, 2] ++ ([3, 4, 5, 6, 7, 8, 9])) rfl fun K hK => ?_
  have hJ : K ⟨ofL [(2, .pt (2, 0) [] 0), (3, .pt (3, 0) [] 0), (4, .pt (4, 0) [] 0), (28, .bool (!(B && !decide (g.ts = []))))], ofRO [((2, 0), some (.bx (fS f))), ((3, 0), some (.bx (fS g))), ((4, 0), some (.bx [D.int 0, .v (.slice none 0 0)]))]⟩ := by
    refine hK _ ?_; clear hK K
    show AWp _ _ _ _ _
    refine wcond _ rfl (fun hc1 => ?_) (fun hc1 => ?_)
    · have hr : ¬ ((Right f ∧ Right g ∧ f.v = g.v) ∧ g.ts ≠ []) := by
        rintro ⟨h1, h2⟩
        rw [← hB, decide_eq_true h1] at hc1
        simp [h2] at hc1
      have hm : divF f g = (zeroF, false) := if_neg hr
      refine wseq ?_
      refine wreg fun K hK => ?_
      simp [C.impl_DivideLaurents, fS]
      refine hK _ ?_; clear hK K
      show AWp _ _ _ _ _
      refine wret ?_
      simp [C.impl_DivideLaurents, fS, hm, fO, zeroF, rows]
    · have hr : (Right f ∧ Right g ∧ f.v = g.v) ∧ g.ts ≠ [] := by
        rw [← hB] at hc1
        simpa using hc1
      obtain ⟨⟨hf, hg, hfg⟩, hgne⟩ := hr
      have hv0 := hf.1
      obtain ⟨n, hn⟩ : ∃ n : Nat, f.v = n := ⟨f.v.toNat, by omega⟩
      have hgn : g.v = n := by omega
      have hv : n ≤ 8 := by omega
      have hm := divF_some hf hg hn hgn hgne
      have hfl := hf.2.1
      have hgl := hg.2.1
      have he := right_he hf hn
      have heg := right_he hg hgn
      have hG0 : 0 < g.ts.length := List.length_pos_iff.2 hgne
      obtain ⟨hl1, hl2⟩ := lead_get hG0
      have hgood := hg.2.2.1 _ (List.getElem_mem hG0)
      have hgle := heg _ (List.getElem_mem hG0)
      rw [hl1] at hgle
      obtain ⟨hgle1, hgle2⟩ := hgle
      have hgc : leadC g ≠ 0 ∧ -1000000 ≤ leadC g ∧ leadC g ≤ 1000000 := by rw [← hl2]; exact ⟨hgood.2.1, hgood.2.2.1⟩
      obtain ⟨b0, b1, b2, b3, b4, b5, b6, b7, hpb⟩ := eight (pad_length (e := leadE g) (by omega))
      have hbb := pad_bd hgle2
      rw [hpb] at hbb
      refine wskip ?_
      show AWp _ _ _ _ _
      refine wseq ?_
      refine wregI ([0, 1, 2] ++ ([3])) rfl fun K hK => ?_
      refine opsI_seg fun L hL => ?_
      simp [C.impl_DivideLaurents, fS, hn]
      refine wcall1 (impl_newBuilding_calls n) (by simp) (by simp) ?_
      simp [C.impl_DivideLaurents, fS, hn]
      refine hL _ ?_; clear hL L
      refine opsI_end fun L hL => ?_
      simp [C.impl_DivideLaurents, fS, hn]
      refine hL _ ?_; clear hL L
      simp [C.impl_DivideLaurents, fS, hn]
      refine hK _ ?_; clear hK K
      show AWp _ _ _ _ _
      refine wseq ?_
      refine wseq ?_
      refine wreg fun K hK => ?_
      simp [C.impl_DivideLaurents, fS]
      refine hK _ ?_; clear hK K
      show AWp _ _ _ _ _
      refine wblock ?_
      refine wcode (c' := codeAt Try.f13 [1, 1, 1, 0, 1, 0]) (by kernel_rfl) ?_
      refine wst (σ2 := ⟨ofL [(2, .pt (2, 0) [] 0), (3, .pt (3, 0) [] 0), (4, .pt (4, 0) [] 0), (6, .pt (6, 0) [] 0), (34, .d (.sh 2 f.ts.length (rows tS f.ts))), (35, .int f.ts.length), (36, .int 0)], ofRO [((2, 0), some (.bx (fS f))), ((3, 0), some (.bx (fS g))), ((4, 0), some (.bx [D.int 0, .v (.slice none 0 0)])), ((6, 0), some (.bx [D.int n, .mp []]))]⟩) (by simp [fS, hn]) ?_
      refine impl_DivideLaurents_l1 f g n hn hv hf hfl _ ?_
      intro es l hLJ hall
      have hnf0 : nf lexlt l = f.ts.map pr := by
        rw [nf_perm hall]
        exact (nf_unique lexOrd (pr_desc hf) (pr_nz hf) fun k => rfl).symm
      show AWp _ _ _ _ _
      refine wseq ?_
      refine wregI ([0, 1, 2] ++ ([3])) rfl fun K hK => ?_
      refine opsI_seg fun L hL => ?_
      simp [C.impl_DivideLaurents, fS, hn]
      refine wcall1 (impl_newBuilding_calls n) (by simp) (by simp) ?_
      simp [C.impl_DivideLaurents, fS, hn]
      refine hL _ ?_; clear hL L
      refine opsI_end fun L hL => ?_
      simp [C.impl_DivideLaurents, fS, hn]
      refine hL _ ?_; clear hL L
      simp [C.impl_DivideLaurents, fS, hn]
      refine hK _ ?_; clear hK K
      show AWp _ _ _ _ _
      refine wseq ?_
      refine wreg fun K hK => ?_
      simp [C.impl_DivideLaurents, fS, hG0, tS_0 hG0, tS_1 hG0, hl1, hl2]
      refine hK _ ?_; clear hK K
      show AWp _ _ _ _ _
      refine wseq ?_
      refine wblock ?_
      refine wloop (fun x : (List (List Int × Int) × List (List Int × Int)) × (List (List Int × Int) × List (List Int × Int)) × List (List Int × Int) => ⟨ofL [(2, .pt (2, 0) [] 0), (3, .pt (3, 0) [] 0), (4, .pt (4, 0) [] 0), (6, .pt (6, 0) [] 0), (9, .pt (9, 0) [] 0), (10, .pt (10, 0) [] 0)], ofRO [((2, 0), some (.bx (fS f))), ((3, 0), some (.bx (fS g))), ((4, 0), some (.bx [D.int 0, .v (.slice none 0 0)])), ((6, 0), some (.bx [D.int n, .mp x.1.1])), ((9, 0), some (.bx [D.int n, .mp x.2.1.1])), ((10, 0), some (.bx [shI (leadE g), D.int (leadC g)]))]⟩) (fun x => LJ n x.1.1 x.1.2 (600000000 + x.2.2.length * 600000000000000) ∧ LJ n x.2.1.1 x.2.1.2 (x.2.2.length * 1000000) ∧ x.2.1.2.Perm x.2.2 ∧ DivJ chkI f g n (nf lexlt x.1.2) x.2.2 ∧ DivO g n (nf lexlt x.1.2) x.2.2) (fun x => 600 - x.2.2.length) ((es, l), ([], []), []) (by simp [C.impl_DivideLaurents, fS, hn]) ⟨hLJ.mono (by dsimp only [List.length_nil]; omega), ⟨MapR.nil n, by simp, by simp [absE]⟩, by simp, by dsimp only; rw [hnf0]; exact DivJ.start _ hf hn, ⟨List.Pairwise.nil, by simp [Nz], by simp, by simp⟩⟩ ?_
      intro x2 hx2 R2 hR2
      obtain ⟨⟨es, l⟩, ⟨eo, lo⟩, O⟩ := x2
      obtain ⟨hLr, hLo, hPo, hJ1, hJ2⟩ := hx2
      dsimp only at hLr hLo hPo hJ1 hJ2 ⊢
      have hOl := hJ1.ol
      have helen := unpad_len hLr.map hLr.len
      have heol : eo.length = O.length := by
        have h1 := unpad_len hLo.map hLo.len
        rw [nf_perm hPo, hJ2.nf] at h1
        exact h1.symm
      refine wseq ?_
      refine wseq ?_
      refine wreg fun K hK => ?_
      simp [C.impl_DivideLaurents, fS]
      refine hK _ ?_; clear hK K
      show AWp _ _ _ _ _
      refine wcond _ rfl (fun hc3 => ?_) (fun hc3 => ?_)
      · have hes : 0 < es.length := by have := d_t hc3; omega
        obtain ⟨⟨a, c⟩, R', hR⟩ : ∃ y R', nf lexlt l = y :: R' := by
          cases hh : nf lexlt l with
          | nil => rw [hh] at helen; simp at helen; omega
          | cons y R' => exact ⟨y, R', rfl⟩
        rw [hR] at hJ1 hJ2
        refine wskip ?_
        show AWp _ _ _ _ _
        refine wblock ?_
        refine wseq ?_
        refine wreg fun K hK => ?_
        simp [C.impl_DivideLaurents, fS]
        refine hK _ ?_; clear hK K
        show AWp _ _ _ _ _
        refine wseq ?_
        refine wreg fun K hK => ?_
        simp [C.impl_DivideLaurents, fS]
        refine hK _ ?_; clear hK K
        show AWp _ _ _ _ _
        refine wseq ?_
        refine wseq ?_
        refine wreg fun K hK => ?_
        simp [C.impl_DivideLaurents, fS]
        refine hK _ ?_; clear hK K
        show AWp _ _ _ _ _
        refine wblock ?_
        refine wcode (c' := codeAt Try.f13 [1, 1, 1, 1, 1, 1, 0, 0, 0, 1, 0, 1, 1, 0, 1, 0]) (by kernel_rfl) ?_
        refine impl_DivideLaurents_l3 f g n hn es eo (hLr.map.len8 hv) _ ?_
        intro P top cur hqe hT
        have hPne : P ≠ [] := by intro e; rw [e] at hqe; have := hqe.length_eq; simp at this; omega
        obtain ⟨htop, hget⟩ := top_head hLr.map hLr.len hqe hT hR
        have ha := hJ1.rl (a, c) (by simp)
        obtain ⟨hal, ha60⟩ := ha
        dsimp only at hal ha60
        obtain ⟨a0, a1, a2, a3, a4, a5, a6, a7, hpa⟩ := eight (pad_length (e := a) (by omega))
        have hba := pad_bd60 (B := 60) (by omega) (by omega) ha60
        rw [hpa] at hba htop
        subst htop
        have hcb : -1000000000000000000 ≤ c ∧ c ≤ 1000000000000000000 := by
          have h1 := hJ1.ra
          simp only [absK, List.map_cons, List.sum_cons] at h1
          omega
        have hEl : (addE (-1) a (leadE g)).length = n := by rw [addE_length _ _ _ (by omega)]; exact hal
        have hE80 := addE_bd (B := 60) (C := 20) (k := -1) (.inr rfl) (hal.trans hgle1.symm) ha60 hgle2
        have hpe0 : [a0 + -1 * b0, a1 + -1 * b1, a2 + -1 * b2, a3 + -1 * b3, a4 + -1 * b4, a5 + -1 * b5, a6 + -1 * b6, a7 + -1 * b7] = pad (addE (-1) a (leadE g)) := by
          rw [← pad_add (by omega), hpa, hpb]
          simp [addE]
        show AWp _ _ _ _ _
        refine wseq ?_
        refine wdraw (.take 0 (.take 1 (.take 2 (.take 3 (.take 4 (.take 5 (.take 6 (.done)))))))) ⟨by kernel_rfl, by kernel_rfl⟩ fun K hK => ?_
        simp [C.impl_DivideLaurents, fS, hget, hLr.map.len8 hv]
        refine hK _ ?_; clear hK K
        show AWp _ _ _ _ _
        refine wseq ?_
        refine wcode (c' := codeAt Try.f13 [1, 1, 1, 1, 1, 1, 0, 0, 0, 1, 0, 1, 1, 1, 1, 0]) (by kernel_rfl) ?_
        refine impl_DivideLaurents_r24 f g n es eo a0 a1 a2 a3 a4 a5 a6 a7 b0 b1 b2 b3 b4 b5 b6 b7 c (by omega) hpb hba hbb _ _ ?_
        show AWp _ _ _ _ _
        refine wseq ?_
        obtain ⟨e0, e1, e2, e3, e4, e5, e6, e7, hpe⟩ := eight (pad_length (e := addE (-1) a (leadE g)) (by omega))
        rw [hpe] at hpe0
        simp only [List.cons.injEq, and_true] at hpe0
        obtain ⟨k0, k1, k2, k3, k4, k5, k6, k7⟩ := hpe0
        simp only [k0, k1, k2, k3, k4, k5, k6, k7]
        have hqb : -1000000000000000000 ≤ c.tdiv (leadC g) ∧ c.tdiv (leadC g) ≤ 1000000000000000000 := by
          have h1 : (c.tdiv (leadC g)).natAbs ≤ c.natAbs := by
            rw [Int.natAbs_tdiv]
            exact Nat.div_le_self _ _
          omega
        generalize hQ : c.tdiv (leadC g) = q at hqb
        have htkE : List.take n [e0, e1, e2, e3, e4, e5, e6, e7] = addE (-1) a (leadE g) := by
          rw [← hpe]
          have := pad_take (e := addE (-1) a (leadE g))
          rwa [hEl] at this
        have hsh := sh8 n e0 e1 e2 e3 e4 e5 e6 e7
        rw [htkE] at hsh
        refine wreg fun K hK => ?_
        simp [C.impl_DivideLaurents, fS, hgc.1, hQ, wrapOk (x := q) (by omega) (by omega)]
        refine hK _ ?_; clear hK K
        show AWp _ _ _ _ _
        refine wseq ?_
        refine wseq ?_
        refine wcode (c' := codeAt Try.f13 [1, 1, 1, 1, 1, 1, 0, 0, 0, 1, 0, 1, 1, 1, 1, 1, 1, 0, 0]) (by kernel_rfl) ?_
        refine impl_DivideLaurents_r26 f g n hn hv es eo O (addE (-1) a (leadE g)) e0 e1 e2 e3 e4 e5 e6 e7 c q hgc.1 hsh hEl heol _ _ ?_
        show AWp _ _ _ _ _
        refine wcond _ rfl (fun hc8 => ?_) (fun hc8 => ?_)
        · have hr := nd_t hc8
          have hfail := hJ1.fail (by
            rcases Classical.em (O.length = 600) with h | h
            · exact .inr h
            · refine .inl fun h2 => hr ⟨?_, h⟩
              dsimp only at h2
              rw [hQ] at h2
              simp only [chkI, decide_eq_true_eq] at h2
              exact ⟨⟨h2.1, okE_iff.2 ⟨by omega, h2.2.1⟩⟩, h2.2.2⟩)
          refine wseq ?_
          refine wreg fun K hK => ?_
          simp [C.impl_DivideLaurents, fS]
          refine hK _ ?_; clear hK K
          show AWp _ _ _ _ _
          refine wret ?_
          simp [C.impl_DivideLaurents, fS, hm, hfail, endF, zeroF, fO, rows]
        · obtain ⟨⟨⟨g1, g2⟩, g3⟩, g4⟩ := nd_f hc8
          have hE20 := (okE_iff.1 g2).2
          have hchk : chkI (addE (-1) a (leadE g)) q = true := by simp only [chkI, decide_eq_true_eq]; exact ⟨hE20, g3⟩
          have hJ1s := hJ1.step hg hgn g1 (by dsimp only; rw [hQ]; exact hchk) (by omega) hEl (fun z hz => by have := hE20 z hz; omega) (by dsimp only; rw [hQ]; exact g3.2)
          have hJ2s := hJ2.step hJ1.rd (fun y hy => (hJ1.rl y hy).1) hg hgn hgne g1 (by dsimp only; rw [hQ]; exact g3.1)
          dsimp only at hJ1s hJ2s
          rw [hQ] at hJ1s hJ2s
          have hvo := hLo.val hEl (c := q) (X := 1000000) (by omega) (by omega)
          rw [hpe] at hvo
          have hbe := pad_bd hE20
          rw [hpe] at hbe
          refine wskip ?_
          show AWp _ _ _ _ _
          refine wseq ?_
          refine wregI ([0, 1, 2, 3] ++ ([])) rfl fun K hK => ?_
          refine opsI_seg fun L hL => ?_
          simp [C.impl_DivideLaurents, fS]
          refine wcall1 (impl_building_add_calls n q eo e0 e1 e2 e3 e4 e5 e6 e7 (hLo.map.len8 hv) hvo) (by simp) (by simp) ?_
          simp [C.impl_DivideLaurents, fS]
          refine hL _ ?_; clear hL L
          refine opsI_end fun L hL => ?_
          simp only [AOpsI]
          refine hL _ ?_; clear hL L
          simp [C.impl_DivideLaurents, fS]
          rw [← hpe]
          refine hK _ ?_; clear hK K
          show AWp _ _ _ _ _
          refine wseq ?_
          refine wreg fun K hK => ?_
          simp [C.impl_DivideLaurents, fS]
          refine hK _ ?_; clear hK K
          show AWp _ _ _ _ _
          refine wblock ?_
          refine wcode (c' := codeAt Try.f13 [1, 1, 1, 1, 1, 1, 0, 0, 0, 1, 0, 1, 1, 1, 1, 1, 1, 1, 1, 1, 0]) (by kernel_rfl) ?_
          refine impl_DivideLaurents_l4 f g n hn hgn hv hg hgl es l (madd eo (pad (addE (-1) a (leadE g))) q) O hOl hLr (addE (-1) a (leadE g)) hEl e0 e1 e2 e3 e4 e5 e6 e7 q hpe hbe g3 _ ?_
          intro es2 l2 hL2 hP2
          have hnf2 : nf lexlt l2 = nf lexlt (stepL g (a, c) R') := step_nf hR (by dsimp only; rw [hQ]; exact hP2)
          simp [C.impl_DivideLaurents, fS]
          refine cast (congrArg R2 ?_) (hR2 ((es2, l2), (madd eo (pad (addE (-1) a (leadE g))) q, (addE (-1) a (leadE g), q) :: lo), O ++ [(addE (-1) a (leadE g), q)]) ⟨?_, ?_, ?_, ?_, ?_⟩ (by simp; omega))
          · simp [fS, hn, hgn]
          · exact hL2.mono (by simp; omega)
          · exact (hLo.add hEl (c := q) (X := 1000000) (by omega)).mono (by simp; omega)
          · exact (List.Perm.cons _ hPo).trans (List.perm_append_singleton _ _).symm
          · dsimp only
            rw [hnf2]
            exact hJ1s
          · dsimp only
            rw [hnf2]
            exact hJ2s
      · have hes : es.length = 0 := by have := d_f hc3; omega
        have hR0 : nf lexlt l = [] := List.eq_nil_of_length_eq_zero (by omega)
        rw [hR0] at hJ1 hJ2
        have hdone := hJ1.done
        have hsh0 := hJ2.shut n
        rw [← shutF_perm hPo] at hsh0
        refine wexit ?_
        show AWp _ _ _ _ _
        refine wseq ?_
        refine wregI ([0, 1] ++ ([2, 3, 4, 5])) rfl fun K hK => ?_
        refine opsI_seg fun L hL => ?_
        simp [C.impl_DivideLaurents, fS, hn]
        refine wcall1 (hDone n eo lo hLo.map hLo.len (by omega) hv (by have := hPo.length_eq; omega)) (by simp) (by simp) ?_
        simp [C.impl_DivideLaurents, fS, hn]
        refine hL _ ?_; clear hL L
        refine opsI_end fun L hL => ?_
        simp [C.impl_DivideLaurents, fS, hn]
        refine hL _ ?_; clear hL L
        simp [C.impl_DivideLaurents, fS, hn]
        refine hK _ ?_; clear hK K
        show AWp _ _ _ _ _
        refine wret ?_
        simp [C.impl_DivideLaurents, fS, hm, hdone, hsh0, fO]
  clear hK
  by_cases hb : B = true
  · refine opsI_seg fun L hL => ?_
    simp [C.impl_DivideLaurents, fS, hb]
    refine wcall1 (hcall) (by simp) (by simp) ?_
    simp [C.impl_DivideLaurents, fS, hb]
    refine hL _ ?_; clear hL L
    refine opsI_end fun L hL => ?_
    simp [C.impl_DivideLaurents, fS, hb]
    refine hL _ ?_; clear hL L
    simp [C.impl_DivideLaurents, fS, hb]
    refine cast (congrArg K ?_) hJ
    simp [ieq0, fS, hb]
  · refine opsI_seg fun L hL => ?_
    simp [C.impl_DivideLaurents, fS, hb]
    refine wcall1 (hcall) (by simp) (by simp) ?_
    simp [C.impl_DivideLaurents, fS, hb]
    refine hL _ ?_; clear hL L
    refine opsI_end fun L hL => ?_
    simp [C.impl_DivideLaurents, fS, hb]
    refine hL _ ?_; clear hL L
    simp [C.impl_DivideLaurents, fS, hb]
    refine cast (congrArg K ?_) hJ
    simp [ieq0, fS, hb]
theorem iDiv_calls (hDone : DoneOk) (f g : Lau) (hx : f.ts.length < 4611686018427387904) (hxe : ∀ t ∈ f.ts, t.e.length < 4611686018427387904) (hy : g.ts.length < 4611686018427387904) (hye : ∀ t ∈ g.ts, t.e.length < 4611686018427387904) : ACalls Try.prog F.impl_DivideLaurents [aF f, aF g] [] true (fun outs res => outs = [] ∧ res = [.ag (fO (divF f g).1), .one (D.bool (divF f g).2)]) := (impl_DivideLaurents_calls hDone f g hx hxe hy hye).weak1
end Go.Proofs.Ytocknokodgnlbaa.Ab
namespace Go.Proofs.Ytocknokodgnlbaa.Ab
open Go
set_option linter.unusedSimpArgs false
set_option linter.unusedVariables false
set_option maxRecDepth 10000
set_option maxHeartbeats 2000000
theorem Drawn.len {n : Nat} {f : Lau} (h : Drawn n f) : f.ts.length < 4611686018427387904 ∧ ∀ t ∈ f.ts, t.e.length < 4611686018427387904 := by
  refine ⟨by have := h.1.2.1; omega, fun t ht => ?_⟩
  have h1 := (h.1.2.2.1 t ht).1
  have h2 := h.1.1
  omega
theorem absE_le {l : List (List Int × Int)} {B : Nat} (h : ∀ x ∈ l, x.2.natAbs ≤ B) : absE l ≤ l.length * B := by
  induction l with
  | nil => simp [absE]
  | cons x l ih =>
    have h1 := h x (by simp)
    have h2 := ih fun y hy => h y (by simp [hy])
    simp only [absE, List.map_cons, List.sum_cons, List.length_cons, Nat.add_mul, Nat.one_mul] at h2 ⊢
    omega
theorem mul_drawn {n : Nat} {f g : Lau} (hf : Drawn n f) (hg : Drawn n g) : ∃ P, mulF f g = (P, true) := by
  have hm : mulF f g = shutF f.v (prodL (f.ts.map pr) (g.ts.map pr)) := if_pos ⟨hf.1, hg.1, hf.2.1.trans hg.2.1.symm⟩
  have hn : 1 ≤ n ∧ n ≤ 8 := by have := hf.1.1; have := hf.2.1; omega
  have hlen : (prodL (f.ts.map pr) (g.ts.map pr)).length ≤ 16 := by
    rw [prodL_len, List.length_map, List.length_map]
    exact Nat.mul_le_mul hf.2.2.1 hg.2.2.1
  have hL : ∀ x ∈ prodL (f.ts.map pr) (g.ts.map pr), (x.1.length = n ∧ ∀ y ∈ x.1, -4 ≤ y ∧ y ≤ 4) ∧ x.2.natAbs ≤ 256 := fun x hx => by
    simp only [prodL, List.mem_flatMap, List.mem_map] at hx
    obtain ⟨a, ⟨t, ht, rfl⟩, b, ⟨u, hu, rfl⟩, rfl⟩ := hx
    have h1 := (right_dig hf.1 hf.2.1 t ht).1
    have h2 := (right_dig hg.1 hg.2.1 u hu).1
    have h3 := hf.2.2.2 t ht
    have h4 := hg.2.2.2 u hu
    refine ⟨⟨by simp only [pr]; rw [addE_length _ _ _ (by omega)]; exact h1, fun y hy => ?_⟩, ?_⟩
    · have := addE_mem (a := t.e) (b := u.e) (by omega) (p := 2) (q := 2) h3.2 h4.2 y hy
      omega
    · simp only [pr]
      rw [Int.natAbs_mul]
      have h5 := Nat.mul_le_mul (show t.c.natAbs ≤ 16 by omega) (show u.c.natAbs ≤ 16 by omega)
      exact h5
  have hab := absE_le (fun x hx => (hL x hx).2)
  have hl := nf_len (lt := lexlt) (prodL (f.ts.map pr) (g.ts.map pr))
  have hd := nf_desc lexOrd (prodL (f.ts.map pr) (g.ts.map pr))
  have hz := nf_nz (lt := lexlt) (prodL (f.ts.map pr) (g.ts.map pr))
  have hR : Right ⟨f.v, (nf lexlt (prodL (f.ts.map pr) (g.ts.map pr))).map tm⟩ := by
    refine ⟨hf.1.1, by dsimp only; rw [List.length_map]; omega, fun t hm => ?_, ?_⟩
    · obtain ⟨x, hx, rfl⟩ := List.mem_map.1 hm
      have h1 := co_at lexOrd hd x hx
      rw [nf_co] at h1
      have h2 := co_abs x.1 (prodL (f.ts.map pr) (g.ts.map pr))
      obtain ⟨z, hz1, hz2⟩ := nf_mem hx
      have h3 := (hL z hz1).1
      rw [hz2] at h3
      refine ⟨by simp only [tm]; have := hf.2.1; omega, hz x hx, by simp only [tm]; omega, fun y hy => ?_⟩
      have := h3.2 y hy
      omega
    · unfold DescT
      rw [List.pairwise_map]
      exact hd
  refine ⟨⟨f.v, (nf lexlt (prodL (f.ts.map pr) (g.ts.map pr))).map tm⟩, ?_⟩
  rw [hm]
  exact if_pos hR
theorem laws_times_calls (f g : Lau) (hx : f.ts.length < 4611686018427387904) (hxe : ∀ t ∈ f.ts, t.e.length < 4611686018427387904) (hy : g.ts.length < 4611686018427387904) (hye : ∀ t ∈ g.ts, t.e.length < 4611686018427387904) : ACalls Try.prog F.laws_times [aF f, aF g] [] true (fun outs res => outs = [] ∧ res = [.ag (fO (mulF f g).1)]) := by
  refine ACalls.of_body (C := C.laws_times) (n := Try.f16.ntmps) tabT folT Try.func16 rfl (by kernel_rfl) rfl (Nat.le_of_ble_eq_true rfl) (by decide) (by kernel_rfl) (by kernel_rfl) rfl (by simp) (by simp) ?_
  simp only [Try.f16]
  refine wseq ?_
  refine wreg fun K hK => ?_
  simp [C.laws_times, fS, fO]
  refine hK _ ?_; clear hK K
  show AWp _ _ _ _ _
  refine wseq ?_
  refine wregI ([0, 1, 2] ++ ([3, 4, 5, 6, 7, 8])) rfl fun K hK => ?_
  refine opsI_seg fun L hL => ?_
  simp [C.laws_times, fS, fO]
  refine wcall1 (mulOk f g hx hxe hy hye) (by simp) (by simp) ?_
  simp [C.laws_times, fS, fO]
  refine hL _ ?_; clear hL L
  refine opsI_end fun L hL => ?_
  simp [C.laws_times, fS, fO]
  refine hL _ ?_; clear hL L
  simp [C.laws_times, fS, fO]
  refine hK _ ?_; clear hK K
  show AWp _ _ _ _ _
  refine wseq ?_
  refine wreg fun K hK => ?_
  simp [C.laws_times, fS, fO]
  refine hK _ ?_; clear hK K
  show AWp _ _ _ _ _
  refine wret ?_
  simp [C.laws_times, fS, fO]

theorem laws_FnDivided_calls (xs : List Int) : ACalls Try.prog F.laws_FnDivided [.d (.sh 1 xs.length (byts xs))] [] true (fun outs res => outs = [] ∧ res = [.one (D.bool true)]) := by
  refine ACalls.of_body (C := C.laws_FnDivided) (n := Try.f3.ntmps) tabT folT Try.func3 rfl (by kernel_rfl) rfl (Nat.le_of_ble_eq_true rfl) (by decide) (by kernel_rfl) (by kernel_rfl) rfl (by simp) (by simp) ?_
  simp only [Try.f3]
  refine wseq ?_
  refine wreg fun K hK => ?_
  simp [C.laws_FnDivided, fO, fS]
  refine hK _ ?_; clear hK K
  show AWp _ _ _ _ _
  refine wseq ?_
  refine wseq ?_
  refine wregI ([0, 1] ++ ([])) rfl fun K hK => ?_
  refine opsI_seg fun L hL => ?_
  simp [C.laws_FnDivided, fO, fS]
  refine wcall1 (laws_big_calls xs) (by simp) (by simp) ?_
  simp [C.laws_FnDivided, fO, fS]
  refine hL _ ?_; clear hL L
  refine opsI_end fun L hL => ?_
  simp only [AOpsI]
  refine hL _ ?_; clear hL L
  simp [C.laws_FnDivided, fO, fS]
  refine hK _ ?_; clear hK K
  show AWp _ _ _ _ _
  refine wcond _ rfl (fun hc1 => ?_) (fun hc1 => ?_)
  · refine wseq ?_
    refine wreg fun K hK => ?_
    simp [C.laws_FnDivided, fO, fS]
    refine hK _ ?_; clear hK K
    show AWp _ _ _ _ _
    refine wret ?_
    simp [C.laws_FnDivided, fO, fS]
  · have hx : xs.length ≤ 1048576 := by have := d_f hc1; omega
    refine wskip ?_
    show AWp _ _ _ _ _
    refine wseq ?_
    refine wregI ([0, 1] ++ ([2, 3, 4, 5, 6, 7, 8, 9, 10, 11])) rfl fun K hK => ?_
    refine opsI_seg fun L hL => ?_
    simp [C.laws_FnDivided, fO, fS]
    refine wcall (spec_DrawSums_calls xs hx) (by simp) (by simp) (by simp) ?_
    rintro outs res ⟨n, f, g, h, hn, hf, hg, hh, rfl, rfl⟩
    simp [C.laws_FnDivided, fO, fS]
    refine hL _ ?_; clear hL L
    refine opsI_end fun L hL => ?_
    simp [C.laws_FnDivided, fO, fS]
    refine hL _ ?_; clear hL L
    simp [C.laws_FnDivided, fO, fS]
    refine hK _ ?_; clear hK K
    show AWp _ _ _ _ _
    refine wseq ?_
    obtain ⟨P, hP⟩ := mul_drawn hf hg
    have hfl := hf.len
    have hgl := hg.len
    have hhl := hh.len
    have hMul := mulOk f g hfl.1 hfl.2 hgl.1 hgl.2
    rw [hP] at hMul
    refine wregI ([0, 1, 2] ++ ([3, 4, 5, 6, 7, 8])) rfl fun K hK => ?_
    refine opsI_seg fun L hL => ?_
    simp [C.laws_FnDivided, fO, fS]
    refine wcall1 (hMul) (by simp) (by simp) ?_
    simp [C.laws_FnDivided, fO, fS]
    refine hL _ ?_; clear hL L
    refine opsI_end fun L hL => ?_
    simp [C.laws_FnDivided, fO, fS]
    refine hL _ ?_; clear hL L
    simp [C.laws_FnDivided, fO, fS]
    refine hK _ ?_; clear hK K
    show AWp _ _ _ _ _
    refine wseq ?_
    refine wseq ?_
    refine wreg fun K hK => ?_
    simp [C.laws_FnDivided, fO, fS]
    refine hK _ ?_; clear hK K
    show AWp _ _ _ _ _
    refine wcond _ rfl (fun hc2 => ?_) (fun hc2 => ?_)
    · simp at hc2
    · refine wskip ?_
      show AWp _ _ _ _ _
      refine wseq ?_
      have hPl : P.ts.length < 4611686018427387904 ∧ ∀ t ∈ P.ts, t.e.length < 4611686018427387904 := by
        have hPR : Right P := by rcases mulF_right f g with q | q <;> rw [hP] at q <;> simp at q <;> exact q
        refine ⟨by have := hPR.2.1; omega, fun t ht => ?_⟩
        have h1 := (hPR.2.2.1 t ht).1
        have h2 := hPR.1
        omega
      obtain ⟨Q, b, hQ, hb, hbf⟩ : ∃ Q b, divF P g = (Q, b) ∧ b = decide (0 < (g.ts.length : Int)) ∧ (b = true → Q = f) := by
        by_cases h0 : g.ts = []
        · refine ⟨zeroF, false, ?_, by simp [h0], by simp⟩
          unfold divF
          rw [if_neg (fun h => h.2 h0)]
        · refine ⟨f, true, div_mul hf.1 hg.1 (hf.2.1.trans hg.2.1.symm) h0 hP, ?_, fun _ => rfl⟩
          have : 0 < g.ts.length := List.length_pos_iff.2 h0
          simp
          omega
      have hDiv := iDiv_calls doneOk P g hPl.1 hPl.2 hgl.1 hgl.2
      rw [hQ] at hDiv
      refine wregI ([0, 1, 2] ++ ([3, 4, 5, 6, 7, 8])) rfl fun K hK => ?_
      refine opsI_seg fun L hL => ?_
      simp [C.laws_FnDivided, fO, fS]
      refine wcall1 (hDiv) (by simp) (by simp) ?_
      simp [C.laws_FnDivided, fO, fS]
      refine hL _ ?_; clear hL L
      refine opsI_end fun L hL => ?_
      simp [C.laws_FnDivided, fO, fS]
      refine hL _ ?_; clear hL L
      simp [C.laws_FnDivided, fO, fS]
      refine hK _ ?_; clear hK K
      show AWp _ _ _ _ _
      refine wseq ?_
      refine wseq ?_
      refine wregI ([0, 1, 2, 3, 4, 5, 6, 7, 8, 9, 10, 11] ++ ([12, 13, 14])) rfl fun K hK => ?_
      have hJ : K ⟨ofL [(4, .pt (4, 0) [] 0), (5, .pt (5, 0) [] 0), (50, .bool false)], ofRO [((4, 0), some (.bx (fO g))), ((5, 0), some (.bx (fO h)))]⟩ := by
        refine hK _ ?_; clear hK K
        show AWp _ _ _ _ _
        refine wcond _ rfl (fun hc3 => ?_) (fun hc3 => ?_)
        · simp at hc3
        · refine wskip ?_
          show AWp _ _ _ _ _
          refine wseq ?_
          obtain ⟨Q2, b2, hQ2⟩ : ∃ Q2 b2, divF h g = (Q2, b2) := ⟨_, _, rfl⟩
          have hD2 := iDiv_calls doneOk h g hhl.1 hhl.2 hgl.1 hgl.2
          rw [hQ2] at hD2
          have hS2 := sDiv_calls h g hhl.1 hhl.2 hgl.1 hgl.2
          rw [hQ2] at hS2
          refine wregI ([0, 1, 2] ++ ([3, 4, 5, 6, 7, 8])) rfl fun K hK => ?_
          refine opsI_seg fun L hL => ?_
          simp [C.laws_FnDivided, fO, fS]
          refine wcall1 (hD2) (by simp) (by simp) ?_
          simp [C.laws_FnDivided, fO, fS]
          refine hL _ ?_; clear hL L
          refine opsI_end fun L hL => ?_
          simp [C.laws_FnDivided, fO, fS]
          refine hL _ ?_; clear hL L
          simp [C.laws_FnDivided, fO, fS]
          refine hK _ ?_; clear hK K
          show AWp _ _ _ _ _
          refine wseq ?_
          refine wregI ([0, 1, 2] ++ ([3, 4, 5, 6, 7, 8])) rfl fun K hK => ?_
          refine opsI_seg fun L hL => ?_
          simp [C.laws_FnDivided, fO, fS]
          refine wcall1 (hS2) (by simp) (by simp) ?_
          simp [C.laws_FnDivided, fO, fS]
          refine hL _ ?_; clear hL L
          refine opsI_end fun L hL => ?_
          simp [C.laws_FnDivided, fO, fS]
          refine hL _ ?_; clear hL L
          simp [C.laws_FnDivided, fO, fS]
          refine hK _ ?_; clear hK K
          show AWp _ _ _ _ _
          refine wseq ?_
          refine wdrawI [(true, 0), (true, 1), (true, 2), (true, 3), (true, 4), (true, 5), (true, 6), (true, 7), (true, 8), (true, 10), (false, 9), (false, 11), (true, 12), (true, 13), (true, 14)] ⟨by kernel_rfl, by kernel_rfl⟩ ([0, 1, 2, 3, 4, 5, 6, 7, 8, 10, 9] ++ ([11] ++ ([12, 13, 14]))) rfl fun K hK => ?_
          have hJ : K ⟨ofL [(2, .bool true)], ofRO []⟩ := by
            refine hK _ ?_; clear hK K
            show AWp _ _ _ _ _
            refine wret ?_
            simp [C.laws_FnDivided, fO, fS]
          clear hK
          by_cases hb2 : b2 = true
          · rw [hb2] at hQ2
            obtain ⟨_, hQR, hmg⟩ := mul_div hQ2
            have hQl : Q2.ts.length < 4611686018427387904 ∧ ∀ t ∈ Q2.ts, t.e.length < 4611686018427387904 := by
              refine ⟨by have := hQR.2.1; omega, fun t ht => ?_⟩
              have h1 := (hQR.2.2.1 t ht).1
              have h2 := hQR.1
              omega
            have hT2 := laws_times_calls Q2 g hQl.1 hQl.2 hgl.1 hgl.2
            rw [hmg] at hT2
            refine opsI_seg fun L hL => ?_
            simp [C.laws_FnDivided, fO, fS, hb2]
            refine wcall1 (hT2) (by simp) (by simp) ?_
            simp [C.laws_FnDivided, fO, fS, hb2]
            refine hL _ ?_; clear hL L
            refine opsI_seg fun L hL => ?_
            simp [C.laws_FnDivided, fO, fS, hb2]
            refine wcall1 (laws_laurents_calls h h hhl.1 hhl.2) (by simp) (by simp) ?_
            simp [C.laws_FnDivided, fO, fS, hb2]
            refine hL _ ?_; clear hL L
            refine opsI_end fun L hL => ?_
            simp [C.laws_FnDivided, fO, fS, hb2]
            refine hL _ ?_; clear hL L
            simp [C.laws_FnDivided, fO, fS, hb2]
            refine cast (congrArg K ?_) hJ
            simp [fO, fS, hb2]
          · refine opsI_seg fun L hL => ?_
            simp [C.laws_FnDivided, fO, fS, hb2]
            refine hL _ ?_; clear hL L
            refine opsI_seg fun L hL => ?_
            simp [C.laws_FnDivided, fO, fS, hb2]
            refine hL _ ?_; clear hL L
            refine opsI_end fun L hL => ?_
            simp [C.laws_FnDivided, fO, fS, hb2]
            refine hL _ ?_; clear hL L
            simp [C.laws_FnDivided, fO, fS, hb2]
            refine cast (congrArg K ?_) hJ
            simp [fO, fS, hb2]
      clear hK
      by_cases h0 : g.ts = []
      · obtain rfl : b = false := by rw [hb]; simp [h0]
        refine opsI_seg fun L hL => ?_
        simp [C.laws_FnDivided, fO, fS, h0]
        refine hL _ ?_; clear hL L
        refine opsI_end fun L hL => ?_
        simp [C.laws_FnDivided, fO, fS, h0]
        refine hL _ ?_; clear hL L
        simp [C.laws_FnDivided, fO, fS, h0]
        refine cast (congrArg K ?_) hJ
        simp [fO, fS, h0]
      · obtain rfl : b = true := by rw [hb]; have : 0 < g.ts.length := List.length_pos_iff.2 h0; simp; omega
        obtain rfl : f = Q := (hbf rfl).symm
        refine opsI_seg fun L hL => ?_
        simp [C.laws_FnDivided, fO, fS, show (decide ((0 : Int) < g.ts.length)) = true by have : 0 < g.ts.length := List.length_pos_iff.2 h0; simp; omega, show (0 : Int) < g.ts.length by have : 0 < g.ts.length := List.length_pos_iff.2 h0; omega, show 0 < g.ts.length from List.length_pos_iff.2 h0, h0]
        refine wcall1 (laws_laurents_calls f f hfl.1 hfl.2) (by simp) (by simp) ?_
        simp [C.laws_FnDivided, fO, fS, show (decide ((0 : Int) < g.ts.length)) = true by have : 0 < g.ts.length := List.length_pos_iff.2 h0; simp; omega, show (0 : Int) < g.ts.length by have : 0 < g.ts.length := List.length_pos_iff.2 h0; omega, show 0 < g.ts.length from List.length_pos_iff.2 h0, h0]
        refine hL _ ?_; clear hL L
        refine opsI_end fun L hL => ?_
        simp [C.laws_FnDivided, fO, fS, show (decide ((0 : Int) < g.ts.length)) = true by have : 0 < g.ts.length := List.length_pos_iff.2 h0; simp; omega, show (0 : Int) < g.ts.length by have : 0 < g.ts.length := List.length_pos_iff.2 h0; omega, show 0 < g.ts.length from List.length_pos_iff.2 h0, h0]
        refine hL _ ?_; clear hL L
        simp [C.laws_FnDivided, fO, fS, show (decide ((0 : Int) < g.ts.length)) = true by have : 0 < g.ts.length := List.length_pos_iff.2 h0; simp; omega, show (0 : Int) < g.ts.length by have : 0 < g.ts.length := List.length_pos_iff.2 h0; omega, show 0 < g.ts.length from List.length_pos_iff.2 h0, h0]
        refine cast (congrArg K ?_) hJ
        simp [fO, fS, h0]

end Go.Proofs.Ytocknokodgnlbaa.Ab
namespace Go.Proofs.Ytocknokodgnlbaa.Ab
open Go Go.ChangeShapes Go.WideShapes Go.ChangeAt Go.RowKit
set_option linter.unusedSimpArgs false
set_option linter.unusedVariables false
set_option maxRecDepth 100000
section
variable {H : Type} {enc : TypeId × Value → H} {W : World}
theorem rows_byts (l : List Int) : rows (fun n => [D.v (.int .u8 n)]) l = byts l := by
  induction l with
  | nil => rfl
  | cons x l ih => simp [rows, ih, byts]
def CodeB (l : List Int) : Prop := (∀ x ∈ l, 0 ≤ x ∧ x ≤ 255) ∧ l.length * 1 ≤ 140737488351232
theorem opCode : Opens enc Try.prog W 22 1 (List Int) (fun l => [.sh 1 l.length (byts l)]) CodeB :=
  (Opens.slice (Opens.byte Try.underlying5 (by kernel_rfl)) (by omega) Try.underlying22 (by kernel_rfl) (by kernel_rfl)).to id (fun l => by simp [rows_byts]) (fun _ => rfl) (fun _ h => h)
theorem argCode : Arg enc Try.prog W 22 (List Int) (fun l => .d (.sh 1 l.length (byts l))) CodeB := Arg.one opCode (by kernel_rfl) (of_decide_eq_true (by kernel_rfl)) (by kernel_rfl)
end
end Go.Proofs.Ytocknokodgnlbaa.Ab
namespace Go.Proofs.Ytocknokodgnlbaa.Ab
open Go
theorem lawFd (xs : List Int) : ACalls Try.prog F.laws_FnDivided [.d (.sh 1 xs.length (byts xs))] [] true (fun outs res => outs = [] ∧ res = [.one (D.bool true)]) := laws_FnDivided_calls xs
end Go.Proofs.Ytocknokodgnlbaa.Ab
