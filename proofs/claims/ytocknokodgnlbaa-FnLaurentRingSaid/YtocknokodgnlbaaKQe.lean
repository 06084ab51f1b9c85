/- Values of sums: the program's, and the reference's where there is none. Division finds the factor of a product again, over any keys. Laurent sums: what was multiplied is found again by division; what is divided is multiplied again. Division by maps: the greatest key, and what a step does. Division: both sides. Division of the program's sums. What was multiplied is found again by division: the law. Drawn sums are a ring; values go with sums and products. Sums are a ring, values go with sums and products: the law. A code of bytes as an argument, read as a tree. The ring of sums: the law over drawn sums, with its argument. No condition. -/
import Derived.Test.YtocknokodgnlbaaKQd
import Derived.Test.YtocknokodgnlbaaKQc
set_option linter.unusedVariables false
set_option linter.unusedSimpArgs false
namespace Go.Proofs.Ytocknokodgnlbaa.Ab
open Go
set_option linter.unusedSimpArgs false
set_option linter.unusedVariables false
set_option maxRecDepth 10000
set_option maxHeartbeats 2000000
theorem rsd_zero (y : Int) : rsd y = 0 ↔ y % 32003 = 0 := by unfold rsd; omega
theorem val_no1 {f : Lau} {ys : List Int} (h : ¬ Right f) : decide (ValOk f ys) = false := by simp [ValOk, h]
theorem val_no2 {f : Lau} {ys : List Int} (h : ¬ (ys.length : Int) = f.v) : decide (ValOk f ys) = false := by simp [ValOk, h]
theorem val_any {f : Lau} {ys : List Int} (h1 : Right f) (h2 : (ys.length : Int) = f.v) : (ys.any fun x => decide (rsd x = 0)) = !decide (ValOk f ys) := by
  rw [Bool.eq_iff_iff]
  simp only [List.any_eq_true, decide_eq_true_eq, Bool.not_eq_true', decide_eq_false_iff_not]
  constructor
  · rintro ⟨y, hy, h⟩ ⟨_, _, h3⟩
    exact h3 y hy ((rsd_zero y).1 h)
  · intro h
    refine Classical.byContradiction fun h3 => h ⟨h1, h2, fun y hy h4 => h3 ⟨y, hy, (rsd_zero y).2 h4⟩⟩
theorem impl_EvaluateLaurent_calls (f : Lau) (ys : List Int) (hx : f.ts.length < 4611686018427387904) (hxe : ∀ t ∈ f.ts, t.e.length < 4611686018427387904) (hy : ys.length < 4611686018427387904) : ACalls Try.prog F.impl_EvaluateLaurent [aF f, .d (shI ys)] [] true (fun outs res => outs = [] ∧ res = [.one (D.int (evF f ys))]) := by
  refine ACalls.of_body (C := C.impl_EvaluateLaurent) (n := Try.f20.ntmps) tabT folT Try.func20 rfl (by kernel_rfl) rfl (Nat.le_of_ble_eq_true rfl) (by decide) (by kernel_rfl) (by kernel_rfl) rfl (by simp) (by simp) ?_
  simp only [Try.f20]
  refine wseq ?_
  refine wreg fun K hK => ?_
  simp [C.impl_EvaluateLaurent, fS]
  refine hK _ ?_; clear hK K
  show AWp _ _ _ _ _
  refine wseq ?_
  refine wseq ?_
  refine wregI ([0, 1] ++ ([2, 3, 4, 5, 6, 7, 8, 9, 10, 11, 12] ++ ([13]))) rfl fun K hK => ?_
  have hJ : K ⟨ofL [(1, .d (shI ys)), (2, .pt (2, 0) [] 0), (25, .bool (!decide (ValOk f ys)))], ofRO [((2, 0), some (.bx (fS f)))]⟩ := by
    refine hK _ ?_; clear hK K
    show AWp _ _ _ _ _
    refine wcond _ rfl (fun hc1 => ?_) (fun hc1 => ?_)
    · have hr := nd_t hc1
      have hm : evF f ys = -1 := if_neg hr
      refine wseq ?_
      refine wreg fun K hK => ?_
      simp [C.impl_EvaluateLaurent, fS]
      refine hK _ ?_; clear hK K
      show AWp _ _ _ _ _
      refine wret ?_
      simp [C.impl_EvaluateLaurent, fS, hm]
    · have hr := nd_f hc1
      have hm : evF f ys = evS ys ys.length f.ts f.ts.length := if_pos hr
      obtain ⟨hf, hl, hyz⟩ := hr
      have hfl := hf.2.1
      have he := right_he hf hl.symm
      have hn8 : ys.length ≤ 8 := by have := hf.1; omega
      refine wskip ?_
      show AWp _ _ _ _ _
      refine wseq ?_
      refine wreg fun K hK => ?_
      simp [C.impl_EvaluateLaurent, fS]
      refine hK _ ?_; clear hK K
      show AWp _ _ _ _ _
      refine wseq ?_
      refine wseq ?_
      refine wreg fun K hK => ?_
      simp [C.impl_EvaluateLaurent, fS]
      refine hK _ ?_; clear hK K
      show AWp _ _ _ _ _
      refine wblock ?_
      refine wloop (fun k : Nat => ⟨ofL [(1, .d (shI ys)), (5, .int (evS ys ys.length f.ts k)), (27, .d (.sh 2 f.ts.length (rows tS f.ts))), (28, .int f.ts.length), (29, .int k)], ofRO []⟩) (fun k => k ≤ f.ts.length) (fun k => f.ts.length - k) 0 (by simp [C.impl_EvaluateLaurent, fS, evS]) (by simp) ?_
      intro x1 hx1 R1 hR1
      refine wseq ?_
      refine wreg fun K hK => ?_
      simp [C.impl_EvaluateLaurent, fS]
      refine hK _ ?_; clear hK K
      show AWp _ _ _ _ _
      refine wseq ?_
      refine wcond _ rfl (fun hc2 => ?_) (fun hc2 => ?_)
      · have hk : x1 < f.ts.length := by have := d_t hc2; omega
        have hE := he _ (List.getElem_mem hk)
        have hgk : f.ts.getD x1 ⟨[], 0⟩ = f.ts[x1] := by simp [List.getD_eq_getElem?_getD, hk]
        refine wskip ?_
        show AWp _ _ _ _ _
        refine wseq ?_
        refine wblock ?_
        refine wseq ?_
        refine wreg fun K hK => ?_
        simp [C.impl_EvaluateLaurent, fS, hk, tS_0 hk, tS_1 hk]
        refine hK _ ?_; clear hK K
        show AWp _ _ _ _ _
        refine wseq ?_
        refine wregI ([0, 1, 2] ++ ([3])) rfl fun K hK => ?_
        refine opsI_seg fun L hL => ?_
        simp [C.impl_EvaluateLaurent, fS, tS]
        refine wcall1 (impl_residue_calls f.ts[x1].c) (by simp) (by simp) ?_
        simp [C.impl_EvaluateLaurent, fS, tS]
        refine hL _ ?_; clear hL L
        refine opsI_end fun L hL => ?_
        simp [C.impl_EvaluateLaurent, fS, tS]
        refine hL _ ?_; clear hL L
        simp [C.impl_EvaluateLaurent, fS, tS]
        refine hK _ ?_; clear hK K
        show AWp _ _ _ _ _
        refine wseq ?_
        refine wseq ?_
        refine wreg fun K hK => ?_
        simp [C.impl_EvaluateLaurent, fS, tS]
        refine hK _ ?_; clear hK K
        show AWp _ _ _ _ _
        refine wblock ?_
        refine wloop (fun j : Nat => ⟨ofL [(1, .d (shI ys)), (5, .int (evS ys ys.length f.ts x1)), (8, .int (evK f.ts[x1].c ys f.ts[x1].e j)), (27, .d (.sh 2 f.ts.length (rows tS f.ts))), (28, .int f.ts.length), (29, .int x1), (37, .d (shI f.ts[x1].e)), (38, .int f.ts[x1].e.length), (39, .int j)], ofRO []⟩) (fun j => j ≤ ys.length) (fun j => ys.length - j) 0 (by simp [C.impl_EvaluateLaurent, fS, evK]) (by simp) ?_
        intro x2 hx2 R2 hR2
        refine wseq ?_
        refine wreg fun K hK => ?_
        simp [C.impl_EvaluateLaurent, fS]
        refine hK _ ?_; clear hK K
        show AWp _ _ _ _ _
        refine wseq ?_
        refine wcond _ rfl (fun hc3 => ?_) (fun hc3 => ?_)
        · have hj : x2 < ys.length := by have := d_t hc3; have := hE.1; omega
          have hje : x2 < f.ts[x1].e.length := by have := hE.1; omega
          have hb := hE.2 _ (List.getElem_mem hje)
          have hgy : ys.getD x2 0 = ys[x2] := by simp [List.getD_eq_getElem?_getD, hj]
          have hge : f.ts[x1].e.getD x2 0 = f.ts[x1].e[x2] := by simp [List.getD_eq_getElem?_getD, hje]
          refine wskip ?_
          show AWp _ _ _ _ _
          refine wseq ?_
          refine wblock ?_
          refine wseq ?_
          refine wreg fun K hK => ?_
          simp [C.impl_EvaluateLaurent, fS, hje, get_ints]
          refine hK _ ?_; clear hK K
          show AWp _ _ _ _ _
          refine wseq ?_
          refine wregI ([0, 1, 2, 3, 4] ++ ([5])) rfl fun K hK => ?_
          refine opsI_seg fun L hL => ?_
          simp [C.impl_EvaluateLaurent, fS, hj, get_ints]
          refine wcall1 (impl_residue_calls ys[x2]) (by simp) (by simp) ?_
          simp [C.impl_EvaluateLaurent, fS, hj, get_ints]
          refine hL _ ?_; clear hL L
          refine opsI_end fun L hL => ?_
          simp [C.impl_EvaluateLaurent, fS, hj, get_ints]
          refine hL _ ?_; clear hL L
          simp [C.impl_EvaluateLaurent, fS, hj, get_ints]
          refine hK _ ?_; clear hK K
          show AWp _ _ _ _ _
          refine wseq ?_
          refine wseq ?_
          refine wreg fun K hK => ?_
          simp [C.impl_EvaluateLaurent, fS]
          refine hK _ ?_; clear hK K
          show AWp _ _ _ _ _
          refine wcond _ rfl (fun hc4 => ?_) (fun hc4 => ?_)
          · have hneg : f.ts[x1].e[x2] < 0 := by simpa using hc4
            have hpw := impl_powerOf_calls (invN 15 1 (rsd ys[x2]) 32001) (-f.ts[x1].e[x2]).toNat (invN_lt _ _ _ _ (by omega)) (by omega)
            rw [show (((-f.ts[x1].e[x2]).toNat : Nat) : Int) = -f.ts[x1].e[x2] by omega] at hpw
            have hs : evK f.ts[x1].c ys f.ts[x1].e (x2 + 1) = evK f.ts[x1].c ys f.ts[x1].e x2 * pwN (invN 15 1 (rsd ys[x2]) 32001) (-f.ts[x1].e[x2]).toNat % 32003 := by
              simp only [evK, pwZ, hgy, hge, if_pos hneg]
            refine wregI ([0, 1] ++ ([2, 3, 4, 5])) rfl fun K hK => ?_
            refine opsI_seg fun L hL => ?_
            simp [C.impl_EvaluateLaurent, fS, wrapOk (x := -f.ts[x1].e[x2]) (by omega) (by omega)]
            refine wcall1 (impl_inverse_calls (rsd ys[x2]) (rsd_lt _)) (by simp) (by simp) ?_
            simp [C.impl_EvaluateLaurent, fS, wrapOk (x := -f.ts[x1].e[x2]) (by omega) (by omega)]
            refine hL _ ?_; clear hL L
            refine opsI_end fun L hL => ?_
            simp [C.impl_EvaluateLaurent, fS, wrapOk (x := -f.ts[x1].e[x2]) (by omega) (by omega)]
            refine hL _ ?_; clear hL L
            simp [C.impl_EvaluateLaurent, fS, wrapOk (x := -f.ts[x1].e[x2]) (by omega) (by omega)]
            refine hK _ ?_; clear hK K
            show AWp _ _ _ _ _
            refine wregI ([0, 1, 2, 3] ++ ([4, 5, 6])) rfl fun K hK => ?_
            refine opsI_seg fun L hL => ?_
            simp [C.impl_EvaluateLaurent, fS, pwmul (evK_lt f.ts[x1].c ys f.ts[x1].e x2) (pwN_lt (invN 15 1 (rsd ys[x2]) 32001) (-f.ts[x1].e[x2]).toNat)]
            refine wcall1 (hpw) (by simp) (by simp) ?_
            simp [C.impl_EvaluateLaurent, fS, pwmul (evK_lt f.ts[x1].c ys f.ts[x1].e x2) (pwN_lt (invN 15 1 (rsd ys[x2]) 32001) (-f.ts[x1].e[x2]).toNat)]
            refine hL _ ?_; clear hL L
            refine opsI_end fun L hL => ?_
            simp [C.impl_EvaluateLaurent, fS, pwmul (evK_lt f.ts[x1].c ys f.ts[x1].e x2) (pwN_lt (invN 15 1 (rsd ys[x2]) 32001) (-f.ts[x1].e[x2]).toNat)]
            refine hL _ ?_; clear hL L
            simp [C.impl_EvaluateLaurent, fS, pwmul (evK_lt f.ts[x1].c ys f.ts[x1].e x2) (pwN_lt (invN 15 1 (rsd ys[x2]) 32001) (-f.ts[x1].e[x2]).toNat)]
            refine hK _ ?_; clear hK K
            show AWp _ _ _ _ _
            refine wreg fun K hK => ?_
            simp [C.impl_EvaluateLaurent, fS, wrap_succ (show x2 < 4611686018427387904 by omega)]
            refine hK _ ?_; clear hK K
            simp [C.impl_EvaluateLaurent, fS]
            refine cast (congrArg R2 ?_) (hR2 (x2 + 1) hj (by omega))
            simp [hs]
          · have hneg : ¬ f.ts[x1].e[x2] < 0 := by simpa using hc4
            have hpw := impl_powerOf_calls (rsd ys[x2]) f.ts[x1].e[x2].toNat (rsd_lt _) (by omega)
            rw [show ((f.ts[x1].e[x2].toNat : Nat) : Int) = f.ts[x1].e[x2] by omega] at hpw
            have hs : evK f.ts[x1].c ys f.ts[x1].e (x2 + 1) = evK f.ts[x1].c ys f.ts[x1].e x2 * pwN (rsd ys[x2]) f.ts[x1].e[x2].toNat % 32003 := by
              simp only [evK, pwZ, hgy, hge, if_neg hneg]
            refine wskip ?_
            show AWp _ _ _ _ _
            refine wregI ([0, 1, 2, 3] ++ ([4, 5, 6])) rfl fun K hK => ?_
            refine opsI_seg fun L hL => ?_
            simp [C.impl_EvaluateLaurent, fS, pwmul (evK_lt f.ts[x1].c ys f.ts[x1].e x2) (pwN_lt (rsd ys[x2]) f.ts[x1].e[x2].toNat)]
            refine wcall1 (hpw) (by simp) (by simp) ?_
            simp [C.impl_EvaluateLaurent, fS, pwmul (evK_lt f.ts[x1].c ys f.ts[x1].e x2) (pwN_lt (rsd ys[x2]) f.ts[x1].e[x2].toNat)]
            refine hL _ ?_; clear hL L
            refine opsI_end fun L hL => ?_
            simp [C.impl_EvaluateLaurent, fS, pwmul (evK_lt f.ts[x1].c ys f.ts[x1].e x2) (pwN_lt (rsd ys[x2]) f.ts[x1].e[x2].toNat)]
            refine hL _ ?_; clear hL L
            simp [C.impl_EvaluateLaurent, fS, pwmul (evK_lt f.ts[x1].c ys f.ts[x1].e x2) (pwN_lt (rsd ys[x2]) f.ts[x1].e[x2].toNat)]
            refine hK _ ?_; clear hK K
            show AWp _ _ _ _ _
            refine wreg fun K hK => ?_
            simp [C.impl_EvaluateLaurent, fS, wrap_succ (show x2 < 4611686018427387904 by omega)]
            refine hK _ ?_; clear hK K
            simp [C.impl_EvaluateLaurent, fS]
            refine cast (congrArg R2 ?_) (hR2 (x2 + 1) hj (by omega))
            simp [hs]
        · have hj : x2 = ys.length := by have := d_f hc3; have := hE.1; omega
          have hs : evS ys ys.length f.ts (x1 + 1) = (evS ys ys.length f.ts x1 + evK f.ts[x1].c ys f.ts[x1].e ys.length) % 32003 := by
            simp only [evS, hgk]
          refine wexit ?_
          show AWp _ _ _ _ _
          refine wreg fun K hK => ?_
          simp [C.impl_EvaluateLaurent, fS, hj, pwadd (evS_lt ys ys.length f.ts x1) (evK_lt f.ts[x1].c ys f.ts[x1].e ys.length)]
          refine hK _ ?_; clear hK K
          show AWp _ _ _ _ _
          refine wreg fun K hK => ?_
          simp [C.impl_EvaluateLaurent, fS, wrap_succ (show x1 < 4611686018427387904 by omega)]
          refine hK _ ?_; clear hK K
          simp [C.impl_EvaluateLaurent, fS]
          refine cast (congrArg R1 ?_) (hR1 (x1 + 1) hk (by omega))
          simp [hs]
      · have hk : x1 = f.ts.length := by have := d_f hc2; omega
        refine wexit ?_
        show AWp _ _ _ _ _
        refine wseq ?_
        refine wreg fun K hK => ?_
        simp [C.impl_EvaluateLaurent, fS]
        refine hK _ ?_; clear hK K
        show AWp _ _ _ _ _
        refine wret ?_
        simp [C.impl_EvaluateLaurent, fS, hm, hk]
  clear hK
  by_cases h1 : Right f
  · by_cases h2 : (ys.length : Int) = f.v
    · refine opsI_seg fun L hL => ?_
      simp [C.impl_EvaluateLaurent, fS, h1, h2]
      refine wcall1 (impl_LaurentOk_calls f hx hxe) (by simp) (by simp) ?_
      simp [C.impl_EvaluateLaurent, fS, h1, h2]
      refine hL _ ?_; clear hL L
      refine opsI_seg fun L hL => ?_
      simp [C.impl_EvaluateLaurent, fS, h1, h2]
      refine wcall1 (slices_ContainsFunc_int_int_calls ys _ (fun x => decide (rsd x = 0)) hy rfl (fun x _ => impl_EvaluateLaurent_1_calls x)) (by simp) (by simp) ?_
      simp [C.impl_EvaluateLaurent, fS, h1, h2]
      refine hL _ ?_; clear hL L
      refine opsI_end fun L hL => ?_
      simp [C.impl_EvaluateLaurent, fS, h1, h2]
      refine hL _ ?_; clear hL L
      simp [C.impl_EvaluateLaurent, fS, h1, h2]
      refine cast (congrArg K ?_) hJ
      simp [val_any h1 h2, fS, h1, h2]
    · refine opsI_seg fun L hL => ?_
      simp [C.impl_EvaluateLaurent, fS, h1, h2]
      refine wcall1 (impl_LaurentOk_calls f hx hxe) (by simp) (by simp) ?_
      simp [C.impl_EvaluateLaurent, fS, h1, h2]
      refine hL _ ?_; clear hL L
      refine opsI_seg fun L hL => ?_
      simp [C.impl_EvaluateLaurent, fS, h1, h2]
      refine hL _ ?_; clear hL L
      refine opsI_end fun L hL => ?_
      simp [C.impl_EvaluateLaurent, fS, h1, h2]
      refine hL _ ?_; clear hL L
      simp [C.impl_EvaluateLaurent, fS, h1, h2]
      refine cast (congrArg K ?_) hJ
      simp [val_no2 h2, fS, h1, h2]
  · refine opsI_seg fun L hL => ?_
    simp [C.impl_EvaluateLaurent, fS, h1]
    refine wcall1 (impl_LaurentOk_calls f hx hxe) (by simp) (by simp) ?_
    simp [C.impl_EvaluateLaurent, fS, h1]
    refine hL _ ?_; clear hL L
    refine opsI_seg fun L hL => ?_
    simp [C.impl_EvaluateLaurent, fS, h1]
    refine hL _ ?_; clear hL L
    refine opsI_end fun L hL => ?_
    simp [C.impl_EvaluateLaurent, fS, h1]
    refine hL _ ?_; clear hL L
    simp [C.impl_EvaluateLaurent, fS, h1]
    refine cast (congrArg K ?_) hJ
    simp [val_no1 h1, fS, h1]

theorem spec_EvaluateLaurentBad_calls (f : Lau) (ys : List Int) (hf : Right f) (hl : (ys.length : Int) = f.v) (hbad : ¬ ∀ y ∈ ys, y % 32003 ≠ 0) : ACalls Try.prog F.spec_EvaluateLaurent [aF f, .d (shI ys)] [] true (fun outs res => outs = [] ∧ res = [.one (D.int (-1))]) := by
  have hfl := hf.2.1
  have hn8 : ys.length ≤ 8 := by have := hf.1; omega
  have he := right_he hf hl.symm
  have hright := spec_l2Right_calls f (by omega) (fun t ht => by have := (he t ht).1; omega)
  rw [decide_eq_true hf] at hright
  refine ACalls.of_body (C := C.spec_EvaluateLaurent) (n := Try.f21.ntmps) tabT folT Try.func21 rfl (by kernel_rfl) rfl (Nat.le_of_ble_eq_true rfl) (by decide) (by kernel_rfl) (by kernel_rfl) rfl (by simp) (by simp) ?_
  simp only [Try.f21]
  refine wseq ?_
  refine wreg fun K hK => ?_
  simp [C.spec_EvaluateLaurent, fS, ← hl]
  refine hK _ ?_; clear hK K
  show AWp _ _ _ _ _
  refine wseq ?_
  refine wseq ?_
  refine wregI ([0, 1] ++ ([2, 3, 4, 5, 6, 7, 8, 9])) rfl fun K hK => ?_
  refine opsI_seg fun L hL => ?_
  simp [C.spec_EvaluateLaurent, fS, ← hl]
  refine wcall1 (hright) (by simp [fS, ← hl]) (by simp) ?_
  simp [C.spec_EvaluateLaurent, fS, ← hl]
  refine hL _ ?_; clear hL L
  refine opsI_end fun L hL => ?_
  simp [C.spec_EvaluateLaurent, fS, ← hl]
  refine hL _ ?_; clear hL L
  simp [C.spec_EvaluateLaurent, fS, ← hl]
  refine hK _ ?_; clear hK K
  show AWp _ _ _ _ _
  refine wcond _ rfl (fun hc1 => ?_) (fun hc1 => ?_)
  · simp at hc1
  · refine wskip ?_
    show AWp _ _ _ _ _
    refine wseq ?_
    refine wreg fun K hK => ?_
    simp [C.spec_EvaluateLaurent, fS, ← hl]
    refine hK _ ?_; clear hK K
    show AWp _ _ _ _ _
    refine wseq ?_
    refine wseq ?_
    refine wreg fun K hK => ?_
    simp [C.spec_EvaluateLaurent, fS, ← hl]
    refine hK _ ?_; clear hK K
    show AWp _ _ _ _ _
    refine wblock ?_
    refine wloop (fun k : Nat => ⟨ofL [(1, .d (shI ys)), (2, .pt (2, 0) [] 0), (5, .int 0), (6, .int k)], ofRO [((2, 0), some (.bx (fS f)))]⟩) (fun k => k ≤ ys.length ∧ ∀ i, i < k → (ys.getD i 0) % 32003 ≠ 0) (fun k => ys.length - k) 0 (by simp [C.spec_EvaluateLaurent, fS, ← hl]) (by simp) ?_
    intro x1 hx1 R1 hR1
    obtain ⟨hk, hz⟩ := hx1
    refine wseq ?_
    refine wseq ?_
    refine wreg fun K hK => ?_
    simp [C.spec_EvaluateLaurent, fS, ← hl]
    refine hK _ ?_; clear hK K
    show AWp _ _ _ _ _
    refine wcond _ rfl (fun hc2 => ?_) (fun hc2 => ?_)
    · have hk1 : x1 < ys.length := by have := d_t hc2; omega
      refine wskip ?_
      show AWp _ _ _ _ _
      refine wseq ?_
      refine wblock ?_
      refine wseq ?_
      refine wregI ([0, 1, 2, 3, 4] ++ ([5])) rfl fun K hK => ?_
      refine opsI_seg fun L hL => ?_
      simp [C.spec_EvaluateLaurent, fS, ← hl, hk1, get_ints]
      refine wcall1 (spec_l2Residue_calls ys[x1]) (by simp) (by simp) ?_
      simp [C.spec_EvaluateLaurent, fS, ← hl, hk1, get_ints]
      refine hL _ ?_; clear hL L
      refine opsI_end fun L hL => ?_
      simp [C.spec_EvaluateLaurent, fS, ← hl, hk1, get_ints]
      refine hL _ ?_; clear hL L
      simp [C.spec_EvaluateLaurent, fS, ← hl, hk1, get_ints]
      refine hK _ ?_; clear hK K
      show AWp _ _ _ _ _
      refine wcond _ rfl (fun hc3 => ?_) (fun hc3 => ?_)
      · refine wseq ?_
        refine wreg fun K hK => ?_
        simp [C.spec_EvaluateLaurent, fS, ← hl]
        refine hK _ ?_; clear hK K
        show AWp _ _ _ _ _
        refine wret ?_
        simp [C.spec_EvaluateLaurent, fS, ← hl]
      · have hnz : ¬ rsd ys[x1] = 0 := by have := d_f hc3; omega
        refine wskip ?_
        show AWp _ _ _ _ _
        refine wreg fun K hK => ?_
        simp [C.spec_EvaluateLaurent, fS, ← hl, wrap_succ (show x1 < 4611686018427387904 by omega)]
        refine hK _ ?_; clear hK K
        simp [C.spec_EvaluateLaurent, fS, ← hl]
        refine cast (congrArg R1 ?_) (hR1 (x1 + 1) ⟨hk1, fun i hi => ?_⟩ (by omega))
        · simp [fS, ← hl]
        · rcases Nat.lt_succ_iff_lt_or_eq.1 hi with h | rfl
          · exact hz i h
          · rw [show ys.getD i 0 = ys[i] by simp [List.getD_eq_getElem?_getD, hk1]]
            exact fun h => hnz ((rsd_zero _).2 h)
    · have hk1 : x1 = ys.length := by have := d_f hc2; omega
      exact absurd (fun y hy => by
        obtain ⟨i, hi, rfl⟩ := List.getElem_of_mem hy
        have := hz i (by omega)
        rwa [show ys.getD i 0 = ys[i] by simp [List.getD_eq_getElem?_getD, hi]] at this) hbad

end Go.Proofs.Ytocknokodgnlbaa.Ab
namespace Go.Proofs.Ytocknokodgnlbaa.Ab
open Go
set_option linter.unusedSimpArgs false
set_option linter.unusedVariables false
set_option linter.unusedSectionVars false
section
variable {K : Type} [DecidableEq K] {lt : K → K → Bool} {mul dv : K → K → K} {D : K → Prop} {chk : K → Int → Bool}
end
end Go.Proofs.Ytocknokodgnlbaa.Ab
namespace Go.Proofs.Ytocknokodgnlbaa.Ab
open Go
set_option linter.unusedSimpArgs false
set_option linter.unusedVariables false
theorem lau_eta (f : Lau) : (⟨f.v, (f.ts.map pr).map tm⟩ : Lau) = f := by
  rw [List.map_map]
  have : tm ∘ pr = id := rfl
  rw [this, List.map_id]
theorem pr_tm (l : List (List Int × Int)) : (l.map tm).map pr = l := by
  rw [List.map_map]
  exact List.map_id _
end Go.Proofs.Ytocknokodgnlbaa.Ab
namespace Go.Proofs.Ytocknokodgnlbaa.Ab
open Go
set_option linter.unusedSimpArgs false
set_option linter.unusedVariables false
end Go.Proofs.Ytocknokodgnlbaa.Ab
namespace Go.Proofs.Ytocknokodgnlbaa.Ab
open Go
end Go.Proofs.Ytocknokodgnlbaa.Ab
namespace Go.Proofs.Ytocknokodgnlbaa.Ab
open Go
set_option linter.unusedSimpArgs false
set_option linter.unusedVariables false
set_option maxRecDepth 10000
set_option maxHeartbeats 2000000
end Go.Proofs.Ytocknokodgnlbaa.Ab
namespace Go.Proofs.Ytocknokodgnlbaa.Ab
open Go
set_option linter.unusedSimpArgs false
set_option linter.unusedVariables false
set_option maxRecDepth 10000
set_option maxHeartbeats 2000000
attribute [local simp] mapKV flatInt tileB
end Go.Proofs.Ytocknokodgnlbaa.Ab
namespace Go.Proofs.Ytocknokodgnlbaa.Ab
open Go
set_option linter.unusedSimpArgs false
set_option linter.unusedVariables false
set_option maxRecDepth 10000
set_option maxHeartbeats 2000000
theorem Drawn.len {n : Nat} {f : Lau} (h : Drawn n f) : f.ts.length < 4611686018427387904 ∧ ∀ t ∈ f.ts, t.e.length < 4611686018427387904 := by
  refine ⟨by have := h.1.2.1; omega, fun t ht => ?_⟩
  have h1 := (h.1.2.2.1 t ht).1
  have h2 := h.1.1
  omega
theorem absE_le {l : List (List Int × Int)} {B : Nat} (h : ∀ x ∈ l, x.2.natAbs ≤ B) : absE l ≤ l.length * B := by
  induction l with
  | nil => simp [absE]
  | cons x l ih =>
    have h1 := h x (by simp)
    have h2 := ih fun y hy => h y (by simp [hy])
    simp only [absE, List.map_cons, List.sum_cons, List.length_cons, Nat.add_mul, Nat.one_mul] at h2 ⊢
    omega
theorem laws_times_calls (f g : Lau) (hx : f.ts.length < 4611686018427387904) (hxe : ∀ t ∈ f.ts, t.e.length < 4611686018427387904) (hy : g.ts.length < 4611686018427387904) (hye : ∀ t ∈ g.ts, t.e.length < 4611686018427387904) : ACalls Try.prog F.laws_times [aF f, aF g] [] true (fun outs res => outs = [] ∧ res = [.ag (fO (mulF f g).1)]) := by
  refine ACalls.of_body (C := C.laws_times) (n := Try.f16.ntmps) tabT folT Try.func16 rfl (by kernel_rfl) rfl (Nat.le_of_ble_eq_true rfl) (by decide) (by kernel_rfl) (by kernel_rfl) rfl (by simp) (by simp) ?_
  simp only [Try.f16]
  refine wseq ?_
  refine wreg fun K hK => ?_
  simp [C.laws_times, fS, fO]
  refine hK _ ?_; clear hK K
  show AWp _ _ _ _ _
  refine wseq ?_
  refine wregI ([0, 1, 2] ++ ([3, 4, 5, 6, 7, 8])) rfl fun K hK => ?_
  refine opsI_seg fun L hL => ?_
  simp [C.laws_times, fS, fO]
  refine wcall1 (mulOk f g hx hxe hy hye) (by simp) (by simp) ?_
  simp [C.laws_times, fS, fO]
  refine hL _ ?_; clear hL L
  refine opsI_end fun L hL => ?_
  simp [C.laws_times, fS, fO]
  refine hL _ ?_; clear hL L
  simp [C.laws_times, fS, fO]
  refine hK _ ?_; clear hK K
  show AWp _ _ _ _ _
  refine wseq ?_
  refine wreg fun K hK => ?_
  simp [C.laws_times, fS, fO]
  refine hK _ ?_; clear hK K
  show AWp _ _ _ _ _
  refine wret ?_
  simp [C.laws_times, fS, fO]

end Go.Proofs.Ytocknokodgnlbaa.Ab
namespace Go.Proofs.Ytocknokodgnlbaa.Ab
open Go
set_option linter.unusedSimpArgs false
set_option linter.unusedVariables false
/-- A right sum in bounds. -/
structure Bdd (n : Nat) (f : Lau) (L C E : Nat) : Prop where
  right : Right f
  v : f.v = n
  len : f.ts.length ≤ L
  co : ∀ t ∈ f.ts, t.c.natAbs ≤ C
  ex : ∀ t ∈ f.ts, t.e.length = n ∧ ∀ x ∈ t.e, -(E : Int) ≤ x ∧ x ≤ E
theorem Bdd.sm {n : Nat} {f : Lau} {L C E : Nat} (h : Bdd n f L C E) : SmF f := by
  have h1 := h.right.1
  have h2 := h.right.2.1
  refine ⟨by omega, fun t ht => ?_⟩
  have := (h.right.2.2.1 t ht).1
  omega
structure BddL (n : Nat) (l : List (List Int × Int)) (L C E : Nat) : Prop where
  len : l.length ≤ L
  co : ∀ x ∈ l, x.2.natAbs ≤ C
  ex : ∀ x ∈ l, x.1.length = n ∧ ∀ y ∈ x.1, -(E : Int) ≤ y ∧ y ≤ E
theorem Bdd.pr {n : Nat} {f : Lau} {L C E : Nat} (h : Bdd n f L C E) : BddL n (f.ts.map Ab.pr) L C E := by
  refine ⟨by simpa using h.len, fun x hx => ?_, fun x hx => ?_⟩
  · obtain ⟨t, ht, rfl⟩ := List.mem_map.1 hx
    exact h.co t ht
  · obtain ⟨t, ht, rfl⟩ := List.mem_map.1 hx
    exact h.ex t ht
theorem Drawn.bnd {n : Nat} {f : Lau} (h : Drawn n f) : Bdd n f 4 16 2 := by
  refine ⟨h.1, h.2.1, h.2.2.1, fun t ht => ?_, fun t ht => ⟨(right_dig h.1 h.2.1 t ht).1, fun x hx => ?_⟩⟩
  · have := (h.2.2.2 t ht).1
    omega
  · have := (h.2.2.2 t ht).2 x hx
    omega
theorem shut_bnd {n : Nat} (hn : 1 ≤ n ∧ n ≤ 8) {l : List (List Int × Int)} {L C E : Nat} (h : BddL n l L C E) (hL : L ≤ 600) (hC : L * C ≤ 1000000) (hE : E ≤ 20) :
    shutF n l = (⟨n, (nf lexlt l).map tm⟩, true) ∧ Bdd n ⟨n, (nf lexlt l).map tm⟩ L (L * C) E := by
  have hab := absE_le h.co
  have hab2 : l.length * C ≤ L * C := Nat.mul_le_mul_right C h.len
  have hl := nf_len (lt := lexlt) l
  have hll := h.len
  have hd := nf_desc lexOrd l
  have hz := nf_nz (lt := lexlt) l
  have key : ∀ x ∈ nf lexlt l, x.2.natAbs ≤ L * C ∧ x.1.length = n ∧ ∀ y ∈ x.1, -(E : Int) ≤ y ∧ y ≤ E := fun x hx => by
    have h1 := co_at lexOrd hd x hx
    rw [nf_co] at h1
    have h2 := co_abs x.1 l
    obtain ⟨z, hz1, hz2⟩ := nf_mem hx
    have h3 := h.ex z hz1
    rw [hz2] at h3
    exact ⟨by omega, h3⟩
  have hR : Right ⟨n, (nf lexlt l).map tm⟩ := by
    refine ⟨by dsimp only; omega, by dsimp only; rw [List.length_map]; omega, fun t hm => ?_, ?_⟩
    · obtain ⟨x, hx, rfl⟩ := List.mem_map.1 hm
      have h1 := key x hx
      refine ⟨by simp only [tm]; omega, hz x hx, by simp only [tm]; omega, fun y hy => ?_⟩
      have := h1.2.2 y hy
      omega
    · unfold DescT
      rw [List.pairwise_map]
      exact hd
  refine ⟨if_pos hR, hR, rfl, by dsimp only; rw [List.length_map]; omega, fun t hm => ?_, fun t hm => ?_⟩
  · obtain ⟨x, hx, rfl⟩ := List.mem_map.1 hm
    exact (key x hx).1
  · obtain ⟨x, hx, rfl⟩ := List.mem_map.1 hm
    exact (key x hx).2
theorem BddL.prod {n : Nat} {a b : List (List Int × Int)} {L C E L' C' E' : Nat} (ha : BddL n a L C E) (hb : BddL n b L' C' E') : BddL n (prodL a b) (L * L') (C * C') (E + E') := by
  refine ⟨by rw [prodL_len]; exact Nat.mul_le_mul ha.len hb.len, fun x hx => ?_, fun x hx => ?_⟩
  · obtain ⟨y, hy, z, hz, rfl⟩ := prodL_mem hx
    dsimp only
    rw [Int.natAbs_mul]
    exact Nat.mul_le_mul (ha.co y hy) (hb.co z hz)
  · obtain ⟨y, hy, z, hz, rfl⟩ := prodL_mem hx
    have h1 := ha.ex y hy
    have h2 := hb.ex z hz
    refine ⟨by dsimp only; rw [addE_length _ _ _ (by omega)]; exact h1.1, fun u hu => ?_⟩
    have := addE_mem (a := y.1) (b := z.1) (by omega) (p := E) (q := E') h1.2 h2.2 u hu
    omega
theorem BddL.app {n : Nat} {a b : List (List Int × Int)} {L C E L' : Nat} (ha : BddL n a L C E) (hb : BddL n b L' C E) : BddL n (a ++ b) (L + L') C E := by
  refine ⟨by rw [List.length_append]; have := ha.len; have := hb.len; omega, fun x hx => ?_, fun x hx => ?_⟩
  · rcases List.mem_append.1 hx with h | h
    · exact ha.co x h
    · exact hb.co x h
  · rcases List.mem_append.1 hx with h | h
    · exact ha.ex x h
    · exact hb.ex x h
theorem prk_eq (f : Lau) (k : Int) : f.ts.map (prk k) = (f.ts.map pr).map fun y => (y.1, k * y.2) := by
  rw [List.map_map]
  rfl
theorem BddL.neg {n : Nat} {f : Lau} {L C E : Nat} (h : Bdd n f L C E) {k : Int} (hk : k = 1 ∨ k = -1) : BddL n (f.ts.map (prk k)) L C E := by
  refine ⟨by simpa using h.len, fun x hx => ?_, fun x hx => ?_⟩
  · obtain ⟨t, ht, rfl⟩ := List.mem_map.1 hx
    have := h.co t ht
    simp only [prk]
    rcases hk with rfl | rfl <;> omega
  · obtain ⟨t, ht, rfl⟩ := List.mem_map.1 hx
    exact h.ex t ht
theorem add_bnd {n : Nat} (hn : 1 ≤ n ∧ n ≤ 8) {f g : Lau} {L C E L' : Nat} {k : Int} (hk : k = 1 ∨ k = -1) (hf : Bdd n f L C E) (hg : Bdd n g L' C E) (hL : L + L' ≤ 600) (hC : (L + L') * C ≤ 1000000) (hE : E ≤ 20) :
    addF f k g = (⟨n, (nf lexlt (f.ts.map pr ++ g.ts.map (prk k))).map tm⟩, true) ∧ Bdd n ⟨n, (nf lexlt (f.ts.map pr ++ g.ts.map (prk k))).map tm⟩ (L + L') ((L + L') * C) E := by
  have h1 := shut_bnd hn (hf.pr.app (BddL.neg hg hk)) hL hC hE
  refine ⟨?_, h1.2⟩
  unfold addF
  rw [if_pos ⟨⟨hf.right, hg.right, hf.v.trans hg.v.symm⟩, by rcases hk with rfl | rfl <;> omega⟩, hf.v]
  exact h1.1
theorem mul_bnd {n : Nat} (hn : 1 ≤ n ∧ n ≤ 8) {f g : Lau} {L C E L' C' E' : Nat} (hf : Bdd n f L C E) (hg : Bdd n g L' C' E') (hL : L * L' ≤ 600) (hC : L * L' * (C * C') ≤ 1000000) (hE : E + E' ≤ 20) :
    mulF f g = (⟨n, (nf lexlt (prodL (f.ts.map pr) (g.ts.map pr))).map tm⟩, true) ∧ Bdd n ⟨n, (nf lexlt (prodL (f.ts.map pr) (g.ts.map pr))).map tm⟩ (L * L') (L * L' * (C * C')) (E + E') := by
  have h1 := shut_bnd hn (hf.pr.prod hg.pr) hL hC hE
  refine ⟨?_, h1.2⟩
  unfold mulF
  rw [if_pos ⟨hf.right, hg.right, hf.v.trans hg.v.symm⟩, hf.v]
  exact h1.1
theorem addE_comm1 : ∀ (a b : List Int), a.length = b.length → addE 1 a b = addE 1 b a
  | [], [], _ => rfl
  | x :: a, y :: b, h => by
    simp only [addE, addE_comm1 a b (by simpa using h), Int.one_mul]
    rw [Int.add_comm]
theorem Bdd.lens {n : Nat} {f : Lau} {L C E : Nat} (h : Bdd n f L C E) : ∀ x ∈ f.ts.map Ab.pr, x.1.length = n := fun x hx => (h.pr.ex x hx).1
theorem prodL_eq (a b : List (List Int × Int)) : prodL a b = prodK (addE 1) a b := rfl
theorem vl_prk (φ : List Int → Int) (f : Lau) (k : Int) : vl φ (f.ts.map (prk k)) = k * vl φ (f.ts.map pr) := by
  rw [prk_eq]
  exact vl_map id k φ _
/-! ### The ring -/
theorem ring_dist {n : Nat} {f g h : Lau} : nf lexlt (prodL (((nf lexlt (f.ts.map pr ++ g.ts.map (prk 1))).map tm).map pr) (h.ts.map pr)) =
    nf lexlt (((nf lexlt (prodL (f.ts.map pr) (h.ts.map pr))).map tm).map pr ++ ((nf lexlt (prodL (g.ts.map pr) (h.ts.map pr))).map tm).map (prk 1)) := by
  refine nf_vl lexOrd fun φ => ?_
  have e : ∀ l : List (List Int × Int), (l.map tm).map (prk 1) = l := fun l => by
    rw [List.map_map]
    have : prk 1 ∘ tm = id := by funext x; simp [prk, tm]
    rw [this, List.map_id]
  rw [pr_tm, pr_tm, e, prodL_eq, prodL_eq, prodL_eq, vl_prod_nfL, vl_prod_addL, vl_app, vl_nf, vl_nf]
  have e2 : g.ts.map (prk 1) = g.ts.map pr := by
    refine List.map_congr_left fun t _ => ?_
    simp [prk, pr]
  rw [e2]
theorem ring_com {n : Nat} {f g : Lau} (hf : ∀ x ∈ f.ts.map pr, x.1.length = n) (hg : ∀ x ∈ g.ts.map pr, x.1.length = n) : nf lexlt (prodL (f.ts.map pr) (g.ts.map pr)) = nf lexlt (prodL (g.ts.map pr) (f.ts.map pr)) :=
  nf_vl lexOrd fun φ => by
    rw [prodL_eq, prodL_eq]
    exact vl_prod_com (D := fun e => e.length = n) (fun a b h1 h2 => addE_comm1 a b (h1.trans h2.symm)) φ hf hg
theorem ring_neg (f : Lau) : nf lexlt (f.ts.map pr ++ f.ts.map (prk (-1))) = [] := by
  have : nf lexlt (f.ts.map pr ++ f.ts.map (prk (-1))) = nf lexlt [] := nf_vl lexOrd fun φ => by
    rw [vl_app, vl_prk]
    simp only [vl]
    omega
  rw [this]
  rfl
theorem addE_zero1 : ∀ (n : Nat) (a : List Int), a.length = n → addE 1 (List.replicate n 0) a = a
  | 0, [], _ => rfl
  | n + 1, x :: a, h => by
    simp only [List.replicate_succ, addE, addE_zero1 n a (by simpa using h)]
    simp
theorem one_mul {n : Nat} {f : Lau} (hf : Right f) (hn : f.v = n) : mulF (oneF n) f = (f, true) ∧ mulF f (oneF n) = (f, true) := by
  have hn8 : 1 ≤ n ∧ n ≤ 8 := by have := hf.1; omega
  have h1 := oneF_right hn8
  have hl : ∀ x ∈ f.ts.map pr, x.1.length = n := fun x hx => by
    obtain ⟨t, ht, rfl⟩ := List.mem_map.1 hx
    exact (right_dig hf hn t ht).1
  have h1l : ∀ x ∈ (oneF n).ts.map pr, x.1.length = n := fun x hx => by
    simp only [oneF, List.map_cons, List.map_nil, List.mem_singleton] at hx
    subst hx
    simp [pr]
  have e : prodL ((oneF n).ts.map pr) (f.ts.map pr) = f.ts.map pr := by
    simp only [oneF, List.map_cons, List.map_nil, prodL, List.flatMap_cons, List.flatMap_nil, List.append_nil]
    have : ∀ l : List (List Int × Int), (∀ x ∈ l, x.1.length = n) → l.map (fun y => (addE 1 (pr ⟨List.replicate n 0, 1⟩).1 y.1, (pr ⟨List.replicate n 0, 1⟩).2 * y.2)) = l := fun l hl => by
      refine (List.map_congr_left fun x hx => ?_).trans (List.map_id l)
      simp only [pr, addE_zero1 n x.1 (hl x hx), Int.one_mul, id]
    exact this _ hl
  have enf : nf lexlt (f.ts.map pr) = f.ts.map pr := (nf_unique lexOrd (pr_desc hf) (pr_nz hf) fun k => rfl).symm
  constructor
  · unfold mulF
    rw [if_pos ⟨h1, hf, hn.symm⟩, e]
    unfold shutF
    rw [enf]
    have : (⟨(oneF n).v, (f.ts.map pr).map tm⟩ : Lau) = f := by
      rw [show (oneF n).v = f.v from hn.symm]
      exact lau_eta f
    rw [this, if_pos hf]
  · unfold mulF
    rw [if_pos ⟨hf, h1, hn⟩]
    unfold shutF
    rw [ring_com hl h1l, e, enf, lau_eta, if_pos hf]
theorem pow_two {n : Nat} {f Q : Lau} (hf : Right f) (hn : f.v = n) (hQ : mulF f f = (Q, true)) : powF f 2 = (Q, true) := by
  unfold powF
  rw [if_pos ⟨hf, by omega, by omega⟩]
  have h1 : powL f 1 = some f := by
    simp only [powL]
    rw [show f.v.toNat = n by omega, (one_mul hf hn).1]
    simp
  have h2 : powL f (2 : Int).toNat = some Q := by
    show powL f (1 + 1) = some Q
    simp only [powL] at h1 ⊢
    rw [h1]
    simp [hQ]
  rw [h2]
/-! ### Values -/
theorem evF_of {f : Lau} {ys : List Int} {n : Nat} (hf : Right f) (hn : f.v = n) (hy : ys.length = n) (h : ∀ y ∈ ys, y % 32003 ≠ 0) : evF f ys = evS ys n f.ts f.ts.length := by
  unfold evF
  rw [if_pos ⟨hf, by omega, h⟩, hy]
theorem evF_no {f : Lau} {ys : List Int} (h : ¬ ∀ y ∈ ys, y % 32003 ≠ 0) : evF f ys = -1 := if_neg fun q => h q.2.2
theorem eqm_nat {a : Nat} {b : Int} (ha : a < 32003) (h : eqm a b) : (a : Int) = b % 32003 := by unfold eqm at h; omega
theorem ev_mul {n : Nat} {f g : Lau} {ys : List Int} (hy : ys.length = n) (h : ∀ y ∈ ys, y % 32003 ≠ 0) (hf : ∀ x ∈ f.ts.map pr, x.1.length = n) (hg : ∀ x ∈ g.ts.map pr, x.1.length = n) :
    (evS ys n ((nf lexlt (prodL (f.ts.map pr) (g.ts.map pr))).map tm) ((nf lexlt (prodL (f.ts.map pr) (g.ts.map pr))).map tm).length : Int) = (evS ys n f.ts f.ts.length : Int) * evS ys n g.ts g.ts.length % 32003 := by
  have h1 := evS_val ys n ((nf lexlt (prodL (f.ts.map pr) (g.ts.map pr))).map tm)
  rw [pr_tm, vl_nf] at h1
  exact eqm_nat (evS_lt _ _ _ _) ((h1.trans (val_prod h hy.symm hf hg)).trans ((evS_val ys n f.ts).mul (evS_val ys n g.ts)).symm)
theorem ev_add {n : Nat} {f g : Lau} {ys : List Int} :
    (evS ys n ((nf lexlt (f.ts.map pr ++ g.ts.map (prk 1))).map tm) ((nf lexlt (f.ts.map pr ++ g.ts.map (prk 1))).map tm).length : Int) = ((evS ys n f.ts f.ts.length : Int) + evS ys n g.ts g.ts.length) % 32003 := by
  have h1 := evS_val ys n ((nf lexlt (f.ts.map pr ++ g.ts.map (prk 1))).map tm)
  rw [pr_tm, vl_nf, vl_app, vl_prk, Int.one_mul] at h1
  exact eqm_nat (evS_lt _ _ _ _) (h1.trans ((evS_val ys n f.ts).add (evS_val ys n g.ts)).symm)
/-- All that the law of the ring asks of drawn sums. -/
theorem ring_facts {n : Nat} {f g h : Lau} (hn : 1 ≤ n ∧ n ≤ 8) (hf : Drawn n f) (hg : Drawn n g) (hh : Drawn n h) : ∃ A B P FH GH N Q : Lau,
    (addF f 1 g = (A, true) ∧ mulF A h = (B, true) ∧ mulF f g = (P, true)) ∧ (mulF f h = (FH, true) ∧ mulF g h = (GH, true) ∧ addF FH 1 GH = (B, true)) ∧ mulF g f = (P, true) ∧ (addF f (-1) f = (N, true) ∧ N.ts = []) ∧ (mulF f f = (Q, true) ∧ powF f 2 = (Q, true)) ∧
    (SmF A ∧ SmF B ∧ SmF P ∧ SmF FH ∧ SmF GH ∧ SmF Q) ∧
    ∀ zs : List Int, zs.length = n → (∀ y ∈ zs, y % 32003 ≠ 0) → ∃ u v : Nat, u < 32003 ∧ v < 32003 ∧ evF f zs = u ∧ evF g zs = v ∧ evF P zs = ((u * v % 32003 : Nat) : Int) ∧ evF A zs = (((u + v) % 32003 : Nat) : Int) := by
  have bf := hf.bnd
  have bg := hg.bnd
  have bh := hh.bnd
  obtain ⟨a1, a2⟩ := add_bnd hn (k := 1) (.inl rfl) bf bg (by omega) (by omega) (by omega)
  obtain ⟨b1, b2⟩ := mul_bnd hn a2 bh (by omega) (by omega) (by omega)
  obtain ⟨p1, p2⟩ := mul_bnd hn bf bg (by omega) (by omega) (by omega)
  obtain ⟨c1, c2⟩ := mul_bnd hn bf bh (by omega) (by omega) (by omega)
  obtain ⟨d1, d2⟩ := mul_bnd hn bg bh (by omega) (by omega) (by omega)
  obtain ⟨e1, e2⟩ := add_bnd hn (k := 1) (.inl rfl) c2 d2 (by omega) (by omega) (by omega)
  obtain ⟨q1, q2⟩ := mul_bnd hn bg bf (by omega) (by omega) (by omega)
  obtain ⟨n1, n2⟩ := add_bnd hn (k := -1) (.inr rfl) bf bf (by omega) (by omega) (by omega)
  obtain ⟨s1, s2⟩ := mul_bnd hn bf bf (by omega) (by omega) (by omega)
  rw [← ring_com bf.lens bg.lens] at q1
  rw [← ring_dist (n := n)] at e1
  refine ⟨_, _, _, _, _, _, _, ⟨a1, b1, p1⟩, ⟨c1, d1, e1⟩, q1, ⟨n1, ?_⟩, ⟨s1, pow_two hf.1 hf.2.1 s1⟩, ⟨a2.sm, b2.sm, p2.sm, c2.sm, d2.sm, s2.sm⟩, fun zs hz hy => ?_⟩
  · dsimp only
    rw [ring_neg]
    rfl
  · refine ⟨evS zs n f.ts f.ts.length, evS zs n g.ts g.ts.length, evS_lt _ _ _ _, evS_lt _ _ _ _, evF_of hf.1 hf.2.1 hz hy, evF_of hg.1 hg.2.1 hz hy, ?_, ?_⟩
    · rw [evF_of p2.right rfl hz hy]
      have := ev_mul hz hy bf.lens bg.lens
      rw [Int.natCast_emod, Int.natCast_mul]
      exact this
    · rw [evF_of a2.right rfl hz hy]
      have := ev_add (n := n) (f := f) (g := g) (ys := zs)
      rw [Int.natCast_emod, Int.natCast_add]
      exact this
end Go.Proofs.Ytocknokodgnlbaa.Ab
namespace Go.Proofs.Ytocknokodgnlbaa.Ab
open Go
set_option linter.unusedSimpArgs false
set_option linter.unusedVariables false
set_option maxRecDepth 10000
set_option maxHeartbeats 2000000
theorem laws_FnLaurentRing_calls (xs : List Int) : ACalls Try.prog F.laws_FnLaurentRing [.d (.sh 1 xs.length (byts xs))] [] true (fun outs res => outs = [] ∧ res = [.one (D.bool true)]) := by
  refine ACalls.of_body (C := C.laws_FnLaurentRing) (n := Try.f4.ntmps) tabT folT Try.func4 rfl (by kernel_rfl) rfl (Nat.le_of_ble_eq_true rfl) (by decide) (by kernel_rfl) (by kernel_rfl) rfl (by simp) (by simp) ?_
  simp only [Try.f4]
  refine wseq ?_
  refine wreg fun K hK => ?_
  simp [C.laws_FnLaurentRing, fO, fS]
  refine hK _ ?_; clear hK K
  show AWp _ _ _ _ _
  refine wseq ?_
  refine wseq ?_
  refine wregI ([0, 1] ++ ([])) rfl fun K hK => ?_
  refine opsI_seg fun L hL => ?_
  simp [C.laws_FnLaurentRing, fO, fS]
  refine wcall1 (laws_big_calls xs) (by simp) (by simp) ?_
  simp [C.laws_FnLaurentRing, fO, fS]
  refine hL _ ?_; clear hL L
  refine opsI_end fun L hL => ?_
  simp only [AOpsI]
  refine hL _ ?_; clear hL L
  simp [C.laws_FnLaurentRing, fO, fS]
  refine hK _ ?_; clear hK K
  show AWp _ _ _ _ _
  refine wcond _ rfl (fun hc1 => ?_) (fun hc1 => ?_)
  · refine wseq ?_
    refine wreg fun K hK => ?_
    simp [C.laws_FnLaurentRing, fO, fS]
    refine hK _ ?_; clear hK K
    show AWp _ _ _ _ _
    refine wret ?_
    simp [C.laws_FnLaurentRing, fO, fS]
  · have hx : xs.length ≤ 1048576 := by have := d_f hc1; omega
    refine wskip ?_
    show AWp _ _ _ _ _
    refine wseq ?_
    refine wregI ([0, 1] ++ ([2, 3, 4, 5, 6, 7, 8, 9, 10, 11])) rfl fun K hK => ?_
    refine opsI_seg fun L hL => ?_
    simp [C.laws_FnLaurentRing, fO, fS]
    refine wcall (spec_DrawSums_calls xs hx) (by simp) (by simp) (by simp) ?_
    rintro outs res ⟨n, f, g, h, hn, hf, hg, hh, rfl, rfl⟩
    simp [C.laws_FnLaurentRing, fO, fS]
    refine hL _ ?_; clear hL L
    refine opsI_end fun L hL => ?_
    simp [C.laws_FnLaurentRing, fO, fS]
    refine hL _ ?_; clear hL L
    simp [C.laws_FnLaurentRing, fO, fS]
    refine hK _ ?_; clear hK K
    show AWp _ _ _ _ _
    refine wseq ?_
    have hfv : f.v = n := hf.2.1
    refine wdrawI [(true, 0), (true, 2), (true, 3), (false, 1), (true, 4), (true, 5)] ⟨by kernel_rfl, by kernel_rfl⟩ ([0, 2, 3, 1] ++ ([4, 5])) rfl fun K hK => ?_
    refine opsI_seg fun L hL => ?_
    simp [C.laws_FnLaurentRing, fO, fS, hfv, show n ≤ 8 by omega, show (n : Int) ≤ 8 by omega]
    refine wcall (spec_DrawPlaces_calls xs hx) (by simp) (by simp) (by simp) ?_
    rintro outs res ⟨ys, hy8, hyb, rfl, rfl⟩
    simp [C.laws_FnLaurentRing, fO, fS, hfv, show n ≤ 8 by omega, show (n : Int) ≤ 8 by omega]
    refine hL _ ?_; clear hL L
    refine opsI_end fun L hL => ?_
    simp [C.laws_FnLaurentRing, fO, fS, hfv, show n ≤ 8 by omega, show (n : Int) ≤ 8 by omega]
    refine ⟨by rw [hy8]; omega, ?_⟩
    refine hL _ ?_; clear hL L
    simp [C.laws_FnLaurentRing, fO, fS, hfv, show n ≤ 8 by omega, show (n : Int) ≤ 8 by omega]
    refine hK _ ?_; clear hK K
    show AWp _ _ _ _ _
    refine wseq ?_
    obtain ⟨A, B, P, FH, GH, N, Q, ⟨f1, f2, f3⟩, ⟨f4, f5, f6⟩, f7, ⟨f8, f9⟩, ⟨f10, f11⟩, ⟨s1, s2, s3, s4, s5, s6⟩, hval⟩ := ring_facts (by omega) hf hg hh
    have hfl := hf.len
    have hgl := hg.len
    have hhl := hh.len
    obtain ⟨zs, hzs⟩ : ∃ zs, zs = ys.take n := ⟨_, rfl⟩
    have hzl : zs.length = n := by rw [hzs]; simp; omega
    have hzt : ints (ys.take n) = ints zs := by rw [hzs]
    have hAdd := iAdd_calls f 1 g hfl.1 hfl.2 hgl.1 hgl.2
    rw [f1] at hAdd
    have hAh := mulOk A h s1.1 s1.2 hhl.1 hhl.2
    rw [f2] at hAh
    have hFG := mulOk f g hfl.1 hfl.2 hgl.1 hgl.2
    rw [f3] at hFG
    have hFH := laws_times_calls f h hfl.1 hfl.2 hhl.1 hhl.2
    rw [f4] at hFH
    have hGH := laws_times_calls g h hgl.1 hgl.2 hhl.1 hhl.2
    rw [f5] at hGH
    have hPl := laws_plus_calls FH 1 GH s4.1 s4.2 s5.1 s5.2
    rw [f6] at hPl
    have hGF := laws_times_calls g f hgl.1 hgl.2 hfl.1 hfl.2
    rw [f7] at hGF
    have hNg := laws_plus_calls f (-1) f hfl.1 hfl.2 hfl.1 hfl.2
    rw [f8] at hNg
    have hFF := laws_times_calls f f hfl.1 hfl.2 hfl.1 hfl.2
    rw [f10] at hFF
    have hPw := iPow_calls mulOk f 2 hfl.1 hfl.2
    rw [f11] at hPw
    have hEf := impl_EvaluateLaurent_calls f zs hfl.1 hfl.2 (by omega)
    have hEg := impl_EvaluateLaurent_calls g zs hgl.1 hgl.2 (by omega)
    have hEp := impl_EvaluateLaurent_calls P zs s3.1 s3.2 (by omega)
    have hEa := impl_EvaluateLaurent_calls A zs s1.1 s1.2 (by omega)
    refine wregI ([0, 1, 2] ++ ([3, 4, 5, 6, 7, 8])) rfl fun K hK => ?_
    refine opsI_seg fun L hL => ?_
    simp [C.laws_FnLaurentRing, fO, fS, hfv]
    refine wcall1 (hAdd) (by simp [fO, fS, hfv]) (by simp) ?_
    simp [C.laws_FnLaurentRing, fO, fS, hfv]
    refine hL _ ?_; clear hL L
    refine opsI_end fun L hL => ?_
    simp [C.laws_FnLaurentRing, fO, fS, hfv]
    refine hL _ ?_; clear hL L
    simp [C.laws_FnLaurentRing, fO, fS, hfv]
    refine hK _ ?_; clear hK K
    show AWp _ _ _ _ _
    refine wseq ?_
    refine wregI ([0, 1, 2] ++ ([3, 4, 5, 6, 7, 8])) rfl fun K hK => ?_
    refine opsI_seg fun L hL => ?_
    simp [C.laws_FnLaurentRing, fO, fS, hfv]
    refine wcall1 (hAh) (by simp [fO, fS, hfv]) (by simp) ?_
    simp [C.laws_FnLaurentRing, fO, fS, hfv]
    refine hL _ ?_; clear hL L
    refine opsI_end fun L hL => ?_
    simp [C.laws_FnLaurentRing, fO, fS, hfv]
    refine hL _ ?_; clear hL L
    simp [C.laws_FnLaurentRing, fO, fS, hfv]
    refine hK _ ?_; clear hK K
    show AWp _ _ _ _ _
    refine wseq ?_
    refine wregI ([0, 1, 2] ++ ([3, 4, 5, 6, 7, 8])) rfl fun K hK => ?_
    refine opsI_seg fun L hL => ?_
    simp [C.laws_FnLaurentRing, fO, fS, hfv]
    refine wcall1 (hFG) (by simp [fO, fS, hfv]) (by simp) ?_
    simp [C.laws_FnLaurentRing, fO, fS, hfv]
    refine hL _ ?_; clear hL L
    refine opsI_end fun L hL => ?_
    simp [C.laws_FnLaurentRing, fO, fS, hfv]
    refine hL _ ?_; clear hL L
    simp [C.laws_FnLaurentRing, fO, fS, hfv]
    refine hK _ ?_; clear hK K
    show AWp _ _ _ _ _
    refine wseq ?_
    refine wseq ?_
    refine wdrawI [(true, 0), (true, 1), (true, 2), (true, 3), (true, 4), (true, 5), (true, 6), (true, 7), (true, 8), (true, 9), (true, 10), (true, 11), (true, 12), (true, 13), (true, 15), (true, 16), (false, 14), (false, 17), (false, 18), (false, 19), (true, 20), (true, 21), (true, 22), (true, 23), (true, 24), (true, 25), (false, 26), (false, 27), (true, 28), (true, 29), (true, 30), (true, 31), (true, 32), (false, 33), (false, 34), (true, 35), (true, 36), (true, 37)] ⟨by kernel_rfl, by kernel_rfl⟩ ([0, 1, 2, 3, 4, 5, 6, 7, 8, 9, 10, 11, 12, 13, 15, 16, 14] ++ ([17] ++ ([18] ++ ([19] ++ ([20, 21, 22, 23, 24, 25, 26] ++ ([27] ++ ([28, 29, 30, 31, 32, 33] ++ ([34, 35, 36, 37])))))))) rfl fun K hK => ?_
    refine opsI_seg fun L hL => ?_
    simp [C.laws_FnLaurentRing, fO, fS, f9, rows, hfv]
    refine wcall1 (hFH) (by simp [fO, fS, f9, rows, hfv]) (by simp) ?_
    simp [C.laws_FnLaurentRing, fO, fS, f9, rows, hfv]
    refine hL _ ?_; clear hL L
    refine opsI_seg fun L hL => ?_
    simp [C.laws_FnLaurentRing, fO, fS, f9, rows, hfv]
    refine wcall1 (hGH) (by simp [fO, fS, f9, rows, hfv]) (by simp) ?_
    simp [C.laws_FnLaurentRing, fO, fS, f9, rows, hfv]
    refine hL _ ?_; clear hL L
    refine opsI_seg fun L hL => ?_
    simp [C.laws_FnLaurentRing, fO, fS, f9, rows, hfv]
    refine wcall1 (hPl) (by simp [fO, fS, f9, rows, hfv]) (by simp) ?_
    simp [C.laws_FnLaurentRing, fO, fS, f9, rows, hfv]
    refine hL _ ?_; clear hL L
    refine opsI_seg fun L hL => ?_
    simp [C.laws_FnLaurentRing, fO, fS, f9, rows, hfv]
    refine wcall1 (laws_laurents_calls B B s2.1 s2.2) (by simp) (by simp) ?_
    simp [C.laws_FnLaurentRing, fO, fS, f9, rows, hfv]
    refine hL _ ?_; clear hL L
    refine opsI_seg fun L hL => ?_
    simp [C.laws_FnLaurentRing, fO, fS, f9, rows, hfv]
    refine wcall1 (hGF) (by simp [fO, fS, f9, rows, hfv]) (by simp) ?_
    simp [C.laws_FnLaurentRing, fO, fS, f9, rows, hfv]
    refine hL _ ?_; clear hL L
    refine opsI_seg fun L hL => ?_
    simp [C.laws_FnLaurentRing, fO, fS, f9, rows, hfv]
    refine wcall1 (laws_laurents_calls P P s3.1 s3.2) (by simp) (by simp) ?_
    simp [C.laws_FnLaurentRing, fO, fS, f9, rows, hfv]
    refine hL _ ?_; clear hL L
    refine opsI_seg fun L hL => ?_
    simp [C.laws_FnLaurentRing, fO, fS, f9, rows, hfv]
    refine wcall1 (hNg) (by simp [fO, fS, f9, rows, hfv]) (by simp) ?_
    simp [C.laws_FnLaurentRing, fO, fS, f9, rows, hfv]
    refine hL _ ?_; clear hL L
    refine opsI_end fun L hL => ?_
    simp [C.laws_FnLaurentRing, fO, fS, f9, rows, hfv]
    refine hL _ ?_; clear hL L
    simp [C.laws_FnLaurentRing, fO, fS, f9, rows, hfv]
    refine hK _ ?_; clear hK K
    show AWp _ _ _ _ _
    refine wcond _ rfl (fun hc2 => ?_) (fun hc2 => ?_)
    · simp at hc2
    · refine wskip ?_
      show AWp _ _ _ _ _
      refine wseq ?_
      refine wdrawI [(true, 0), (true, 1), (true, 3), (true, 4), (true, 6), (true, 7), (false, 2), (false, 5), (false, 8), (true, 9), (true, 10), (true, 11)] ⟨by kernel_rfl, by kernel_rfl⟩ ([0, 1, 3, 4, 6, 7, 2] ++ ([5] ++ ([8] ++ ([9, 10, 11])))) rfl fun K hK => ?_
      refine opsI_seg fun L hL => ?_
      simp [C.laws_FnLaurentRing, fO, fS, hzt, hzl, hfv, show ¬ n = ys.length by omega]
      refine wcall1 (hEf) (by simp [fO, fS, hzt, hzl, hfv, show ¬ n = ys.length by omega]) (by simp) ?_
      simp [C.laws_FnLaurentRing, fO, fS, hzt, hzl, hfv, show ¬ n = ys.length by omega]
      refine hL _ ?_; clear hL L
      refine opsI_seg fun L hL => ?_
      simp [C.laws_FnLaurentRing, fO, fS, hzt, hzl, hfv, show ¬ n = ys.length by omega]
      refine wcall1 (hEg) (by simp [fO, fS, hzt, hzl, hfv, show ¬ n = ys.length by omega]) (by simp) ?_
      simp [C.laws_FnLaurentRing, fO, fS, hzt, hzl, hfv, show ¬ n = ys.length by omega]
      refine hL _ ?_; clear hL L
      refine opsI_seg fun L hL => ?_
      simp [C.laws_FnLaurentRing, fO, fS, hzt, hzl, hfv, show ¬ n = ys.length by omega]
      refine wcall1 (hEp) (by simp [fO, fS, hzt, hzl, hfv, show ¬ n = ys.length by omega]) (by simp) ?_
      simp [C.laws_FnLaurentRing, fO, fS, hzt, hzl, hfv, show ¬ n = ys.length by omega]
      refine hL _ ?_; clear hL L
      refine opsI_end fun L hL => ?_
      simp [C.laws_FnLaurentRing, fO, fS, hzt, hzl, hfv, show ¬ n = ys.length by omega]
      refine hL _ ?_; clear hL L
      simp [C.laws_FnLaurentRing, fO, fS, hzt, hzl, hfv, show ¬ n = ys.length by omega]
      refine hK _ ?_; clear hK K
      show AWp _ _ _ _ _
      refine wseq ?_
      refine wseq ?_
      refine wreg fun K hK => ?_
      simp [C.laws_FnLaurentRing, fO, fS]
      refine hK _ ?_; clear hK K
      show AWp _ _ _ _ _
      refine wcond _ rfl (fun hc3 => ?_) (fun hc3 => ?_)
      · have hneg : evF f zs < 0 := by simpa using hc3
        have hbad : ¬ ∀ y ∈ zs, y % 32003 ≠ 0 := fun q => by
          obtain ⟨u, v, _, _, e1, _⟩ := hval zs hzl q
          omega
        have hSp := spec_EvaluateLaurentBad_calls f zs hf.1 (by omega) hbad
        have hPn : evF P zs = -1 := evF_no hbad
        refine wseq ?_
        refine wregI ([0, 1, 2] ++ ([3, 4, 5, 6, 7, 8])) rfl fun K hK => ?_
        refine opsI_seg fun L hL => ?_
        simp [C.laws_FnLaurentRing, fO, fS, show ¬ n = ys.length by omega, hzt, hzl, hPn, hfv]
        refine wcall1 (hSp) (by simp [fO, fS, show ¬ n = ys.length by omega, hzt, hzl, hPn, hfv]) (by simp) ?_
        simp [C.laws_FnLaurentRing, fO, fS, show ¬ n = ys.length by omega, hzt, hzl, hPn, hfv]
        refine hL _ ?_; clear hL L
        refine opsI_end fun L hL => ?_
        simp [C.laws_FnLaurentRing, fO, fS, show ¬ n = ys.length by omega, hzt, hzl, hPn, hfv]
        refine hL _ ?_; clear hL L
        simp [C.laws_FnLaurentRing, fO, fS, show ¬ n = ys.length by omega, hzt, hzl, hPn, hfv]
        refine hK _ ?_; clear hK K
        show AWp _ _ _ _ _
        refine wret ?_
        simp [C.laws_FnLaurentRing, fO, fS]
      · have hpos : ¬ evF f zs < 0 := by simpa using hc3
        have hgood : ∀ y ∈ zs, y % 32003 ≠ 0 := Classical.byContradiction fun q => hpos (by rw [evF_no q]; omega)
        obtain ⟨u, v, hu, hv, e1, e2, e3, e4⟩ := hval zs hzl hgood
        have w1 := pwmul hu hv
        have w2 := pwadd hu hv
        refine wskip ?_
        show AWp _ _ _ _ _
        refine wseq ?_
        refine wregI ([0, 1] ++ ([2, 3, 4, 5, 6, 7])) rfl fun K hK => ?_
        refine opsI_seg fun L hL => ?_
        simp [C.laws_FnLaurentRing, fO, fS, hfv]
        refine wcall1 (hPw) (by simp [fO, fS, hfv]) (by simp) ?_
        simp [C.laws_FnLaurentRing, fO, fS, hfv]
        refine hL _ ?_; clear hL L
        refine opsI_end fun L hL => ?_
        simp [C.laws_FnLaurentRing, fO, fS, hfv]
        refine hL _ ?_; clear hL L
        simp [C.laws_FnLaurentRing, fO, fS, hfv]
        refine hK _ ?_; clear hK K
        show AWp _ _ _ _ _
        refine wseq ?_
        refine wdrawI [(true, 0), (true, 1), (true, 2), (true, 3), (true, 4), (true, 5), (true, 6), (true, 7), (true, 8), (true, 10), (true, 11), (true, 12), (true, 13), (false, 9), (true, 14), (true, 15), (true, 16), (true, 17), (true, 18), (true, 19), (true, 20), (true, 21), (true, 22), (false, 23), (false, 24), (true, 25), (true, 26)] ⟨by kernel_rfl, by kernel_rfl⟩ ([0, 1, 2, 3, 4, 5, 6, 7, 8, 10, 11, 12, 13, 9] ++ ([14, 15, 16, 17, 18, 19, 20, 21, 22, 23] ++ ([24] ++ ([25, 26])))) rfl fun K hK => ?_
        refine opsI_seg fun L hL => ?_
        simp [C.laws_FnLaurentRing, fO, fS, show ¬ n = ys.length by omega, hfv, hzt, hzl, e1, e2, e3, e4, w1, w2]
        refine wcall1 (hEa) (by simp [fO, fS, show ¬ n = ys.length by omega, hfv, hzt, hzl, e1, e2, e3, e4, w1, w2]) (by simp) ?_
        simp [C.laws_FnLaurentRing, fO, fS, show ¬ n = ys.length by omega, hfv, hzt, hzl, e1, e2, e3, e4, w1, w2]
        refine hL _ ?_; clear hL L
        refine opsI_seg fun L hL => ?_
        simp [C.laws_FnLaurentRing, fO, fS, show ¬ n = ys.length by omega, hfv, hzt, hzl, e1, e2, e3, e4, w1, w2]
        refine wcall1 (hFF) (by simp [fO, fS, show ¬ n = ys.length by omega, hfv, hzt, hzl, e1, e2, e3, e4, w1, w2]) (by simp) ?_
        simp [C.laws_FnLaurentRing, fO, fS, show ¬ n = ys.length by omega, hfv, hzt, hzl, e1, e2, e3, e4, w1, w2]
        refine hL _ ?_; clear hL L
        refine opsI_seg fun L hL => ?_
        simp [C.laws_FnLaurentRing, fO, fS, show ¬ n = ys.length by omega, hfv, hzt, hzl, e1, e2, e3, e4, w1, w2]
        refine wcall1 (laws_laurents_calls Q Q s6.1 s6.2) (by simp) (by simp) ?_
        simp [C.laws_FnLaurentRing, fO, fS, show ¬ n = ys.length by omega, hfv, hzt, hzl, e1, e2, e3, e4, w1, w2]
        refine hL _ ?_; clear hL L
        refine opsI_end fun L hL => ?_
        simp [C.laws_FnLaurentRing, fO, fS, show ¬ n = ys.length by omega, hfv, hzt, hzl, e1, e2, e3, e4, w1, w2]
        refine hL _ ?_; clear hL L
        simp [C.laws_FnLaurentRing, fO, fS, show ¬ n = ys.length by omega, hfv, hzt, hzl, e1, e2, e3, e4, w1, w2]
        refine hK _ ?_; clear hK K
        show AWp _ _ _ _ _
        refine wret ?_
        simp [C.laws_FnLaurentRing, fO, fS]

end Go.Proofs.Ytocknokodgnlbaa.Ab
namespace Go.Proofs.Ytocknokodgnlbaa.Ab
open Go Go.ChangeShapes Go.WideShapes Go.ChangeAt Go.RowKit
set_option linter.unusedSimpArgs false
set_option linter.unusedVariables false
set_option maxRecDepth 100000
section
variable {H : Type} {enc : TypeId × Value → H} {W : World}
theorem rows_byts (l : List Int) : rows (fun n => [D.v (.int .u8 n)]) l = byts l := by
  induction l with
  | nil => rfl
  | cons x l ih => simp [rows, ih, byts]
def CodeB (l : List Int) : Prop := (∀ x ∈ l, 0 ≤ x ∧ x ≤ 255) ∧ l.length * 1 ≤ 140737488351232
theorem opCode : Opens enc Try.prog W 22 1 (List Int) (fun l => [.sh 1 l.length (byts l)]) CodeB :=
  (Opens.slice (Opens.byte Try.underlying5 (by kernel_rfl)) (by omega) Try.underlying22 (by kernel_rfl) (by kernel_rfl)).to id (fun l => by simp [rows_byts]) (fun _ => rfl) (fun _ h => h)
theorem argCode : Arg enc Try.prog W 22 (List Int) (fun l => .d (.sh 1 l.length (byts l))) CodeB := Arg.one opCode (by kernel_rfl) (of_decide_eq_true (by kernel_rfl)) (by kernel_rfl)
end
end Go.Proofs.Ytocknokodgnlbaa.Ab
namespace Go.Proofs.Ytocknokodgnlbaa.Ab
open Go
theorem lawLr (xs : List Int) : ACalls Try.prog F.laws_FnLaurentRing [.d (.sh 1 xs.length (byts xs))] [] true (fun outs res => outs = [] ∧ res = [.one (D.bool true)]) := laws_FnLaurentRing_calls xs
end Go.Proofs.Ytocknokodgnlbaa.Ab
