/- The factors of the first session's matrix. No condition. -/
import Derived.Test.YtdgeponcnlkaiaaFnL
namespace Go.Proofs.Ytdgeponcnlkaiaa.Ab
open Go
set_option linter.unusedSimpArgs false
set_option linter.unusedVariables false
set_option maxRecDepth 10000
set_option maxHeartbeats 2000000
def fcA (s : Nat) : List Int := if s = 0 then [0, 0] else [1, 1]
def fcN (a j : Nat) : List Int := if a = 0 ∧ j ≤ 1 then [1, 0] else [1, 1]
def fcP (a j : Nat) : List Int := if a = 0 ∧ j ≤ 1 then [0] else [0, 1]
def fcO (t : Nat) : List Int := if t = 0 then [0, 0] else if t = 1 then [1, 0] else [1, 1]
def fcG (t : Nat) : Int := if t = 0 then 0 else 1
theorem fcM (i j : Nat) (hi : i < 2) (hj : j < 2) : ([0, 1, -1, 0] : List Int)[i * 2 + j]'(by simp; omega) = if i = j then 0 else if i = 0 then 1 else -1 := by
  rcases (show i = 0 ∨ i = 1 by omega) with rfl | rfl <;> rcases (show j = 0 ∨ j = 1 by omega) with rfl | rfl <;> rfl
theorem impl_factors_calls : ACalls Try.prog F.impl_factors [.ag [.int 2, .int 2, .d (.sh 1 4 (ints [0, 1, -1, 0]))]] [] true (fun outs res => outs = [] ∧ res = [.one (.ow 1 2 (ints [1, 1]))]) := by
  refine ACalls.of_body (C := C.impl_factors) (n := Try.f93.ntmps) tabT folT Try.func93 rfl (by kernel_rfl) rfl (Nat.le_of_ble_eq_true rfl) (by decide) (by kernel_rfl) (by kernel_rfl) rfl (by simp) (by simp) ?_
  simp only [Try.f93]
  refine wseq ?_
  refine wreg fun K hK => ?_
  simp [C.impl_factors]
  refine hK _ ?_; clear hK K
  show AWp _ _ _ _ _
  refine wseq ?_
  refine wdraw (.take 0 (.take 1 (.take 3 (.take 4 (.all [(2, .take 6 (.all [(5, .take 7 (.done))])), (5, .all [(2, .take 6 (.take 7 (.done)))])]))))) ⟨by kernel_rfl, by kernel_rfl⟩ fun K hK => ?_
  have hJ : K ⟨ofL [(1, .pt (1, 0) [] 0), (3, .al (3, 0) [] 0 2), (4, .al (4, 0) [] 0 2)], ofRO [((1, 0), some (.bx [D.int 2, D.int 2, .sh 1 4 (ints [0, 1, -1, 0])])), ((3, 0), some (.ow 1 2 (ints [0, 0]))), ((4, 0), some (.ow 1 2 (ints [0, 0])))]⟩ := by
    refine hK _ ?_; clear hK K
    show AWp _ _ _ _ _
    refine wseq ?_
    refine wreg fun K hK => ?_
    simp [C.impl_factors, zeros_ints]
    refine hK _ ?_; clear hK K
    show AWp _ _ _ _ _
    refine wseq ?_
    refine wseq ?_
    refine wreg fun K hK => ?_
    simp [C.impl_factors]
    refine hK _ ?_; clear hK K
    show AWp _ _ _ _ _
    refine wblock ?_
    refine wloop (fun x : Nat × List Int => ⟨ofL [(1, .pt (1, 0) [] 0), (3, .al (3, 0) [] 0 2), (4, .al (4, 0) [] 0 2), (5, .al (5, 0) [] 0 2), (34, .int 2), (35, .int x.1)], ofRO [((1, 0), some (.bx [D.int 2, D.int 2, .sh 1 4 (ints [0, 1, -1, 0])])), ((3, 0), some (.ow 1 2 (ints x.2))), ((4, 0), some (.ow 1 2 (ints x.2))), ((5, 0), some (.ow 1 2 (ints x.2)))]⟩) (fun x => x.1 ≤ 2 ∧ x.2 = fcA x.1) (fun x => 2 - x.1) (0, [0, 0]) (by simp [C.impl_factors, ints]) (by simp [fcA]) ?_
    intro x1 hx1 R1 hR1
    obtain ⟨s, nm⟩ := x1
    obtain ⟨hs, hnm⟩ := hx1
    dsimp only at hs hnm ⊢
    refine wseq ?_
    refine wreg fun K hK => ?_
    simp [C.impl_factors]
    refine hK _ ?_; clear hK K
    show AWp _ _ _ _ _
    refine wseq ?_
    refine wcond _ rfl (fun hc1 => ?_) (fun hc1 => ?_)
    · have h1 : s < 2 := by have := d_t hc1; omega
      have hl : nm.length = 2 := by rw [hnm]; unfold fcA; split <;> rfl
      refine wskip ?_
      show AWp _ _ _ _ _
      refine wseq ?_
      refine wblock ?_
      refine wseq ?_
      refine wreg fun K hK => ?_
      simp [C.impl_factors]
      refine hK _ ?_; clear hK K
      show AWp _ _ _ _ _
      refine wseq ?_
      refine wseq ?_
      refine wreg fun K hK => ?_
      simp [C.impl_factors, show ((s : Int) < 2) by omega, h1, hl, get_ints]
      refine hK _ ?_; clear hK K
      show AWp _ _ _ _ _
      refine wcond _ rfl (fun hc2 => ?_) (fun hc2 => ?_)
      · have hs1 : s = 1 := by
          rcases (show s = 0 ∨ s = 1 by omega) with rfl | rfl
          · subst hnm
            simp [fcA] at hc2
          · rfl
        refine wexit ?_
        show AWp _ _ _ _ _
        refine wreg fun K hK => ?_
        simp [C.impl_factors, wrap_succ (show s < 4611686018427387904 by omega)]
        refine hK _ ?_; clear hK K
        simp [C.impl_factors]
        refine hR1 (s + 1, nm) ⟨h1, ?_⟩ (by dsimp only; omega)
        dsimp only
        rw [hnm, hs1]
        rfl
      · have hs0 : s = 0 := by
          rcases (show s = 0 ∨ s = 1 by omega) with rfl | rfl
          · rfl
          · subst hnm
            simp [fcA] at hc2
        subst hs0
        have hnm0 : nm = [0, 0] := hnm
        subst hnm0
        refine wskip ?_
        show AWp _ _ _ _ _
        refine wseq ?_
        refine wreg fun K hK => ?_
        simp [C.impl_factors]
        refine hK _ ?_; clear hK K
        show AWp _ _ _ _ _
        refine wseq ?_
        refine wreg fun K hK => ?_
        simp [C.impl_factors]
        refine hK _ ?_; clear hK K
        show AWp _ _ _ _ _
        refine wseq ?_
        refine wseq ?_
        refine wreg fun K hK => ?_
        simp [C.impl_factors]
        refine hK _ ?_; clear hK K
        show AWp _ _ _ _ _
        refine wblock ?_
        refine wloop (fun x : Nat × List Int × List Int × Nat => ⟨ofL [(1, .pt (1, 0) [] 0), (3, .al (3, 0) [] 0 2), (4, .al (4, 0) [] 0 2), (5, .al (5, 0) [] 0 2), (7, .al (7, 0) [] 0 x.2.2.2), (8, .int x.1), (34, .int 2), (35, .int (0 : Nat))], ofRO [((1, 0), some (.bx [D.int 2, D.int 2, .sh 1 4 (ints [0, 1, -1, 0])])), ((3, 0), some (.ow 1 2 (ints x.2.1))), ((4, 0), some (.ow 1 2 (ints x.2.1))), ((5, 0), some (.ow 1 2 (ints [0, 0]))), ((7, 0), some (.ow 1 x.2.2.2 (ints x.2.2.1)))]⟩) (fun x => x.1 ≤ 2 ∧ x.2.1 = fcN x.1 0 ∧ x.2.2.1 = fcP x.1 0 ∧ x.2.2.2 = x.2.2.1.length) (fun x => 2 - x.1) (0, [1, 0], [0], 1) (by simp [C.impl_factors, ints]) (by simp [fcN, fcP]) ?_
        intro x2 hx2 R2 hR2
        obtain ⟨a, nm, pc, n⟩ := x2
        obtain ⟨ha2, hnm, hpc, hn⟩ := hx2
        dsimp only at ha2 hnm hpc hn ⊢
        refine wseq ?_
        refine wseq ?_
        refine wreg fun K hK => ?_
        simp [C.impl_factors]
        refine hK _ ?_; clear hK K
        show AWp _ _ _ _ _
        refine wcond _ rfl (fun hc3 => ?_) (fun hc3 => ?_)
        · have han : a < n := by have := d_t hc3; omega
          have hn2 : n ≤ 2 := by rw [hn, hpc]; unfold fcP; split <;> simp
          have ha : a < 2 := by omega
          have hap : a < pc.length := by omega
          have hpa : pc[a] = (a : Int) := by
            rcases (show a = 0 ∨ a = 1 by omega) with rfl | rfl <;> (subst hpc; rfl)
          refine wskip ?_
          show AWp _ _ _ _ _
          refine wseq ?_
          refine wblock ?_
          refine wseq ?_
          refine wreg fun K hK => ?_
          simp [C.impl_factors, show ((a : Int) < n) by omega, han, hn.symm, get_ints, hap]
          rw [hpa]
          refine hK _ ?_; clear hK K
          show AWp _ _ _ _ _
          refine wseq ?_
          refine wreg fun K hK => ?_
          simp [C.impl_factors]
          refine hK _ ?_; clear hK K
          show AWp _ _ _ _ _
          refine wblock ?_
          refine wloop (fun x : Nat × List Int × List Int × Nat => ⟨ofL [(1, .pt (1, 0) [] 0), (3, .al (3, 0) [] 0 2), (4, .al (4, 0) [] 0 2), (5, .al (5, 0) [] 0 2), (7, .al (7, 0) [] 0 x.2.2.2), (8, .int a), (9, .int a), (34, .int 2), (35, .int (0 : Nat)), (62, .int 2), (63, .int x.1)], ofRO [((1, 0), some (.bx [D.int 2, D.int 2, .sh 1 4 (ints [0, 1, -1, 0])])), ((3, 0), some (.ow 1 2 (ints x.2.1))), ((4, 0), some (.ow 1 2 (ints x.2.1))), ((5, 0), some (.ow 1 2 (ints [0, 0]))), ((7, 0), some (.ow 1 x.2.2.2 (ints x.2.2.1)))]⟩) (fun x => x.1 ≤ 2 ∧ x.2.1 = fcN a x.1 ∧ x.2.2.1 = fcP a x.1 ∧ x.2.2.2 = x.2.2.1.length) (fun x => 2 - x.1) (0, nm, pc, n) (by simp [C.impl_factors]) ⟨by simp, hnm, hpc, hn⟩ ?_
          intro x3 hx3 R3 hR3
          clear hnm hpc hn hpa hap han hn2
          obtain ⟨j, nm, pc, n⟩ := x3
          obtain ⟨hj2, hnm, hpc, hn⟩ := hx3
          dsimp only at hj2 hnm hpc hn ⊢
          refine wseq ?_
          refine wreg fun K hK => ?_
          simp [C.impl_factors]
          refine hK _ ?_; clear hK K
          show AWp _ _ _ _ _
          refine wseq ?_
          refine wcond _ rfl (fun hc4 => ?_) (fun hc4 => ?_)
          · have hj : j < 2 := by have := d_t hc4; omega
            have hnl : nm.length = 2 := by rw [hnm]; unfold fcN; split <;> rfl
            obtain ⟨p, hp⟩ : ∃ p : Int, p = if a = j then 0 else if a = 0 then 1 else -1 := ⟨_, rfl⟩
            have hp1 : ([0, 1, -1, 0] : List Int)[a * 2 + j]'(by simp; omega) = p := by rw [fcM a j ha hj, hp]
            have hp2 : IntKind.i64.wrap (-(([0, 1, -1, 0] : List Int)[j * 2 + a]'(by simp; omega))) = p := by
              rw [fcM j a hj ha, hp]
              rcases (show a = 0 ∨ a = 1 by omega) with rfl | rfl <;> rcases (show j = 0 ∨ j = 1 by omega) with rfl | rfl <;> rfl
            have hpz : p = 0 ↔ a = j := by
              rw [hp]
              rcases (show a = 0 ∨ a = 1 by omega) with rfl | rfl <;> rcases (show j = 0 ∨ j = 1 by omega) with rfl | rfl <;> simp
            refine wskip ?_
            show AWp _ _ _ _ _
            refine wseq ?_
            refine wblock ?_
            refine wseq ?_
            refine wreg fun K hK => ?_
            simp [C.impl_factors]
            refine hK _ ?_; clear hK K
            show AWp _ _ _ _ _
            refine wseq ?_
            refine wdrawI [(true, 0), (true, 1), (true, 2), (true, 4), (true, 5), (true, 6), (false, 3), (false, 7), (true, 8), (true, 9), (true, 10)] ⟨by kernel_rfl, by kernel_rfl⟩ ([0, 1, 2, 4, 5, 6, 3] ++ ([7] ++ ([8, 9, 10]))) rfl fun K hK => ?_
            refine opsI_seg fun L hL => ?_
            simp [C.impl_factors]
            refine wcall1 (impl_Matrix_at_calls ⟨2, 2, [0, 1, -1, 0]⟩ a j (a * 2 + j) 2 rfl rfl (by simp; omega) (by simp)) (by simp) (by simp) ?_
            simp [C.impl_factors]
            refine hL _ ?_; clear hL L
            refine opsI_seg fun L hL => ?_
            simp [C.impl_factors]
            refine wcall1 (impl_Matrix_at_calls ⟨2, 2, [0, 1, -1, 0]⟩ j a (j * 2 + a) 2 rfl rfl (by simp; omega) (by simp)) (by simp) (by simp) ?_
            simp [C.impl_factors]
            refine hL _ ?_; clear hL L
            refine opsI_end fun L hL => ?_
            simp [C.impl_factors]
            refine hL _ ?_; clear hL L
            simp [C.impl_factors]
            rw [hp1, hp2]
            refine hK _ ?_; clear hK K
            show AWp _ _ _ _ _
            refine wseq ?_
            refine wseq ?_
            refine wreg fun K hK => ?_
            have hJ : K ⟨ofL [(1, .pt (1, 0) [] 0), (3, .al (3, 0) [] 0 2), (4, .al (4, 0) [] 0 2), (5, .al (5, 0) [] 0 2), (7, .al (7, 0) [] 0 n), (8, .int a), (9, .int a), (10, .int j), (11, .int p), (12, .int p), (34, .int 2), (35, .int (0 : Nat)), (62, .int 2), (63, .int j), (80, .bool (decide (p = 0)))], ofRO [((1, 0), some (.bx [D.int 2, D.int 2, .sh 1 4 (ints [0, 1, -1, 0])])), ((3, 0), some (.ow 1 2 (ints nm))), ((4, 0), some (.ow 1 2 (ints nm))), ((5, 0), some (.ow 1 2 (ints [0, 0]))), ((7, 0), some (.ow 1 n (ints pc)))]⟩ := by
              refine hK _ ?_; clear hK K
              show AWp _ _ _ _ _
              refine wcond _ rfl (fun hc5 => ?_) (fun hc5 => ?_)
              · have haj : a = j := hpz.1 (d_t hc5)
                refine wexit ?_
                show AWp _ _ _ _ _
                refine wreg fun K hK => ?_
                simp [C.impl_factors, wrap_succ (show j < 4611686018427387904 by omega)]
                refine hK _ ?_; clear hK K
                simp [C.impl_factors]
                refine hR3 (j + 1, nm, pc, n) ⟨hj, ?_, ?_, hn⟩ (by dsimp only; omega)
                · dsimp only
                  rw [hnm]
                  rcases (show j = 0 ∨ j = 1 by omega) with rfl | rfl <;> (subst haj; rfl)
                · dsimp only
                  rw [hpc]
                  rcases (show j = 0 ∨ j = 1 by omega) with rfl | rfl <;> (subst haj; rfl)
              · have hp0 : ¬ p = 0 := d_f hc5
                have haj : ¬ a = j := fun h => hp0 (hpz.2 h)
                have hmax : max p (IntKind.i64.wrap (-p)) = 1 := by
                  rw [hp, if_neg haj]
                  split <;> rfl
                have hna : nm[a] = 1 := by
                  rcases (show a = 0 ∨ a = 1 by omega) with rfl | rfl <;> rcases (show j = 0 ∨ j = 1 by omega) with rfl | rfl <;> first | exact absurd rfl haj | (subst hnm; rfl)
                refine wskip ?_
                show AWp _ _ _ _ _
                refine wseq ?_
                refine wseq ?_
                refine wregI ([0, 1, 2, 3, 4, 5, 6, 7, 8, 9, 10, 11, 12, 13, 14, 15, 16, 17]) rfl fun K hK => ?_
                refine opsI_end fun L hL => ?_
                simp [C.impl_factors, hp0, haj]
                refine hL _ ?_; clear hL L
                simp [C.impl_factors, hp0, haj]
                refine hK _ ?_; clear hK K
                show AWp _ _ _ _ _
                refine wcond _ rfl (fun hc6 => ?_) (fun hc6 => ?_)
                · simp at hc6; omega
                · refine wskip ?_
                  show AWp _ _ _ _ _
                  refine wseq ?_
                  refine wdrawI [(true, 0), (true, 1), (true, 2), (true, 3), (true, 4), (true, 5), (true, 6), (true, 7), (true, 8), (true, 9), (true, 10), (true, 11), (true, 12), (true, 13), (true, 14), (true, 15), (true, 16), (true, 17), (true, 18), (true, 19)] ⟨by kernel_rfl, by kernel_rfl⟩ ([0, 1, 2, 3, 4, 5, 6, 7, 8, 9, 10, 11, 12, 13, 14, 15, 16, 17, 18, 19]) rfl fun K hK => ?_
                  refine opsI_end fun L hL => ?_
                  simp [C.impl_factors, show ((a : Int) < 2) by omega, ha, hnl, get_ints, hna, hmax, show IntKind.i64.wrap 1 = 1 from rfl]
                  refine hL _ ?_; clear hL L
                  simp [C.impl_factors, show ((a : Int) < 2) by omega, ha, hnl, get_ints, hna, hmax, show IntKind.i64.wrap 1 = 1 from rfl]
                  refine hK _ ?_; clear hK K
                  show AWp _ _ _ _ _
                  refine wseq ?_
                  refine wregI ([0, 1, 2] ++ ([3])) rfl fun K hK => ?_
                  refine opsI_seg fun L hL => ?_
                  simp [C.impl_factors]
                  refine wcall1 (impl_gcd_calls 1 1 (by omega) (by omega)) (by simp) (by simp) ?_
                  simp [C.impl_factors]
                  refine hL _ ?_; clear hL L
                  refine opsI_end fun L hL => ?_
                  simp [C.impl_factors]
                  refine hL _ ?_; clear hL L
                  simp [C.impl_factors]
                  refine hK _ ?_; clear hK K
                  show AWp _ _ _ _ _
                  refine wseq ?_
                  refine wdraw (.take 0 (.take 1 (.take 2 (.take 3 (.take 4 (.take 5 (.take 6 (.take 7 (.done))))))))) ⟨by kernel_rfl, by kernel_rfl⟩ fun K hK => ?_
                  simp [C.impl_factors, show IntKind.i64.wrap 1 = 1 from rfl]
                  refine hK _ ?_; clear hK K
                  show AWp _ _ _ _ _
                  refine wseq ?_
                  refine wreg fun K hK => ?_
                  simp [C.impl_factors, show ((j : Int) < 2) by omega, hj, hnl, get_ints]
                  refine hK _ ?_; clear hK K
                  show AWp _ _ _ _ _
                  refine wcond _ rfl (fun hc7 => ?_) (fun hc7 => ?_)
                  · have hcase : a = 0 ∧ j = 1 := by
                      rcases (show a = 0 ∨ a = 1 by omega) with rfl | rfl <;> rcases (show j = 0 ∨ j = 1 by omega) with rfl | rfl
                      · exact absurd rfl haj
                      · exact ⟨rfl, rfl⟩
                      · subst hnm; simp [fcN] at hc7
                      · exact absurd rfl haj
                    obtain ⟨rfl, rfl⟩ := hcase
                    have hnm2 : nm = [1, 0] := hnm
                    have hpc2 : pc = [0] := hpc
                    subst hnm2
                    subst hpc2
                    have hn1 : n = 1 := hn
                    subst hn1
                    refine wseq ?_
                    refine wreg fun K hK => ?_
                    simp [C.impl_factors]
                    refine hK _ ?_; clear hK K
                    show AWp _ _ _ _ _
                    refine wreg fun K hK => ?_
                    simp [C.impl_factors, ints]
                    refine hK _ ?_; clear hK K
                    show AWp _ _ _ _ _
                    refine wreg fun K hK => ?_
                    simp [C.impl_factors]
                    refine hK _ ?_; clear hK K
                    simp [C.impl_factors]
                    exact hR3 (2, [1, 1], [0, 1], 2) ⟨by simp, rfl, rfl, rfl⟩ (by dsimp only; omega)
                  · have hcase : a = 1 ∧ j = 0 := by
                      rcases (show a = 0 ∨ a = 1 by omega) with rfl | rfl <;> rcases (show j = 0 ∨ j = 1 by omega) with rfl | rfl
                      · exact absurd rfl haj
                      · subst hnm; simp [fcN] at hc7
                      · exact ⟨rfl, rfl⟩
                      · exact absurd rfl haj
                    obtain ⟨rfl, rfl⟩ := hcase
                    have hnm2 : nm = [1, 1] := hnm
                    subst hnm2
                    refine wseq ?_
                    refine wregI ([0, 1, 2, 3, 4, 5, 6, 7, 8, 9, 10, 11, 12, 13]) rfl fun K hK => ?_
                    refine opsI_end fun L hL => ?_
                    simp [C.impl_factors]
                    refine hL _ ?_; clear hL L
                    simp [C.impl_factors]
                    refine hK _ ?_; clear hK K
                    show AWp _ _ _ _ _
                    refine wcond _ rfl (fun hc8 => ?_) (fun hc8 => ?_)
                    · simp at hc8
                    · refine wskip ?_
                      show AWp _ _ _ _ _
                      refine wreg fun K hK => ?_
                      simp [C.impl_factors]
                      refine hK _ ?_; clear hK K
                      simp [C.impl_factors]
                      exact hR3 (1, [1, 1], pc, n) ⟨by simp, rfl, hpc, hn⟩ (by dsimp only; omega)
            clear hK
            by_cases hz : p = 0
            · simp [C.impl_factors, hz]
              refine cast (congrArg K ?_) hJ
              simp [hz]
            · simp [C.impl_factors, hz]
              refine cast (congrArg K ?_) hJ
              simp [hz]
          · have hj : j = 2 := by have := d_f hc4; omega
            subst hj
            refine wexit ?_
            show AWp _ _ _ _ _
            refine wreg fun K hK => ?_
            simp [C.impl_factors, wrap_succ (show a < 4611686018427387904 by omega)]
            refine hK _ ?_; clear hK K
            simp [C.impl_factors]
            refine hR2 (a + 1, nm, pc, n) ⟨ha, ?_, ?_, hn⟩ (by dsimp only; omega)
            · dsimp only
              rw [hnm]
              simp [fcN]
            · dsimp only
              rw [hpc]
              simp [fcP]
        · have hna : n ≤ a := by have := d_f hc3; omega
          have ha2' : a = 2 := by
            rcases (show a = 0 ∨ a = 1 ∨ a = 2 by omega) with rfl | rfl | rfl
            · subst hpc; simp [fcP] at hn; omega
            · subst hpc; simp [fcP] at hn; omega
            · rfl
          subst ha2'
          have hnm2 : nm = [1, 1] := hnm
          have hpc2 : pc = [0, 1] := hpc
          subst hnm2
          subst hpc2
          have hn2 : n = 2 := hn
          subst hn2
          refine wexit ?_
          show AWp _ _ _ _ _
          refine wseq ?_
          refine wreg fun K hK => ?_
          simp [C.impl_factors]
          refine hK _ ?_; clear hK K
          show AWp _ _ _ _ _
          refine wseq ?_
          refine wseq ?_
          refine wreg fun K hK => ?_
          simp [C.impl_factors]
          refine hK _ ?_; clear hK K
          show AWp _ _ _ _ _
          refine wblock ?_
          refine wloop (fun t : Nat => ⟨ofL [(1, .pt (1, 0) [] 0), (3, .al (3, 0) [] 0 2), (4, .al (4, 0) [] 0 2), (5, .al (5, 0) [] 0 2), (7, .al (7, 0) [] 0 2), (16, .int 1), (34, .int 2), (35, .int (0 : Nat)), (158, .al (7, 0) [] 0 2), (159, .int 2), (160, .int t)], ofRO [((1, 0), some (.bx [D.int 2, D.int 2, .sh 1 4 (ints [0, 1, -1, 0])])), ((3, 0), some (.ow 1 2 (ints [1, 1]))), ((4, 0), some (.ow 1 2 (ints [1, 1]))), ((5, 0), some (.ow 1 2 (ints [0, 0]))), ((7, 0), some (.ow 1 2 (ints [0, 1])))]⟩) (fun t => t ≤ 2) (fun t => 2 - t) 0 (by simp [C.impl_factors]) (by simp) ?_
          intro x4 hx4 R4 hR4
          refine wseq ?_
          refine wreg fun K hK => ?_
          simp [C.impl_factors]
          refine hK _ ?_; clear hK K
          show AWp _ _ _ _ _
          refine wseq ?_
          refine wcond _ rfl (fun hc9 => ?_) (fun hc9 => ?_)
          · have ht : x4 < 2 := by have := d_t hc9; omega
            have hpt : ([0, 1] : List Int)[x4]'(by simpa using ht) = (x4 : Int) := by rcases (show x4 = 0 ∨ x4 = 1 by omega) with rfl | rfl <;> rfl
            have h11 : ([1, 1] : List Int)[x4]'(by simpa using ht) = 1 := by rcases (show x4 = 0 ∨ x4 = 1 by omega) with rfl | rfl <;> rfl
            refine wskip ?_
            show AWp _ _ _ _ _
            refine wseq ?_
            refine wblock ?_
            refine wseq ?_
            refine wreg fun K hK => ?_
            simp [C.impl_factors, show ((x4 : Int) < 2) by omega, ht, get_ints]
            rw [hpt]
            refine hK _ ?_; clear hK K
            show AWp _ _ _ _ _
            refine wdrawI [(true, 0), (true, 1), (true, 2), (true, 3), (true, 4), (true, 5), (true, 8), (true, 9), (true, 10), (true, 11), (false, 6), (true, 7), (true, 12), (true, 13)] ⟨by kernel_rfl, by kernel_rfl⟩ ([0, 1, 2, 3, 4, 5, 8, 9, 10, 11, 6] ++ ([7, 12, 13])) rfl fun K hK => ?_
            refine opsI_seg fun L hL => ?_
            simp [C.impl_factors, show ((x4 : Int) < 2) by omega, ht, get_ints, h11, show IntKind.i64.wrap 1 = 1 from rfl]
            refine wcall1 (impl_gcd_calls 1 1 (by omega) (by omega)) (by simp) (by simp) ?_
            simp [C.impl_factors, show ((x4 : Int) < 2) by omega, ht, get_ints, h11, show IntKind.i64.wrap 1 = 1 from rfl]
            refine hL _ ?_; clear hL L
            refine opsI_end fun L hL => ?_
            simp [C.impl_factors, show ((x4 : Int) < 2) by omega, ht, get_ints, h11, show IntKind.i64.wrap 1 = 1 from rfl]
            refine hL _ ?_; clear hL L
            simp [C.impl_factors, show ((x4 : Int) < 2) by omega, ht, get_ints, h11, show IntKind.i64.wrap 1 = 1 from rfl]
            refine hK _ ?_; clear hK K
            show AWp _ _ _ _ _
            refine wreg fun K hK => ?_
            simp [C.impl_factors, wrap_succ (show x4 < 4611686018427387904 by omega)]
            refine hK _ ?_; clear hK K
            simp [C.impl_factors]
            exact hR4 (x4 + 1) ht (by omega)
          · refine wexit ?_
            show AWp _ _ _ _ _
            refine wseq ?_
            refine wreg fun K hK => ?_
            simp [C.impl_factors]
            refine hK _ ?_; clear hK K
            show AWp _ _ _ _ _
            refine wseq ?_
            refine wseq ?_
            refine wreg fun K hK => ?_
            simp [C.impl_factors]
            refine hK _ ?_; clear hK K
            show AWp _ _ _ _ _
            refine wblock ?_
            refine wloop (fun x : Nat × List Int × Int => ⟨ofL [(1, .pt (1, 0) [] 0), (3, .al (3, 0) [] 0 2), (4, .al (4, 0) [] 0 2), (5, .al (5, 0) [] 0 2), (7, .al (7, 0) [] 0 2), (16, .int 1), (19, .int x.2.2), (34, .int 2), (35, .int (0 : Nat)), (178, .al (7, 0) [] 0 2), (179, .int 2), (180, .int x.1)], ofRO [((1, 0), some (.bx [D.int 2, D.int 2, .sh 1 4 (ints [0, 1, -1, 0])])), ((3, 0), some (.ow 1 2 (ints [1, 1]))), ((4, 0), some (.ow 1 2 (ints [1, 1]))), ((5, 0), some (.ow 1 2 (ints x.2.1))), ((7, 0), some (.ow 1 2 (ints [0, 1])))]⟩) (fun x => x.1 ≤ 2 ∧ x.2.1 = fcO x.1 ∧ x.2.2 = fcG x.1) (fun x => 2 - x.1) (0, [0, 0], 0) (by simp [C.impl_factors]) ⟨by simp, rfl, rfl⟩ ?_
            intro x5 hx5 R5 hR5
            obtain ⟨t, o, g⟩ := x5
            obtain ⟨ht2, ho, hg⟩ := hx5
            dsimp only at ht2 ho hg ⊢
            refine wseq ?_
            refine wreg fun K hK => ?_
            simp [C.impl_factors]
            refine hK _ ?_; clear hK K
            show AWp _ _ _ _ _
            refine wseq ?_
            refine wcond _ rfl (fun hc10 => ?_) (fun hc10 => ?_)
            · have ht : t < 2 := by have := d_t hc10; omega
              have hpt : ([0, 1] : List Int)[t]'(by simpa using ht) = (t : Int) := by rcases (show t = 0 ∨ t = 1 by omega) with rfl | rfl <;> rfl
              have h11 : ([1, 1] : List Int)[t]'(by simpa using ht) = 1 := by rcases (show t = 0 ∨ t = 1 by omega) with rfl | rfl <;> rfl
              have hol : o.length = 2 := by rcases (show t = 0 ∨ t = 1 by omega) with rfl | rfl <;> (subst ho; rfl)
              have hos : o.set t 1 = fcO (t + 1) := by rcases (show t = 0 ∨ t = 1 by omega) with rfl | rfl <;> (subst ho; rfl)
              have hog : (fcO (t + 1))[t]'(by rw [← hos]; simp; omega) = 1 := by rcases (show t = 0 ∨ t = 1 by omega) with rfl | rfl <;> rfl
              have hgg : ((Int.gcd g 1 : Nat) : Int) = 1 := by simp
              refine wskip ?_
              show AWp _ _ _ _ _
              refine wseq ?_
              refine wblock ?_
              refine wseq ?_
              refine wreg fun K hK => ?_
              simp [C.impl_factors, show ((t : Int) < 2) by omega, ht, get_ints]
              rw [hpt]
              refine hK _ ?_; clear hK K
              show AWp _ _ _ _ _
              refine wseq ?_
              refine wdrawI [(true, 0), (true, 1), (true, 2), (true, 3), (true, 4), (true, 5), (true, 6), (true, 7), (true, 8), (true, 9), (true, 10), (true, 11), (true, 12), (true, 13), (false, 14)] ⟨by kernel_rfl, by kernel_rfl⟩ ([0, 1, 2, 3, 4, 5, 6, 7, 8, 9, 10, 11, 12, 13, 14]) rfl fun K hK => ?_
              refine opsI_end fun L hL => ?_
              simp [C.impl_factors, show ((t : Int) < 2) by omega, ht, hol, get_ints, h11, show IntKind.i64.wrap 1 = 1 from rfl]
              refine hL _ ?_; clear hL L
              simp [C.impl_factors, show ((t : Int) < 2) by omega, ht, hol, get_ints, h11, show IntKind.i64.wrap 1 = 1 from rfl]
              refine hK _ ?_; clear hK K
              show AWp _ _ _ _ _
              refine wregI ([0, 1, 2, 3, 4, 5] ++ ([6])) rfl fun K hK => ?_
              refine opsI_seg fun L hL => ?_
              simp [C.impl_factors, show ((t : Int) < 2) by omega, ht, hol, get_ints]
              refine wcall1 (impl_gcd_calls g 1 (by rw [hg]; unfold fcG; split <;> omega) (by omega)) (by simp) (by simp) ?_
              simp [C.impl_factors, show ((t : Int) < 2) by omega, ht, hol, get_ints]
              refine hL _ ?_; clear hL L
              refine opsI_end fun L hL => ?_
              simp [C.impl_factors, show ((t : Int) < 2) by omega, ht, hol, get_ints]
              refine hL _ ?_; clear hL L
              simp [C.impl_factors, show ((t : Int) < 2) by omega, ht, hol, get_ints]
              refine hK _ ?_; clear hK K
              show AWp _ _ _ _ _
              refine wreg fun K hK => ?_
              simp [C.impl_factors, wrap_succ (show t < 4611686018427387904 by omega)]
              refine hK _ ?_; clear hK K
              simp [C.impl_factors]
              exact hR5 (t + 1, o.set t 1, 1) ⟨ht, hos, by simp [fcG]⟩ (by dsimp only; omega)
            · have ht : t = 2 := by have := d_f hc10; omega
              subst ht
              have ho2 : o = [1, 1] := ho
              have hg2 : g = 1 := hg
              subst ho2
              subst hg2
              refine wexit ?_
              show AWp _ _ _ _ _
              refine wseq ?_
              refine wreg fun K hK => ?_
              simp [C.impl_factors]
              refine hK _ ?_; clear hK K
              show AWp _ _ _ _ _
              refine wblock ?_
              refine wloop (fun t : Nat => ⟨ofL [(1, .pt (1, 0) [] 0), (3, .al (3, 0) [] 0 2), (4, .al (4, 0) [] 0 2), (5, .al (5, 0) [] 0 2), (19, .int 1), (34, .int 2), (35, .int (0 : Nat)), (205, .al (205, 0) [] 0 2), (206, .int 2), (207, .int t)], ofRO [((1, 0), some (.bx [D.int 2, D.int 2, .sh 1 4 (ints [0, 1, -1, 0])])), ((3, 0), some (.ow 1 2 (ints [1, 1]))), ((4, 0), some (.ow 1 2 (ints [1, 1]))), ((5, 0), some (.ow 1 2 (ints [1, 1]))), ((205, 0), some (.ow 1 2 (ints [0, 1])))]⟩) (fun t => t ≤ 2) (fun t => 2 - t) 0 (by simp [C.impl_factors]) (by simp) ?_
              intro x6 hx6 R6 hR6
              refine wseq ?_
              refine wreg fun K hK => ?_
              simp [C.impl_factors]
              refine hK _ ?_; clear hK K
              show AWp _ _ _ _ _
              refine wseq ?_
              refine wcond _ rfl (fun hc11 => ?_) (fun hc11 => ?_)
              · have ht : x6 < 2 := by have := d_t hc11; omega
                have hpt : ([0, 1] : List Int)[x6]'(by simpa using ht) = (x6 : Int) := by rcases (show x6 = 0 ∨ x6 = 1 by omega) with rfl | rfl <;> rfl
                have h11 : ([1, 1] : List Int)[x6]'(by simpa using ht) = 1 := by rcases (show x6 = 0 ∨ x6 = 1 by omega) with rfl | rfl <;> rfl
                have hst : ([1, 1] : List Int).set x6 1 = [1, 1] := by rcases (show x6 = 0 ∨ x6 = 1 by omega) with rfl | rfl <;> rfl
                refine wskip ?_
                show AWp _ _ _ _ _
                refine wseq ?_
                refine wblock ?_
                refine wseq ?_
                refine wreg fun K hK => ?_
                simp [C.impl_factors, show ((x6 : Int) < 2) by omega, ht, get_ints]
                rw [hpt]
                refine hK _ ?_; clear hK K
                show AWp _ _ _ _ _
                refine wreg fun K hK => ?_
                simp [C.impl_factors, show ((x6 : Int) < 2) by omega, ht, get_ints, h11, hst, show IntKind.i64.wrap 1 = 1 from rfl]
                refine hK _ ?_; clear hK K
                show AWp _ _ _ _ _
                refine wreg fun K hK => ?_
                simp [C.impl_factors, wrap_succ (show x6 < 4611686018427387904 by omega)]
                refine hK _ ?_; clear hK K
                simp [C.impl_factors]
                exact hR6 (x6 + 1) ht (by omega)
              · refine wexit ?_
                show AWp _ _ _ _ _
                refine wreg fun K hK => ?_
                simp [C.impl_factors]
                refine hK _ ?_; clear hK K
                simp [C.impl_factors]
                exact hR1 (1, [1, 1]) ⟨by simp, rfl⟩ (by dsimp only; omega)
    · have h1 : s = 2 := by have := d_f hc1; omega
      subst h1
      have hnm2 : nm = [1, 1] := hnm
      subst hnm2
      refine wexit ?_
      show AWp _ _ _ _ _
      refine wseq ?_
      refine wreg fun K hK => ?_
      simp [C.impl_factors]
      refine hK _ ?_; clear hK K
      show AWp _ _ _ _ _
      refine wret ?_
      simp [C.impl_factors]
  clear hK
  simp [C.impl_factors]
  exact hJ

end Go.Proofs.Ytdgeponcnlkaiaa.Ab
