/- Slices held against nil; what a callee sees of the arguments. No condition. -/
import Derived.Test.YtdgeponcnlkaiaaAbW
namespace Go.Proofs.Ytdgeponcnlkaiaa.Ab
open Go
set_option linter.unusedSimpArgs false
set_option linter.unusedVariables false
set_option linter.unusedSectionVars false

section
variable {w0 w : World} {fp0 : List Nat} {ok0 ok : Nat → Prop} {W : Nat → Value} {n : Nat} {P : Program} {T : TT} {σ : St} {θ : Nat → Value} {ρ : Rn → Value} {φ : Rn → List Nat} {a : Act}

theorem run_equal_nil {t e : Nat} {b : Option Addr} {k c : Nat} (h : P.underlying t = some (.slice e)) (w' : World) : (Op.equal t (.slice b k c) (.slice none 0 0)).run P w' = .ok b.isNone w' := by
  have key : ∀ d, (Op.equalIn (d + 1) t (.slice b k c) (.slice none 0 0)).run P w' = .ok b.isNone w' := fun d => by
    cases b <;> simp [Op.equalIn, run_underlying h]
  exact key 9999

theorem nil_sound {C : Ctx} (hT : tabB C.P C.T = true) {o : Oper} (ho : smallO n o = true) {op : BinOp} {t t' : Nat} {x y : Operand} (hop : o.op = .binOp op t x y t') (hy : isNilC y = true) {K : St → Prop} (hk : ANil C o.dst op t (opv σ x) σ K)
    (h : Stx w0 fp0 ok0 W n σ a w ok θ ρ φ) : Ends C.P o a w K (Ste w0 fp0 ok0 W n) := by
  have hxv := h.ops ho x (by rw [hop]; simp [Op.operands])
  have hyv : a.eval y = .slice none 0 0 := by
    unfold isNilC at hy
    split at hy
    · rfl
    · simp at hy
  unfold ANil at hk
  split at hk
  · rename_i i hi
    split at hk
    · rename_i e hke
      have hu := kd_sl (tab_ok hT hi) hke
      have shape : ∀ (K' : Bool → Prop), nilIs (opv σ x) K' → ∃ b k c, a.eval x = .slice b k c ∧ K' b.isNone := by
        intro K' hn
        unfold nilIs at hn
        split at hn
        · rename_i heq
          rw [heq] at hxv
          exact ⟨none, 0, 0, FR_v hxv, hn⟩
        · rename_i heq
          rw [heq] at hxv
          simp only [FR, Sh] at hxv
          obtain ⟨b, e⟩ := hxv
          exact ⟨b, 0, 0, e, hn _⟩
        · rename_i r p lo n' heq
          rw [heq] at hxv
          obtain ⟨b, c, e, _⟩ := al_sub h.rel rfl hxv
          refine ⟨b, n', c, e, hn _ fun hn0 => ?_⟩
          simp only [FR] at hxv
          obtain ⟨k', N, cs, hv, g1, g2, g3, g4⟩ := hxv
          rcases al_block h.rel g1 g2 with ⟨b', o', cp, e1, e2, e3⟩ | ⟨e1, a0, e2⟩
          · rcases g4 with ⟨_, a', N', c', e4, e5⟩ | ⟨_, b2, o2, N', c', e4, _, ⟨_, e5⟩ | ⟨_, e6, _⟩⟩
            · rw [e1] at e4
              cases e4
              rw [e] at e5
              cases e5
              rfl
            · rw [e] at e5
              cases e5
              rfl
            · exact absurd e6 hn0
          · omega
        · rename_i k n' cs heq
          rw [heq] at hxv
          simp only [FR, Sh] at hxv
          obtain ⟨b, c, e, _, hl, h4⟩ := hxv
          refine ⟨b, n', c, e, hn _ fun hn0 => ?_⟩
          rcases h4 with rfl | ⟨b', o', rfl, _⟩
          · have : k * n' = 0 := by simpa using hl.symm
            rcases Nat.mul_eq_zero.1 this with h | h
            · exact absurd h hn0.2
            · exact absurd h hn0.1
          · rfl
        · exact hn.elim
      have hg : ∀ (b : Option Addr) (k c : Nat), (eqGuard op t x y (.slice b k c) (.slice none 0 0)).run C.P w = .ok () w := fun b k c => by
        unfold eqGuard
        split <;> rfl
      split at hk
      · obtain ⟨b, k, c, e1, hK⟩ := shape _ hk
        have hrun : (execOp a.eval o).run C.P w = .ok (.value (.bool b.isNone)) w := by
          simp [execOp, hop, e1, hyv, hg, binOp, run_equal_nil hu]
        obtain ⟨θ', h3⟩ := h.put (dst := o.dst) (small_dst ho) (f := .bool b.isNone) (v := .bool b.isNone) (by simp [FR, Sh])
        exact ends_value hrun hK ⟨_, _, _, _, h3⟩
      · obtain ⟨b, k, c, e1, hK⟩ := shape _ hk
        have hrun : (execOp a.eval o).run C.P w = .ok (.value (.bool (!b.isNone))) w := by
          simp [execOp, hop, e1, hyv, hg, binOp, run_equal_nil hu]
        obtain ⟨θ', h3⟩ := h.put (dst := o.dst) (small_dst ho) (f := .bool (!b.isNone)) (v := .bool (!b.isNone)) (by simp [FR, Sh])
        exact ends_value hrun hK ⟨_, _, _, _, h3⟩
      · exact hk.elim
    · exact hk.elim
  · exact hk.elim

/-! ### What a callee sees -/
structure Lend (w : World) (ok : Nat → Prop) (σ : St) (φ : Rn → List Nat) (lent : List Rn) (ok2 : Nat → Prop) : Prop where
  mono : ∀ b, ok b → ok2 b
  lent : ∀ r ∈ lent, ∀ d, σ.rts r = some d → ∀ b ∈ φ r, ok2 b

theorem obj_root {r : Rn} {p : List Nat} {o : D} (h : σ.obj r p = some o) : ∃ d, σ.rts r = some d ∧ look d p = some o := by
  unfold St.obj at h
  split at h
  · rename_i d hd
    exact ⟨d, hd, h⟩
  · simp at h

theorem lend_at (h : Rel w0 fp0 ok σ θ w ρ φ) {lent : List Rn} {ok2 : Nat → Prop} (hL : Lend w ok σ φ lent ok2) {r : Rn} (hr : r ∈ lent) {p : List Nat} {o : D} {hv : Value} (ho : σ.obj r p = some o) (hh : hdr w (ρ r) p = some hv) :
    ∃ fo, Ow w ok o hv fo ∧ ∀ b ∈ fo, ok2 b := by
  obtain ⟨hv', fo, hat⟩ := h.rts_.at_ (r := r) (p := p) ho
  have e : hv' = hv := by have := hat.hdr; rw [hh] at this; injection this with this; exact this.symm
  subst e
  obtain ⟨d, hd, _⟩ := obj_root ho
  exact ⟨fo, hat.own, fun b hb => hL.lent r hr d hd b (hat.sub b hb)⟩

theorem shareL_take (j : Nat) (cs : List D) : shareL (cs.take j) = (shareL cs).take j := by
  induction cs generalizing j with
  | nil => simp [shareL]
  | cons c cs ih => cases j <;> simp [shareL, ih]
theorem shareL_drop (j : Nat) (cs : List D) : shareL (cs.drop j) = (shareL cs).drop j := by
  induction cs generalizing j with
  | nil => simp [shareL]
  | cons c cs ih => cases j <;> simp [shareL, ih]

theorem lend_cells (h : Rel w0 fp0 ok σ θ w ρ φ) {lent : List Rn} {ok2 : Nat → Prop} (hL : Lend w ok σ φ lent ok2) {r : Rn} (hr : r ∈ lent) {p : List Nat} {o : D} {hv : Value} {cs : List D} {b q : Nat} (ho : σ.obj r p = some o) (hh : hdr w (ρ r) p = some hv)
    (hc : o.cells? = some cs) (hne : cs ≠ []) (hb : baseOf hv = some (b, q)) : ok2 b ∧ ShL w ok2 b (shareL cs) q := by
  obtain ⟨fo, h1, h2⟩ := lend_at h hL hr ho hh
  obtain ⟨b', o', fp', e1, e2, h3, _⟩ := Ow_cells h1 hc hne
  rw [hb] at e1
  injection e1 with e1
  injection e1 with e1 e1'
  subst e1; subst e1'
  exact ⟨h2 b (by rw [e2]; simp), ShL_share (fun b hb => hL.mono b hb) b cs q fp' (fun x hx => h2 x (by rw [e2]; simp [hx])) h3⟩

theorem view_al (h : Rel w0 fp0 ok σ θ w ρ φ) {lent : List Rn} {ok2 : Nat → Prop} (hL : Lend w ok σ φ lent ok2) {r : Rn} (hr : r ∈ lent) {p : List Nat} {k N lo n' : Nat} {cs : List D} {u : Value} (ho : σ.obj r p = some (.ow k N cs))
    (hu : FR w ok σ ρ (.al r p lo n') u) : Sh w ok2 (.sh k n' (shareL ((cs.drop (k * lo)).take (k * n')))) u := by
  obtain ⟨a1, c1, e1, hle, _⟩ := al_sub h rfl hu
  simp only [FR] at hu
  obtain ⟨k', N', cs', hv, g1, g2, g3, g4⟩ := hu
  rw [ho] at g1
  cases g1
  have hcl := ow_len h ho
  have hlen : (shareL ((cs.drop (k * lo)).take (k * n'))).length = k * n' := by
    rw [length_shareL, List.length_take, List.length_drop, hcl, ← Nat.mul_sub, Nat.min_eq_left (Nat.mul_le_mul_left _ (by omega))]
  simp only [Sh]
  refine ⟨a1, c1, e1, hle, hlen, ?_⟩
  by_cases hz : k * n' = 0
  · exact .inl (List.eq_nil_of_length_eq_zero (by rw [hlen, hz]))
  · have hn0 : n' ≠ 0 := fun e => hz (by simp [e])
    have hk0 : k ≠ 0 := fun e => hz (by simp [e])
    have hne : cs ≠ [] := fun e => by
      rw [e] at hcl
      have : k * N = 0 := by simpa using hcl.symm
      rcases Nat.mul_eq_zero.1 this with h | h
      · exact hk0 h
      · omega
    rcases al_block h ho g2 with ⟨b, o, cp, e2, e3, e4⟩ | ⟨e2, _⟩
    · obtain ⟨k1, k2⟩ := lend_cells h hL hr ho g2 rfl hne e4
      refine .inr ⟨b, o + k * lo, ?_, k1, ?_⟩
      · rcases g4 with ⟨rfl, a', N', c', e5, e6⟩ | ⟨_, b', o', N', c', e5, _, ⟨_, e6⟩ | ⟨_, e6, _⟩⟩
        · rw [e2] at e5
          cases e5
          rw [e1] at e6
          cases e6
          simp
        · rw [e2] at e5
          cases e5
          rw [e1] at e6
          cases e6
          rfl
        · exact absurd e6 hn0
      · rw [shareL_take, shareL_drop]
        exact ShL_take _ (ShL_drop _ k2)
    · omega

mutual
theorem view_sound (h : Rel w0 fp0 ok σ θ w ρ φ) {ok2 : Nat → Prop} {lent : List Rn} (hL : Lend w ok σ φ lent ok2) (σ' : St) (ρ' : Rn → Value) : ∀ (f g : FV) (q : List Rn) (u : Value), viewFV σ f = some (g, q) → (∀ r ∈ q, r ∈ lent) → FR w ok σ ρ f u → FR w ok2 σ' ρ' g u
  | .d x, g, q, u, hs, hq, hu => by
    simp only [viewFV] at hs
    split at hs
    · injection hs with hs
      injection hs with h1 h2
      subst h1
      simp only [FR] at hu ⊢
      exact Sh_mono (fun b hb => ⟨hL.mono b hb, rfl⟩) x u hu
    · simp at hs
  | .sp cs off, g, q, u, hs, hq, hu => by
    simp only [viewFV, Option.some.injEq, Prod.mk.injEq] at hs
    obtain ⟨h1, h2⟩ := hs
    subst h1
    simp only [FR, Sh] at hu ⊢
    obtain ⟨b, o, e, hb, h3⟩ := hu
    exact ⟨b, o + off, e, hL.mono b hb, ShL_drop off (ShL_mono (fun b hb => ⟨hL.mono b hb, rfl⟩) b hb cs o h3)⟩
  | .al r p lo n', g, q, u, hs, hq, hu => by
    simp only [viewFV] at hs
    split at hs
    · rename_i k N cs ho
      split at hs
      · rename_i hc
        injection hs with hs
        injection hs with h1 h2
        subst h1; subst h2
        have := view_al h hL (hq r (by simp)) ho hu
        simp only [FR]
        have e : (cs.drop (k * lo)).take (k * n') = cs := by
          rw [hc.1, hc.2]
          simp only [Nat.mul_zero, List.drop_zero]
          exact List.take_of_length_le (by rw [ow_len h ho]; exact Nat.le_refl _)
        rw [e] at this
        exact this
      · injection hs with hs
        injection hs with h1 h2
        subst h1; subst h2
        simp only [FR]
        exact view_al h hL (hq r (by simp)) ho hu
    · simp at hs
  | .cu r p n', g, q, u, hs, hq, hu => by
    simp only [viewFV] at hs
    split at hs
    · rename_i k N cs ho
      injection hs with hs
      injection hs with h1 h2
      subst h1; subst h2
      simp only [FR] at hu
      obtain ⟨k', N', cs', hv, a', M, c', g1, g2, g3, g4, g5⟩ := hu
      rw [ho] at g1
      cases g1
      have hM : M = N := by
        rcases al_block h ho g2 with ⟨b, o, cp, e2, _, _⟩ | ⟨e2, a0, e3⟩
        · rw [e2] at g4
          cases g4
          rfl
        · rw [e3] at g4
          cases g4
          omega
      subst hM
      have hfr : FR w ok σ ρ (.al r p 0 n') (.slice a' n' c') := by
        simp only [FR]
        exact ⟨k, M, cs, hv, ho, g2, by omega, .inl ⟨rfl, a', M, c', g4, rfl⟩⟩
      have := view_al h hL (hq r (by simp)) ho hfr
      simp only [Nat.mul_zero, List.drop_zero] at this
      simp only [FR, Sh] at this ⊢
      obtain ⟨a1, c1, e1, _, h3, h4⟩ := this
      injection e1 with e1 _ _
      subst e1
      exact ⟨a', n', g5, Nat.le_refl _, h3, h4⟩
    · simp at hs
  | .pt r p off, g, q, u, hs, hq, hu => by
    simp only [viewFV] at hs
    simp only [FR] at hu
    obtain ⟨o, cs, hv, b, q', g1, g2, g3, g4, g5⟩ := hu
    split at hs
    · rename_i cs0 ho
      injection hs with hs
      injection hs with h1 h2
      subst h1; subst h2
      rw [ho] at g1
      cases g1
      cases g2
      simp only [FR, Sh]
      by_cases hne : cs = []
      · subst hne
        obtain ⟨fo, k1, k2⟩ := lend_at h hL (hq r (by simp)) ho g3
        simp only [Ow] at k1
        obtain ⟨b', arr, T, fp', e1, e2, _⟩ := k1
        subst e1
        injection g4 with g4
        injection g4 with g4 g4'
        subst g4; subst g4'
        exact ⟨b', 0 + off, g5, k2 b' (by rw [e2]; simp), by simp [shareL, ShL]⟩
      · obtain ⟨k1, k2⟩ := lend_cells h hL (hq r (by simp)) ho g3 rfl hne g4
        exact ⟨b, q' + off, g5, k1, by rw [shareL_drop]; exact ShL_drop off k2⟩
    · rename_i k N c0 cs0 ho
      injection hs with hs
      injection hs with h1 h2
      subst h1; subst h2
      rw [ho] at g1
      cases g1
      cases g2
      simp only [FR, Sh]
      obtain ⟨k1, k2⟩ := lend_cells h hL (hq r (by simp)) ho g3 rfl (by simp) g4
      exact ⟨b, q' + off, g5, k1, by rw [shareL_drop]; exact ShL_drop off k2⟩
    · simp at hs
  | .ar r p off n', g, q, u, hs, hq, hu => by
    simp only [viewFV] at hs
    simp only [FR] at hu
    obtain ⟨o, cs, hv, b, q', c, g1, g2, g3, g4, g5, g6, g7⟩ := hu
    rw [g1] at hs
    simp only [g2] at hs
    injection hs with hs
    injection hs with h1 h2
    subst h1; subst h2
    have hlen : (shareL ((cs.drop off).take n')).length = 1 * n' := by
      rw [length_shareL, List.length_take, List.length_drop]
      omega
    simp only [FR, Sh]
    rcases g7 with e | ⟨rfl, a', e⟩
    · by_cases hn0 : n' = 0
      · subst hn0
        exact ⟨_, c, e, g6, hlen, .inl (by simp [shareL])⟩
      · have hne : cs ≠ [] := fun e => by subst e; simp at g5; omega
        obtain ⟨k1, k2⟩ := lend_cells h hL (hq r (by simp)) g1 g3 g2 hne g4
        exact ⟨_, c, e, g6, hlen, .inr ⟨b, q' + off, rfl, k1, by rw [shareL_take, shareL_drop]; exact ShL_take _ (ShL_drop _ k2)⟩⟩
    · exact ⟨a', 0, e, Nat.le_refl _, by simp [shareL], .inl (by simp [shareL])⟩
  | .ag fs, g, q, u, hs, hq, hu => by
    simp only [viewFV] at hs
    split at hs
    · rename_i l ql hl
      injection hs with hs
      injection hs with h1 h2
      subst h1; subst h2
      simp only [FR] at hu ⊢
      obtain ⟨vs, e, h3⟩ := hu
      exact ⟨vs, e, viewL_sound h hL σ' ρ' fs l ql vs.toList hl hq h3⟩
    · simp at hs
  | .cl f fs, g, q, u, hs, hq, hu => by
    simp only [viewFV] at hs
    split at hs
    · rename_i l ql hl
      injection hs with hs
      injection hs with h1 h2
      subst h1; subst h2
      simp only [FR] at hu ⊢
      obtain ⟨vs, e, h3⟩ := hu
      exact ⟨vs, e, viewL_sound h hL σ' ρ' fs l ql vs.toList hl hq h3⟩
    · simp at hs
  | .mr _ _, g, q, u, hs, hq, hu => by simp [viewFV] at hs
  | .it _ _ _ _ _, g, q, u, hs, hq, hu => by simp [viewFV] at hs
  | .tu _, g, q, u, hs, hq, hu => by simp [viewFV] at hs
  | .fb _ _, g, q, u, hs, hq, hu => by simp [viewFV] at hs
  | .dead, g, q, u, hs, hq, hu => by simp [viewFV] at hs
theorem viewL_sound (h : Rel w0 fp0 ok σ θ w ρ φ) {ok2 : Nat → Prop} {lent : List Rn} (hL : Lend w ok σ φ lent ok2) (σ' : St) (ρ' : Rn → Value) : ∀ (fs gs : List FV) (q : List Rn) (us : List Value), viewL σ fs = some (gs, q) → (∀ r ∈ q, r ∈ lent) → FRL w ok σ ρ fs us → FRL w ok2 σ' ρ' gs us
  | [], gs, q, us, hs, hq, hu => by
    simp only [viewL, Option.some.injEq, Prod.mk.injEq] at hs
    obtain ⟨h1, h2⟩ := hs
    subst h1
    simpa only [FRL] using hu
  | f :: fs, gs, q, us, hs, hq, hu => by
    simp only [viewL] at hs
    split at hs
    · rename_i g q1 hg
      split at hs
      · rename_i gs' qs hgs
        injection hs with hs
        injection hs with h1 h2
        subst h1; subst h2
        simp only [FRL] at hu ⊢
        obtain ⟨u, vs, e, h3, h4⟩ := hu
        exact ⟨u, vs, e, view_sound h hL σ' ρ' f g q1 u hg (fun r hr => hq r (by simp [hr])) h3, viewL_sound h hL σ' ρ' fs gs' qs vs hgs (fun r hr => hq r (by simp [hr])) h4⟩
      · simp at hs
    · simp at hs
end

end
end Go.Proofs.Ytdgeponcnlkaiaa.Ab
