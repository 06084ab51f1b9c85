/- What a part of a slice and a built struct are. No condition. -/
import Derived.Test.YtdgeponcnlkaiaaAbK
namespace Go.Proofs.Ytdgeponcnlkaiaa.Ab
open Go
set_option linter.unusedSimpArgs false
set_option linter.unusedVariables false
set_option linter.unusedSectionVars false

section
variable {w0 w : World} {fp0 : List Nat} {ok : Nat → Prop} {P : Program} {σ : St} {θ : Nat → Value} {ρ : Rn → Value} {φ : Rn → List Nat}

def FRO (w : World) (ok : Nat → Prop) (σ : St) (ρ : Rn → Value) : Option FV → Option Value → Prop
  | none, none => True
  | some f, some v => FR w ok σ ρ f v
  | _, _ => False

theorem bounds_sound {l h : Option FV} {lv hv : Option Value} {n cap x y : Nat} {c : Prop} {b : Bool} (hs : boundsF l h n = some (c, x, y)) (hc : c) (hl : FRO w ok σ ρ l lv) (hh : FRO w ok σ ρ h hv) (hn : n ≤ cap) (w' : World) :
    x ≤ y ∧ y ≤ n ∧ (Instr.sliceBounds b n cap lv hv none).run P w' = .ok (x, y, cap) w' := by
  unfold boundsF at hs
  split at hs
  · cases lv <;> simp [FRO] at hl
    cases hv <;> simp [FRO] at hh
    simp only [Option.some.injEq, Prod.mk.injEq] at hs
    obtain ⟨h1, rfl, rfl⟩ := hs
    exact ⟨Nat.zero_le _, Nat.le_refl _, by simp [Instr.sliceBounds]⟩
  · rename_i k i
    cases lv with
    | none => simp [FRO] at hl
    | some lv =>
    cases hv <;> simp [FRO] at hh
    have := FR_v (show FR w ok σ ρ _ _ from hl)
    subst this
    simp only [Option.some.injEq, Prod.mk.injEq] at hs
    obtain ⟨h1, rfl, rfl⟩ := hs
    rw [← h1] at hc
    exact ⟨by omega, Nat.le_refl _, by simp [Instr.sliceBounds, run_sliceBound, hc.1, hc.2]⟩
  · rename_i k i
    cases hv with
    | none => simp [FRO] at hh
    | some hv =>
    cases lv <;> simp [FRO] at hl
    have := FR_v (show FR w ok σ ρ _ _ from hh)
    subst this
    simp only [Option.some.injEq, Prod.mk.injEq] at hs
    obtain ⟨h1, rfl, rfl⟩ := hs
    rw [← h1] at hc
    have h2 : i ≤ (cap : Int) := by omega
    exact ⟨Nat.zero_le _, by omega, by simp [Instr.sliceBounds, run_sliceBound, hc.1, h2]⟩
  · rename_i k i k' j
    cases lv with
    | none => simp [FRO] at hl
    | some lv =>
    cases hv with
    | none => simp [FRO] at hh
    | some hv =>
    have := FR_v (show FR w ok σ ρ _ _ from hl)
    subst this
    have := FR_v (show FR w ok σ ρ _ _ from hh)
    subst this
    simp only [Option.some.injEq, Prod.mk.injEq] at hs
    obtain ⟨h1, rfl, rfl⟩ := hs
    rw [← h1] at hc
    have h2 : j ≤ (cap : Int) := by omega
    have h3 : 0 ≤ j := by omega
    have h4 : i ≤ (j.toNat : Int) := by omega
    refine ⟨by omega, by omega, ?_⟩
    simp only [Instr.sliceBounds, Sem.run_bind, Sem.run_pure, Result.andThen, Option.isSome_none, Bool.false_eq_true, if_false]
    rw [run_sliceBound w' k' j cap _ h3 h2]
    simp only []
    rw [run_sliceBound w' k i j.toNat _ hc.1 h4]
  · simp at hs

theorem isZero_eq {x : Option Operand} (h : isZero x = true) (a : Act) : ∃ k, x.map a.eval = some (.int k 0) := by
  unfold isZero at h
  split at h
  · rename_i k
    exact ⟨k, rfl⟩
  · simp at h

theorem tsize_run {T : TT} (hT : tabB P T = true) {e k : Nat} (hk : tsize T e = some k) (w' : World) : (sizeOf e).run P w' = .ok k w' := by
  unfold tsize at hk
  split at hk
  · rename_i j hj
    injection hk with hk
    rw [← hk]
    exact (tab_ok hT hj).size w'
  · simp at hk

theorem sliceAt_run {t e k : Nat} (hu : P.underlying t = some (.slice e)) (hsz : ∀ w' : World, (sizeOf e).run P w' = .ok k w') {a : Option Addr} {n c : Nat} {lo hi mx : Option Value} {x y m : Nat} {w' : World}
    (hb : (Instr.sliceBounds true n c lo hi mx).run P w' = .ok (x, y, m) w') :
    (Instr.sliceAt t (.slice a n c) lo hi mx).run P w' = .ok (.slice (if m = x then a else a.map (·.add (x * k))) (y - x) (m - x)) w' := by
  simp [Instr.sliceAt, Instr.slice, run_underlying hu, hb, hsz]

theorem al_sub (h : Rel w0 fp0 ok σ θ w ρ φ) {r : Rn} {p : List Nat} {k lo n : Nat} {u : Value} (hk : σ.kOf r p = k) (hu : FR w ok σ ρ (.al r p lo n) u) : ∃ a c, u = .slice a n c ∧ n ≤ c ∧
    ∀ x y, x ≤ y → y ≤ n → FR w ok σ ρ (.al r p (lo + x) (y - x)) (.slice (if c = x then a else a.map (·.add (x * k))) (y - x) (c - x)) := by
  simp only [FR] at hu
  obtain ⟨k', N, cs, hv, g1, g2, g3, g4⟩ := hu
  rw [kOf_eq g1] at hk
  subst hk
  rcases al_block h g1 g2 with ⟨b, o, cp, e1, e2, e3⟩ | ⟨e1, a0, e2⟩
  · rcases g4 with ⟨rfl, a', N', c', e4, e5⟩ | ⟨hlo, b', o', N', c', e4, e6, e5⟩
    · rw [e1] at e4
      cases e4
      refine ⟨_, _, e5, by omega, fun x y hxy hyn => ?_⟩
      simp only [FR]
      refine ⟨_, N, cs, hv, g1, g2, by omega, ?_⟩
      rcases Nat.eq_zero_or_pos x with rfl | hx
      · exact .inl ⟨rfl, _, N, cp, e1, by by_cases hc : cp = 0 <;> simp [hc, Addr_add]⟩
      · refine .inr ⟨by omega, b, o, N, cp, e1, by omega, ?_⟩
        by_cases hc : cp = x
        · exact .inr ⟨by omega, by omega, some ⟨b, o, none⟩, by rw [if_pos hc]; simp [hc]; omega⟩
        · refine .inl ⟨by omega, ?_⟩
          rw [if_neg hc]
          simp [Addr_add, Nat.mul_comm]
    · rw [e1] at e4
      cases e4
      rcases e5 with ⟨h1, e5⟩ | ⟨h1, h2, a1, e5⟩
      · refine ⟨_, _, e5, by omega, fun x y hxy hyn => ?_⟩
        simp only [FR]
        refine ⟨_, N, cs, hv, g1, g2, by omega, .inr ⟨by omega, b, o, N, cp, e1, by omega, ?_⟩⟩
        by_cases hc : cp - lo = x
        · exact .inr ⟨by omega, by omega, some ⟨b, o + k' * lo, none⟩, by rw [if_pos hc]; simp; omega⟩
        · refine .inl ⟨by omega, ?_⟩
          rw [if_neg hc]
          simp [Addr_add, Nat.mul_add, Nat.add_assoc, Nat.mul_comm]
          omega
      · subst h2
        refine ⟨a1, 0, e5, Nat.le_refl _, fun x y hxy hyn => ?_⟩
        have hx : x = 0 := by omega
        have hy : y = 0 := by omega
        subst hx; subst hy
        simp only [FR]
        exact ⟨_, N, cs, hv, g1, g2, by omega, .inr ⟨by omega, b, o, N, cp, e1, by omega, .inr ⟨by omega, rfl, a1, by simp⟩⟩⟩
  · have hn : n = 0 := by omega
    subst hn
    rcases g4 with ⟨rfl, a', N', c', e4, e5⟩ | ⟨hlo, b', o', N', c', e4, e6, e5⟩
    · rw [e2] at e4
      cases e4
      refine ⟨_, _, e5, Nat.le_refl _, fun x y hxy hyn => ?_⟩
      have hx : x = 0 := by omega
      have hy : y = 0 := by omega
      subst hx; subst hy
      simp only [FR]
      exact ⟨_, N, cs, hv, g1, g2, by omega, .inl ⟨rfl, a0, 0, 0, e2, by simp⟩⟩
    · omega

theorem slice_sound {T : TT} (hT : tabB P T = true) (h : Rel w0 fp0 ok σ θ w ρ φ) {t : Nat} {x : FV} {f : FV} {u : Value} {lo hi mx : Option Operand} {a : Act} {c : Prop}
    (hs : sliceF T σ t x lo hi mx (lo.map (opv σ)) (hi.map (opv σ)) (mx.map (opv σ)) = some (c, f)) (hc : c) (hu : FR w ok σ ρ x u)
    (hl : FRO w ok σ ρ (lo.map (opv σ)) (lo.map a.eval)) (hh : FRO w ok σ ρ (hi.map (opv σ)) (hi.map a.eval)) (hm : FRO w ok σ ρ (mx.map (opv σ)) (mx.map a.eval)) :
    ∃ z, FR w ok σ ρ f z ∧ ∀ w', (Instr.sliceAt t u (lo.map a.eval) (hi.map a.eval) (mx.map a.eval)).run P w' = .ok z w' := by
  have shS : ∀ (k n : Nat) (cs : List D) (v : Value), FR w ok σ ρ (.d (.sh k n cs)) v → ∃ a c, v = .slice a n c ∧ n ≤ c := by
    intro k n cs v hv
    simp only [FR, Sh] at hv
    obtain ⟨a, c, e, h1, _⟩ := hv
    exact ⟨a, c, e, h1⟩
  have alS : ∀ (r : Rn) (p : List Nat) (lo n : Nat) (v : Value), FR w ok σ ρ (.al r p lo n) v → ∃ a c, v = .slice a n c := by
    intro r p lo n v hv
    obtain ⟨a, c, e, _⟩ := al_sub h rfl hv
    exact ⟨a, c, e⟩
  unfold sliceF at hs
  split at hs
  · simp at hs
  · rename_i ti hti
    have hrow := tab_ok hT hti
    split at hs
    · rename_i e he
      have hu0 := kd_sl hrow he
      split at hs
      · simp at hs
      · rename_i k hk
        have hsz := tsize_run hT hk
        have zero : ∀ (a0 : Option Addr) (n cp : Nat), u = .slice a0 n cp → isZero mx = true → isZero lo = true → isZero hi = true →
            ∀ w', (Instr.sliceAt t u (lo.map a.eval) (hi.map a.eval) (mx.map a.eval)).run P w' = .ok (.slice a0 0 0) w' := by
          intro a0 n cp e h1 h2 h3 w'
          subst e
          obtain ⟨k1, e1⟩ := isZero_eq h1 a
          obtain ⟨k2, e2⟩ := isZero_eq h2 a
          obtain ⟨k3, e3⟩ := isZero_eq h3 a
          rw [e1, e2, e3]
          have hb : (Instr.sliceBounds true n cp (some (.int k2 0)) (some (.int k3 0)) (some (.int k1 0))).run P w' = .ok (0, 0, 0) w' := by
            simp [Instr.sliceBounds, run_sliceBound]
          rw [sliceAt_run hu0 hsz hb]
          simp
        split at hs
        · rename_i z1 z2 z3
          injection hs with hs
          injection hs with h1 h2
          subst h2
          obtain ⟨a0, cp, e1⟩ := alS _ _ _ _ _ hu
          exact ⟨_, by simp only [FR, Sh]; exact ⟨a0, rfl⟩, zero a0 _ cp e1 z1 z2 z3⟩
        · rename_i z1 z2 z3
          injection hs with hs
          injection hs with h1 h2
          subst h2
          obtain ⟨a0, cp, e1, _⟩ := shS _ _ _ _ hu
          exact ⟨_, by simp only [FR, Sh]; exact ⟨a0, rfl⟩, zero a0 _ cp e1 z1 z2 z3⟩
        · split at hs
          · rename_i r p lo0 n _ _
            split at hs
            · rename_i hkk
              split at hs
              · rename_i c' x y hbf
                obtain ⟨a0, cp, e1, h1, h2⟩ := al_sub h hkk hu
                subst e1
                split at hs
                · rename_i hmn
                  injection hs with hs
                  injection hs with h3 h4
                  subst h4
                  rw [← h3] at hc
                  have hmx : mx.map a.eval = none := by
                    rw [hmn] at hm
                    cases e : mx.map a.eval with
                    | none => rfl
                    | some v => rw [e] at hm; simp [FRO] at hm
                  rw [hmx]
                  refine ⟨_, h2 x y (bounds_sound (P := P) (b := true) hbf hc hl hh h1 w).1 (bounds_sound (P := P) (b := true) hbf hc hl hh h1 w).2.1, fun w' => ?_⟩
                  exact sliceAt_run hu0 hsz (bounds_sound (P := P) (b := true) hbf hc hl hh h1 w').2.2
                · rename_i k0 z hmz
                  split at hs
                  · rename_i hcnd
                    obtain ⟨rfl, hln, hhs⟩ := hcnd
                    injection hs with hs
                    injection hs with h3 h4
                    subst h4
                    rw [← h3] at hc
                    obtain ⟨b1, b2, b3⟩ := bounds_sound (P := P) (b := true) hbf hc.1 hl hh h1 w
                    have hln' : lo.map (opv σ) = none := by simpa using hln
                    rw [hln'] at hbf hl
                    have hlv : lo.map a.eval = none := by
                      cases e : lo.map a.eval with
                      | none => rfl
                      | some v => rw [e] at hl; simp [FRO] at hl
                    have hmv : mx.map a.eval = some (.int k0 z) := by
                      rw [hmz] at hm
                      cases e : mx.map a.eval with
                      | none => rw [e] at hm; simp [FRO] at hm
                      | some v => rw [e] at hm; rw [FR_v (show FR w ok σ ρ _ _ from hm)]
                    cases eh : hi.map (opv σ) with
                    | none => rw [eh] at hhs; simp at hhs
                    | some hf =>
                    rw [eh] at hbf hh
                    unfold boundsF at hbf
                    split at hbf
                    · rename_i heq; simp at heq
                    · rename_i heq; simp at heq
                    · rename_i k1 j _ heq
                      injection heq with heq
                      subst heq
                      have hhv : hi.map a.eval = some (.int k1 j) := by
                        cases e : hi.map a.eval with
                        | none => rw [e] at hh; simp [FRO] at hh
                        | some v => rw [e] at hh; rw [FR_v (show FR w ok σ ρ _ _ from hh)]
                      simp only [Option.some.injEq, Prod.mk.injEq] at hbf
                      obtain ⟨f1, f2, f3⟩ := hbf
                      subst f2
                      rw [← f1] at hc
                      rw [hlv, hmv, hhv]
                      subst f3
                      obtain ⟨⟨c1, c2⟩, c3⟩ := hc
                      refine ⟨.slice a0 j.toNat j.toNat, ?_, fun w' => ?_⟩
                      · have := h2 0 n (Nat.zero_le _) (Nat.le_refl _)
                        simp only [FR] at hu ⊢
                        obtain ⟨k', N, cs, hv, g1, g2, g3, g4⟩ := hu
                        rcases g4 with ⟨_, a', N', c', e4, e5⟩ | ⟨hlo, _⟩
                        · injection e5 with e5 e6 e7
                          subst e5
                          exact ⟨k', N, cs, hv, a0, N', c', g1, g2, by omega, e4, rfl⟩
                        · omega
                      · have hz : 0 ≤ z := by omega
                        have hz2 : z ≤ (cp : Int) := by omega
                        have hb : (Instr.sliceBounds true n cp none (some (.int k1 j)) (some (.int k0 z))).run P w' = .ok (0, j.toNat, j.toNat) w' := by
                          simp only [Instr.sliceBounds, Sem.run_bind, Sem.run_pure, Result.andThen, Option.isSome_some, if_true]
                          rw [run_sliceBound w' k0 z cp _ hz hz2]
                          simp only []
                          rw [run_sliceBound w' k1 j z.toNat _ c1 (by omega)]
                          simp only [Result.ok.injEq, Prod.mk.injEq, true_and, and_true]
                          omega
                        rw [sliceAt_run hu0 hsz hb]
                        by_cases hj : j.toNat = 0
                        · simp [hj]
                        · simp only [hj, if_false, Nat.zero_mul, Nat.sub_zero, Result.ok.injEq, Value.slice.injEq, and_true]
                          cases a0 <;> simp [Addr.add]
                    · rename_i heq _; simp at heq
                    · simp at hbf
                  · simp at hs
                · simp at hs
              · simp at hs
            · simp at hs
          · rename_i k' n cs _ _
            split at hs
            · rename_i c' x y hmn hbf
              split at hs
              · rename_i hkk
                subst hkk
                injection hs with hs
                injection hs with h3 h4
                subst h4
                rw [← h3] at hc
                have hmx : mx.map a.eval = none := by
                  rw [hmn] at hm
                  cases e : mx.map a.eval with
                  | none => rfl
                  | some v => rw [e] at hm; simp [FRO] at hm
                rw [hmx]
                simp only [FR, Sh] at hu ⊢
                obtain ⟨a0, cp, rfl, h1, h2, h5⟩ := hu
                obtain ⟨b1, b2, b3⟩ := bounds_sound (P := P) (b := true) hbf hc hl hh h1 w
                refine ⟨_, ⟨_, _, rfl, by omega, ?_, ?_⟩, fun w' => sliceAt_run hu0 hsz (bounds_sound (P := P) (b := true) hbf hc hl hh h1 w').2.2⟩
                · rw [List.length_take, List.length_drop, h2, ← Nat.mul_sub, Nat.min_eq_left (Nat.mul_le_mul_left _ (by omega))]
                · rcases h5 with rfl | ⟨b, o, rfl, h6, h7⟩
                  · exact .inl (by simp)
                  · by_cases hcx : cp = x
                    · have : y - x = 0 := by omega
                      exact .inl (by simp [this])
                    · exact .inr ⟨b, o + k' * x, by rw [if_neg hcx]; simp [Addr_add, Nat.mul_comm], h6, ShL_take _ (ShL_drop _ h7)⟩
              · simp at hs
            · simp at hs
          · simp at hs
    · rename_i n e he
      have hu0 := kd_arr hrow he
      split at hs
      · rename_i k hk hmn
        split at hs
        · rename_i hk1
          subst hk1
          have hsz := tsize_run hT hk
          split at hs
          · rename_i c' x y hbf
            split at hs
            · rename_i r p off
              injection hs with hs
              injection hs with h3 h4
              subst h4
              rw [← h3] at hc
              have hmx : mx.map a.eval = none := by
                rw [hmn] at hm
                cases e : mx.map a.eval with
                | none => rfl
                | some v => rw [e] at hm; simp [FRO] at hm
              rw [hmx]
              simp only [FR] at hu ⊢
              obtain ⟨o, cs, hv, b, q, h1, h2, h5, h6, rfl⟩ := hu
              obtain ⟨b1, b2, b3⟩ := bounds_sound (P := P) (b := false) hbf hc.1 hl hh (Nat.le_refl n) w
              have hn : σ.nOf r p = cs.length := by simp [St.nOf, h1, h2]
              have hc2 := hc.2
              rw [hn] at hc2
              refine ⟨.slice (some (if n = x then ⟨b, q + off, none⟩ else Addr.add ⟨b, q + off, none⟩ (x * 1))) (y - x) (n - x), ⟨o, cs, hv, b, q, n - x, h1, h2, h5, h6, by omega, by omega, ?_⟩, fun w' => ?_⟩
              case refine_2 =>
                have hb := (bounds_sound (P := P) (b := false) hbf hc.1 hl hh (Nat.le_refl n) w').2.2
                simp [Instr.sliceAt, Instr.sureAddr, run_underlying hu0, hb, hsz]
              case refine_1 =>
                by_cases hcx : n = x
                · exact .inr ⟨by omega, some ⟨b, q + off, none⟩, by rw [if_pos hcx]; simp; omega⟩
                · exact .inl (by rw [if_neg hcx, Addr_add, Nat.mul_one, Nat.add_assoc])
            · simp at hs
          · simp at hs
        · simp at hs
      · simp at hs
    · simp at hs

end
end Go.Proofs.Ytdgeponcnlkaiaa.Ab
