/- The frame: what a temporary says is carried over changes of the store; one cell is stored into. No condition. -/
import Derived.Test.YtdgeponcnlkaiaaAbE
namespace Go.Proofs.Ytdgeponcnlkaiaa.Ab
open Go
set_option linter.unusedSimpArgs false
set_option linter.unusedVariables false
set_option linter.unusedSectionVars false

def simK (o o' : D) : Prop := sameKind o o' ∨ ∃ es es', o = .mp es ∧ o' = .mp es'

structure Sim (w : World) (ok : Nat → Prop) (σ : St) (ρ : Rn → Value) (w' : World) (ok' : Nat → Prop) (σ' : St) (ρ' : Rn → Value) (G : Rn → List Nat → Prop) (g : Rn → List Nat → Rn × List Nat) : Prop where
  ok : ∀ b, ok b → ok' b ∧ w'.heap[b]? = w.heap[b]?
  pl : ∀ r p o, G r p → σ.obj r p = some o → ∃ o', σ'.obj (g r p).1 (g r p).2 = some o' ∧ simK o o' ∧ hdr w' (ρ' (g r p).1) (g r p).2 = hdr w (ρ r) p

mutual
def FV.ats (G : Rn → List Nat → Prop) (I : Rn → Rn → List Nat → Prop) : FV → Prop
  | .al r p _ _ => G r p
  | .cu r p _ => G r p
  | .pt r p _ => G r p
  | .ar r p _ _ => G r p
  | .mr r p => G r p
  | .it r m p _ _ => I r m p
  | .ag fs => FV.atsL G I fs
  | .tu fs => FV.atsL G I fs
  | .cl _ fs => FV.atsL G I fs
  | .fb fs _ => FV.atsL G I fs
  | .d _ => True
  | .sp _ _ => True
  | .dead => True
def FV.atsL (G : Rn → List Nat → Prop) (I : Rn → Rn → List Nat → Prop) : List FV → Prop
  | [] => True
  | f :: r => f.ats G I ∧ FV.atsL G I r
end
mutual
theorem ats_mono {G G' : Rn → List Nat → Prop} {I I' : Rn → Rn → List Nat → Prop} (hG : ∀ r p, G r p → G' r p) (hI : ∀ r m p, I r m p → I' r m p) : ∀ f : FV, f.ats G I → f.ats G' I'
  | .al r p _ _, h => hG r p h
  | .cu r p _, h => hG r p h
  | .pt r p _, h => hG r p h
  | .ar r p _ _, h => hG r p h
  | .mr r p, h => hG r p h
  | .it r m p _ _, h => hI r m p h
  | .ag fs, h => atsL_mono hG hI fs h
  | .tu fs, h => atsL_mono hG hI fs h
  | .cl _ fs, h => atsL_mono hG hI fs h
  | .fb fs _, h => atsL_mono hG hI fs h
  | .d _, _ => trivial
  | .sp _ _, _ => trivial
  | .dead, _ => trivial
theorem atsL_mono {G G' : Rn → List Nat → Prop} {I I' : Rn → Rn → List Nat → Prop} (hG : ∀ r p, G r p → G' r p) (hI : ∀ r m p, I r m p → I' r m p) : ∀ f : List FV, FV.atsL G I f → FV.atsL G' I' f
  | [], _ => trivial
  | f :: r, h => ⟨ats_mono hG hI f h.1, atsL_mono hG hI r h.2⟩
end

theorem simK_ow {k n : Nat} {cs : List D} {o' : D} (h : simK (.ow k n cs) o') : ∃ cs', o' = .ow k n cs' ∧ cs'.length = cs.length := by
  rcases h with h | ⟨es, es', e, _⟩
  · cases o' <;> simp [sameKind] at h
    obtain ⟨rfl, rfl, h⟩ := h
    exact ⟨_, rfl, h.symm⟩
  · simp at e
theorem simK_cells {o o' : D} {cs : List D} (h : simK o o') (e : o.cells? = some cs) : ∃ cs', o'.cells? = some cs' ∧ cs'.length = cs.length := by
  cases o <;> simp [D.cells?] at e
  · subst e
    obtain ⟨cs', rfl, hl⟩ := simK_ow h
    exact ⟨cs', rfl, hl⟩
  · subst e
    rcases h with h | ⟨es, es', e, _⟩
    · cases o' <;> simp [sameKind] at h
      exact ⟨_, rfl, h.symm⟩
    · simp at e
theorem simK_mp {o' : D} {es : List (List Int × Int)} (h : simK (.mp es) o') : ∃ es', o' = .mp es' := by
  rcases h with h | ⟨es, es', _, e⟩
  · cases o' <;> simp [sameKind] at h
    exact ⟨_, rfl⟩
  · exact ⟨es', e⟩

section
variable {w w' : World} {ok ok' : Nat → Prop} {σ σ' : St} {ρ ρ' : Rn → Value} {G : Rn → List Nat → Prop}
mutual
theorem FR_move {m : Mv} {I : Rn → Rn → List Nat → Prop} (S : Sim w ok σ ρ w' ok' σ' ρ' G m.place) : ∀ (f : FV) (u : Value), f.ats G I → FR w ok σ ρ f u → FR w' ok' σ' ρ' (f.move m) u
  | .d x, u, _, h => by
    simp only [FR, FV.move] at h ⊢
    exact Sh_mono S.ok _ _ h
  | .sp cs off, u, _, h => by
    simp only [FR, FV.move] at h ⊢
    obtain ⟨b, o, e, hb, h⟩ := h
    exact ⟨b, o, e, (S.ok b hb).1, ShL_mono S.ok b hb cs o h⟩
  | .al r p lo n, u, ha, h => by
    simp only [FR, FV.move] at h ⊢
    obtain ⟨k, N, cs, hv, h1, h2, h3, h4⟩ := h
    obtain ⟨o', k1, k2, k3⟩ := S.pl r p _ ha h1
    obtain ⟨cs', rfl, hl⟩ := simK_ow k2
    exact ⟨k, N, cs', hv, k1, by rw [k3]; exact h2, h3, h4⟩
  | .cu r p n, u, ha, h => by
    simp only [FR, FV.move] at h ⊢
    obtain ⟨k, N, cs, hv, a, M, c, h1, h2, h3⟩ := h
    obtain ⟨o', k1, k2, k3⟩ := S.pl r p _ ha h1
    obtain ⟨cs', rfl, hl⟩ := simK_ow k2
    exact ⟨k, N, cs', hv, a, M, c, k1, by rw [k3]; exact h2, h3⟩
  | .pt r p off, u, ha, h => by
    simp only [FR, FV.move] at h ⊢
    obtain ⟨o, cs, hv, b, q, h1, h2, h3, h4⟩ := h
    obtain ⟨o', k1, k2, k3⟩ := S.pl r p _ ha h1
    obtain ⟨cs', hc', _⟩ := simK_cells k2 h2
    exact ⟨o', cs', hv, b, q, k1, hc', by rw [k3]; exact h3, h4⟩
  | .ar r p off n, u, ha, h => by
    simp only [FR, FV.move] at h ⊢
    obtain ⟨o, cs, hv, b, q, c, h1, h2, h3, h4, h5, h6⟩ := h
    obtain ⟨o', k1, k2, k3⟩ := S.pl r p _ ha h1
    obtain ⟨cs', hc', hl⟩ := simK_cells k2 h2
    exact ⟨o', cs', hv, b, q, c, k1, hc', by rw [k3]; exact h3, h4, by rw [hl]; exact h5, h6⟩
  | .mr r p, u, ha, h => by
    simp only [FR, FV.move] at h ⊢
    obtain ⟨es, hv, h1, h2, h3⟩ := h
    obtain ⟨o', k1, k2, k3⟩ := S.pl r p _ ha h1
    obtain ⟨es', rfl⟩ := simK_mp k2
    exact ⟨es', hv, k1, by rw [k3]; exact h2, h3⟩
  | .it .., u, _, _ => by simp [FR, FV.move]
  | .ag fs, u, ha, h => by
    simp only [FR, FV.move] at h ⊢
    obtain ⟨vs, e, h⟩ := h
    exact ⟨vs, e, FRL_move S fs vs.toList ha h⟩
  | .tu fs, u, ha, h => by
    simp only [FR, FV.move] at h ⊢
    obtain ⟨vs, e, h⟩ := h
    exact ⟨vs, e, FRL_move S fs vs.toList ha h⟩
  | .cl f fs, u, ha, h => by
    simp only [FR, FV.move] at h ⊢
    obtain ⟨vs, e, h⟩ := h
    exact ⟨vs, e, FRL_move S fs vs.toList ha h⟩
  | .fb fs off, u, ha, h => by
    simp only [FR, FV.move] at h ⊢
    obtain ⟨b, vs, e, hb, hc, h⟩ := h
    exact ⟨b, vs, e, (S.ok b hb).1, fun j v hj => by rw [cell_eq (S.ok b hb).2]; exact hc j v hj, FRL_move S fs vs ha h⟩
  | .dead, _, _, _ => by simp [FR, FV.move]
theorem FRL_move {m : Mv} {I : Rn → Rn → List Nat → Prop} (S : Sim w ok σ ρ w' ok' σ' ρ' G m.place) : ∀ (fs : List FV) (us : List Value), FV.atsL G I fs → FRL w ok σ ρ fs us → FRL w' ok' σ' ρ' (FV.moveL m fs) us
  | [], us, _, h => by simpa [FRL, FV.moveL] using h
  | f :: fs, us, ha, h => by
    simp only [FRL, FV.moveL] at h ⊢
    obtain ⟨u, vs, e, h1, h2⟩ := h
    exact ⟨u, vs, e, FR_move S f u ha.1 h1, FRL_move S fs vs ha.2 h2⟩
end

/-- What is asked so that an iterator stays one. -/
structure ItOk (w : World) (σ : St) (ρ : Rn → Value) (w' : World) (σ' : St) (ρ' : Rn → Value) (I : Rn → Rn → List Nat → Prop) : Prop where
  it : ∀ r m p b mb es, I r m p → σ.rts r = some .itr → ρ r = .pointer (some ⟨b, 0, none⟩) → σ.obj m p = some (.mp es) → hdr w (ρ m) p = some (.map (some mb)) →
    σ'.rts r = some .itr ∧ ρ' r = ρ r ∧ w'.heap[b]? = w.heap[b]? ∧ σ'.obj m p = some (.mp es) ∧ hdr w' (ρ' m) p = some (.map (some mb)) ∧ w'.heap[mb]? = w.heap[mb]?

mutual
theorem FR_same {I : Rn → Rn → List Nat → Prop} (S : Sim w ok σ ρ w' ok' σ' ρ' G (fun r p => (r, p))) (J : ItOk w σ ρ w' σ' ρ' I) : ∀ (f : FV) (u : Value), f.ats G I → FR w ok σ ρ f u → FR w' ok' σ' ρ' f u
  | .d x, u, _, h => by
    simp only [FR] at h ⊢
    exact Sh_mono S.ok _ _ h
  | .sp cs off, u, _, h => by
    simp only [FR] at h ⊢
    obtain ⟨b, o, e, hb, h⟩ := h
    exact ⟨b, o, e, (S.ok b hb).1, ShL_mono S.ok b hb cs o h⟩
  | .al r p lo n, u, ha, h => by
    simp only [FR] at h ⊢
    obtain ⟨k, N, cs, hv, h1, h2, h3, h4⟩ := h
    obtain ⟨o', k1, k2, k3⟩ := S.pl r p _ ha h1
    obtain ⟨cs', rfl, hl⟩ := simK_ow k2
    exact ⟨k, N, cs', hv, k1, by rw [k3]; exact h2, h3, h4⟩
  | .cu r p n, u, ha, h => by
    simp only [FR] at h ⊢
    obtain ⟨k, N, cs, hv, a, M, c, h1, h2, h3⟩ := h
    obtain ⟨o', k1, k2, k3⟩ := S.pl r p _ ha h1
    obtain ⟨cs', rfl, hl⟩ := simK_ow k2
    exact ⟨k, N, cs', hv, a, M, c, k1, by rw [k3]; exact h2, h3⟩
  | .pt r p off, u, ha, h => by
    simp only [FR] at h ⊢
    obtain ⟨o, cs, hv, b, q, h1, h2, h3, h4⟩ := h
    obtain ⟨o', k1, k2, k3⟩ := S.pl r p _ ha h1
    obtain ⟨cs', hc', _⟩ := simK_cells k2 h2
    exact ⟨o', cs', hv, b, q, k1, hc', by rw [k3]; exact h3, h4⟩
  | .ar r p off n, u, ha, h => by
    simp only [FR] at h ⊢
    obtain ⟨o, cs, hv, b, q, c, h1, h2, h3, h4, h5, h6⟩ := h
    obtain ⟨o', k1, k2, k3⟩ := S.pl r p _ ha h1
    obtain ⟨cs', hc', hl⟩ := simK_cells k2 h2
    exact ⟨o', cs', hv, b, q, c, k1, hc', by rw [k3]; exact h3, h4, by rw [hl]; exact h5, h6⟩
  | .mr r p, u, ha, h => by
    simp only [FR] at h ⊢
    obtain ⟨es, hv, h1, h2, h3⟩ := h
    obtain ⟨o', k1, k2, k3⟩ := S.pl r p _ ha h1
    obtain ⟨es', rfl⟩ := simK_mp k2
    exact ⟨es', hv, k1, by rw [k3]; exact h2, h3⟩
  | .it r m p rest cur, u, ha, h => by
    simp only [FR] at h ⊢
    obtain ⟨e, h1, b, mb, es, en, clock, seen, h2, h3, h4, h5, h6, h7, h8⟩ := h
    subst h2
    obtain ⟨k1, k2, k3, k4, k5, k6⟩ := J.it r m p b mb es ha h1 e.symm h4 h5
    exact ⟨by rw [k2]; exact e, k1, b, mb, es, en, clock, seen, rfl, by rw [k3]; exact h3, k4, k5, ⟨by rw [k6]; exact h6.at_, h6.kv, h6.born, h6.uniq, h6.keys⟩, h7, h8⟩
  | .ag fs, u, ha, h => by
    simp only [FR] at h ⊢
    obtain ⟨vs, e, h⟩ := h
    exact ⟨vs, e, FRL_same S J fs vs.toList ha h⟩
  | .tu fs, u, ha, h => by
    simp only [FR] at h ⊢
    obtain ⟨vs, e, h⟩ := h
    exact ⟨vs, e, FRL_same S J fs vs.toList ha h⟩
  | .cl f fs, u, ha, h => by
    simp only [FR] at h ⊢
    obtain ⟨vs, e, h⟩ := h
    exact ⟨vs, e, FRL_same S J fs vs.toList ha h⟩
  | .fb fs off, u, ha, h => by
    simp only [FR] at h ⊢
    obtain ⟨b, vs, e, hb, hc, h⟩ := h
    exact ⟨b, vs, e, (S.ok b hb).1, fun j v hj => by rw [cell_eq (S.ok b hb).2]; exact hc j v hj, FRL_same S J fs vs ha h⟩
  | .dead, _, _, _ => by simp [FR]
theorem FRL_same {I : Rn → Rn → List Nat → Prop} (S : Sim w ok σ ρ w' ok' σ' ρ' G (fun r p => (r, p))) (J : ItOk w σ ρ w' σ' ρ' I) : ∀ (fs : List FV) (us : List Value), FV.atsL G I fs → FRL w ok σ ρ fs us → FRL w' ok' σ' ρ' fs us
  | [], us, _, h => by simpa [FRL] using h
  | f :: fs, us, ha, h => by
    simp only [FRL] at h ⊢
    obtain ⟨u, vs, e, h1, h2⟩ := h
    exact ⟨u, vs, e, FR_same S J f u ha.1 h1, FRL_same S J fs vs ha.2 h2⟩
end

/-- Every alias that says something leads to an object. -/
def isObj (o : D) : Prop := o.cells?.isSome = true ∨ ∃ es, o = .mp es
mutual
theorem FR_ats : ∀ (f : FV) (u : Value), FR w ok σ ρ f u →
    f.ats (fun r p => ∃ o, σ.obj r p = some o ∧ isObj o) (fun r m p => σ.rts r = some .itr ∧ ∃ es, σ.obj m p = some (.mp es))
  | .d x, u, _ => trivial
  | .sp cs off, u, _ => trivial
  | .al r p lo n, u, h => by
    simp only [FR] at h
    obtain ⟨k, N, cs, hv, h1, _⟩ := h
    exact ⟨_, h1, .inl rfl⟩
  | .cu r p n, u, h => by
    simp only [FR] at h
    obtain ⟨k, N, cs, hv, a, M, c, h1, _⟩ := h
    exact ⟨_, h1, .inl rfl⟩
  | .pt r p off, u, h => by
    simp only [FR] at h
    obtain ⟨o, cs, hv, b, q, h1, h2, _⟩ := h
    exact ⟨o, h1, .inl (by simp [h2])⟩
  | .ar r p off n, u, h => by
    simp only [FR] at h
    obtain ⟨o, cs, hv, b, q, c, h1, h2, _⟩ := h
    exact ⟨o, h1, .inl (by simp [h2])⟩
  | .mr r p, u, h => by
    simp only [FR] at h
    obtain ⟨es, hv, h1, _⟩ := h
    exact ⟨_, h1, .inr ⟨es, rfl⟩⟩
  | .it r m p rest cur, u, h => by
    simp only [FR] at h
    obtain ⟨e, h1, b, mb, es, en, clock, seen, h2, h3, h4, _⟩ := h
    exact ⟨h1, es, h4⟩
  | .ag fs, u, h => by
    simp only [FR] at h
    obtain ⟨vs, e, h⟩ := h
    exact FRL_ats fs vs.toList h
  | .tu fs, u, h => by
    simp only [FR] at h
    obtain ⟨vs, e, h⟩ := h
    exact FRL_ats fs vs.toList h
  | .cl f fs, u, h => by
    simp only [FR] at h
    obtain ⟨vs, e, h⟩ := h
    exact FRL_ats fs vs.toList h
  | .fb fs off, u, h => by
    simp only [FR] at h
    obtain ⟨b, vs, e, hb, hc, h⟩ := h
    exact FRL_ats fs vs h
  | .dead, _, _ => trivial
theorem FRL_ats : ∀ (fs : List FV) (us : List Value), FRL w ok σ ρ fs us →
    FV.atsL (fun r p => ∃ o, σ.obj r p = some o ∧ isObj o) (fun r m p => σ.rts r = some .itr ∧ ∃ es, σ.obj m p = some (.mp es)) fs
  | [], us, _ => trivial
  | f :: fs, us, h => by
    simp only [FRL] at h
    obtain ⟨u, vs, e, h1, h2⟩ := h
    exact ⟨FR_ats f u h1, FRL_ats fs vs h2⟩
end
mutual
theorem ats_under {r : Rn} {p : List Nat} {G : Rn → List Nat → Prop} {I : Rn → Rn → List Nat → Prop} : ∀ f : FV, f.under r p = false → f.ats G I →
    f.ats (fun q s => G q s ∧ (q = r → isPre p s = false)) (fun q m s => I q m s ∧ q ≠ r ∧ (m = r → isPre p s = false))
  | .al q s _ _, h, g => ⟨g, fun e => by simpa [FV.under, e] using h⟩
  | .cu q s _, h, g => ⟨g, fun e => by simpa [FV.under, e] using h⟩
  | .pt q s _, h, g => ⟨g, fun e => by simpa [FV.under, e] using h⟩
  | .ar q s _ _, h, g => ⟨g, fun e => by simpa [FV.under, e] using h⟩
  | .mr q s, h, g => ⟨g, fun e => by simpa [FV.under, e] using h⟩
  | .it q m s _ _, h, g => by
    simp only [FV.under] at h
    refine ⟨g, fun e => by simp [e] at h, fun e => ?_⟩
    split at h
    · simp at h
    · simpa [e] using h
  | .ag fs, h, g => atsL_under fs (by simpa [FV.under] using h) g
  | .tu fs, h, g => atsL_under fs (by simpa [FV.under] using h) g
  | .cl _ fs, h, g => atsL_under fs (by simpa [FV.under] using h) g
  | .fb fs _, h, g => atsL_under fs (by simpa [FV.under] using h) g
  | .d _, _, _ => trivial
  | .sp _ _, _, _ => trivial
  | .dead, _, _ => trivial
theorem atsL_under {r : Rn} {p : List Nat} {G : Rn → List Nat → Prop} {I : Rn → Rn → List Nat → Prop} : ∀ fs : List FV, FV.underL r p fs = false → FV.atsL G I fs →
    FV.atsL (fun q s => G q s ∧ (q = r → isPre p s = false)) (fun q m s => I q m s ∧ q ≠ r ∧ (m = r → isPre p s = false)) fs
  | [], _, _ => trivial
  | f :: fs, h, g => by
    simp only [FV.underL, Bool.or_eq_false_iff] at h
    exact ⟨ats_under f h.1 g.1, atsL_under fs h.2 g.2⟩
end
end
end Go.Proofs.Ytdgeponcnlkaiaa.Ab
