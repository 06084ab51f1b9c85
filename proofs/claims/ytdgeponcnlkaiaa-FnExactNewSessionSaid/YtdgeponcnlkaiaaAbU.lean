/- append: sound, in place and to a new block. No condition. -/
import Derived.Test.YtdgeponcnlkaiaaAbT
namespace Go.Proofs.Ytdgeponcnlkaiaa.Ab
open Go
set_option linter.unusedSimpArgs false
set_option linter.unusedVariables false
set_option linter.unusedSectionVars false

section
variable {w0 w : World} {fp0 : List Nat} {ok0 ok : Nat → Prop} {W : Nat → Value} {n : Nat} {P : Program} {T : TT} {σ : St} {θ : Nat → Value} {ρ : Rn → Value} {φ : Rn → List Nat} {a : Act}

/-! ### Rows read and laid -/
theorem OwL_read {b : Nat} : ∀ {cs : List D} {o : Nat} {fp : List Nat}, OwL w ok b cs o fp → ∃ us : List Value, us.length = cs.length ∧ (∀ (j : Nat) (v : Value), us[j]? = some v → w.cell? ⟨b, o + j, none⟩ = some v) ∧ OwVs w ok cs us fp
  | [], o, fp, h => by
    simp only [OwL] at h
    exact ⟨[], rfl, by simp, by simp [OwVs, h]⟩
  | c :: cs, o, fp, h => by
    simp only [OwL] at h
    obtain ⟨u, f1, f2, h1, h2, h3, h4⟩ := h
    obtain ⟨us, g1, g2, g3⟩ := OwL_read h4
    refine ⟨u :: us, by simp [g1], fun j v hj => ?_, ?_⟩
    · cases j with
      | zero =>
        simp only [List.getElem?_cons_zero, Option.some.injEq] at hj
        subst hj
        simpa using h1
      | succ j =>
        simp only [List.getElem?_cons_succ] at hj
        have := g2 j v hj
        rwa [show o + 1 + j = o + (j + 1) by omega] at this
    · simp only [OwVs]
      exact ⟨u, us, f1, f2, rfl, h2, h3, g3⟩

theorem OwL_lay {b : Nat} {w' : World} (hk : ∀ b, ok b → w'.heap[b]? = w.heap[b]?) : ∀ {cs : List D} {us : List Value} {o : Nat} {fp : List Nat}, OwVs w ok cs us fp → (∀ (j : Nat) (v : Value), us[j]? = some v → w'.cell? ⟨b, o + j, none⟩ = some v) →
    (∀ b ∈ fp, w'.heap[b]? = w.heap[b]?) → OwL w' ok b cs o fp
  | [], us, o, fp, h, _, _ => by
    simp only [OwVs] at h
    simp only [OwL]
    exact h.2
  | c :: cs, us, o, fp, h, hc, hf => by
    simp only [OwVs] at h
    obtain ⟨u, vs, f1, f2, rfl, rfl, h1, h2⟩ := h
    simp only [OwL]
    refine ⟨u, f1, f2, by simpa using hc 0 u rfl, rfl, Ow_mono (fun b hb => ⟨hb, hk b hb⟩) c u f1 (fun b hb => hf b (by simp [hb])) h1, OwL_lay hk h2 (fun j v hj => ?_) (fun b hb => hf b (by simp [hb]))⟩
    have := hc (j + 1) v (by simpa using hj)
    rwa [show o + (j + 1) = o + 1 + j by omega] at this

theorem OwL_append {b : Nat} : ∀ {cs cs2 : List D} {o : Nat} {f1 f2 : List Nat}, OwL w ok b cs o f1 → OwL w ok b cs2 (o + cs.length) f2 → OwL w ok b (cs ++ cs2) o (f1 ++ f2)
  | [], cs2, o, f1, f2, h, k => by
    simp only [OwL] at h
    subst h
    simpa using k
  | c :: cs, cs2, o, f1, f2, h, k => by
    simp only [OwL] at h
    obtain ⟨u, g1, g2, h1, rfl, h3, h4⟩ := h
    simp only [List.cons_append, OwL]
    refine ⟨u, g1, g2 ++ f2, h1, by simp, h3, OwL_append h4 (by rw [List.length_cons] at k; rwa [show o + 1 + cs.length = o + (cs.length + 1) by omega])⟩

theorem OwVs_append : ∀ {cs cs2 : List D} {us us2 : List Value} {f1 f2 : List Nat}, OwVs w ok cs us f1 → OwVs w ok cs2 us2 f2 → OwVs w ok (cs ++ cs2) (us ++ us2) (f1 ++ f2)
  | [], cs2, us, us2, f1, f2, h, k => by
    simp only [OwVs] at h
    obtain ⟨rfl, rfl⟩ := h
    simpa using k
  | c :: cs, cs2, us, us2, f1, f2, h, k => by
    simp only [OwVs] at h
    obtain ⟨u, vs, g1, g2, rfl, rfl, h1, h2⟩ := h
    simp only [List.cons_append, OwVs]
    exact ⟨u, vs ++ us2, g1, g2 ++ f2, rfl, by simp, h1, OwVs_append h2 k⟩
theorem OwVs_length : ∀ {cs : List D} {us : List Value} {fp : List Nat}, OwVs w ok cs us fp → us.length = cs.length
  | [], us, fp, h => by
    simp only [OwVs] at h
    simp [h.1]
  | c :: cs, us, fp, h => by
    simp only [OwVs] at h
    obtain ⟨u, vs, g1, g2, rfl, rfl, h1, h2⟩ := h
    simp [OwVs_length h2]
theorem OwVs_solid : ∀ {cs : List D} {us : List Value} {fp : List Nat}, solidL cs → OwVs w ok cs us fp → ∀ v ∈ us, v.oneCell' = true
  | [], us, fp, _, h => by
    simp only [OwVs] at h
    simp [h.1]
  | c :: cs, us, fp, hs, h => by
    simp only [OwVs] at h
    obtain ⟨u, vs, g1, g2, rfl, rfl, h1, h2⟩ := h
    intro v hv
    rcases List.mem_cons.1 hv with rfl | hv
    · refine Ow_oneCell h1 (by rintro rfl; have := hs.1; simp [D.solid, D.leaf] at this) (by rintro x rfl; simpa [D.solid, D.leaf] using hs.1)
    · exact OwVs_solid hs.2 h2 v hv
theorem leaf_solid : ∀ {cs : List D}, leafL cs → solidL cs
  | [], _ => trivial
  | c :: cs, h => ⟨by cases c <;> first | rfl | exact h.1, leaf_solid h.2⟩
theorem OwVs_leaf : ∀ {cs : List D} {us : List Value}, leafL cs → ShV w ok cs us → OwVs w ok cs us []
  | [], us, _, h => by
    simp only [ShV] at h
    simp [OwVs, h]
  | c :: cs, us, hl, h => by
    simp only [ShV] at h
    obtain ⟨u, vs, rfl, h1, h2⟩ := h
    simp only [OwVs]
    exact ⟨u, vs, [], [], rfl, rfl, Ow_leaf hl.1 h1, OwVs_leaf hl.2 h2⟩
theorem ShV_length : ∀ {cs : List D} {us : List Value}, ShV w ok cs us → us.length = cs.length
  | [], us, h => by simp only [ShV] at h; simp [h]
  | c :: cs, us, h => by
    simp only [ShV] at h
    obtain ⟨u, vs, rfl, h1, h2⟩ := h
    simp [ShV_length h2]
theorem read_cells {b : Nat} : ∀ (cs : List D) (o : Nat), (∀ (j : Nat) (x : D), cs[j]? = some x → ∃ v, w.cell? ⟨b, o + j, none⟩ = some v ∧ (x.leaf = true → Sh w ok x v)) →
    ∃ us : List Value, us.length = cs.length ∧ (∀ (j : Nat) (v : Value), us[j]? = some v → w.cell? ⟨b, o + j, none⟩ = some v) ∧ (leafL cs → ShV w ok cs us)
  | [], o, _ => ⟨[], rfl, by simp, fun _ => rfl⟩
  | c :: cs, o, h => by
    obtain ⟨v, h1, h2⟩ := h 0 c rfl
    obtain ⟨us, g1, g2, g3⟩ := read_cells cs (o + 1) fun j x hj => by
      have := h (j + 1) x (by simpa using hj)
      rwa [show o + (j + 1) = o + 1 + j by omega] at this
    refine ⟨v :: us, by simp [g1], fun j u hj => ?_, fun hl => ?_⟩
    · cases j with
      | zero =>
        simp only [List.getElem?_cons_zero, Option.some.injEq] at hj
        subst hj
        simpa using h1
      | succ j =>
        simp only [List.getElem?_cons_succ] at hj
        have := g2 j u hj
        rwa [show o + 1 + j = o + (j + 1) by omega] at this
    · simp only [ShV]
      exact ⟨v, us, rfl, h2 hl.1, g3 hl.2⟩

/-- The cells behind what is appended or copied. -/
structure Rd (w : World) (ok : Nat → Prop) (k m : Nat) (cs2 : List D) (u : Value) (us : List Value) : Prop where
  len : us.length = m * k
  clen : cs2.length = m * k
  at_ : ∃ a' c', u = .slice a' m c' ∧ (us = [] ∨ ∃ b o, a' = some ⟨b, o, none⟩ ∧ ∀ (j : Nat) (v : Value), us[j]? = some v → w.cell? ⟨b, o + j, none⟩ = some v)
  leaf : leafL cs2 → ShV w ok cs2 us

theorem cells_leaf (h : Rel w0 fp0 ok σ θ w ρ φ) {r : Rn} {p : List Nat} {o x : D} {cs : List D} {i b q : Nat} {hv : Value} (ho : σ.obj r p = some o) (hc : o.cells? = some cs) (hh : hdr w (ρ r) p = some hv)
    (hb : baseOf hv = some (b, q)) (hi : cs[i]? = some x) : ∃ v, w.cell? ⟨b, q + i, none⟩ = some v ∧ (x.leaf = true → Sh w ok x v) := by
  obtain ⟨v, h1, h2⟩ := cell_at h ho hc hh hb hi
  refine ⟨v, h1, fun hl => ?_⟩
  cases x <;> simp [D.leaf] at hl <;> simpa only [cellFV, FR] using h2

theorem ow_len (h : Rel w0 fp0 ok σ θ w ρ φ) {r : Rn} {p : List Nat} {k N : Nat} {cs : List D} (ho : σ.obj r p = some (.ow k N cs)) : cs.length = k * N := by
  obtain ⟨hv, fo, hat⟩ := h.rts_.at_ (r := r) (p := p) ho
  have := hat.own
  simp only [Ow] at this
  rcases this with ⟨rfl, rfl, _⟩ | ⟨b, o, c, arr, T, fp', e1, _, _, _, _, h2, _⟩
  · simp
  · exact h2

theorem appNew_read (h : Rel w0 fp0 ok σ θ w ρ φ) {k m : Nat} {x : FV} {cs2 : List D} {mv : Option Rn} {u : Value} (hs : appNew σ k x = some (m, cs2, mv)) (hu : FR w ok σ ρ x u) : ∃ us, Rd w ok k m cs2 u us := by
  have nil : ∀ (a' : Option Addr) (c' : Nat), u = .slice a' 0 c' → Rd w ok k 0 [] u [] := fun a' c' e => ⟨by simp, by simp, ⟨a', c', e, .inl rfl⟩, fun _ => rfl⟩
  unfold appNew at hs
  split at hs
  · injection hs with hs
    injection hs with h1 hs
    injection hs with h2 h3
    subst h1; subst h2
    exact ⟨[], nil _ _ (FR_v hu)⟩
  · injection hs with hs
    injection hs with h1 hs
    injection hs with h2 h3
    subst h1; subst h2
    simp only [FR, Sh] at hu
    obtain ⟨a', e⟩ := hu
    exact ⟨[], nil _ _ e⟩
  · rename_i k' n' cs
    split at hs
    · rename_i hk
      subst hk
      injection hs with hs
      injection hs with h1 hs
      injection hs with h2 h3
      subst h1; subst h2
      simp only [FR, Sh] at hu
      obtain ⟨a', c', e, _, hl, h4⟩ := hu
      rcases h4 with rfl | ⟨b, o, rfl, hb, h5⟩
      · have hz : n' * k' = 0 := by rw [Nat.mul_comm]; simpa using hl.symm
        exact ⟨[], by simp [hz], by simp [hz], ⟨a', c', e, .inl rfl⟩, fun _ => rfl⟩
      · obtain ⟨us, g1, g2, g3⟩ := read_cells (w := w) (ok := ok) (b := b) cs o fun j x hj => by
          obtain ⟨v, h6, h7⟩ := ShL_get h5 hj
          exact ⟨v, h6, fun _ => h7⟩
        exact ⟨us, by rw [g1, hl, Nat.mul_comm], by rw [hl, Nat.mul_comm], ⟨_, c', e, .inr ⟨b, o, rfl, g2⟩⟩, g3⟩
    · simp at hs
  · rename_i r p lo n'
    split at hs
    · rename_i k' N cs ho
      split at hs
      · rename_i hk
        subst hk
        have hcl := ow_len h ho
        simp only [FR] at hu
        obtain ⟨k2, N2, cs', hv, g1, g2, g3, g4⟩ := hu
        rw [ho] at g1
        cases g1
        have fin : ∀ (cs2' : List D), cs2' = (cs.drop (k' * lo)).take (k' * n') → ∃ us, Rd w ok k' n' cs2' u us := by
          intro cs2' e0
          have hlen : cs2'.length = n' * k' := by
            rw [e0, List.length_take, List.length_drop, hcl, ← Nat.mul_sub, Nat.min_eq_left (Nat.mul_le_mul_left _ (by omega)), Nat.mul_comm]
          rcases al_block h ho g2 with ⟨b, o, cp, e1, e2, e3⟩ | ⟨e1, a0, e2⟩
          · have cellj : ∀ (j : Nat) (x : D), cs2'[j]? = some x → ∃ v, w.cell? ⟨b, o + k' * lo + j, none⟩ = some v ∧ (x.leaf = true → Sh w ok x v) := fun j x hj => by
              rw [e0, List.getElem?_take] at hj
              split at hj
              · rw [List.getElem?_drop] at hj
                have := cells_leaf h ho rfl g2 e3 hj
                rwa [show o + (k' * lo + j) = o + k' * lo + j by omega] at this
              · simp at hj
            obtain ⟨us, q1, q2, q3⟩ := read_cells (w := w) (ok := ok) (b := b) cs2' (o + k' * lo) cellj
            rcases g4 with ⟨rfl, a', N', c', e4, e5⟩ | ⟨hlo, b', o', N', c', e4, _, e5⟩
            · rw [e1] at e4
              cases e4
              exact ⟨us, by rw [q1, hlen], hlen, ⟨_, _, e5, .inr ⟨b, o, rfl, by simpa using q2⟩⟩, q3⟩
            · rw [e1] at e4
              cases e4
              rcases e5 with ⟨_, e5⟩ | ⟨_, rfl, a1, e5⟩
              · exact ⟨us, by rw [q1, hlen], hlen, ⟨_, _, e5, .inr ⟨b, _, rfl, q2⟩⟩, q3⟩
              · have : cs2' = [] := List.eq_nil_of_length_eq_zero (by simpa using hlen)
                subst this
                exact ⟨[], by simp, by simp, ⟨_, _, e5, .inl rfl⟩, fun _ => rfl⟩
          · have hn : n' = 0 := by omega
            subst hn
            have : cs2' = [] := List.eq_nil_of_length_eq_zero (by simpa using hlen)
            subst this
            rcases g4 with ⟨rfl, a', N', c', e4, e5⟩ | ⟨hlo, b', o', N', c', e4, _, e5⟩
            · exact ⟨[], by simp, by simp, ⟨_, _, e5, .inl rfl⟩, fun _ => rfl⟩
            · rw [e2] at e4
              simp at e4
              omega
        split at hs
        · rename_i hc
          injection hs with hs
          injection hs with h1 hs
          injection hs with h2 h3
          subst h1; subst h2
          refine fin cs ?_
          rw [hc.1, hc.2.1]
          simp [← hcl]
        · injection hs with hs
          injection hs with h1 hs
          injection hs with h2 h3
          subst h1; subst h2
          exact fin _ rfl
      · simp at hs
    · simp at hs
  · rename_i r p off n'
    split at hs
    · rename_i o ho
      split at hs
      · rename_i cs hc
        split at hs
        · rename_i hk
          subst hk
          injection hs with hs
          injection hs with h1 hs
          injection hs with h2 h3
          subst h1; subst h2
          simp only [FR] at hu
          obtain ⟨o2, cs', hv, b, q, c, g1, g2, g3, g4, g5, g6, g7⟩ := hu
          rw [ho] at g1
          cases g1
          rw [hc] at g2
          cases g2
          have hlen : ((cs.drop off).take n').length = n' * 1 := by
            rw [List.length_take, List.length_drop]
            omega
          obtain ⟨us, q1, q2, q3⟩ := read_cells (w := w) (ok := ok) (b := b) ((cs.drop off).take n') (q + off) fun j x hj => by
            rw [List.getElem?_take] at hj
            split at hj
            · rw [List.getElem?_drop] at hj
              have := cells_leaf h ho hc g3 g4 hj
              rwa [show q + (off + j) = q + off + j by omega] at this
            · simp at hj
          rcases g7 with e | ⟨rfl, a', e⟩
          · exact ⟨us, by rw [q1, hlen], hlen, ⟨_, _, e, .inr ⟨b, _, rfl, q2⟩⟩, q3⟩
          · exact ⟨[], by simp, by simp, ⟨_, _, e, .inl rfl⟩, fun _ => by simp [ShV]⟩
        · simp at hs
      · simp at hs
    · simp at hs
  · simp at hs

/-- The cells, read by the machine. -/
theorem Rd.first {k m : Nat} {cs2 : List D} {u : Value} {us : List Value} (h : Rd w ok k m cs2 u us) (w' : World) (hw : Later w w') : (Builtin.firstCells k m u).run P w' = .ok us.toArray w' ∧ ∃ a' c', u = .slice a' m c' := by
  obtain ⟨a', c', e, h1⟩ := h.at_
  subst e
  refine ⟨?_, a', c', rfl⟩
  rcases h1 with rfl | ⟨b, o, rfl, h2⟩
  · have hz : m * k = 0 := by simpa using h.len.symm
    cases a' with
    | none => simp [Builtin.firstCells]
    | some a' => simp [Builtin.firstCells, hz, loadCells, loadCellsFrom]
  · refine run_firstCells_some (P := P) w' k m _ m c' us h.len fun j v hj => ?_
    rw [Addr_add]
    exact hw.cell (h2 j v hj)

end
end Go.Proofs.Ytdgeponcnlkaiaa.Ab
