/- Laws of trees in memory: what stays where nothing of a tree is written, sharing, places and what is put there. No condition. -/
import Derived.Test.YtdgeponcnlkaiaaAbC
namespace Go.Proofs.Ytdgeponcnlkaiaa.Ab
open Go
set_option linter.unusedSimpArgs false
set_option linter.unusedVariables false
set_option linter.unusedSectionVars false

theorem cell_eq {w w' : World} {b o : Nat} (h : w'.heap[b]? = w.heap[b]?) : w'.cell? ⟨b, o, none⟩ = w.cell? ⟨b, o, none⟩ := World.cell?_of_block h

section mono
variable {w w' : World} {ok ok' : Nat → Prop} (hk : ∀ b, ok b → ok' b ∧ w'.heap[b]? = w.heap[b]?)
include hk
mutual
theorem Sh_mono : ∀ (d : D) (u : Value), Sh w ok d u → Sh w' ok' d u
  | .v _, _, h => by simpa [Sh] using h
  | .ez, _, h => by simpa [Sh] using h
  | .sh k n cs, u, h => by
    simp only [Sh] at h ⊢
    obtain ⟨a, c, e, h1, h2, h3⟩ := h
    refine ⟨a, c, e, h1, h2, ?_⟩
    rcases h3 with h3 | ⟨b, o, e2, h4, h5⟩
    · exact .inl h3
    · exact .inr ⟨b, o, e2, (hk b h4).1, ShL_mono b h4 cs o h5⟩
  | .vp cs, u, h => by
    simp only [Sh] at h ⊢
    obtain ⟨b, o, e, h4, h5⟩ := h
    exact ⟨b, o, e, (hk b h4).1, ShL_mono b h4 cs o h5⟩
  | .fn f caps, u, h => by
    simp only [Sh] at h ⊢
    obtain ⟨vs, e, h5⟩ := h
    exact ⟨vs, e, ShV_mono caps vs.toList h5⟩
  | .ow .., _, h => by simp [Sh] at h
  | .bx _, _, h => by simp [Sh] at h
  | .mp _, _, h => by simp [Sh] at h
  | .itr, _, h => by simp [Sh] at h
  | .gone, _, h => by simp [Sh]
theorem ShL_mono (b : Nat) (hb : ok b) : ∀ (cs : List D) (o : Nat), ShL w ok b cs o → ShL w' ok' b cs o
  | [], _, _ => by simp [ShL]
  | d :: ds, o, h => by
    simp only [ShL] at h ⊢
    obtain ⟨⟨u, h1, h2⟩, h3⟩ := h
    exact ⟨⟨u, by rw [cell_eq (hk b hb).2]; exact h1, Sh_mono d u h2⟩, ShL_mono b hb ds (o + 1) h3⟩
theorem ShV_mono : ∀ (cs : List D) (vs : List Value), ShV w ok cs vs → ShV w' ok' cs vs
  | [], vs, h => by simpa [ShV] using h
  | d :: ds, vs, h => by
    simp only [ShV] at h ⊢
    obtain ⟨u, us, e, h1, h2⟩ := h
    exact ⟨u, us, e, Sh_mono d u h1, ShV_mono ds us h2⟩
end
mutual
theorem Ow_mono : ∀ (d : D) (u : Value) (fp : List Nat), (∀ b ∈ fp, w'.heap[b]? = w.heap[b]?) → Ow w ok d u fp → Ow w' ok' d u fp
  | .v _, _, _, _, h => by simpa [Ow] using h
  | .ez, _, _, _, h => by simpa [Ow, Sh] using h
  | .sh k n cs, u, _, _, h => by
    simp only [Ow] at h ⊢
    exact ⟨h.1, Sh_mono hk _ _ h.2⟩
  | .vp cs, u, _, _, h => by
    simp only [Ow] at h ⊢
    exact ⟨h.1, Sh_mono hk _ _ h.2⟩
  | .fn f caps, u, _, _, h => by
    simp only [Ow] at h ⊢
    exact ⟨h.1, Sh_mono hk _ _ h.2⟩
  | .ow k n cs, u, fp, hf, h => by
    simp only [Ow] at h ⊢
    rcases h with h | ⟨b, o, c, arr, T, fp', e, e2, h1, h2, h3, h4, h5⟩
    · exact .inl h
    · subst e2
      exact .inr ⟨b, o, c, arr, T, fp', e, rfl, by rw [hf b (by simp)]; exact h1, h2, h3, h4, OwL_mono b cs o (fun j _ => cell_eq (hf b (by simp))) fp' (fun x hx => hf x (by simp [hx])) h5⟩
  | .bx cs, u, fp, hf, h => by
    simp only [Ow] at h ⊢
    obtain ⟨b, arr, T, fp', e, e2, h1, h2, h5⟩ := h
    subst e2
    exact ⟨b, arr, T, fp', e, rfl, by rw [hf b (by simp)]; exact h1, h2, OwL_mono b cs 0 (fun j _ => cell_eq (hf b (by simp))) fp' (fun x hx => hf x (by simp [hx])) h5⟩
  | .mp es, u, fp, hf, h => by
    simp only [Ow] at h ⊢
    obtain ⟨m, en, cl, e, e2, h1⟩ := h
    subst e2
    exact ⟨m, en, cl, e, rfl, ⟨by rw [hf m (by simp)]; exact h1.at_, h1.kv, h1.born, h1.uniq, h1.keys⟩⟩
  | .itr, u, fp, hf, h => by
    simp only [Ow] at h ⊢
    obtain ⟨b, m, s, x, l, e, e2, h1⟩ := h
    subst e2
    exact ⟨b, m, s, x, l, e, rfl, by rw [hf b (by simp)]; exact h1⟩
  | .gone, _, _, _, h => by simpa [Ow] using h
theorem OwL_mono (b : Nat) : ∀ (cs : List D) (o : Nat), (∀ j, j < cs.length → w'.cell? ⟨b, o + j, none⟩ = w.cell? ⟨b, o + j, none⟩) → ∀ (fp : List Nat), (∀ b ∈ fp, w'.heap[b]? = w.heap[b]?) → OwL w ok b cs o fp → OwL w' ok' b cs o fp
  | [], _, _, _, _, h => by simpa [OwL] using h
  | d :: ds, o, hc, fp, hf, h => by
    simp only [OwL] at h ⊢
    obtain ⟨u, f1, f2, h1, e, h2, h3⟩ := h
    subst e
    refine ⟨u, f1, f2, ?_, rfl, Ow_mono d u f1 (fun x hx => hf x (by simp [hx])) h2, OwL_mono b ds (o + 1) (fun j hj => ?_) f2 (fun x hx => hf x (by simp [hx])) h3⟩
    · have := hc 0 (by simp)
      simp only [Nat.add_zero] at this
      rw [this]; exact h1
    · have := hc (j + 1) (by simp; omega)
      rw [show o + 1 + j = o + (j + 1) by omega]; exact this
end
end mono

section nosh
variable {w : World} {ok ok' : Nat → Prop}
mutual
theorem Ow_nosh : ∀ (d : D) (u : Value) (fp : List Nat), noSh d → Ow w ok d u fp → Ow w ok' d u fp
  | .v _, _, _, _, h => by simpa [Ow] using h
  | .ez, _, _, _, h => by simpa [Ow, Sh] using h
  | .sh .., _, _, hn, _ => by simp [noSh] at hn
  | .vp _, _, _, hn, _ => by simp [noSh] at hn
  | .fn .., _, _, hn, _ => by simp [noSh] at hn
  | .ow k n cs, u, fp, hn, h => by
    simp only [Ow] at h ⊢
    rcases h with h | ⟨b, o, c, arr, T, fp', e, e2, h1, h2, h3, h4, h5⟩
    · exact .inl h
    · exact .inr ⟨b, o, c, arr, T, fp', e, e2, h1, h2, h3, h4, OwL_nosh b cs o fp' (by simpa [noSh] using hn) h5⟩
  | .bx cs, u, fp, hn, h => by
    simp only [Ow] at h ⊢
    obtain ⟨b, arr, T, fp', e, e2, h1, h2, h5⟩ := h
    exact ⟨b, arr, T, fp', e, e2, h1, h2, OwL_nosh b cs 0 fp' (by simpa [noSh] using hn) h5⟩
  | .mp es, u, fp, _, h => by simpa only [Ow] using h
  | .itr, u, fp, _, h => by simpa only [Ow] using h
  | .gone, _, _, _, h => by simpa [Ow] using h
theorem OwL_nosh (b : Nat) : ∀ (cs : List D) (o : Nat) (fp : List Nat), noShL cs → OwL w ok b cs o fp → OwL w ok' b cs o fp
  | [], _, _, _, h => by simpa [OwL] using h
  | d :: ds, o, fp, hn, h => by
    simp only [OwL] at h ⊢
    simp only [noShL] at hn
    obtain ⟨u, f1, f2, h1, e, h2, h3⟩ := h
    exact ⟨u, f1, f2, h1, e, Ow_nosh d u f1 hn.1 h2, OwL_nosh b ds (o + 1) f2 hn.2 h3⟩
end
end nosh

/-! ### Sharing -/
theorem length_shareL : ∀ cs : List D, (shareL cs).length = cs.length
  | [] => rfl
  | d :: ds => by simp [shareL, length_shareL ds]
section share
variable {w : World} {ok ok' : Nat → Prop} (hk : ∀ b, ok b → ok' b)
include hk
mutual
theorem Sh_share : ∀ (d : D) (u : Value) (fp : List Nat), (∀ b ∈ fp, ok' b) → Ow w ok d u fp → Sh w ok' (share d) u
  | .v _, _, _, _, h => by simpa [share, Sh, Ow] using And.right (by simpa [Ow] using h)
  | .ez, _, _, _, h => by have := h; simp only [Ow, Sh] at this; simpa [share, Sh] using this.2
  | .sh k n cs, u, _, _, h => by
    simp only [Ow] at h
    simp only [share]
    exact Sh_mono (fun b hb => ⟨hk b hb, rfl⟩) _ _ h.2
  | .vp cs, u, _, _, h => by
    simp only [Ow] at h
    simp only [share]
    exact Sh_mono (fun b hb => ⟨hk b hb, rfl⟩) _ _ h.2
  | .fn f caps, u, _, _, h => by
    simp only [Ow] at h
    simp only [share]
    exact Sh_mono (fun b hb => ⟨hk b hb, rfl⟩) _ _ h.2
  | .ow k n cs, u, fp, hf, h => by
    simp only [Ow] at h
    simp only [share, Sh]
    rcases h with ⟨h1, h2, h3, a, h4⟩ | ⟨b, o, c, arr, T, fp', e, e2, h1, h2, h3, h4, h5⟩
    · subst h1; subst h2
      exact ⟨a, 0, h4, Nat.le_refl _, by simp [shareL], .inl rfl⟩
    · subst e2
      refine ⟨_, c, e, h2.1, by rw [length_shareL]; exact h4, .inr ⟨b, o, rfl, hf b (by simp), ShL_share b cs o fp' (fun x hx => hf x (by simp [hx])) h5⟩⟩
  | .bx cs, u, fp, hf, h => by
    simp only [Ow] at h
    simp only [share, Sh]
    obtain ⟨b, arr, T, fp', e, e2, h1, h2, h5⟩ := h
    subst e2
    exact ⟨b, 0, e, hf b (by simp), ShL_share b cs 0 fp' (fun x hx => hf x (by simp [hx])) h5⟩
  | .mp es, u, fp, _, h => by simp [share, Sh]
  | .itr, u, fp, _, h => by simp [share, Sh]
  | .gone, _, _, _, h => by simp [share, Sh]
theorem ShL_share (b : Nat) : ∀ (cs : List D) (o : Nat) (fp : List Nat), (∀ b ∈ fp, ok' b) → OwL w ok b cs o fp → ShL w ok' b (shareL cs) o
  | [], _, _, _, _ => by simp [shareL, ShL]
  | d :: ds, o, fp, hf, h => by
    simp only [OwL] at h
    simp only [shareL, ShL]
    obtain ⟨u, f1, f2, h1, e, h2, h3⟩ := h
    subst e
    exact ⟨⟨u, h1, Sh_share d u f1 (fun x hx => hf x (by simp [hx])) h2⟩, ShL_share b ds (o + 1) f2 (fun x hx => hf x (by simp [hx])) h3⟩
end
end share

/-! ### Cells -/
theorem ShL_get {w : World} {ok : Nat → Prop} {b : Nat} : ∀ {cs : List D} {o i : Nat} {d : D}, ShL w ok b cs o → cs[i]? = some d → ∃ u, w.cell? ⟨b, o + i, none⟩ = some u ∧ Sh w ok d u
  | [], _, _, _, _, h => by simp at h
  | c :: cs, o, 0, d, h, e => by
    simp only [ShL] at h
    simp only [List.getElem?_cons_zero, Option.some.injEq] at e
    subst e
    simpa using h.1
  | c :: cs, o, i + 1, d, h, e => by
    simp only [ShL] at h
    simp only [List.getElem?_cons_succ] at e
    have := ShL_get h.2 e
    rwa [show o + 1 + i = o + (i + 1) by omega] at this

theorem ShL_drop {w : World} {ok : Nat → Prop} {b : Nat} : ∀ {cs : List D} {o : Nat} (i : Nat), ShL w ok b cs o → ShL w ok b (cs.drop i) (o + i)
  | cs, o, 0, h => by simpa using h
  | [], o, i + 1, h => by simp [ShL]
  | c :: cs, o, i + 1, h => by
    simp only [ShL] at h
    have := ShL_drop i h.2
    rw [show o + (i + 1) = o + 1 + i by omega]
    simpa using this
theorem ShL_take {w : World} {ok : Nat → Prop} {b : Nat} : ∀ {cs : List D} {o : Nat} (i : Nat), ShL w ok b cs o → ShL w ok b (cs.take i) o
  | cs, o, 0, h => by simp [ShL]
  | [], o, i + 1, h => by simp [ShL]
  | c :: cs, o, i + 1, h => by
    simp only [ShL] at h
    simp only [List.take_succ_cons, ShL]
    exact ⟨h.1, ShL_take i h.2⟩

/-- One cell of an owned row, and the row with another tree in it. -/
theorem OwL_split {w : World} {ok : Nat → Prop} {b : Nat} : ∀ {cs : List D} {o i : Nat} {x : D} {fp : List Nat}, OwL w ok b cs o fp → cs[i]? = some x →
    ∃ v f1 fx f2, fp = f1 ++ fx ++ f2 ∧ w.cell? ⟨b, o + i, none⟩ = some v ∧ Ow w ok x v fx ∧
      ∀ (w' : World) (ok' : Nat → Prop) (x' : D) (v' : Value) (fx' : List Nat), (∀ b, ok b → ok' b ∧ w'.heap[b]? = w.heap[b]?) → w'.cell? ⟨b, o + i, none⟩ = some v' → Ow w' ok' x' v' fx' →
        (∀ j, j < cs.length → j ≠ i → w'.cell? ⟨b, o + j, none⟩ = w.cell? ⟨b, o + j, none⟩) → (∀ q, q ∈ f1 ∨ q ∈ f2 → w'.heap[q]? = w.heap[q]?) →
        OwL w' ok' b (cs.set i x') o (f1 ++ fx' ++ f2)
  | [], _, _, _, _, _, e => by simp at e
  | c :: cs, o, 0, x, fp, h, e => by
    simp only [OwL] at h
    obtain ⟨u, g1, g2, h1, e1, h2, h3⟩ := h
    simp only [List.getElem?_cons_zero, Option.some.injEq] at e
    subst e
    refine ⟨u, [], g1, g2, by simpa using e1, by simpa using h1, h2, fun w' ok' x' v' fx' hk hc hx ho hf => ?_⟩
    simp only [List.set_cons_zero, OwL, List.nil_append]
    refine ⟨v', fx', g2, by simpa using hc, rfl, hx, OwL_mono hk b cs (o + 1) (fun j hj => ?_) g2 (fun q hq => hf q (.inr hq)) h3⟩
    have := ho (j + 1) (by simp; omega) (by omega)
    rwa [show o + 1 + j = o + (j + 1) by omega]
  | c :: cs, o, i + 1, x, fp, h, e => by
    simp only [OwL] at h
    obtain ⟨u, g1, g2, h1, e1, h2, h3⟩ := h
    simp only [List.getElem?_cons_succ] at e
    obtain ⟨v, f1, fx, f2, e2, h4, h5, h6⟩ := OwL_split h3 e
    subst e1; subst e2
    refine ⟨v, g1 ++ f1, fx, f2, by simp, by rw [show o + (i + 1) = o + 1 + i by omega]; exact h4, h5, fun w' ok' x' v' fx' hk hc hx ho hf => ?_⟩
    simp only [List.set_cons_succ, OwL]
    refine ⟨u, g1, f1 ++ fx' ++ f2, ?_, by simp, Ow_mono hk c u g1 (fun q hq => hf q (.inl (by simp [hq]))) h2, h6 w' ok' x' v' fx' hk (by rw [show o + 1 + i = o + (i + 1) by omega]; exact hc) hx (fun j hj hne => ?_) (fun q hq => hf q (by rcases hq with hq | hq <;> simp [hq]))⟩
    · have := ho 0 (by simp) (by omega)
      simp only [Nat.add_zero] at this
      rw [this]; exact h1
    · have := ho (j + 1) (by simp; omega) (by omega)
      rwa [show o + 1 + j = o + (j + 1) by omega]

/-- The cells of an object that one owns. -/
theorem Ow_cells {w : World} {ok : Nat → Prop} {d : D} {u : Value} {fp : List Nat} {cs : List D} (h : Ow w ok d u fp) (e : d.cells? = some cs) (hne : cs ≠ []) :
    ∃ b o fp', baseOf u = some (b, o) ∧ fp = b :: fp' ∧ OwL w ok b cs o fp' ∧ (∃ arr T, w.heap[b]? = some (.cells arr T (0, 0)) ∧ o + cs.length ≤ arr.size) ∧
      ∀ (w' : World) (ok' : Nat → Prop) (cs' : List D) (fp'' : List Nat), cs'.length = cs.length → (∃ arr' T, w'.heap[b]? = some (.cells arr' T (0, 0)) ∧ ∃ arr T', w.heap[b]? = some (.cells arr T' (0, 0)) ∧ arr.size = arr'.size) →
        OwL w' ok' b cs' o fp'' → Ow w' ok' (d.setCells cs') u (b :: fp'') := by
  cases d with
  | ow k n c0 =>
    simp only [D.cells?, Option.some.injEq] at e
    subst e
    simp only [Ow] at h
    rcases h with ⟨_, h2, _⟩ | ⟨b, o, c, arr, T, fp', e, e2, h1, h2, h3, h4, h5⟩
    · exact absurd h2 hne
    · refine ⟨b, o, fp', by subst e; rfl, e2, h5, ⟨arr, T, h1, by rw [h4]; exact Nat.le_trans (Nat.add_le_add_left (Nat.mul_le_mul_left k h2.1) o) h3⟩, fun w' ok' cs' fp'' hl ⟨arr', T', hw, arr0, T0, h0, hs⟩ ho => ?_⟩
      simp only [D.setCells, Ow]
      rw [h1] at h0
      cases h0
      exact .inr ⟨b, o, c, arr', T', fp'', e, rfl, hw, h2, by rw [← hs]; exact h3, by rw [hl]; exact h4, ho⟩
  | bx c0 =>
    simp only [D.cells?, Option.some.injEq] at e
    subst e
    simp only [Ow] at h
    obtain ⟨b, arr, T, fp', e, e2, h1, h2, h5⟩ := h
    refine ⟨b, 0, fp', by subst e; rfl, e2, h5, ⟨arr, T, h1, by omega⟩, fun w' ok' cs' fp'' hl ⟨arr', T', hw, arr0, T0, h0, hs⟩ ho => ?_⟩
    simp only [D.setCells, Ow]
    rw [h1] at h0
    cases h0
    exact ⟨b, arr', T', fp'', e, rfl, hw, by omega, ho⟩
  | _ => simp [D.cells?] at e

theorem cells_setCells {d : D} {cs cs' : List D} (h : d.cells? = some cs) : (d.setCells cs').cells? = some cs' := by
  cases d <;> simp [D.cells?, D.setCells] at h ⊢

mutual
theorem Ow_unique {w : World} {ok : Nat → Prop} : ∀ (d : D) (u : Value) (fp fp' : List Nat), Ow w ok d u fp → Ow w ok d u fp' → fp = fp'
  | .v _, _, _, _, h, h' => by simp only [Ow] at h h'; rw [h.1, h'.1]
  | .ez, _, _, _, h, h' => by simp only [Ow] at h h'; rw [h.1, h'.1]
  | .sh .., _, _, _, h, h' => by simp only [Ow] at h h'; rw [h.1, h'.1]
  | .vp _, _, _, _, h, h' => by simp only [Ow] at h h'; rw [h.1, h'.1]
  | .fn .., _, _, _, h, h' => by simp only [Ow] at h h'; rw [h.1, h'.1]
  | .ow k n cs, u, fp, fp', h, h' => by
    simp only [Ow] at h h'
    rcases h with ⟨_, h2, h3, a, h4⟩ | ⟨b, o, c, arr, T, f1, e, e2, h1, h2, h3, h4, h5⟩ <;>
      rcases h' with ⟨_, h2', h3', a', h4'⟩ | ⟨b', o', c', arr', T', f1', e', e2', h1', h2', h3', h4', h5'⟩
    · rw [h3, h3']
    · subst h4; injection e' with _ _ e3; exact absurd e3.symm h2'.2
    · subst h4'; injection e with _ _ e3; exact absurd e3.symm h2.2
    · subst e
      injection e' with e3 _ _
      injection e3 with e3
      injection e3 with e3 e4 _
      subst e3; subst e4
      rw [e2, e2', OwL_unique b cs o f1 f1' h5 h5']
  | .bx cs, u, fp, fp', h, h' => by
    simp only [Ow] at h h'
    obtain ⟨b, arr, T, f1, e, e2, h1, h2, h5⟩ := h
    obtain ⟨b', arr', T', f1', e', e2', h1', h2', h5'⟩ := h'
    subst e
    injection e' with e3
    injection e3 with e3
    injection e3 with e3 _ _
    subst e3
    rw [e2, e2', OwL_unique b cs 0 f1 f1' h5 h5']
  | .mp es, u, fp, fp', h, h' => by
    simp only [Ow] at h h'
    obtain ⟨m, en, cl, e, e2, h1⟩ := h
    obtain ⟨m', en', cl', e', e2', h1'⟩ := h'
    subst e
    injection e' with e3
    injection e3 with e3
    subst e3
    rw [e2, e2']
  | .itr, u, fp, fp', h, h' => by
    simp only [Ow] at h h'
    obtain ⟨b, m, s, x, l, e, e2, h1⟩ := h
    obtain ⟨b', m', s', x', l', e', e2', h1'⟩ := h'
    subst e
    injection e' with e3
    injection e3 with e3
    injection e3 with e3 _ _
    subst e3
    rw [e2, e2']
  | .gone, _, _, _, h, h' => by simp only [Ow] at h h'; rw [h, h']
theorem OwL_unique {w : World} {ok : Nat → Prop} (b : Nat) : ∀ (cs : List D) (o : Nat) (fp fp' : List Nat), OwL w ok b cs o fp → OwL w ok b cs o fp' → fp = fp'
  | [], _, _, _, h, h' => by simp only [OwL] at h h'; rw [h, h']
  | d :: ds, o, fp, fp', h, h' => by
    simp only [OwL] at h h'
    obtain ⟨u, f1, f2, h1, e, h2, h3⟩ := h
    obtain ⟨u', f1', f2', h1', e', h2', h3'⟩ := h'
    rw [h1] at h1'
    cases h1'
    rw [e, e', Ow_unique d u f1 f1' h2 h2', OwL_unique b ds (o + 1) f2 f2' h3 h3']
end
theorem OwL_mem {w : World} {ok : Nat → Prop} {b : Nat} {cs : List D} {o i : Nat} {x : D} {fp fx : List Nat} {v : Value} (h : OwL w ok b cs o fp) (e : cs[i]? = some x)
    (hv : w.cell? ⟨b, o + i, none⟩ = some v) (hx : Ow w ok x v fx) : ∀ q ∈ fx, q ∈ fp := by
  obtain ⟨v', f1, fx', f2, e2, hv', hx', _⟩ := OwL_split h e
  rw [hv] at hv'
  cases hv'
  rw [Ow_unique x v fx fx' hx hx', e2]
  intro q hq
  simp [hq]
theorem OwL_apart {w : World} {ok : Nat → Prop} {b : Nat} : ∀ {cs : List D} {o i j : Nat} {x z : D} {fp fx fz : List Nat} {v v2 : Value}, OwL w ok b cs o fp → fp.Nodup → cs[i]? = some x → cs[j]? = some z → i ≠ j →
    w.cell? ⟨b, o + i, none⟩ = some v → Ow w ok x v fx → w.cell? ⟨b, o + j, none⟩ = some v2 → Ow w ok z v2 fz → ∀ q ∈ fx, q ∉ fz
  | [], _, _, _, _, _, _, _, _, _, _, _, _, e, _, _, _, _, _, _ => by simp at e
  | c :: cs, o, 0, 0, _, _, _, _, _, _, _, _, _, _, _, hne, _, _, _, _ => absurd rfl hne
  | c :: cs, o, 0, j + 1, x, z, fp, fx, fz, v, v2, h, hn, e1, e2, _, h1, h2, h3, h4 => by
    simp only [OwL] at h
    obtain ⟨u, g1, g2, k1, e, k2, k3⟩ := h
    simp only [List.getElem?_cons_zero, Option.some.injEq] at e1
    simp only [List.getElem?_cons_succ] at e2
    subst e1; subst e
    simp only [Nat.add_zero] at h1
    rw [k1] at h1
    cases h1
    rw [show o + (j + 1) = o + 1 + j by omega] at h3
    intro q hq hz
    have a1 : q ∈ g1 := Ow_unique _ _ _ _ h2 k2 ▸ hq
    have a2 := OwL_mem k3 e2 h3 h4 q hz
    exact (List.nodup_append.1 hn).2.2 q a1 q a2 rfl
  | c :: cs, o, i + 1, 0, x, z, fp, fx, fz, v, v2, h, hn, e1, e2, _, h1, h2, h3, h4 => by
    simp only [OwL] at h
    obtain ⟨u, g1, g2, k1, e, k2, k3⟩ := h
    simp only [List.getElem?_cons_zero, Option.some.injEq] at e2
    simp only [List.getElem?_cons_succ] at e1
    subst e2; subst e
    simp only [Nat.add_zero] at h3
    rw [k1] at h3
    cases h3
    rw [show o + (i + 1) = o + 1 + i by omega] at h1
    intro q hq hz
    have a1 : q ∈ g1 := Ow_unique _ _ _ _ h4 k2 ▸ hz
    have a2 := OwL_mem k3 e1 h1 h2 q hq
    exact (List.nodup_append.1 hn).2.2 q a1 q a2 rfl
  | c :: cs, o, i + 1, j + 1, x, z, fp, fx, fz, v, v2, h, hn, e1, e2, hne, h1, h2, h3, h4 => by
    simp only [OwL] at h
    obtain ⟨u, g1, g2, k1, e, k2, k3⟩ := h
    simp only [List.getElem?_cons_succ] at e1 e2
    subst e
    exact OwL_apart k3 (List.nodup_append.1 hn).2.1 e1 e2 (by omega) (by rw [show o + 1 + i = o + (i + 1) by omega]; exact h1) h2 (by rw [show o + 1 + j = o + (j + 1) by omega]; exact h3) h4

/-! ### Places -/
theorem hdr_stable {w w' : World} {ok : Nat → Prop} : ∀ (q : List Nat) (d : D) (u : Value) (fp : List Nat) (x : D), Ow w ok d u fp → (∀ b ∈ fp, w'.heap[b]? = w.heap[b]?) → look d q = some x → hdr w' u q = hdr w u q
  | [], _, _, _, _, _, _, _ => by simp [hdr]
  | i :: q, d, u, fp, x, h, hf, hl => by
    simp only [look] at hl
    split at hl
    · rename_i cs hc
      split at hl
      · rename_i y hy
        obtain ⟨b, o, fp', hb, e, hO, _, _⟩ := Ow_cells h hc (by rintro rfl; simp at hy)
        obtain ⟨v, f1, fx, f2, e2, hv, hx, _⟩ := OwL_split hO hy
        subst e; subst e2
        simp only [hdr, hb]
        rw [cell_eq (hf b (by simp)), hv]
        simp only
        exact hdr_stable q y v fx x hx (fun b hb => hf b (by simp [hb])) hl
      · simp at hl
    · simp at hl

def sameKind : D → D → Prop
  | .ow k n cs, .ow k' n' cs' => k = k' ∧ n = n' ∧ cs.length = cs'.length
  | .bx cs, .bx cs' => cs.length = cs'.length
  | x, y => x = y
theorem sameKind_refl (d : D) : sameKind d d := by cases d <;> simp [sameKind]

theorem look_putAt : ∀ (p : List Nat) (d o e : D) (q : List Nat), look d p = some o → look (putAt d p e) (p ++ q) = look e q
  | [], _, _, _, _, _ => by simp [putAt]
  | i :: p, d, o, e, q, h => by
    simp only [look] at h
    split at h
    · rename_i cs hc
      split at h
      · rename_i y hy
        have hlt : i < cs.length := by
          rcases Nat.lt_or_ge i cs.length with h' | h'
          · exact h'
          · simp [List.getElem?_eq_none h'] at hy
        simp only [putAt, hc, List.cons_append, look, cells_setCells hc, List.getElem?_modify]
        simp only [hy, ↓reduceIte, Option.map_some]
        exact look_putAt p y o e q h
      · simp at h
    · simp at h

theorem sameKind_setCells {d : D} {cs cs' : List D} (h : d.cells? = some cs) (hl : cs'.length = cs.length) : sameKind d (d.setCells cs') := by
  cases d <;> simp [D.cells?, D.setCells, sameKind] at h ⊢
  · subst h; exact hl.symm
  · subst h; exact hl.symm

theorem look_putAt_other : ∀ (p : List Nat) (d o e : D) (q : List Nat) (x : D), look d p = some o → look d q = some x → isPre p q = false → ∃ x', look (putAt d p e) q = some x' ∧ sameKind x x'
  | [], _, _, _, _, _, _, _, h => by simp [isPre] at h
  | i :: p, d, o, e, [], x, h, hq, _ => by
    simp only [look] at h hq
    split at h
    · rename_i cs hc
      cases hq
      refine ⟨putAt d (i :: p) e, rfl, ?_⟩
      simp only [putAt, hc]
      exact sameKind_setCells hc (by simp)
    · simp at h
  | i :: p, d, o, e, j :: q, x, h, hq, hp => by
    simp only [look] at h hq
    split at h
    · rename_i cs hc
      simp only [hc] at hq
      simp only [putAt, hc, look, cells_setCells hc, List.getElem?_modify]
      split at h
      · rename_i y hy
        split at hq
        · rename_i z hz
          by_cases hij : i = j
          · subst hij
            simp only [isPre, ↓reduceIte] at hp
            rw [hy] at hz
            cases hz
            simp only [hy, ↓reduceIte, Option.map_some]
            exact look_putAt_other p y o e q x h hq hp
          · simp only [if_neg hij, hz, Option.map_some, id]
            exact ⟨x, by simpa using hq, sameKind_refl x⟩
        · simp at hq
      · simp at h
    · simp at h

/-- The object at a place, and the whole with another object in that place (under the same header). -/
theorem own_at {w : World} {ok : Nat → Prop} : ∀ (p : List Nat) (d : D) (u : Value) (fp : List Nat) (o : D), Ow w ok d u fp → fp.Nodup → look d p = some o →
    ∃ hv fo, hdr w u p = some hv ∧ Ow w ok o hv fo ∧ fo.Nodup ∧ (∀ b ∈ fo, b ∈ fp) ∧
      ∀ (w' : World) (ok' : Nat → Prop) (o' : D) (fo' : List Nat), (∀ b ∈ fp, b ∉ fo → w'.heap[b]? = w.heap[b]?) → (∀ b, ok b → ok' b ∧ w'.heap[b]? = w.heap[b]?) → Ow w' ok' o' hv fo' → fo'.Nodup →
        (∀ b ∈ fo', b ∈ fo ∨ b ∉ fp) →
        (∃ fp', Ow w' ok' (putAt d p o') u fp' ∧ fp'.Nodup ∧ (∀ b ∈ fp', b ∈ fo' ∨ (b ∈ fp ∧ b ∉ fo))) ∧
        (∀ q x, look d q = some x → isPre p q = false → hdr w' u q = hdr w u q) ∧ hdr w' u p = some hv
  | [], d, u, fp, o, h, hn, hl => by
    simp only [look, Option.some.injEq] at hl
    subst hl
    exact ⟨u, fp, by simp [hdr], h, hn, fun _ h => h, fun w' ok' o' fo' _ _ ho hn' _ => ⟨⟨fo', by simpa [putAt] using ho, hn', fun b hb => .inl hb⟩, fun q x _ hq => by simp [isPre] at hq, by simp [hdr]⟩⟩
  | i :: p, d, u, fp, o, h, hn, hl => by
    simp only [look] at hl
    split at hl
    · rename_i cs hc
      split at hl
      · rename_i y hy
        obtain ⟨b, off, fp', hb, e, hO, ⟨arr, T, hheap, hsz⟩, hre⟩ := Ow_cells h hc (by rintro rfl; simp at hy)
        obtain ⟨v, f1, fx, f2, e2, hv, hx, hset⟩ := OwL_split hO hy
        subst e; subst e2
        have hlt : i < cs.length := by
          rcases Nat.lt_or_ge i cs.length with h' | h'
          · exact h'
          · simp [List.getElem?_eq_none h'] at hy
        have hnd := hn
        simp only [List.nodup_cons, List.nodup_append, List.mem_append, not_or] at hnd
        obtain ⟨⟨⟨hb1, hb2⟩, hb3⟩, ⟨hn1, hn2, hd1⟩, hn3, hd2⟩ := hnd
        obtain ⟨hv', fo, h1, h2, h3, h4, h5⟩ := own_at p y v fx o hx hn2 hl
        refine ⟨hv', fo, by simp only [hdr, hb, hv]; exact h1, h2, h3, fun q hq => by simp [h4 q hq], fun w' ok' o' fo' hw hk ho hn' hd => ?_⟩
        have hbf : b ∉ fo := fun hbo => hb2 (h4 b hbo)
        have hwb : w'.heap[b]? = w.heap[b]? := hw b (by simp) hbf
        have g1 : ∀ q, q ∈ f1 ∨ q ∈ f2 → w'.heap[q]? = w.heap[q]? := fun q hq => by
          refine hw q (by rcases hq with hq | hq <;> simp [hq]) fun hqo => ?_
          have := h4 q hqo
          rcases hq with hq | hq
          · exact hd1 q hq q this rfl
          · exact hd2 q (.inr this) q hq rfl
        obtain ⟨⟨fp1, k1, k2, k3⟩, k4, k5⟩ := h5 w' ok' o' fo' (fun q hq hqo => hw q (by simp [hq]) hqo) hk ho hn' (fun q hq => (hd q hq).imp id fun hnq hqx => hnq (by simp [hqx]))
        have hsetw := hset w' ok' (putAt y p o') v fp1 hk (by rw [cell_eq hwb]; exact hv) k1 (fun j _ _ => cell_eq hwb) g1
        have hmod : cs.modify i (fun x => putAt x p o') = cs.set i (putAt y p o') := by
          apply List.ext_getElem?
          intro j
          simp only [List.getElem?_modify, List.getElem?_set]
          by_cases hij : i = j
          · subst hij
            have hyy : cs[i] = y := by simpa [List.getElem?_eq_getElem hlt] using hy
            simp [hlt, hyy]
          · simp [hij]
        have kk3 : ∀ q ∈ fp1, q ∉ f1 ∧ q ∉ f2 ∧ q ≠ b := fun q hq => by
          rcases k3 q hq with h' | ⟨h', _⟩
          · rcases hd q h' with h'' | h''
            · have hqx := h4 q h''
              exact ⟨fun h => hd1 q h q hqx rfl, fun h => hd2 q (.inr hqx) q h rfl, fun h => hb2 (h ▸ hqx)⟩
            · simp only [List.mem_cons, List.mem_append, not_or] at h''
              exact ⟨h''.2.1.1, h''.2.2, h''.1⟩
          · exact ⟨fun h => hd1 q h q h' rfl, fun h => hd2 q (.inr h') q h rfl, fun h => hb2 (h ▸ h')⟩
        refine ⟨⟨b :: (f1 ++ fp1 ++ f2), ?_, ?_, ?_⟩, ?_, ?_⟩
        · simp only [putAt, hc, hmod]
          exact hre w' ok' _ _ (by simp) ⟨arr, T, by rw [hwb]; exact hheap, arr, T, hheap, rfl⟩ hsetw
        · simp only [List.nodup_cons, List.nodup_append, List.mem_append, not_or]
          refine ⟨⟨⟨hb1, fun h => (kk3 b h).2.2 rfl⟩, hb3⟩, ⟨hn1, k2, fun a ha c hcc he => (kk3 c hcc).1 (he ▸ ha)⟩, hn3, fun a ha c hcc he => ?_⟩
          rcases ha with ha | ha
          · exact hd2 a (.inl ha) c hcc he
          · exact (kk3 a ha).2.1 (he ▸ hcc)
        · intro q hq
          simp only [List.mem_cons, List.mem_append] at hq ⊢
          rcases hq with rfl | ((hq | hq) | hq)
          · exact .inr ⟨.inl rfl, hbf⟩
          · exact .inr ⟨.inr (.inl (.inl hq)), fun ho => hd1 q hq q (h4 q ho) rfl⟩
          · rcases k3 q hq with h' | ⟨h', h''⟩
            · exact .inl h'
            · exact .inr ⟨.inr (.inl (.inr h')), h''⟩
          · exact .inr ⟨.inr (.inr hq), fun ho => hd2 q (.inr (h4 q ho)) q hq rfl⟩
        · intro q x hq hp
          cases q with
          | nil => simp [hdr]
          | cons j q =>
            simp only [look, hc] at hq
            split at hq
            · rename_i z hz
              by_cases hij : i = j
              · subst hij
                rw [hy] at hz
                cases hz
                simp only [isPre, ↓reduceIte] at hp
                simp only [hdr, hb]
                rw [cell_eq hwb, hv]
                exact k4 q x hq hp
              · obtain ⟨v2, a1, ax, a2, e3, hv2, hx2, _⟩ := OwL_split hO hz
                simp only [hdr, hb]
                rw [cell_eq hwb, hv2]
                refine hdr_stable q z v2 ax x hx2 (fun c hcx => ?_) hq
                -- the blocks of another cell are none of the object's
                refine hw c (by rw [e3]; simp [hcx]) fun hco => ?_
                exact OwL_apart hO (List.nodup_cons.1 hn).2 hz hy (fun h => hij h.symm) hv2 hx2 hv hx c hcx (h4 c hco)
            · simp at hq
        · simp only [hdr, hb]
          rw [cell_eq hwb, hv]
          exact k5
      · simp at hl
    · simp at hl
end Go.Proofs.Ytdgeponcnlkaiaa.Ab
