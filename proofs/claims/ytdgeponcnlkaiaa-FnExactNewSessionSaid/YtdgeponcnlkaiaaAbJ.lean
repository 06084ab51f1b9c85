/- What a load yields: cells of owned trees and of shared ones. No condition. -/
import Derived.Test.YtdgeponcnlkaiaaAbI
namespace Go.Proofs.Ytdgeponcnlkaiaa.Ab
open Go
set_option linter.unusedSimpArgs false
set_option linter.unusedVariables false
set_option linter.unusedSectionVars false

section
variable {w0 w : World} {fp0 : List Nat} {ok : Nat → Prop} {P : Program} {σ : St} {θ : Nat → Value} {ρ : Rn → Value} {φ : Rn → List Nat}

theorem Sh_of_Ow {x : D} {v : Value} {fp : List Nat} (hl : x.leaf = true) (h : Ow w ok x v fp) : Sh w ok x v := by
  cases x <;> simp [D.leaf] at hl <;> simp only [Ow] at h <;> first | exact h.2 | (simp only [Sh]; exact h.2)

theorem hdr_cell {r : Rn} {p : List Nat} {hv v : Value} {b q i : Nat} (hh : hdr w (ρ r) p = some hv) (hb : baseOf hv = some (b, q)) (hc : w.cell? ⟨b, q + i, none⟩ = some v) : hdr w (ρ r) (p ++ [i]) = some v := by
  rw [hdr_append, hh]
  simp [hdr, hb, hc]

/-- A cell of an owned object, as the frame names it. -/
theorem FR_cell {r : Rn} {p : List Nat} {i : Nat} {x : D} {v : Value} {fx : List Nat} (ho : σ.obj r (p ++ [i]) = some x) (hh : hdr w (ρ r) (p ++ [i]) = some v) (hx : Ow w ok x v fx) :
    FR w ok σ ρ (cellFV r p i x) v := by
  cases x with
  | v x => simp only [cellFV, FR, Sh]; simp only [Ow] at hx; exact hx.2
  | ez => simp only [cellFV, FR]; simp only [Ow] at hx; exact hx.2
  | sh k n cs => simp only [cellFV, FR]; simp only [Ow] at hx; exact hx.2
  | vp cs => simp only [cellFV, FR]; simp only [Ow] at hx; exact hx.2
  | fn f cs => simp only [cellFV, FR]; simp only [Ow] at hx; exact hx.2
  | ow k n cs =>
    simp only [cellFV, FR]
    refine ⟨k, n, cs, v, ho, hh, by omega, .inl ⟨rfl, ?_⟩⟩
    simp only [Ow] at hx
    rcases hx with ⟨rfl, _, _, a, e⟩ | ⟨b, o, c, arr, T, fp', e, _⟩
    · exact ⟨a, 0, 0, e, e⟩
    · exact ⟨_, n, c, e, e⟩
  | bx cs =>
    simp only [cellFV, FR]
    simp only [Ow] at hx
    obtain ⟨b, arr, T, fp', e, _⟩ := hx
    exact ⟨_, cs, v, b, 0, ho, rfl, hh, by subst e; rfl, by subst e; rfl⟩
  | mp es => simp only [cellFV, FR]; exact ⟨es, v, ho, hh, rfl⟩
  | itr => simp [cellFV, FR]
  | gone => simp [cellFV, FR]

theorem cell_at (h : Rel w0 fp0 ok σ θ w ρ φ) {r : Rn} {p : List Nat} {o x : D} {cs : List D} {i b q : Nat} {hv : Value} (ho : σ.obj r p = some o) (hc : o.cells? = some cs) (hh : hdr w (ρ r) p = some hv)
    (hb : baseOf hv = some (b, q)) (hi : cs[i]? = some x) : ∃ v, w.cell? ⟨b, q + i, none⟩ = some v ∧ FR w ok σ ρ (cellFV r p i x) v := by
  obtain ⟨hv', fo, hat⟩ := h.rts_.at_ (r := r) (p := p) ho
  have e : hv' = hv := by have := hat.hdr; rw [hh] at this; injection this with this; exact this.symm
  subst e
  have hne : cs ≠ [] := by rintro rfl; simp at hi
  obtain ⟨b', o', fp', e1, e2, h3, _⟩ := Ow_cells hat.own hc hne
  rw [hb] at e1
  injection e1 with e1
  injection e1 with e1 e1'
  subst e1; subst e1'
  obtain ⟨v, f1, fx, f2, _, h4, h5, _⟩ := OwL_split h3 hi
  refine ⟨v, h4, FR_cell ?_ (hdr_cell hh hb h4) h5⟩
  rw [obj_eq] at ho ⊢
  unfold objOf at ho ⊢
  split at ho
  · rename_i d hd
    rw [look_append, ho]
    simp [look, hc, hi]
  · simp at ho

theorem pick_FRL {cs : List D} {b q : Nat} {g : Nat → D → FV} (hcell : ∀ i x, cs[i]? = some x → ∃ v, w.cell? ⟨b, q + i, none⟩ = some v ∧ FR w ok σ ρ (g i x) v) :
    ∀ (n off : Nat) (l : List D), pickL cs off n = some l → l.length = n ∧ ∃ vs : List Value, vs.length = n ∧ (∀ (j : Nat) (v : Value), vs[j]? = some v → w.cell? ⟨b, q + off + j, none⟩ = some v) ∧
      FRL w ok σ ρ (mapIdx2 g off l) vs
  | 0, off, l, h => by
    simp only [pickL, Option.some.injEq] at h
    subst h
    exact ⟨rfl, [], rfl, by simp, by simp [mapIdx2, FRL]⟩
  | n + 1, off, l, h => by
    simp only [pickL] at h
    split at h
    · rename_i c hc
      split at h
      · rename_i r hr
        injection h with h
        subst h
        obtain ⟨h1, vs, h2, h3, h4⟩ := pick_FRL hcell n (off + 1) r hr
        obtain ⟨v, h5, h6⟩ := hcell off c hc
        refine ⟨by simp [h1], v :: vs, by simp [h2], fun j u hj => ?_, ?_⟩
        · cases j with
          | zero =>
            simp only [List.getElem?_cons_zero, Option.some.injEq] at hj
            subst hj
            simpa using h5
          | succ j =>
            simp only [List.getElem?_cons_succ] at hj
            have := h3 j u hj
            rwa [show q + (off + 1) + j = q + off + (j + 1) by omega] at this
        · simp only [mapIdx2, FRL]
          exact ⟨v, vs, rfl, h6, h4⟩
      · simp at h
    · simp at h

theorem mapIdx2_d : ∀ (l : List D) (off : Nat), mapIdx2 (fun _ => FV.d) off l = l.map .d
  | [], _ => rfl
  | c :: l, off => by simp [mapIdx2, mapIdx2_d l]

/-- A load from cells that are known. -/
theorem load_run {t b o : Nat} {i : TI} {vs : List Value} (hT : RowOk P t i) (hl : vs.length = i.size) (hc : ∀ (j : Nat) (v : Value), vs[j]? = some v → w.cell? ⟨b, o + j, none⟩ = some v) (w' : World) (hw : Later w w') :
    (isAggK i.kd = true → (Instr.loadAt t (.pointer (some ⟨b, o, none⟩))).run P w' = .ok (.agg vs.toArray) w') ∧
    (isAggK i.kd = false → ∀ v, vs = [v] → (Instr.loadAt t (.pointer (some ⟨b, o, none⟩))).run P w' = .ok v w') := by
  have hc' : ∀ (j : Nat) (v : Value), vs[j]? = some v → w'.cell? (Addr.add ⟨b, o, none⟩ j) = some v := fun j v hj => by
    rw [Addr_add]; exact hw.cell (hc j v hj)
  refine ⟨fun ha => ?_, fun ha v hv => ?_⟩
  · have h1 := run_loadCells_list (P := P) w' ⟨b, o, none⟩ vs hc'
    rw [hl] at h1
    simp only [Instr.loadAt, Instr.sureAddr, loadVar, Sem.run_bind, Sem.run_pure, Result.andThen, hT.agg, ha, if_true, hT.size, h1]
  · subst hv
    have h1 := hc' 0 v rfl
    rw [Addr_add, Nat.add_zero] at h1
    simp [Instr.loadAt, Instr.sureAddr, loadVar, hT.agg, ha, h1]

theorem pickF_FRL : ∀ (n off : Nat) (fs l : List FV) (vs : List Value), FRL w ok σ ρ fs vs → pickF fs off n = some l → ∃ us : List Value, us.length = n ∧ (∀ (j : Nat) (u : Value), us[j]? = some u → vs[off + j]? = some u) ∧ FRL w ok σ ρ l us
  | 0, off, fs, l, vs, h, hp => by
    simp only [pickF, Option.some.injEq] at hp
    subst hp
    exact ⟨[], rfl, by simp, by simp [FRL]⟩
  | n + 1, off, fs, l, vs, h, hp => by
    simp only [pickF] at hp
    split at hp
    · rename_i c hc
      split at hp
      · rename_i r hr
        injection hp with hp
        subst hp
        obtain ⟨us, h1, h2, h3⟩ := pickF_FRL n (off + 1) fs r vs h hr
        have hget : ∀ (k : Nat) (gs : List FV) (ws : List Value) (f : FV), FRL w ok σ ρ gs ws → gs[k]? = some f → ∃ u, ws[k]? = some u ∧ FR w ok σ ρ f u := by
          intro k
          induction k with
          | zero =>
            intro gs ws f hg hk
            cases gs with
            | nil => simp at hk
            | cons g gs =>
              simp only [FRL] at hg
              obtain ⟨u, us', rfl, q1, q2⟩ := hg
              simp only [List.getElem?_cons_zero, Option.some.injEq] at hk
              subst hk
              exact ⟨u, rfl, q1⟩
          | succ k ih =>
            intro gs ws f hg hk
            cases gs with
            | nil => simp at hk
            | cons g gs =>
              simp only [FRL] at hg
              obtain ⟨u, us', rfl, q1, q2⟩ := hg
              simp only [List.getElem?_cons_succ] at hk
              obtain ⟨v, q3, q4⟩ := ih gs us' f q2 hk
              exact ⟨v, by simpa using q3, q4⟩
        obtain ⟨u, h4, h5⟩ := hget off fs vs c h hc
        refine ⟨u :: us, by simp [h1], fun j v hj => ?_, ?_⟩
        · cases j with
          | zero =>
            simp only [List.getElem?_cons_zero, Option.some.injEq] at hj
            subst hj
            simpa using h4
          | succ j =>
            simp only [List.getElem?_cons_succ] at hj
            have := h2 j v hj
            rwa [show off + 1 + j = off + (j + 1) by omega] at this
        · simp only [FRL]
          exact ⟨u, us, rfl, h5, h3⟩
      · simp at hp
    · simp at hp

theorem load_sound {T : TT} (hT : tabB P T = true) (h : Rel w0 fp0 ok σ θ w ρ φ) {t : Nat} {a f : FV} {u : Value} (hs : loadF T σ t a = some f) (hu : FR w ok σ ρ a u) :
    ∃ v, FR w ok σ ρ f v ∧ ∀ w', Later w w' → (Instr.loadAt t u).run P w' = .ok v w' := by
  unfold loadF at hs
  split at hs
  · simp at hs
  · rename_i i hi
    have hrow := tab_ok hT hi
    have fin : ∀ (b q off : Nat) (cs l : List D) (g : Nat → D → FV), u = .pointer (some ⟨b, q + off, none⟩) → (∀ i x, cs[i]? = some x → ∃ v, w.cell? ⟨b, q + i, none⟩ = some v ∧ FR w ok σ ρ (g i x) v) →
        pickL cs off i.size = some l → (if isAggK i.kd then some (FV.ag (mapIdx2 g off l)) else (match l with | [c] => some (g off c) | _ => none)) = some f →
        ∃ v, FR w ok σ ρ f v ∧ ∀ w', Later w w' → (Instr.loadAt t u).run P w' = .ok v w' := by
      intro b q off cs l g e hcell hp hf
      subst e
      obtain ⟨h1, vs, h2, h3, h4⟩ := pick_FRL hcell i.size off l hp
      split at hf
      · rename_i ha
        injection hf with hf
        subst hf
        exact ⟨.agg vs.toArray, by simp only [FR]; exact ⟨_, rfl, by simpa using h4⟩, fun w' hw => (load_run hrow h2 h3 w' hw).1 ha⟩
      · rename_i ha
        split at hf
        · rename_i c
          injection hf with hf
          subst hf
          simp only [mapIdx2, FRL] at h4
          obtain ⟨v, us, rfl, h5, rfl⟩ := h4
          exact ⟨v, h5, fun w' hw => (load_run hrow h2 h3 w' hw).2 (by simpa using ha) v rfl⟩
        · simp at hf
    split at hs
    · rename_i r p off
      simp only [FR] at hu
      obtain ⟨o, cs, hv, b, q, h1, h2, h3, h4, h5⟩ := hu
      rw [h1] at hs
      simp only [h2] at hs
      split at hs
      · rename_i l hl
        exact fin b q off cs l (cellFV r p) h5 (fun j x hx => cell_at h h1 h2 h3 h4 hx) hl hs
      · simp at hs
    · rename_i cs off
      simp only [FR] at hu
      obtain ⟨b, o, h1, h2, h3⟩ := hu
      split at hs
      · rename_i l hl
        refine fin b o off cs l (fun _ => .d) h1 (fun j x hx => ?_) hl ?_
        · obtain ⟨v, h4, h5⟩ := ShL_get h3 hx
          exact ⟨v, h4, by simpa only [FR] using h5⟩
        · rw [mapIdx2_d]; exact hs
      · simp at hs
    · rename_i cs
      simp only [FR, Sh] at hu
      obtain ⟨b, o, h1, h2, h3⟩ := hu
      split at hs
      · rename_i l hl
        refine fin b o 0 cs l (fun _ => .d) h1 (fun j x hx => ?_) hl ?_
        · obtain ⟨v, h4, h5⟩ := ShL_get h3 hx
          exact ⟨v, h4, by simpa only [FR] using h5⟩
        · rw [mapIdx2_d]; exact hs
      · simp at hs
    · rename_i fs off
      simp only [FR] at hu
      obtain ⟨b, vs, h1, h2, h3, h4⟩ := hu
      subst h1
      split at hs
      · rename_i l hl
        obtain ⟨us, g1, g2, g3⟩ := pickF_FRL i.size off fs l vs h4 hl
        have hc : ∀ (j : Nat) (v : Value), us[j]? = some v → w.cell? ⟨b, off + j, none⟩ = some v := fun j v hj => h3 _ v (g2 j v hj)
        split at hs
        · rename_i ha
          injection hs with hs
          subst hs
          exact ⟨.agg us.toArray, by simp only [FR]; exact ⟨_, rfl, by simpa using g3⟩, fun w' hw => (load_run hrow g1 hc w' hw).1 ha⟩
        · rename_i ha
          split at hs
          · rename_i c
            injection hs with hs
            subst hs
            simp only [FRL] at g3
            obtain ⟨v, us', rfl, h5, rfl⟩ := g3
            exact ⟨v, h5, fun w' hw => (load_run hrow g1 hc w' hw).2 (by simpa using ha) v rfl⟩
          · simp at hs
      · simp at hs
    · simp at hs

end
end Go.Proofs.Ytdgeponcnlkaiaa.Ab
