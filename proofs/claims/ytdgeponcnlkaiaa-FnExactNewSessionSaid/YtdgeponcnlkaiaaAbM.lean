/- What a built struct is. No condition. -/
import Derived.Test.YtdgeponcnlkaiaaAbL
namespace Go.Proofs.Ytdgeponcnlkaiaa.Ab
open Go
set_option linter.unusedSimpArgs false
set_option linter.unusedVariables false
set_option linter.unusedSectionVars false

section
variable {w0 w : World} {fp0 : List Nat} {ok : Nat → Prop} {P : Program} {σ : St} {θ : Nat → Value} {ρ : Rn → Value} {φ : Rn → List Nat}

theorem FRL_set : ∀ (fs : List FV) (us : List Value) (i : Nat) (f : FV) (u : Value), FRL w ok σ ρ fs us → FR w ok σ ρ f u → FRL w ok σ ρ (fs.set i f) (us.set i u)
  | [], us, i, f, u, h, _ => by simp only [FRL] at h; subst h; simp [FRL]
  | g :: fs, us, 0, f, u, h, k => by
    simp only [FRL] at h
    obtain ⟨v, vs, rfl, h1, h2⟩ := h
    simp only [List.set_cons_zero, FRL]
    exact ⟨u, vs, rfl, k, h2⟩
  | g :: fs, us, i + 1, f, u, h, k => by
    simp only [FRL] at h
    obtain ⟨v, vs, rfl, h1, h2⟩ := h
    simp only [List.set_cons_succ, FRL]
    exact ⟨v, _, rfl, h1, FRL_set fs vs i f u h2 k⟩

theorem FRL_get {i : Nat} {f : FV} : ∀ {fs : List FV} {us : List Value}, FRL w ok σ ρ fs us → fs[i]? = some f → ∃ u, us[i]? = some u ∧ FR w ok σ ρ f u := by
  induction i with
  | zero =>
    intro fs us h e
    cases fs with
    | nil => simp at e
    | cons g fs =>
      simp only [FRL] at h
      obtain ⟨v, vs, rfl, h1, h2⟩ := h
      simp only [List.getElem?_cons_zero, Option.some.injEq] at e
      subst e
      exact ⟨v, rfl, h1⟩
  | succ i ih =>
    intro fs us h e
    cases fs with
    | nil => simp at e
    | cons g fs =>
      simp only [FRL] at h
      obtain ⟨v, vs, rfl, h1, h2⟩ := h
      simp only [List.getElem?_cons_succ] at e ⊢
      exact ih h2 e

theorem setAtoms_FRL : ∀ (as : List FV) (cs : List Value) (off k : Nat) (l : List FV) (A : Array Value), FRL w ok σ ρ as cs → FRL w ok σ ρ l A.toList →
    FRL w ok σ ρ (setAtoms l (off + k) as) ((cs.zipIdx k).foldl (fun A x => A.setIfInBounds (off + x.2) x.1) A).toList
  | [], cs, off, k, l, A, h, hl => by
    simp only [FRL] at h
    subst h
    simpa [setAtoms] using hl
  | a :: as, cs, off, k, l, A, h, hl => by
    simp only [FRL] at h
    obtain ⟨v, vs, rfl, h1, h2⟩ := h
    simp only [setAtoms, List.zipIdx_cons, List.foldl_cons]
    rw [Nat.add_assoc]
    refine setAtoms_FRL as vs off (k + 1) _ _ h2 ?_
    rw [Array.toList_setIfInBounds]
    exact FRL_set _ _ _ _ _ hl h1

theorem setAtoms_length : ∀ (as : List FV) (l : List FV) (off : Nat), (setAtoms l off as).length = l.length
  | [], l, off => rfl
  | a :: as, l, off => by simp [setAtoms, setAtoms_length as]

theorem whole_cells (hR : Rel w0 fp0 ok σ θ w ρ φ) {f : FV} {v : Value} (hw : f.whole = true) (h : FR w ok σ ρ f v) : FRL w ok σ ρ f.atoms v.cells.toList := by
  have one : ∀ g : FV, g.atoms = [g] → (∀ cs, v ≠ .agg cs) → FR w ok σ ρ g v → FRL w ok σ ρ g.atoms v.cells.toList := by
    intro g hg hv hf
    rw [hg]
    have : v.cells = #[v] := by
      unfold Value.cells
      split
      · rename_i cs
        exact absurd rfl (hv cs)
      · rfl
    rw [this]
    simp only [FRL]
    exact ⟨v, [], rfl, hf, rfl⟩
  cases f with
  | d x =>
    refine one _ rfl (fun cs e => ?_) h
    simp only [FR] at h
    have := leaf_one (by simpa [FV.whole] using hw) h
    subst e
    simp [Value.oneCell'] at this
  | al r p lo n =>
    refine one _ rfl (fun cs e => ?_) h
    simp only [FR] at h
    obtain ⟨k, N, cs, hv, _, _, _, g4⟩ := h
    subst e
    rcases g4 with ⟨_, a', N', c', _, e5⟩ | ⟨_, b', o', N', c', _, _, ⟨_, e5⟩ | ⟨_, _, _, e5⟩⟩ <;> simp at e5
  | cu r p n =>
    refine one _ rfl (fun cs e => ?_) h
    simp only [FR] at h
    obtain ⟨k, N, cs, hv, a, M, c, _, _, _, _, e5⟩ := h
    subst e
    simp at e5
  | pt r p off =>
    refine one _ rfl (fun cs e => ?_) h
    simp only [FR] at h
    obtain ⟨o, cs, hv, b, q, _, _, _, _, e5⟩ := h
    subst e
    simp at e5
  | ar r p off n =>
    refine one _ rfl (fun cs e => ?_) h
    simp only [FR] at h
    obtain ⟨o, cs, hv, b, q, c, _, _, _, _, _, _, e5 | ⟨_, _, e5⟩⟩ := h <;> (subst e; simp at e5)
  | mr r p =>
    refine one _ rfl (fun cs e => ?_) h
    simp only [FR] at h
    obtain ⟨es, hv, g1, g2, e5⟩ := h
    subst e
    obtain ⟨hv', fo, hat⟩ := hR.rts_.at_ (r := r) (p := p) g1
    have e6 : hv' = hv := by have := hat.hdr; rw [g2] at this; injection this with this; exact this.symm
    subst e6
    have := hat.own
    simp only [Ow] at this
    obtain ⟨m, en, cl, e7, _⟩ := this
    rw [← e5] at e7
    simp at e7
  | fb fs off => simp [FV.whole] at hw
  | sp cs off =>
    refine one _ rfl (fun cs e => ?_) h
    simp only [FR] at h
    obtain ⟨b, o, e5, _⟩ := h
    subst e
    simp at e5
  | cl f fs =>
    refine one _ rfl (fun cs e => ?_) h
    simp only [FR] at h
    obtain ⟨vs, e5, _⟩ := h
    subst e
    simp at e5
  | ag fs =>
    simp only [FR] at h
    obtain ⟨vs, rfl, h⟩ := h
    simpa [FV.atoms, Value.cells] using h
  | it => simp [FV.whole] at hw
  | tu => simp [FV.whole] at hw
  | dead => simp [FV.whole] at hw

/-- Parts and their values. -/
def FRP (w : World) (ok : Nat → Prop) (σ : St) (ρ : Rn → Value) : List (Nat × FV) → List (Nat × Value) → Prop
  | [], vs => vs = []
  | f :: fs, vs => ∃ u us, vs = u :: us ∧ u.1 = f.1 ∧ FR w ok σ ρ f.2 u.2 ∧ FRP w ok σ ρ fs us

theorem fill_sound (hR : Rel w0 fp0 ok σ θ w ρ φ) {place place' : Nat → Option (Nat × Nat)} (hp : ∀ i x, place i = some x → place' i = some x) : ∀ (parts : List (Nat × FV)) (vals : List (Nat × Value)) (l l' : List FV) (A : Array Value),
    FRP w ok σ ρ parts vals → FRL w ok σ ρ l A.toList → fillF place l parts = some l' → ∃ B : Array Value, Instr.fill place' A vals = some B ∧ FRL w ok σ ρ l' B.toList ∧ B.size = A.size
  | [], vals, l, l', A, hv, hl, hs => by
    simp only [FRP] at hv
    subst hv
    simp only [fillF, Option.some.injEq] at hs
    subst hs
    exact ⟨A, by simp [Instr.fill], hl, rfl⟩
  | (i, f) :: parts, vals, l, l', A, hv, hl, hs => by
    simp only [FRP] at hv
    obtain ⟨⟨j, u⟩, us, rfl, e1, h1, h2⟩ := hv
    simp only at e1 h1
    subst e1
    simp only [fillF] at hs
    split at hs
    · rename_i off size hpl
      split at hs
      · rename_i hc
        obtain ⟨c1, c2, c3⟩ := hc
        have hcs := whole_cells hR c1 h1
        have hlen := FRL_length hcs
        rw [c2] at hlen
        have hA := FRL_length hl
        have hset := setAtoms_FRL f.atoms u.cells.toList off 0 l A hcs hl
        rw [Nat.add_zero] at hset
        obtain ⟨B, b1, b2, b3⟩ := fill_sound hR hp parts us _ l' _ h2 hset hs
        refine ⟨B, ?_, b2, ?_⟩
        · simp only [Instr.fill, hp _ _ hpl]
          have g1 : u.cells.size = size := by simpa using hlen
          have g2 : A.size = l.length := by simpa using hA
          rw [if_neg (by simp [g1, g2]; omega)]
          rw [← Array.foldl_toList, Array.toList_zipIdx]
          exact b1
        · rw [b3, ← Array.length_toList, FRL_length hset, setAtoms_length, ← hA, Array.length_toList]
      · simp at hs
    · simp at hs

theorem FRL_zero : ∀ (zs : List Value), FRL w ok σ ρ (zs.map fun z => .d (.v z)) zs
  | [] => by simp [FRL]
  | z :: zs => by
    simp only [List.map_cons, FRL]
    exact ⟨z, zs, rfl, by simp [FR, Sh], FRL_zero zs⟩

theorem places_of {fs : List Field} (h : ∀ f ∈ fs, (P.info? f.type).isSome = true) : ∃ places, fs.mapM (fun f => (P.info? f.type).map fun i => (f.offset, i.size)) = some places ∧
    ∀ (i : Nat) (f : Field), fs[i]? = some f → places[i]? = some (f.offset, P.cellsOf f.type) := by
  induction fs with
  | nil => exact ⟨[], by simp, by simp⟩
  | cons f fs ih =>
    obtain ⟨pl, h1, h2⟩ := ih fun g hg => h g (List.mem_cons_of_mem _ hg)
    obtain ⟨i, hi⟩ := Option.isSome_iff_exists.1 (h f (List.mem_cons_self ..))
    refine ⟨(f.offset, i.size) :: pl, by simp [List.mapM_cons, hi, h1], fun j g hj => ?_⟩
    cases j with
    | zero =>
      simp only [List.getElem?_cons_zero, Option.some.injEq] at hj ⊢
      subst hj
      simp [Program.cellsOf, hi]
    | succ j =>
      simp only [List.getElem?_cons_succ] at hj ⊢
      exact h2 j g hj

theorem build_sound {T : TT} (hT : tabB P T = true) (hR : Rel w0 fp0 ok σ θ w ρ φ) {t : Nat} {parts : List (Nat × FV)} {vals : Array (Nat × Value)} {f : FV} (hs : buildF T t parts = some f) (hv : FRP w ok σ ρ parts vals.toList) :
    ∃ z, FR w ok σ ρ f z ∧ ∀ w', (Instr.build t vals).run P w' = .ok z w' := by
  unfold buildF at hs
  split at hs
  · rename_i ti hti
    have hrow := tab_ok hT hti
    split at hs
    · rename_i fs hfs
      split at hs
      · rename_i l hl
        injection hs with hs
        subst hs
        obtain ⟨flds, hu, he, hn, _⟩ := kd_st hrow hfs
        obtain ⟨tinfo, i1, i2, i3, z, i4, i5, _⟩ := hrow.info
        obtain ⟨places, p1, p2⟩ := places_of (P := P) (fs := flds.toList) fun f hf => (hn f hf).2
        have hp : ∀ i x, fieldPl T fs i = some x → places.toArray[i]? = some x := by
          intro i x hx
          unfold fieldPl at hx
          split at hx
          · rename_i off ft hft
            split at hx
            · rename_i j hj
              injection hx with hx
              subst hx
              rw [he, List.getElem?_map] at hft
              cases hfl : flds.toList[i]? with
              | none => simp [hfl] at hft
              | some fl =>
                simp only [hfl, Option.map_some, Option.some.injEq, Prod.mk.injEq] at hft
                obtain ⟨e1, e2⟩ := hft
                have := p2 i fl hfl
                rw [e1, e2, (tab_ok hT hj).cells] at this
                simpa using this
            · simp at hx
          · simp at hx
        have hz : FRL w ok σ ρ (ti.zero.map fun z => .d (.v z)) z.cells.toList := by
          rw [i5]
          exact FRL_zero _
        obtain ⟨B, b1, b2, b3⟩ := fill_sound hR hp parts vals.toList _ l z.cells hv hz hl
        refine ⟨.agg B, ?_, fun w' => run_build w' t vals B ?_⟩
        · simp only [FR]
          exact ⟨B, rfl, b2⟩
        · unfold Program.built
          simp only [i1, hu, i4, p1]
          exact b1
      · simp at hs
    · simp at hs
  · simp at hs

end
end Go.Proofs.Ytdgeponcnlkaiaa.Ab
