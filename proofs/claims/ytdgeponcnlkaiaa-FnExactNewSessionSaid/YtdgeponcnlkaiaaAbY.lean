/- Calls: sound. No condition. -/
import Derived.Test.YtdgeponcnlkaiaaAbX
namespace Go.Proofs.Ytdgeponcnlkaiaa.Ab
open Go
set_option linter.unusedSimpArgs false
set_option linter.unusedVariables false
set_option linter.unusedSectionVars false

section
variable {w0 w : World} {fp0 : List Nat} {ok0 ok : Nat → Prop} {W : Nat → Value} {n : Nat} {P : Program} {T : TT} {σ : St} {θ : Nat → Value} {ρ : Rn → Value} {φ : Rn → List Nat} {a : Act}

/-! ### Arguments that are written -/
structure Named (w : World) (σ' : St) (ρ ρ' : Rn → Value) (ios : List Io) : Prop where
  it : ∀ io ∈ ios, σ'.rts io.name = some io.d ∧ hdr w (ρ io.r) io.p = some (ρ' io.name)

theorem ioAtom_sound {nm : Rn} {f g : FV} {ios : List Io} {u : Value} (hs : ioAtom σ nm f = some (g, ios)) (hu : FR w ok σ ρ f u) :
    (∀ io ∈ ios, σ.obj io.r io.p = some io.d) ∧ ∀ (ok2 : Nat → Prop) (σ' : St) (ρ' : Rn → Value), (∀ b, ok b → ok2 b) → Named w σ' ρ ρ' ios → FR w ok2 σ' ρ' g u := by
  unfold ioAtom at hs
  split at hs
  · rename_i x
    split at hs
    · injection hs with hs
      injection hs with h1 h2
      subst h1; subst h2
      refine ⟨by simp, fun ok2 σ' ρ' hk _ => ?_⟩
      simp only [FR] at hu ⊢
      exact Sh_mono (fun b hb => ⟨hk b hb, rfl⟩) x u hu
    · simp at hs
  · rename_i r p lo n'
    split at hs
    · rename_i k N cs ho
      split at hs
      · rename_i hc
        injection hs with hs
        injection hs with h1 h2
        subst h1; subst h2
        refine ⟨by simpa using ho, fun ok2 σ' ρ' hk hN => ?_⟩
        obtain ⟨g1, g2⟩ := hN.it _ (List.mem_cons_self ..)
        simp only at g1 g2
        simp only [FR] at hu ⊢
        obtain ⟨k', N', cs', hv, q1, q2, q3, q4⟩ := hu
        rw [ho] at q1
        cases q1
        rw [g2] at q2
        injection q2 with q2
        refine ⟨k, N, cs, ρ' nm, by simp [St.obj, g1, look], by simp [hdr], by omega, ?_⟩
        rw [q2]
        rw [hc.1] at q4
        exact q4
      · simp at hs
    · simp at hs
  · rename_i r p off
    split at hs
    · rename_i cs ho
      split at hs
      · rename_i hc
        injection hs with hs
        injection hs with h1 h2
        subst h1; subst h2
        refine ⟨by simpa using ho, fun ok2 σ' ρ' hk hN => ?_⟩
        obtain ⟨g1, g2⟩ := hN.it _ (List.mem_cons_self ..)
        simp only at g1 g2
        simp only [FR] at hu ⊢
        obtain ⟨o, cs', hv, b, q, q1, q2, q3, q4, q5⟩ := hu
        rw [ho] at q1
        cases q1
        rw [g2] at q3
        injection q3 with q3
        subst hc
        exact ⟨.bx cs, cs, ρ' nm, b, q, by simp [St.obj, g1, look], rfl, by simp [hdr], by rw [q3]; exact q4, q5⟩
      · simp at hs
    · simp at hs
  · simp at hs

theorem Named.left {ρ' : Rn → Value} {σ' : St} {x y : List Io} (h : Named w σ' ρ ρ' (x ++ y)) : Named w σ' ρ ρ' x := ⟨fun io hio => h.it io (by simp [hio])⟩
theorem Named.right {ρ' : Rn → Value} {σ' : St} {x y : List Io} (h : Named w σ' ρ ρ' (x ++ y)) : Named w σ' ρ ρ' y := ⟨fun io hio => h.it io (by simp [hio])⟩

theorem ioL_sound {i : Nat} : ∀ (j : Nat) (fs gs : List FV) (ios : List Io) (us : List Value), ioL σ i j fs = some (gs, ios) → FRL w ok σ ρ fs us →
    (∀ io ∈ ios, σ.obj io.r io.p = some io.d) ∧ ∀ (ok2 : Nat → Prop) (σ' : St) (ρ' : Rn → Value), (∀ b, ok b → ok2 b) → Named w σ' ρ ρ' ios → FRL w ok2 σ' ρ' gs us
  | j, [], gs, ios, us, hs, hu => by
    simp only [ioL, Option.some.injEq, Prod.mk.injEq] at hs
    obtain ⟨h1, h2⟩ := hs
    subst h1; subst h2
    exact ⟨by simp, fun _ _ _ _ _ => by simpa only [FRL] using hu⟩
  | j, f :: fs, gs, ios, us, hs, hu => by
    simp only [ioL] at hs
    split at hs
    · rename_i g q hg
      split at hs
      · rename_i gs' qs hgs
        injection hs with hs
        injection hs with h1 h2
        subst h1; subst h2
        simp only [FRL] at hu
        obtain ⟨u, vs, rfl, h3, h4⟩ := hu
        obtain ⟨a1, a2⟩ := ioAtom_sound hg h3
        obtain ⟨b1, b2⟩ := ioL_sound (j + 1) fs gs' qs vs hgs h4
        refine ⟨fun io hio => ?_, fun ok2 σ' ρ' hk hN => ?_⟩
        · rcases List.mem_append.1 hio with hio | hio
          · exact a1 io hio
          · exact b1 io hio
        · simp only [FRL]
          exact ⟨u, vs, rfl, a2 ok2 σ' ρ' hk hN.left, b2 ok2 σ' ρ' hk hN.right⟩
      · simp at hs
    · simp at hs

theorem io_sound {i : Nat} {f g : FV} {ios : List Io} {u : Value} (hs : ioFV σ i f = some (g, ios)) (hu : FR w ok σ ρ f u) :
    (∀ io ∈ ios, σ.obj io.r io.p = some io.d) ∧ ∀ (ok2 : Nat → Prop) (σ' : St) (ρ' : Rn → Value), (∀ b, ok b → ok2 b) → Named w σ' ρ ρ' ios → FR w ok2 σ' ρ' g u := by
  unfold ioFV at hs
  split at hs
  · rename_i fs
    split at hs
    · rename_i l q hl
      injection hs with hs
      injection hs with h1 h2
      subst h1; subst h2
      simp only [FR] at hu
      obtain ⟨vs, e, h3⟩ := hu
      obtain ⟨b1, b2⟩ := ioL_sound 0 fs l q vs.toList hl h3
      refine ⟨b1, fun ok2 σ' ρ' hk hN => ?_⟩
      simp only [FR]
      exact ⟨vs, e, b2 ok2 σ' ρ' hk hN⟩
    · simp at hs
  · exact ioAtom_sound hs hu

theorem pass_sound (h : Rel w0 fp0 ok σ θ w ρ φ) : ∀ (i : Nat) (ms : List Bool) (fs gs : List FV) (lent : List Rn) (ios : List Io) (us : List Value), passL σ i ms fs = some (gs, lent, ios) → FRL w ok σ ρ fs us →
    (∀ io ∈ ios, σ.obj io.r io.p = some io.d) ∧ ∀ (lent' : List Rn) (ok2 : Nat → Prop) (σ' : St) (ρ' : Rn → Value), (∀ r ∈ lent, r ∈ lent') → Lend w ok σ φ lent' ok2 → Named w σ' ρ ρ' ios → FRL w ok2 σ' ρ' gs us
  | i, ms, [], gs, lent, ios, us, hs, hu => by
    simp only [passL, Option.some.injEq, Prod.mk.injEq] at hs
    obtain ⟨h1, h2, h3⟩ := hs
    subst h1; subst h3
    exact ⟨by simp, fun _ _ _ _ _ _ _ => by simpa only [FRL] using hu⟩
  | i, ms, f :: fs, gs, lent, ios, us, hs, hu => by
    simp only [passL] at hs
    split at hs
    · rename_i gs' lent1 ios1 hgs
      simp only [FRL] at hu
      obtain ⟨u, vs, rfl, h3, h4⟩ := hu
      obtain ⟨b1, b2⟩ := pass_sound h (i + 1) ms.tail fs gs' lent1 ios1 vs hgs h4
      split at hs
      · split at hs
        · rename_i g q hg
          injection hs with hs
          injection hs with h1 hs
          injection hs with h2 h5
          subst h1; subst h2; subst h5
          obtain ⟨a1, a2⟩ := io_sound hg h3
          refine ⟨fun io hio => ?_, fun lent' ok2 σ' ρ' hl hL hN => ?_⟩
          · rcases List.mem_append.1 hio with hio | hio
            · exact a1 io hio
            · exact b1 io hio
          · simp only [FRL]
            exact ⟨u, vs, rfl, a2 ok2 σ' ρ' hL.mono hN.left, b2 lent' ok2 σ' ρ' hl hL hN.right⟩
        · simp at hs
      · split at hs
        · rename_i g q hg
          injection hs with hs
          injection hs with h1 hs
          injection hs with h2 h5
          subst h1; subst h2; subst h5
          refine ⟨b1, fun lent' ok2 σ' ρ' hl hL hN => ?_⟩
          simp only [FRL]
          exact ⟨u, vs, rfl, view_sound h hL σ' ρ' f g q u hg (fun r hr => hl r (by simp [hr])) h3, b2 lent' ok2 σ' ρ' (fun r hr => hl r (by simp [hr])) hL hN⟩
        · simp at hs
    · simp at hs

theorem pass_length : ∀ (i : Nat) (ms : List Bool) (fs gs : List FV) (lent : List Rn) (ios : List Io), passL σ i ms fs = some (gs, lent, ios) → gs.length = fs.length
  | i, ms, [], gs, lent, ios, hs => by
    simp only [passL, Option.some.injEq, Prod.mk.injEq] at hs
    simp [← hs.1]
  | i, ms, f :: fs, gs, lent, ios, hs => by
    simp only [passL] at hs
    split at hs
    · rename_i gs' lent1 ios1 hgs
      have := pass_length (i + 1) ms.tail fs gs' lent1 ios1 hgs
      split at hs
      · split at hs
        · injection hs with hs
          injection hs with h1 hs
          subst h1
          simp [this]
        · simp at hs
      · split at hs
        · injection hs with hs
          injection hs with h1 hs
          subst h1
          simp [this]
        · simp at hs
    · simp at hs

/-! ### Results that come in -/
structure Fresh (w0 w : World) (fp0 : List Nat) (ok : Nat → Prop) (σ : St) (φ : Rn → List Nat) (fr : List Nat) : Prop where
  nod : fr.Nodup
  bl : ∀ b ∈ fr, Bnd w0 fp0 ok w.heap.size b ∧ ∀ q e, σ.rts q = some e → b ∉ φ q
/-- A step that only lays new roots. -/
structure Grown (w : World) (ok : Nat → Prop) (σ σ' : St) (ρ ρ' : Rn → Value) (φ φ' : Rn → List Nat) (fx : List Nat) : Prop where
  fr : ∀ f u, FR w ok σ ρ f u → FR w ok σ' ρ' f u
  sub : ∀ q e, σ'.rts q = some e → ∀ b ∈ φ' q, (∃ e', σ.rts q = some e' ∧ b ∈ φ q) ∨ b ∈ fx

theorem Grown.refl : Grown w ok σ σ ρ ρ φ φ [] := ⟨fun _ _ h => h, fun q e he b hb => .inl ⟨e, he, hb⟩⟩
theorem Grown.trans {σ1 σ2 : St} {ρ1 ρ2 : Rn → Value} {φ1 φ2 : Rn → List Nat} {f1 f2 : List Nat} (h : Grown w ok σ σ1 ρ ρ1 φ φ1 f1) (k : Grown w ok σ1 σ2 ρ1 ρ2 φ1 φ2 f2) : Grown w ok σ σ2 ρ ρ2 φ φ2 (f1 ++ f2) :=
  ⟨fun f u hf => k.fr f u (h.fr f u hf), fun q e he b hb => by
    rcases k.sub q e he b hb with ⟨e', he', hb'⟩ | hb'
    · rcases h.sub q e' he' b hb' with hh | hh
      · exact .inl hh
      · exact .inr (by simp [hh])
    · exact .inr (by simp [hb'])⟩

theorem root_grown (h : Rel w0 fp0 ok σ θ w ρ φ) {r : Rn} {d : D} {u : Value} {fp : List Nat} (hr : σ.rts r = none) (ho : Ow w ok d u fp) (hf : Fresh w0 w fp0 ok σ φ fp) :
    Rel w0 fp0 ok (σ.root r d) θ w (upR ρ r u) (upR φ r fp) ∧ Grown w ok σ (σ.root r d) ρ (upR ρ r u) φ (upR φ r fp) fp := by
  have hb : ∀ b ∈ fp, (∀ q e, σ.rts q = some e → b ∉ φ q) ∧ Bnd w0 fp0 ok w.heap.size b := fun b hb => ⟨(hf.bl b hb).2, (hf.bl b hb).1⟩
  refine ⟨h.root hr ho hf.nod hb, fun f u' hfu => ?_, fun q e he b hbq => ?_⟩
  · have h2 := ((h.via hfu).root (r := r) (d := d) (u := u) (fp := fp) hr ho hf.nod hb).env 0
    exact FR_st (σ1 := St.root { σ with env := fun _ => f } r d) (σ2 := σ.root r d) rfl _ _ h2
  · by_cases hq : q = r
    · subst hq
      right
      simpa [upR] using hbq
    · left
      refine ⟨e, by simpa [St.root, hq] using he, by simpa [upR, hq] using hbq⟩

theorem unpackD_sound (h : Rel w0 fp0 ok σ θ w ρ φ) {d j j' : Nat} {x : D} {f : FV} {σ' : St} {u : Value} {fx : List Nat} (hs : unpackD d σ j x = some (f, σ', j')) (ho : Ow w ok x u fx) (hf : Fresh w0 w fp0 ok σ φ fx) :
    ∃ ρ' φ', Rel w0 fp0 ok σ' θ w ρ' φ' ∧ FR w ok σ' ρ' f u ∧ Grown w ok σ σ' ρ ρ' φ φ' fx := by
  unfold unpackD at hs
  split at hs
  · rename_i k N cs
    split at hs
    · rename_i hr
      injection hs with hs
      injection hs with h1 hs
      injection hs with h2 h3
      subst h1; subst h2
      obtain ⟨g1, g2⟩ := root_grown h (by simpa using hr) ho hf
      refine ⟨_, _, g1, ?_, g2⟩
      simp only [FR]
      refine ⟨k, N, cs, u, by simp [St.obj, St.root, look], by simp [hdr, upR], by omega, .inl ⟨rfl, ?_⟩⟩
      simp only [Ow] at ho
      rcases ho with ⟨rfl, _, _, a', e⟩ | ⟨b, o, c, arr, T, fp', e, _⟩
      · exact ⟨a', 0, 0, e, e⟩
      · exact ⟨_, N, c, e, e⟩
    · simp at hs
  · rename_i cs
    split at hs
    · rename_i hr
      injection hs with hs
      injection hs with h1 hs
      injection hs with h2 h3
      subst h1; subst h2
      obtain ⟨g1, g2⟩ := root_grown h (by simpa using hr) ho hf
      refine ⟨_, _, g1, ?_, g2⟩
      simp only [Ow] at ho
      obtain ⟨b, arr, T, fp', e, _⟩ := ho
      simp only [FR]
      exact ⟨.bx cs, cs, u, b, 0, by simp [St.obj, St.root, look], rfl, by simp [hdr, upR], by subst e; rfl, by subst e; rfl⟩
    · simp at hs
  · rename_i es
    split at hs
    · rename_i hr
      injection hs with hs
      injection hs with h1 hs
      injection hs with h2 h3
      subst h1; subst h2
      obtain ⟨g1, g2⟩ := root_grown h (by simpa using hr) ho hf
      refine ⟨_, _, g1, ?_, g2⟩
      simp only [FR]
      exact ⟨es, u, by simp [St.obj, St.root, look], by simp [hdr, upR], rfl⟩
    · simp at hs
  · split at hs
    · rename_i hl
      injection hs with hs
      injection hs with h1 hs
      injection hs with h2 h3
      subst h1; subst h2
      refine ⟨ρ, φ, h, ?_, ⟨fun _ _ h => h, fun q e he b hb => .inl ⟨e, he, hb⟩⟩⟩
      simp only [FR]
      exact Sh_of_Ow hl ho
    · simp at hs

theorem Fresh.left {x y : List Nat} (h : Fresh w0 w fp0 ok σ φ (x ++ y)) : Fresh w0 w fp0 ok σ φ x := ⟨(List.nodup_append.1 h.nod).1, fun b hb => h.bl b (by simp [hb])⟩
theorem Fresh.right {x y : List Nat} (h : Fresh w0 w fp0 ok σ φ (x ++ y)) {σ' : St} {ρ' : Rn → Value} {φ' : Rn → List Nat} (g : Grown w ok σ σ' ρ ρ' φ φ' x) : Fresh w0 w fp0 ok σ' φ' y :=
  ⟨(List.nodup_append.1 h.nod).2.1, fun b hb => ⟨(h.bl b (by simp [hb])).1, fun q e he hbq => by
    rcases g.sub q e he b hbq with ⟨e', he', hb'⟩ | hb'
    · exact (h.bl b (by simp [hb])).2 q e' he' hb'
    · exact (List.nodup_append.1 h.nod).2.2 b hb' b hb rfl⟩⟩

theorem unpackL_sound {d : Nat} : ∀ (ds : List D) (σ : St) (ρ : Rn → Value) (φ : Rn → List Nat) (j j' : Nat) (fs : List FV) (σ' : St) (us : List Value) (fx : List Nat), Rel w0 fp0 ok σ θ w ρ φ → unpackL d σ j ds = some (fs, σ', j') → OwVs w ok ds us fx → Fresh w0 w fp0 ok σ φ fx →
    ∃ ρ' φ', Rel w0 fp0 ok σ' θ w ρ' φ' ∧ FRL w ok σ' ρ' fs us ∧ Grown w ok σ σ' ρ ρ' φ φ' fx
  | [], σ, ρ, φ, j, j', fs, σ', us, fx, h, hs, ho, hf => by
    simp only [unpackL, Option.some.injEq, Prod.mk.injEq] at hs
    obtain ⟨h1, h2, h3⟩ := hs
    subst h1; subst h2
    simp only [OwVs] at ho
    obtain ⟨rfl, rfl⟩ := ho
    exact ⟨ρ, φ, h, by simp [FRL], .refl⟩
  | x :: ds, σ, ρ, φ, j, j', fs, σ', us, fx, h, hs, ho, hf => by
    simp only [unpackL] at hs
    split at hs
    · rename_i f σ1 j1 h1
      split at hs
      · rename_i fs' σ2 j2 h2
        injection hs with hs
        injection hs with e1 hs
        injection hs with e2 e3
        subst e1; subst e2
        simp only [OwVs] at ho
        obtain ⟨u, vs, f1, f2, rfl, rfl, o1, o2⟩ := ho
        obtain ⟨ρ1, φ1, a1, a2, a3⟩ := unpackD_sound h h1 o1 hf.left
        obtain ⟨ρ2, φ2, b1, b2, b3⟩ := unpackL_sound ds σ1 ρ1 φ1 j1 j2 fs' σ2 vs f2 a1 h2 o2 (hf.right a3)
        refine ⟨ρ2, φ2, b1, ?_, a3.trans b3⟩
        simp only [FRL]
        exact ⟨u, vs, rfl, b3.fr _ _ a2, b2⟩
      · simp at hs
    · simp at hs

theorem unpackR_sound {d : Nat} : ∀ (rs : List RV) (σ : St) (ρ : Rn → Value) (φ : Rn → List Nat) (j j' : Nat) (fs : List FV) (σ' : St) (us : List Value) (fx : List Nat), Rel w0 fp0 ok σ θ w ρ φ → unpackR d σ j rs = some (fs, σ', j') → OwRs w ok rs us fx → Fresh w0 w fp0 ok σ φ fx →
    ∃ ρ' φ', Rel w0 fp0 ok σ' θ w ρ' φ' ∧ FRL w ok σ' ρ' fs us ∧ Grown w ok σ σ' ρ ρ' φ φ' fx
  | [], σ, ρ, φ, j, j', fs, σ', us, fx, h, hs, ho, hf => by
    simp only [unpackR, Option.some.injEq, Prod.mk.injEq] at hs
    obtain ⟨h1, h2, h3⟩ := hs
    subst h1; subst h2
    simp only [OwRs] at ho
    obtain ⟨rfl, rfl⟩ := ho
    exact ⟨ρ, φ, h, by simp [FRL], .refl⟩
  | .one x :: rs, σ, ρ, φ, j, j', fs, σ', us, fx, h, hs, ho, hf => by
    simp only [unpackR] at hs
    split at hs
    · rename_i f σ1 j1 h1
      split at hs
      · rename_i fs' σ2 j2 h2
        injection hs with hs
        injection hs with e1 hs
        injection hs with e2 e3
        subst e1; subst e2
        simp only [OwRs, OwRV] at ho
        obtain ⟨u, vs, f1, f2, rfl, rfl, o1, o2⟩ := ho
        obtain ⟨ρ1, φ1, a1, a2, a3⟩ := unpackD_sound h h1 o1 hf.left
        obtain ⟨ρ2, φ2, b1, b2, b3⟩ := unpackR_sound rs σ1 ρ1 φ1 j1 j2 fs' σ2 vs f2 a1 h2 o2 (hf.right a3)
        refine ⟨ρ2, φ2, b1, ?_, a3.trans b3⟩
        simp only [FRL]
        exact ⟨u, vs, rfl, b3.fr _ _ a2, b2⟩
      · simp at hs
    · simp at hs
  | .ag ds :: rs, σ, ρ, φ, j, j', fs, σ', us, fx, h, hs, ho, hf => by
    simp only [unpackR] at hs
    split at hs
    · rename_i l σ1 j1 h1
      split at hs
      · rename_i fs' σ2 j2 h2
        injection hs with hs
        injection hs with e1 hs
        injection hs with e2 e3
        subst e1; subst e2
        simp only [OwRs, OwRV] at ho
        obtain ⟨u, vs, f1, f2, rfl, rfl, ⟨vv, rfl, o1⟩, o2⟩ := ho
        obtain ⟨ρ1, φ1, a1, a2, a3⟩ := unpackL_sound ds σ ρ φ j j1 l σ1 vv.toList f1 h h1 o1 hf.left
        obtain ⟨ρ2, φ2, b1, b2, b3⟩ := unpackR_sound rs σ1 ρ1 φ1 j1 j2 fs' σ2 vs f2 a1 h2 o2 (hf.right a3)
        refine ⟨ρ2, φ2, b1, ?_, a3.trans b3⟩
        simp only [FRL]
        refine ⟨.agg vv, vs, rfl, b3.fr _ _ ?_, b2⟩
        simp only [FR]
        exact ⟨vv, rfl, a2⟩
      · simp at hs
    · simp at hs

theorem resFV_sound : ∀ {fs : List FV} {us : List Value}, FRL w ok σ ρ fs us → FR w ok σ ρ (resFV fs) (resultOf us)
  | [], us, h => by
    simp only [FRL] at h
    subst h
    simp [resFV, resultOf, FR, FRL]
  | [f], us, h => by
    simp only [FRL] at h
    obtain ⟨u, vs, rfl, h1, rfl⟩ := h
    exact h1
  | f :: g :: fs, us, h => by
    have h' := h
    simp only [FRL] at h
    obtain ⟨u, vs, rfl, h1, v, vs', rfl, h2, h3⟩ := h
    simp only [resFV, resultOf, FR]
    exact ⟨_, rfl, h'⟩

end
end Go.Proofs.Ytdgeponcnlkaiaa.Ab
