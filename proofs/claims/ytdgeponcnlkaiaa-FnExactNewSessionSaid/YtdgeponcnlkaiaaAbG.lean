/- One cell is stored into: the state and the world go together. No condition. -/
import Derived.Test.YtdgeponcnlkaiaaAbF
namespace Go.Proofs.Ytdgeponcnlkaiaa.Ab
open Go
set_option linter.unusedSimpArgs false
set_option linter.unusedVariables false
set_option linter.unusedSectionVars false

theorem Ow_leaf {w : World} {ok : Nat → Prop} {x : D} {v : Value} (hl : x.leaf = true) (h : Sh w ok x v) : Ow w ok x v [] := by
  cases x <;> simp [D.leaf] at hl <;> simp only [Ow, true_and] <;> first | exact h | (simp only [Sh] at h; exact h)

theorem leaf_one {w : World} {ok : Nat → Prop} {x : D} {v : Value} (hl : x.leaf = true) (h : Sh w ok x v) : v.oneCell' = true :=
  Ow_oneCell (Ow_leaf hl h) (by rintro rfl; simp [D.leaf] at hl) (by rintro x rfl; simpa [D.leaf] using hl)

theorem sameKind_trans {a b c : D} (h : sameKind a b) (k : sameKind b c) : sameKind a c := by
  cases a <;> cases b <;> simp [sameKind] at h <;> cases c <;> simp [sameKind] at k ⊢ <;> simp_all

theorem stripP_some : ∀ {p s t : List Nat}, stripP p s = some t → s = p ++ t
  | [], s, t, h => by simpa [stripP] using h
  | i :: p, [], t, h => by simp [stripP] at h
  | i :: p, j :: s, t, h => by
    simp only [stripP] at h
    split at h
    · rename_i e
      rw [stripP_some h, e]; rfl
    · simp at h
theorem stripP_none : ∀ {p s : List Nat}, stripP p s = none → isPre p s = false
  | [], s, h => by simp [stripP] at h
  | i :: p, [], h => by simp [isPre]
  | i :: p, j :: s, h => by
    simp only [stripP] at h
    simp only [isPre]
    split at h
    · rename_i e
      rw [if_pos e]; exact stripP_none h
    · rename_i e
      rw [if_neg e]
theorem stripP_append : ∀ (p t : List Nat), stripP p (p ++ t) = some t
  | [], t => by simp [stripP]
  | i :: p, t => by simp [stripP, stripP_append p t]

abbrev Bnd (w0 : World) (fp0 : List Nat) (ok : Nat → Prop) (n : Nat) : Nat → Prop := fun b => ¬ ok b ∧ (b ∈ fp0 ∨ w0.heap.size ≤ b) ∧ b < n

theorem Rel.rts_ {w0 : World} {fp0 : List Nat} {ok : Nat → Prop} {σ : St} {θ : Nat → Value} {w : World} {ρ : Rn → Value} {φ : Rn → List Nat} (h : Rel w0 fp0 ok σ θ w ρ φ) :
    Rts w ok (Bnd w0 fp0 ok w.heap.size) σ.rts ρ φ := ⟨h.own, h.dis⟩

theorem Rel.of_rts {w0 : World} {fp0 : List Nat} {ok : Nat → Prop} {σ : St} {θ : Nat → Value} {w : World} {ρ : Rn → Value} {φ : Rn → List Nat} (h : Rts w ok (Bnd w0 fp0 ok w.heap.size) σ.rts ρ φ)
    (he : ∀ t, FR w ok σ ρ (σ.env t) (θ t)) (hb : ∀ b, ok b → b < w.heap.size) (hf : Keeps w0 fp0 w) : Rel w0 fp0 ok σ θ w ρ φ := ⟨h.own, h.dis, he, hb, hf⟩

theorem Keeps.setCell {w0 w : World} {fp0 : List Nat} (h : Keeps w0 fp0 w) {a : Addr} {v : Value} (ha : a.block ∈ fp0 ∨ w0.heap.size ≤ a.block) : Keeps w0 fp0 (w.setCell a v) :=
  ⟨h.os, h.out, h.tape, by simpa using h.size, fun b hb hn => by
    rw [Go.RowKit.Below.heap_setCell w a v b (by rintro rfl; rcases ha with ha | ha; exact hn ha; omega)]
    exact h.old b hb hn⟩

/-- What an atom that is moved says: it is the header of its place. -/
theorem absorb_nonleaf {w : World} {ok : Nat → Prop} {σ : St} {ρ : Rn → Value} {f : FV} {r' : Rn} {p' : List Nat} {e : D} {σ1 : St} {v : Value} {B : Nat → Prop} {φ : Rn → List Nat} (hR : Rts w ok B σ.rts ρ φ)
    (h : σ.absorb f r' p' = some (e, σ1)) (hf : FR w ok σ ρ f v) : (e.leaf = true ∧ σ1 = σ ∧ Sh w ok e v) ∨
      ∃ r p, objOf σ.rts r p = some e ∧ isObj e ∧ hdr w (ρ r) p = some v ∧ σ1 = { (σ.take r p) with env := fun t => (σ.env t).move ⟨r, p, r', p'⟩ } := by
  cases f with
  | d x =>
    simp only [St.absorb] at h
    split at h
    · rename_i hl
      cases h
      exact .inl ⟨hl, rfl, by simpa [FR] using hf⟩
    · simp at h
  | al r p lo n =>
    simp only [St.absorb] at h
    split at h
    · rename_i k N cs ho
      split at h
      · rename_i hc
        obtain ⟨rfl, rfl⟩ := hc
        cases h
        simp only [FR] at hf
        obtain ⟨k', N', cs', hv, h1, h2, h3, h4⟩ := hf
        rw [ho] at h1
        cases h1
        refine .inr ⟨r, p, ho, .inl rfl, ?_, rfl⟩
        rcases h4 with ⟨_, a, M, c, e1, e2⟩ | ⟨h5, _⟩
        · obtain ⟨hv2, fo, hat⟩ := hR.at_ (r := r) (p := p) ho
          have e3 : hv2 = hv := by have := hat.hdr; rw [h2] at this; injection this with this; exact this.symm
          subst e3
          have hM : M = n := by
            have := hat.own
            subst e1
            simp only [Ow] at this
            rcases this with ⟨hn, _, _, a', e⟩ | ⟨b, o, c', arr, T, fp', e, _⟩
            · injection e with _ e _; omega
            · injection e
          subst hM
          rw [e2, ← e1]; exact h2
        · omega
      · simp at h
    · simp at h
  | pt r p o =>
    simp only [St.absorb] at h
    split at h
    · rename_i cs ho
      split at h
      · rename_i hc
        subst hc
        cases h
        simp only [FR] at hf
        obtain ⟨o', cs', hv, b, q, h1, h2, h3, h4, h5⟩ := hf
        rw [ho] at h1
        cases h1
        refine .inr ⟨r, p, ho, .inl rfl, ?_, rfl⟩
        obtain ⟨hv2, fo, hat⟩ := hR.at_ (r := r) (p := p) ho
        have e3 : hv2 = hv := by have := hat.hdr; rw [h3] at this; injection this with this; exact this.symm
        subst e3
        have := hat.own
        simp only [Ow] at this
        obtain ⟨b', arr, T, fp', e, _⟩ := this
        subst e
        simp only [baseOf, Option.some.injEq, Prod.mk.injEq] at h4
        obtain ⟨rfl, rfl⟩ := h4
        rw [h5]; exact h3
      · simp at h
    · simp at h
  | mr r p =>
    simp only [St.absorb] at h
    split at h
    · rename_i es ho
      cases h
      simp only [FR] at hf
      obtain ⟨es', hv, h1, h2, h3⟩ := hf
      exact .inr ⟨r, p, ho, .inr ⟨_, rfl⟩, by rw [h3]; exact h2, rfl⟩
    · simp at h
  | _ => simp [St.absorb] at h

section
variable {w0 : World} {fp0 : List Nat} {ok : Nat → Prop} {σ : St} {θ : Nat → Value} {w : World} {ρ : Rn → Value} {φ : Rn → List Nat}

theorem quiet_noObj {x : D} (h : x.quiet = true) : ∀ s o, look x s = some o → ¬ isObj o := by
  have hc : x.cells? = none := by cases x <;> simp [D.quiet, D.leaf, D.cells?] at h ⊢
  intro s o hs
  cases s with
  | nil =>
    simp only [look, Option.some.injEq] at hs
    subst hs
    rintro (h1 | ⟨es, rfl⟩)
    · simp [hc] at h1
    · simp [D.quiet, D.leaf] at h
  | cons i s => simp [look, hc] at hs

/-- Aliases that may stay where the cell (r, p, i) is written. -/
def GS (σ : St) (r : Rn) (pi : List Nat) (q : Rn) (s : List Nat) : Prop := (∃ o, σ.obj q s = some o ∧ isObj o) ∧ (q = r → isPre pi s = false)
def IS (σ : St) (r : Rn) (pi : List Nat) (q m : Rn) (s : List Nat) : Prop := (σ.rts q = some .itr ∧ ∃ es, σ.obj m s = some (.mp es)) ∧ (m = r → isPre pi s = false) ∧ (q = r → isPre pi [] = false)

mutual
theorem ats_quiet {r : Rn} {pi : List Nat} (hq : ∀ s o, σ.obj r (pi ++ s) = some o → ¬ isObj o) (hp : pi ≠ []) : ∀ f : FV, f.ats (fun r p => ∃ o, σ.obj r p = some o ∧ isObj o) (fun r m p => σ.rts r = some .itr ∧ ∃ es, σ.obj m p = some (.mp es)) →
    f.ats (GS σ r pi) (IS σ r pi)
  | .al q s _ _, h => ⟨h, fun e => by
      subst e; obtain ⟨o, h1, h2⟩ := h
      cases hh : isPre pi s with
      | false => rfl
      | true => obtain ⟨t, rfl⟩ := isPre_iff hh; exact absurd h2 (hq t o h1)⟩
  | .cu q s _, h => ⟨h, fun e => by
      subst e; obtain ⟨o, h1, h2⟩ := h
      cases hh : isPre pi s with
      | false => rfl
      | true => obtain ⟨t, rfl⟩ := isPre_iff hh; exact absurd h2 (hq t o h1)⟩
  | .pt q s _, h => ⟨h, fun e => by
      subst e; obtain ⟨o, h1, h2⟩ := h
      cases hh : isPre pi s with
      | false => rfl
      | true => obtain ⟨t, rfl⟩ := isPre_iff hh; exact absurd h2 (hq t o h1)⟩
  | .ar q s _ _, h => ⟨h, fun e => by
      subst e; obtain ⟨o, h1, h2⟩ := h
      cases hh : isPre pi s with
      | false => rfl
      | true => obtain ⟨t, rfl⟩ := isPre_iff hh; exact absurd h2 (hq t o h1)⟩
  | .mr q s, h => ⟨h, fun e => by
      subst e; obtain ⟨o, h1, h2⟩ := h
      cases hh : isPre pi s with
      | false => rfl
      | true => obtain ⟨t, rfl⟩ := isPre_iff hh; exact absurd h2 (hq t o h1)⟩
  | .it q m s _ _, h => ⟨h, fun e => by
      subst e; obtain ⟨_, es, h1⟩ := h
      cases hh : isPre pi s with
      | false => rfl
      | true => obtain ⟨t, rfl⟩ := isPre_iff hh; exact absurd (.inr ⟨es, rfl⟩) (hq t _ h1), fun _ => by cases pi with | nil => exact absurd rfl hp | cons => rfl⟩
  | .ag fs, h => atsL_quiet hq hp fs h
  | .tu fs, h => atsL_quiet hq hp fs h
  | .cl _ fs, h => atsL_quiet hq hp fs h
  | .fb fs _, h => atsL_quiet hq hp fs h
  | .d _, _ => trivial
  | .sp _ _, _ => trivial
  | .dead, _ => trivial
theorem atsL_quiet {r : Rn} {pi : List Nat} (hq : ∀ s o, σ.obj r (pi ++ s) = some o → ¬ isObj o) (hp : pi ≠ []) : ∀ f : List FV, FV.atsL (fun r p => ∃ o, σ.obj r p = some o ∧ isObj o) (fun r m p => σ.rts r = some .itr ∧ ∃ es, σ.obj m p = some (.mp es)) f →
    FV.atsL (GS σ r pi) (IS σ r pi) f
  | [], _ => trivial
  | f :: fs, h => ⟨ats_quiet hq hp f h.1, atsL_quiet hq hp fs h.2⟩
end

/-- What the frame says where the cell is to be written: no alias leads there. -/
theorem killed_env (h : Rel w0 fp0 ok σ θ w ρ φ) {r : Rn} {p : List Nat} {i : Nat} {d o old : D} {cs : List D} (hd : σ.rts r = some d) (hl : look d p = some o) (hc : o.cells? = some cs) (hi : cs[i]? = some old) (t : Nat) :
    let σa := if old.quiet then σ else σ.kill r (p ++ [i])
    FR w ok σ ρ (σa.env t) (θ t) ∧ (σa.env t).ats (GS σ r (p ++ [i])) (IS σ r (p ++ [i])) ∧ σa.rts = σ.rts := by
  intro σa
  have hobj : ∀ s x, σ.obj r (p ++ [i] ++ s) = some x → look old s = some x := fun s x hx => by
    simp only [St.obj, hd] at hx
    rw [List.append_assoc, look_append, hl] at hx
    simpa [look, hc, hi] using hx
  by_cases hq : old.quiet = true
  · have e : σa = σ := by simp [σa, hq]
    rw [e]
    refine ⟨h.env t, ats_quiet (fun s x hx => quiet_noObj hq s x (hobj s x hx)) (by simp) _ (FR_ats _ _ (h.env t)), rfl⟩
  · have e : σa = σ.kill r (p ++ [i]) := by simp [σa, hq]
    rw [e]
    refine ⟨?_, ?_, rfl⟩
    · simp only [St.kill]
      split
      · simp [FR]
      · exact h.env t
    · simp only [St.kill]
      split
      · exact trivial
      · rename_i hu
        have := ats_under (σ.env t) (by simpa using hu) (FR_ats _ _ (h.env t))
        exact ats_mono (fun q s hh => hh) (fun q m s hh => ⟨hh.1, hh.2.2, fun e => absurd e hh.2.1⟩) _ this

theorem FR_st {σ1 σ2 : St} (h : σ1.rts = σ2.rts) : ∀ f u, FR w ok σ1 ρ f u → FR w ok σ2 ρ f u := by
  intro f u hf
  refine FR_same (G := fun _ _ => True) (I := fun _ _ _ => True) ⟨fun b hb => ⟨hb, rfl⟩, fun r p o _ ho => ⟨o, by simpa [St.obj, h] using ho, .inl (sameKind_refl o), rfl⟩⟩
    ⟨fun r m p b mb es _ h1 h2 h3 h4 => ⟨by rw [← h]; exact h1, rfl, rfl, by simpa [St.obj, h] using h3, h4, rfl⟩⟩ f u ?_ hf
  exact ats_mono (fun _ _ _ => trivial) (fun _ _ _ _ => trivial) f (FR_ats f u hf)

theorem FR_env {e : Nat → FV} (f : FV) (u : Value) (h : FR w ok σ ρ f u) : FR w ok { σ with env := e } ρ f u := FR_st (σ1 := σ) (σ2 := { σ with env := e }) rfl f u h

/-- **One cell is stored into.** -/
theorem store1_sound (h : Rel w0 fp0 ok σ θ w ρ φ) {r : Rn} {p : List Nat} {i : Nat} {f : FV} {v : Value} {σ' : St} (hs : σ.store1 r p i f = some σ') (hf : FR w ok σ ρ f v) :
    ∃ hv b q, hdr w (ρ r) p = some hv ∧ baseOf hv = some (b, q) ∧ (∃ u, w.cell? ⟨b, q + i, none⟩ = some u) ∧ w.frozen? ⟨b, q + i, none⟩ = false ∧
      (∃ φ', Rel w0 fp0 ok σ' θ (w.setCell ⟨b, q + i, none⟩ v) ρ φ') ∧
      (∃ o o' cs cs', σ.obj r p = some o ∧ o.cells? = some cs ∧ σ'.obj r p = some o' ∧ o'.cells? = some cs') ∧ hdr (w.setCell ⟨b, q + i, none⟩ v) (ρ r) p = some hv ∧ ¬ ok b ∧ v.oneCell' = true := by
  unfold St.store1 at hs
  split at hs
  case h_2 => simp at hs
  rename_i o ho
  split at hs
  case h_2 => simp at hs
  rename_i cs hc
  split at hs
  case h_2 => simp at hs
  rename_i old hi
  split at hs
  case h_2 => simp at hs
  rename_i e σ1 habs
  split at hs
  case h_2 => simp at hs
  rename_i o1 ho1
  split at hs
  case h_2 => simp at hs
  rename_i cs1 hc1
  simp only [Option.some.injEq] at hs
  have ho' := ho
  simp only [St.obj] at ho
  split at ho
  case h_2 => simp at ho
  rename_i d hd
  have hke := killed_env h hd ho hc hi
  simp only at hke
  generalize hσa : (if old.quiet = true then σ else σ.kill r (p ++ [i])) = σa at *
  have hrts : σa.rts = σ.rts := (hke 0).2.2
  have hRa : Rts w ok (Bnd w0 fp0 ok w.heap.size) σa.rts ρ φ := hrts ▸ h.rts_
  have hBok : ∀ b, Bnd w0 fp0 ok w.heap.size b → ¬ ok b := fun b hb => hb.1
  rcases absorb_nonleaf hRa habs (FR_st hrts.symm _ _ hf) with ⟨hl, rfl, hsh⟩ | ⟨r2, p2, ho2, hobj2, hv2, rfl⟩
  · -- a leaf
    have e1 : o1 = o := by
      have : σ1.obj r p = σ.obj r p := by simp [St.obj, hrts]
      rw [this, ho'] at ho1; injection ho1 with ho1; exact ho1.symm
    subst e1
    have e2 : cs1 = cs := by rw [hc] at hc1; injection hc1 with hc1; exact hc1.symm
    subst e2
    obtain ⟨hv, b, q, k1, k2, k3, k4, k5, φ', k6, k7, k8, k9⟩ := hRa.write hBok (by rw [hrts]; exact hd) ho hc hi (Ow_leaf hl hsh) (by simp) (by simp) (by simp)
    have erts : σ'.rts = putR σ1.rts r (some (putAt d p (o1.setCells (cs1.set i e)))) := by
      rw [← hs]; simp only [St.put, hrts, hd]; rfl
    have eenv : σ'.env = σ1.env := by rw [← hs]; simp only [St.put, hrts, hd]
    have hsize : (w.setCell ⟨b, q + i, none⟩ v).heap.size = w.heap.size := by simp
    have hobjn : ∀ q' s, σ'.obj q' s = objOf (putR σ1.rts r (some (putAt d p (o1.setCells (cs1.set i e))))) q' s := fun q' s => by rw [obj_eq, erts]
    have hobjr : ∀ s, σ'.obj r s = look (putAt d p (o1.setCells (cs1.set i e))) s := fun s => by rw [hobjn]; simp [objOf, putR]
    have hobjo : ∀ q' s, q' ≠ r → σ'.obj q' s = σ.obj q' s := fun q' s hq => by rw [hobjn, obj_eq]; simp only [objOf, putR, if_neg hq, hrts]
    have hplace : ∀ q' s x, GS σ r (p ++ [i]) q' s → σ.obj q' s = some x → ∃ x', σ'.obj q' s = some x' ∧ sameKind x x' ∧ hdr (w.setCell ⟨b, q + i, none⟩ v) (ρ q') s = hdr w (ρ q') s := fun q' s x hg hx => by
      by_cases hq : q' = r
      · subst hq
        obtain ⟨a1, x', a2, a3⟩ := k8 s x (by rw [hrts]; exact hx) (hg.2 rfl)
        exact ⟨x', by rw [hobjr]; exact a2, a3, a1⟩
      · exact ⟨x, by rw [hobjo q' s hq]; exact hx, sameKind_refl x, k7 q' s hq (by rw [hrts, ← obj_eq, hx]; simp)⟩
    have hkk : ∀ c, ok c → (w.setCell ⟨b, q + i, none⟩ v).heap[c]? = w.heap[c]? := fun c hc => Go.RowKit.Below.heap_setCell w _ v c (fun e => by subst e; exact k3.1 hc)
    have S : Sim w ok σ ρ (w.setCell ⟨b, q + i, none⟩ v) ok σ' ρ (GS σ r (p ++ [i])) (fun r p => (r, p)) :=
      ⟨fun c hc => ⟨hc, hkk c hc⟩, fun q' s x hg hx => by
        obtain ⟨x', a1, a2, a3⟩ := hplace q' s x hg hx
        exact ⟨x', a1, .inl a2, a3⟩⟩
    have J : ItOk w σ ρ (w.setCell ⟨b, q + i, none⟩ v) σ' ρ (IS σ r (p ++ [i])) := ⟨fun q' m s bi mb es hI g1 g2 g3 g4 => by
      obtain ⟨x', a1, a2, a3⟩ := hplace m s _ ⟨⟨_, g3, .inr ⟨es, rfl⟩⟩, hI.2.1⟩ g3
      have ex : x' = .mp es := by cases x' <;> simp [sameKind] at a2; rw [a2]
      subst ex
      -- the blocks of the iterator and of the map are not the one that is written: both are rows of other kinds
      have hnb : ∀ c x, w.heap[c]? = some x → (∀ arr T fz, x ≠ Obj.cells arr T fz) → (w.setCell ⟨b, q + i, none⟩ v).heap[c]? = w.heap[c]? := fun c x hx hne => by
        refine Go.RowKit.Below.heap_setCell w _ v c fun e => ?_
        subst e
        obtain ⟨u, hu⟩ := k4
        unfold World.cell? at hu
        rw [hx] at hu
        cases x <;> simp at hu
        exact hne _ _ _ rfl
      have g1' : σ'.rts q' = some .itr := by
        rw [erts]
        by_cases hq : q' = r
        · subst hq
          rw [hd] at g1
          cases g1
          cases p with
          | nil => simp [look] at ho; subst ho; simp [D.cells?] at hc
          | cons j p => simp [look, D.cells?] at ho
        · simpa [putR, hq, hrts] using g1
      obtain ⟨z1, z2, z3⟩ := h.own q' _ g1
      simp only [Ow] at z1
      obtain ⟨b1, m1, s1, x1, l1, y1, y2, y3⟩ := z1
      rw [g2] at y1
      injection y1 with y1; injection y1 with y1; injection y1 with y1 _ _
      subst y1
      refine ⟨g1', rfl, hnb bi _ y3 (by simp), a1, by rw [a3]; exact g4, ?_⟩
      obtain ⟨hv5, fo5, hat5⟩ := h.rts_.at_ (r := m) (p := s) g3
      have := hat5.own
      simp only [Ow] at this
      obtain ⟨m6, en6, cl6, e6, e7, e8⟩ := this
      have : hv5 = .map (some mb) := by have := hat5.hdr; rw [g4] at this; injection this with this; exact this.symm
      rw [this] at e6
      injection e6 with e6; injection e6 with e6
      subst e6
      exact hnb mb _ e8.at_ (by simp)⟩
    refine ⟨hv, b, q, k1, k2, k4, k5, ⟨φ', Rel.of_rts (by rw [erts, hsize]; exact k6) (fun t => ?_) (fun c hc => by rw [hsize]; exact h.okb c hc) (h.frm.setCell k3.2.1)⟩, ⟨o1, o1.setCells (cs1.set i e), cs1, cs1.set i e, ho', hc, ?_, cells_setCells hc⟩, ?_⟩
    · rw [eenv]
      exact FR_same S J _ _ (hke t).2.1 (hke t).1
    · have := look_putAt p d o1 (o1.setCells (cs1.set i e)) [] ho
      rw [List.append_nil] at this
      rw [hobjr, this]; simp [look]
    · refine ⟨?_, k3.1, leaf_one hl hsh⟩
      by_cases hpp : isPre (p ++ [i]) p = true
      · obtain ⟨t, ht⟩ := isPre_iff hpp
        have := congrArg List.length ht
        simp at this
      · rw [(k8 p o1 (by rw [hrts]; exact ho') (by simpa using hpp)).1]; exact k1
  · -- an owned tree is moved
    obtain ⟨hv', fo, φ1, t1, t2, t3, t4, t5, t6, t7, _⟩ := hRa.take ho2
    have ehv : hv' = v := by rw [hv2] at t1; injection t1 with t1; exact t1.symm
    subst ehv
    have etk := take_rts σa r2 p2
    have ho1' : objOf (takeR σa.rts r2 p2) r p = some o1 := by
      have : St.obj { (σa.take r2 p2) with env := fun t => (σa.env t).move ⟨r2, p2, r, p ++ [i]⟩ } r p = objOf (takeR σa.rts r2 p2) r p := by rw [obj_eq]; simp only [etk.1]
      rw [this] at ho1; exact ho1
    have hobj1 := ho1'
    unfold objOf at ho1'
    split at ho1'
    case h_2 => simp at ho1'
    rename_i d1 hd1
    -- the object is still of the same length
    have hlen : ∃ old1, cs1[i]? = some old1 := by
      have hlt : i < cs.length := by
        rcases Nat.lt_or_ge i cs.length with h' | h'
        · exact h'
        · simp [List.getElem?_eq_none h'] at hi
      have : cs1.length = cs.length := by
        by_cases hpre : r = r2 ∧ isPre p2 p = true
        · obtain ⟨rfl, hpp⟩ := hpre
          obtain ⟨t, rfl⟩ := isPre_iff hpp
          -- what was taken holds nothing any more
          exfalso
          cases p2 with
          | nil => simp [takeR, putR] at hd1
          | cons j p2 =>
            simp only [takeR, hrts, hd] at hd1
            simp only [putR, ↓reduceIte, Option.some.injEq] at hd1
            subst hd1
            have := look_putAt (j :: p2) d e .gone t (by have := ho2; simp only [objOf, hrts, hd] at this; exact this)
            rw [this] at ho1'
            cases t with
            | nil => simp [look] at ho1'; subst ho1'; simp [D.cells?] at hc1
            | cons => simp [look, D.cells?] at ho1'
        · have hpre' : r = r2 → isPre p2 p = false := fun e => by
            cases hh : isPre p2 p with
            | false => rfl
            | true => exact absurd ⟨e, hh⟩ hpre
          obtain ⟨x', hx', hk⟩ := t7 r p o (by rw [hrts]; exact ho') hpre'
          rw [hobj1] at hx'
          cases hx'
          obtain ⟨cs', e1, e2⟩ := simK_cells (.inl hk) hc
          rw [hc1] at e1
          cases e1
          exact e2
      exact ⟨cs1[i], List.getElem?_eq_getElem (by omega)⟩
    obtain ⟨old1, hi1⟩ := hlen
    obtain ⟨hv, b, q, k1, k2, k3, k4, k5, φ', k6, k7, k8, k9⟩ := t5.write hBok hd1 ho1' hc1 hi1 t2 t3 t4 t6
    have erts : σ'.rts = putR (takeR σa.rts r2 p2) r (some (putAt d1 p (o1.setCells (cs1.set i e)))) := by
      rw [← hs]; simp only [St.put, etk.1, hd1]; rfl
    have eenv : σ'.env = fun t => (σa.env t).move ⟨r2, p2, r, p ++ [i]⟩ := by rw [← hs]; simp only [St.put, etk.1, hd1]
    have hsize : (w.setCell ⟨b, q + i, none⟩ hv').heap.size = w.heap.size := by simp
    have hobjr : ∀ s, σ'.obj r s = look (putAt d1 p (o1.setCells (cs1.set i e))) s := fun s => by rw [obj_eq, erts]; simp [objOf, putR]
    have hobjo : ∀ q' s, q' ≠ r → σ'.obj q' s = objOf (takeR σa.rts r2 p2) q' s := fun q' s hq => by rw [obj_eq, erts]; simp [objOf, putR, hq]
    have hkk : ∀ c, ok c → (w.setCell ⟨b, q + i, none⟩ hv').heap[c]? = w.heap[c]? := fun c hc => Go.RowKit.Below.heap_setCell w _ hv' c (fun e => by subst e; exact k3.1 hc)
    have S : Sim w ok σ ρ (w.setCell ⟨b, q + i, none⟩ hv') ok σ' ρ (GS σ r (p ++ [i])) (Mv.place ⟨r2, p2, r, p ++ [i]⟩) := by
      refine ⟨fun c hc => ⟨hc, hkk c hc⟩, fun q' s x hg hx => ?_⟩
      have stay : (q' = r2 → isPre p2 s = false) → ∃ o', σ'.obj q' s = some o' ∧ simK x o' ∧ hdr (w.setCell ⟨b, q + i, none⟩ hv') (ρ q') s = hdr w (ρ q') s := fun hst => by
        obtain ⟨x1, hx1, hk1⟩ := t7 q' s x (by rw [hrts]; exact hx) hst
        by_cases hq : q' = r
        · subst hq
          obtain ⟨a1, x2, a2, a3⟩ := k8 s x1 hx1 (hg.2 rfl)
          exact ⟨x2, by rw [hobjr]; exact a2, .inl (sameKind_trans hk1 a3), a1⟩
        · exact ⟨x1, by rw [hobjo q' s hq]; exact hx1, .inl hk1, k7 q' s hq (by rw [hx1]; simp)⟩
      simp only [Mv.place]
      by_cases hqr : q' = r2
      · subst hqr
        simp only [↓reduceIte]
        split
        · rename_i t ht
          have es := stripP_some ht
          subst es
          have hx' : look e t = some x := by
            have := hx
            simp only [St.obj] at this
            rw [← hrts] at this
            simp only [objOf] at ho2
            split at ho2
            · rename_i d2 hd2
              simp only [hd2, look_append, ho2, Option.bind_some] at this
              exact this
            · simp at ho2
          obtain ⟨a1, a2⟩ := k9 t x hx'
          refine ⟨x, by rw [hobjr]; exact a1, .inl (sameKind_refl x), ?_⟩
          rw [a2, hdr_append, hv2]
          rfl
        · rename_i hst
          exact stay fun _ => stripP_none hst
      · simp only [if_neg hqr]
        exact stay fun e => absurd e hqr
    refine ⟨hv, b, q, ?_, k2, k4, k5, ⟨φ', Rel.of_rts (by rw [erts, hsize]; exact k6) (fun t => ?_) (fun c hc => by rw [hsize]; exact h.okb c hc) (h.frm.setCell k3.2.1)⟩, ⟨o, o1.setCells (cs1.set i e), cs, cs1.set i e, ho', hc, ?_, cells_setCells hc1⟩, ?_⟩
    · exact k1
    · rw [eenv]
      exact FR_move (I := IS σ r (p ++ [i])) S _ _ (hke t).2.1 (hke t).1
    · have := look_putAt p d1 o1 (o1.setCells (cs1.set i e)) [] ho1'
      rw [List.append_nil] at this
      rw [hobjr, this]; simp [look]
    · refine ⟨?_, k3.1, Ow_oneCell t2 (by rintro rfl; rcases hobj2 with h | ⟨_, h⟩ <;> simp [D.cells?] at h) (by rintro x rfl; rcases hobj2 with h | ⟨_, h⟩ <;> simp [D.cells?] at h)⟩
      by_cases hpp : isPre (p ++ [i]) p = true
      · obtain ⟨t, ht⟩ := isPre_iff hpp
        have := congrArg List.length ht
        simp at this
      · rw [(k8 p o1 hobj1 (by simpa using hpp)).1]; exact k1
end
end Go.Proofs.Ytdgeponcnlkaiaa.Ab
