/- Normal states, and code: sound. No condition. -/
import Derived.Test.YtdgeponcnlkaiaaAcB
namespace Go.Proofs.Ytdgeponcnlkaiaa.Ab
open Go
set_option linter.unusedSimpArgs false
set_option linter.unusedVariables false
set_option linter.unusedSectionVars false

section
variable {w0 w : World} {fp0 : List Nat} {ok0 ok : Nat → Prop} {W : Nat → Value} {n : Nat} {σ : St} {θ : Nat → Value} {ρ : Rn → Value} {φ : Rn → List Nat} {a : Act}

/-! ### Names -/
structure NInv (e : Nat → FV) (seen : List Nat) (m : List (Rn × Rn)) : Prop where
  old : (m.map (·.1)).Nodup
  new : (m.map (·.2)).Nodup
  own : ∀ x ∈ m, x.2.1 ∈ seen
  all : ∀ t ∈ seen, ∀ r ∈ (e t).roots, r ∈ m.map (·.1)

theorem any_mem {m : List (Rn × Rn)} {r : Rn} : m.any (fun x => x.1 == r) = true ↔ r ∈ m.map (·.1) := by
  rw [List.any_eq_true, List.mem_map]
  refine ⟨fun ⟨x, hx, e⟩ => ⟨x, hx, by simpa using e⟩, fun ⟨x, hx, e⟩ => ⟨x, hx, by simpa using e⟩⟩

theorem addNames_spec (t : Nat) : ∀ (rs : List Rn) (j : Nat) (m : List (Rn × Rn)), (m.map (·.1)).Nodup → (m.map (·.2)).Nodup → (∀ x ∈ m, x.2.1 = t → x.2.2 < j) →
    ((addNames t j rs m).map (·.1)).Nodup ∧ ((addNames t j rs m).map (·.2)).Nodup ∧ (∀ x ∈ addNames t j rs m, x ∈ m ∨ x.2.1 = t) ∧ (∀ x ∈ m, x ∈ addNames t j rs m) ∧ (∀ r ∈ rs, r ∈ (addNames t j rs m).map (·.1)) ∧
      ((∀ r ∈ rs, r ∈ m.map (·.1)) → addNames t j rs m = m)
  | [], j, m, h1, h2, h3 => ⟨h1, h2, fun x hx => .inl hx, fun x hx => hx, by simp, fun _ => rfl⟩
  | r :: rs, j, m, h1, h2, h3 => by
    simp only [addNames]
    by_cases hr : r ∈ m.map (·.1)
    · rw [if_pos (any_mem.2 hr)]
      obtain ⟨a1, a2, a3, a4, a5, a6⟩ := addNames_spec t rs j m h1 h2 h3
      refine ⟨a1, a2, a3, a4, fun q hq => ?_, fun h => a6 fun q hq => h q (List.mem_cons_of_mem _ hq)⟩
      rcases List.mem_cons.1 hq with rfl | hq
      · obtain ⟨x, hx, e⟩ := List.mem_map.1 hr
        exact List.mem_map.2 ⟨x, a4 x hx, e⟩
      · exact a5 q hq
    · rw [if_neg (fun h => hr (any_mem.1 h))]
      have g1 : ((m ++ [(r, (t, j))]).map (·.1)).Nodup := by
        rw [List.map_append, List.nodup_append]
        refine ⟨h1, by simp, fun x hx y hy => ?_⟩
        simp only [List.map_cons, List.map_nil, List.mem_singleton] at hy
        subst hy
        exact fun e => hr (e ▸ hx)
      have g2 : ((m ++ [(r, (t, j))]).map (·.2)).Nodup := by
        rw [List.map_append, List.nodup_append]
        refine ⟨h2, by simp, fun x hx y hy => ?_⟩
        simp only [List.map_cons, List.map_nil, List.mem_singleton] at hy
        subst hy
        obtain ⟨z, hz, e⟩ := List.mem_map.1 hx
        intro e2
        have := h3 z hz (by rw [e, e2])
        rw [e, e2] at this
        simp at this
      have g3 : ∀ x ∈ m ++ [(r, (t, j))], x.2.1 = t → x.2.2 < j + 1 := fun x hx hxt => by
        rcases List.mem_append.1 hx with hx | hx
        · have := h3 x hx hxt; omega
        · simp only [List.mem_singleton] at hx
          subst hx
          simp
      obtain ⟨a1, a2, a3, a4, a5, a6⟩ := addNames_spec t rs (j + 1) _ g1 g2 g3
      refine ⟨a1, a2, fun x hx => ?_, fun x hx => a4 x (by simp [hx]), fun q hq => ?_, fun h => absurd (h r (by simp)) hr⟩
      · rcases a3 x hx with h | h
        · rcases List.mem_append.1 h with h | h
          · exact .inl h
          · simp only [List.mem_singleton] at h
            subst h
            exact .inr rfl
        · exact .inr h
      · rcases List.mem_cons.1 hq with rfl | hq
        · exact List.mem_map.2 ⟨(q, (t, j)), a4 _ (by simp), rfl⟩
        · exact a5 q hq

theorem names_spec (e : Nat → FV) : ∀ (ks seen : List Nat) (m : List (Rn × Rn)), NInv e seen m → ∃ seen', NInv e seen' (names e ks m)
  | [], seen, m, h => ⟨seen, h⟩
  | t :: ks, seen, m, h => by
    simp only [names]
    by_cases ht : t ∈ seen
    · have hno : addNames t 0 (e t).roots m = m := by
        have : ∀ (rs : List Rn) (j : Nat), (∀ r ∈ rs, r ∈ m.map (·.1)) → addNames t j rs m = m := by
          intro rs
          induction rs with
          | nil => intro j _; rfl
          | cons r rs ih =>
            intro j hr
            simp only [addNames]
            rw [if_pos (any_mem.2 (hr r (by simp)))]
            exact ih j fun q hq => hr q (by simp [hq])
        exact this _ _ (h.all t ht)
      rw [hno]
      exact names_spec e ks seen m h
    · obtain ⟨a1, a2, a3, a4, a5, a6⟩ := addNames_spec t (e t).roots 0 m h.old h.new (fun x hx hxt => absurd (hxt ▸ h.own x hx) ht)
      refine names_spec e ks (t :: seen) _ ⟨a1, a2, fun x hx => ?_, fun s hs r hr => ?_⟩
      · rcases a3 x hx with h1 | h1
        · exact List.mem_cons_of_mem _ (h.own x h1)
        · rw [h1]; simp
      · rcases List.mem_cons.1 hs with rfl | hs
        · exact a5 r hr
        · obtain ⟨x, hx, e2⟩ := List.mem_map.1 (h.all s hs r hr)
          exact List.mem_map.2 ⟨x, a4 x hx, e2⟩

def invR (m : List (Rn × Rn)) (q : Rn) : Option Rn :=
  match m with
  | [] => none
  | (o, x) :: l => if x = q then some o else invR l q
theorem invR_ofRO (g : Rn → Option D) : ∀ (m : List (Rn × Rn)) (q : Rn), ofRO (m.map fun x => (x.2, g x.1)) q = (match invR m q with | some o => g o | none => none)
  | [], q => rfl
  | (o, x) :: l, q => by
    simp only [List.map_cons, ofRO, invR]
    split
    · rfl
    · exact invR_ofRO g l q
theorem renR_mem : ∀ {m : List (Rn × Rn)} {r q : Rn}, renR m r = some q → (r, q) ∈ m
  | [], r, q, h => by simp [renR] at h
  | (o, x) :: l, r, q, h => by
    simp only [renR] at h
    split at h
    · rename_i e
      subst e
      injection h with h
      subst h
      simp
    · exact List.mem_cons_of_mem _ (renR_mem h)
theorem invR_mem : ∀ {m : List (Rn × Rn)} {r q : Rn}, invR m q = some r → (r, q) ∈ m
  | [], r, q, h => by simp [invR] at h
  | (o, x) :: l, r, q, h => by
    simp only [invR] at h
    split at h
    · rename_i e
      subst e
      injection h with h
      subst h
      simp
    · exact List.mem_cons_of_mem _ (invR_mem h)
theorem invR_of : ∀ {m : List (Rn × Rn)} {r q : Rn}, (m.map (·.2)).Nodup → (r, q) ∈ m → invR m q = some r
  | [], r, q, _, h => by simp at h
  | (o, x) :: l, r, q, hn, h => by
    simp only [List.map_cons, List.nodup_cons] at hn
    rcases List.mem_cons.1 h with e | h
    · injection e with e1 e2
      subst e1; subst e2
      simp [invR]
    · have hne : x ≠ q := fun e => hn.1 (e ▸ List.mem_map.2 ⟨(r, q), h, rfl⟩)
      simp only [invR, if_neg hne]
      exact invR_of hn.2 h
theorem fst_inj : ∀ {m : List (Rn × Rn)} {r q q' : Rn}, (m.map (·.1)).Nodup → (r, q) ∈ m → (r, q') ∈ m → q = q'
  | [], r, q, q', _, h, _ => by simp at h
  | (o, x) :: l, r, q, q', hn, h, h' => by
    simp only [List.map_cons, List.nodup_cons] at hn
    rcases List.mem_cons.1 h with e | h1 <;> rcases List.mem_cons.1 h' with e' | h2
    · injection e with e1 e2
      injection e' with e3 e4
      exact e2.trans e4.symm
    · injection e with e1 e2
      subst e1
      exact absurd (List.mem_map.2 ⟨(r, q'), h2, rfl⟩) hn.1
    · injection e' with e1 e2
      subst e1
      exact absurd (List.mem_map.2 ⟨(r, q), h1, rfl⟩) hn.1
    · exact fst_inj hn.2 h1 h2

def reR (m : List (Rn × Rn)) (ρ : Rn → Value) (q : Rn) : Value := match invR m q with | some o => ρ o | none => undef
def reF (m : List (Rn × Rn)) (φ : Rn → List Nat) (q : Rn) : List Nat := match invR m q with | some o => φ o | none => []
theorem reR_some {m : List (Rn × Rn)} {q o : Rn} (h : invR m q = some o) : reR m ρ q = ρ o := by simp [reR, h]
theorem reF_some {m : List (Rn × Rn)} {q o : Rn} (h : invR m q = some o) : reF m φ q = φ o := by simp [reF, h]
mutual
theorem FR_ren {m : List (Rn × Rn)} {σ' : St} {ρ' : Rn → Value} (hσ : ∀ r q, renR m r = some q → σ'.rts q = σ.rts r ∧ ρ' q = ρ r) : ∀ (f : FV) (u : Value), FR w ok σ ρ f u → FR w ok σ' ρ' (f.ren m) u
  | .d x, u, h => by simpa only [FR, FV.ren] using h
  | .sp cs o, u, h => by simpa only [FR, FV.ren] using h
  | .dead, u, h => by simp [FR, FV.ren]
  | .al r p lo n, u, h => by
    simp only [FV.ren]
    split
    · rename_i q hq
      obtain ⟨h1, h2⟩ := hσ r q hq
      simpa only [FR, St.obj, h1, h2] using h
    · simp [FR]
  | .cu r p n, u, h => by
    simp only [FV.ren]
    split
    · rename_i q hq
      obtain ⟨h1, h2⟩ := hσ r q hq
      simpa only [FR, St.obj, h1, h2] using h
    · simp [FR]
  | .pt r p o, u, h => by
    simp only [FV.ren]
    split
    · rename_i q hq
      obtain ⟨h1, h2⟩ := hσ r q hq
      simpa only [FR, St.obj, h1, h2] using h
    · simp [FR]
  | .ar r p o n, u, h => by
    simp only [FV.ren]
    split
    · rename_i q hq
      obtain ⟨h1, h2⟩ := hσ r q hq
      simpa only [FR, St.obj, h1, h2] using h
    · simp [FR]
  | .mr r p, u, h => by
    simp only [FV.ren]
    split
    · rename_i q hq
      obtain ⟨h1, h2⟩ := hσ r q hq
      simpa only [FR, St.obj, h1, h2] using h
    · simp [FR]
  | .it r s p l c, u, h => by
    simp only [FV.ren]
    split
    · rename_i q x hq hx
      obtain ⟨h1, h2⟩ := hσ r q hq
      obtain ⟨h3, h4⟩ := hσ s x hx
      simpa only [FR, St.obj, h1, h2, h3, h4] using h
    · simp [FR]
  | .ag fs, u, h => by
    simp only [FR, FV.ren] at h ⊢
    obtain ⟨vs, e, h⟩ := h
    exact ⟨vs, e, FRL_ren hσ fs vs.toList h⟩
  | .tu fs, u, h => by
    simp only [FR, FV.ren] at h ⊢
    obtain ⟨vs, e, h⟩ := h
    exact ⟨vs, e, FRL_ren hσ fs vs.toList h⟩
  | .cl f fs, u, h => by
    simp only [FR, FV.ren] at h ⊢
    obtain ⟨vs, e, h⟩ := h
    exact ⟨vs, e, FRL_ren hσ fs vs.toList h⟩
  | .fb fs off, u, h => by
    simp only [FR, FV.ren] at h ⊢
    obtain ⟨b, vs, e, hb, hc, h⟩ := h
    exact ⟨b, vs, e, hb, hc, FRL_ren hσ fs vs h⟩
theorem FRL_ren {m : List (Rn × Rn)} {σ' : St} {ρ' : Rn → Value} (hσ : ∀ r q, renR m r = some q → σ'.rts q = σ.rts r ∧ ρ' q = ρ r) : ∀ (fs : List FV) (us : List Value), FRL w ok σ ρ fs us → FRL w ok σ' ρ' (FV.renL m fs) us
  | [], us, h => by simpa only [FRL, FV.renL] using h
  | f :: fs, us, h => by
    simp only [FRL, FV.renL] at h ⊢
    obtain ⟨u, vs, e, h1, h2⟩ := h
    exact ⟨u, vs, e, FR_ren hσ f u h1, FRL_ren hσ fs vs h2⟩
end

theorem ofL_map (g : Nat → FV) : ∀ (ks : List Nat) (t : Nat), ofL (ks.map fun t => (t, g t)) t = g t ∨ ofL (ks.map fun t => (t, g t)) t = .dead
  | [], t => .inr rfl
  | k :: ks, t => by
    simp only [List.map_cons, ofL]
    split
    · rename_i e
      subst e
      exact .inl rfl
    · exact ofL_map g ks t

theorem norm_sound {C : Ctx} {ks : List Nat} (h : Ste w0 fp0 ok0 W n σ a w) : Ste w0 fp0 ok0 W n (norm C ks σ) a w := by
  obtain ⟨ok, θ, ρ, φ, h⟩ := h
  unfold norm normWith
  obtain ⟨seen, hN⟩ := names_spec σ.env (ks ++ watchers C.nW) [] [] ⟨by simp, by simp, by simp, by simp⟩
  generalize names σ.env (ks ++ watchers C.nW) [] = m at hN
  refine ⟨ok, θ, reR m ρ, reF m φ, ?_, h.th, h.oks, h.okn, h.dfr, h.sz⟩
  refine ⟨fun q d hd => ?_, fun q q' d d' hne hd hd' => ?_, fun t => ?_, h.rel.okb, h.rel.frm⟩
  · simp only [invR_ofRO] at hd
    split at hd
    · rename_i o ho
      rw [reR_some ho, reF_some ho]
      exact h.rel.own o d hd
    · simp at hd
  · simp only [invR_ofRO] at hd hd'
    split at hd
    · rename_i o ho
      split at hd'
      · rename_i o' ho'
        rw [reF_some ho, reF_some ho']
        refine h.rel.dis o o' d d' (fun e => ?_) hd hd'
        subst e
        exact hne (fst_inj hN.old (invR_mem ho) (invR_mem ho'))
      · simp at hd'
    · simp at hd
  · have key : ∀ (g : FV), g = (σ.env t).ren m → FR w ok ⟨ofL ((ks ++ watchers C.nW).map fun t => (t, (σ.env t).ren m)), ofRO (m.map fun x => (x.2, σ.rts x.1))⟩ (reR m ρ) g (θ t) := by
      intro g e
      subst e
      refine FR_ren (fun r q hq => ?_) _ _ (h.rel.env t)
      have := invR_of hN.new (renR_mem hq)
      exact ⟨by simp only [invR_ofRO, this], reR_some this⟩
    show FR w ok _ _ (ofL ((ks ++ watchers C.nW).map fun t => (t, (σ.env t).ren m)) t) (θ t)
    rcases ofL_map (fun t => (σ.env t).ren m) (ks ++ watchers C.nW) t with e | e
    · exact key _ e
    · rw [e]
      simp [FR]

/-! ### Code -/
theorem least {p : Nat → Prop} (h : ∃ k, p k) : ∃ k, p k ∧ ∀ j, p j → k ≤ j := by
  obtain ⟨k, hk⟩ := h
  induction k using Nat.strongRecOn with
  | _ k ih =>
    by_cases hl : ∃ j, j < k ∧ p j
    · obtain ⟨j, h1, h2⟩ := hl
      exact ih j h1 h2
    · refine ⟨k, hk, fun j hj => ?_⟩
      rcases Nat.lt_or_ge j k with h | h
      · exact absurd ⟨j, h, hj⟩ hl
      · exact h
def smallC (n : Nat) : Code → Bool
  | .skip => true
  | .region _ ops _ => smallOps n ops
  | .seq a b => smallC n a && smallC n b
  | .cond c a b => smallX n c && smallC n a && smallC n b
  | .block _ c => smallC n c
  | .loop c => smallC n c
  | .exit _ => true
  | .ret => true
  | _ => false

theorem isNil0_val {x : D} {u : Value} {fp : List Nat} (hx : isNil0 x = true) (h : Ow w ok x u fp) : ∃ a, u = .slice a 0 0 := by
  unfold isNil0 at hx
  split at hx
  · simp only [Ow] at h
    exact ⟨none, h.2⟩
  · simp only [Ow, Sh] at h
    exact h.2
  · simp at hx
theorem isNil0_sh {x : D} {u : Value} (hx : isNil0 x = true) (h : Sh w ok x u) : ∃ a, u = .slice a 0 0 := by
  unfold isNil0 at hx
  split at hx
  · simp only [Sh] at h
    exact ⟨none, h⟩
  · simpa only [Sh] using h
  · simp at hx
theorem ow_empty (k : Nat) {u : Value} (h : ∃ a, u = .slice a 0 0) : Ow w ok (.ow k 0 []) u [] := by
  simp only [Ow]
  exact .inl ⟨trivial, trivial, trivial, h⟩
theorem al_empty {r : Rn} {k : Nat} {u : Value} (h : ∃ a, u = .slice a 0 0) : FR w ok (σ.root r (.ow k 0 [])) (upR ρ r u) (.al r [] 0 0) u := by
  obtain ⟨a, h⟩ := h
  simp only [FR]
  exact ⟨k, 0, [], u, by simp [St.obj, St.root, look], by simp [hdr, upR], by omega, .inl ⟨rfl, a, 0, 0, h, h⟩⟩

theorem wk1_sound {x : Wk} {σ' : St} (h : Rel w0 fp0 ok σ θ w ρ φ) (hs : wk1 σ x = some σ') : ∃ ρ' φ', Rel w0 fp0 ok σ' θ w ρ' φ' := by
  cases x with
  | tmp t k =>
    simp only [wk1] at hs
    split at hs
    · rename_i x hx
      split at hs
      · rename_i hc
        injection hs with hs
        subst hs
        have he := h.env t
        rw [hx] at he
        simp only [FR] at he
        have hv := isNil0_sh hc.1 he
        have h2 := h.root (r := (t, 0)) (d := .ow k 0 []) (u := θ t) (fp := []) (by simpa using hc.2) (ow_empty k hv) List.nodup_nil (by simp)
        have h3 := h2.upd (t := t) (al_empty (σ := σ) (ρ := ρ) (r := (t, 0)) (k := k) hv)
        refine ⟨_, _, h3.own, h3.dis, fun s => ?_, h3.okb, h3.frm⟩
        have h5 := h3.env s
        by_cases e : s = t
        · subst e
          simp only [Ab.upd, if_true] at h5 ⊢
          exact FR_st rfl _ _ h5
        · simp only [Ab.upd, if_neg e] at h5 ⊢
          exact FR_st rfl _ _ h5
      · simp at hs
    · simp at hs
  | cell r p i k =>
    simp only [wk1] at hs
    split at hs
    · rename_i o ho
      split at hs
      · rename_i cs hc
        split at hs
        · rename_i x hx
          split at hs
          · rename_i hcc
            obtain ⟨hv, fo, hat⟩ := h.rts_.at_ (r := r) (p := p) (o := o) ho
            have hne : cs ≠ [] := by rintro rfl; simp at hx
            obtain ⟨b, q, fp', e1, e2, e3, _, _⟩ := Ow_cells hat.own hc hne
            obtain ⟨v, f1, fx, f2, g1, g2, g3, _⟩ := OwL_split e3 hx
            have hv0 := isNil0_val hcc.1 g3
            have h2 := h.root (r := (9999, 0)) (d := .ow k 0 []) (u := v) (fp := []) (by simpa using hcc.2) (ow_empty k hv0) List.nodup_nil (by simp)
            obtain ⟨hv', b', q', k1, k2, k3, k4, ⟨φ', k5⟩, k6, k7, k8, k9⟩ := store1_sound h2 hs (al_empty (σ := σ) (ρ := ρ) (r := (9999, 0)) (k := k) hv0)
            have hr : r ≠ (9999, 0) := by
              rintro rfl
              simp only [Option.isNone_iff_eq_none] at hcc
              simp [St.obj, hcc.2] at ho
            have e9 : hv' = hv := by
              have := hat.hdr
              simp only [upR, if_neg hr] at k1
              rw [k1] at this
              injection this
            subst e9
            rw [e1] at k2
            injection k2 with k2
            injection k2 with k2 k2'
            subst k2; subst k2'
            rw [setCell_same g2] at k5
            exact ⟨_, _, k5⟩
          · simp at hs
        · simp at hs
      · simp at hs
    · simp at hs
theorem wkAll_sound : ∀ {l : List Wk} {σ σ' : St}, Ste w0 fp0 ok0 W n σ a w → wkAll l σ = some σ' → Ste w0 fp0 ok0 W n σ' a w
  | [], σ, σ', h, hs => by
    simp only [wkAll, Option.some.injEq] at hs
    subst hs
    exact h
  | x :: l, σ, σ', h, hs => by
    simp only [wkAll] at hs
    split at hs
    · rename_i σ1 h1
      obtain ⟨ok, θ, ρ, φ, h⟩ := h
      obtain ⟨ρ', φ', g⟩ := wk1_sound h.rel h1
      exact wkAll_sound ⟨ok, θ, ρ', φ', g, h.th, h.oks, h.okn, h.dfr, h.sz⟩ hs
    · simp at hs

def conc (S : St → Act → World → Prop) (Q : AEx → St → Prop) : Exit → Act → World → Prop
  | .normal, a, w => ∃ σ, Q .normal σ ∧ S σ a w
  | .exit id, a, w => ∃ σ, Q (.exit id) σ ∧ S σ a w
  | .ret, a, w => ∃ σ, Q .ret σ ∧ S σ a w
  | _, _, _ => False

theorem Ste.drew (h : Ste w0 fp0 ok0 W n σ a w) : Ste w0 fp0 ok0 W n σ a w.drew := by
  obtain ⟨ok, θ, ρ, φ, h⟩ := h
  exact ⟨ok, θ, ρ, φ, h.rel.drew, h.th, h.oks, h.okn, h.dfr, h.sz⟩

theorem awp_sound {C : Ctx} (hT : tabB C.P C.T = true) (hz : C.nW = 0 → fp0 = []) (hM : C.P.follows .mixedOrders = true) : ∀ (c : Code) (i : Nat) (Q : AEx → St → Prop) (σ : St) (a : Act) (w : World), smallC n c = true → AWp C c i Q σ → Ste w0 fp0 ok0 W n σ a w →
    c.wp C.P (conc (Ste w0 fp0 ok0 W n) Q) a w := by
  intro c
  induction c with
  | skip =>
    intro i Q σ a w _ hk hs
    exact wp_skip ⟨σ, hk, hs⟩
  | region id ops draw =>
    intro i Q σ a w hsm hk hs
    simp only [smallC] at hsm
    simp only [AWp] at hk
    cases draw with
    | false =>
      simp only [Bool.false_eq_true, if_false] at hk
      refine wp_region ?_
      rw [List.range_eq_range']
      exact ops_sound hT hz hsm ops.size 0 σ a w _ (by omega) (by simpa using hk) hs fun σ' a' w' h1 h2 => ⟨_, h1, norm_sound h2⟩
    | true =>
      simp only [if_true] at hk
      obtain ⟨p, hp, hk⟩ := hk
      refine wp_region_any hM (wpAnyK_any (M := C.M) _ _ _ _ ?_)
      refine run_sound hT hz hsm hp.2 (fun c a w h => h) p _ σ a w.drew _ hp.1 (fun k o _ hl => ?_) hk hs.drew (fun σ' a' w' h1 h2 => ⟨_, h1, norm_sound h2⟩) _ ?_
      · have := getD_lt hl
        simp only [Array.size_replicate] at this
        simp [this] at hl
      · unfold unl
        simp
  | seq x y ihx ihy =>
    intro i Q σ a w hsm hk hs
    simp only [smallC, Bool.and_eq_true] at hsm
    simp only [AWp] at hk
    refine wp_seq (wp_mono (ihx i _ σ a w hsm.1 hk hs) fun e a' w' h => ?_)
    cases e with
    | normal =>
      obtain ⟨σ', h1, h2⟩ := h
      exact ihy i Q σ' a' w' hsm.2 h1 h2
    | exit id => exact h
    | ret => exact h
    | goto l => exact h
    | panic ch => exact h
    | outgrown => exact h
  | cond c x y ihx ihy =>
    intro i Q σ a w hsm hk hs
    simp only [smallC, Bool.and_eq_true] at hsm
    simp only [AWp] at hk
    obtain ⟨t, ht, hx, hy⟩ := hk
    have hc : a.eval c = .bool t := by
      obtain ⟨ok, θ, ρ, φ, hs⟩ := hs
      have := hs.opv hsm.1.1
      rw [ht] at this
      exact FR_v this
    exact wp_cond_split hc (fun h => ihx i Q σ a w hsm.1.2 (hx h) hs) (fun h => ihy i Q σ a w hsm.2 (hy h) hs)
  | block id c ih =>
    intro i Q σ a w hsm hk hs
    simp only [smallC] at hsm
    simp only [AWp] at hk
    refine wp_block (wp_mono (ih id _ σ a w hsm hk hs) fun e a' w' h => ?_)
    cases e with
    | normal => exact h
    | exit id' =>
      obtain ⟨σ', h1, h2⟩ := h
      simp only [Exit.inBlock, AEx.block] at h1 ⊢
      split at h1
      · rename_i e
        rw [if_pos e]
        exact ⟨σ', h1, h2⟩
      · rename_i e
        rw [if_neg e]
        exact ⟨σ', h1, h2⟩
    | ret => exact h
    | goto l => exact h
    | panic ch => exact h
    | outgrown => exact h
  | loop c ih =>
    intro i Q σ a w hsm hk hs
    simp only [smallC] at hsm
    simp only [AWp] at hk
    obtain ⟨I, μ, h0, hround⟩ := hk
    have hleast : ∀ (a : Act) (w : World), (∃ σ, I σ ∧ Ste w0 fp0 ok0 W n σ a w) → ∃ k, (∃ σ, I σ ∧ Ste w0 fp0 ok0 W n σ a w ∧ μ σ = k) := fun a w ⟨σ, h1, h2⟩ => ⟨_, σ, h1, h2, rfl⟩
    classical
    let μ' : Act → World → Nat := fun a w => if h : ∃ k, (∃ σ, I σ ∧ Ste w0 fp0 ok0 W n σ a w ∧ μ σ = k) then Classical.choose (least h) else 0
    refine wp_loop (fun a w => ∃ σ, I σ ∧ Ste w0 fp0 ok0 W n σ a w) μ' (by obtain ⟨l, σ0, q1, q2⟩ := h0; exact ⟨σ0, q2, wkAll_sound (norm_sound hs) q1⟩) fun a w hI => ?_
    have hex := hleast a w hI
    have hμ : μ' a w = Classical.choose (least hex) := dif_pos hex
    obtain ⟨⟨σ1, h1, h2, h3⟩, _⟩ := Classical.choose_spec (least hex)
    refine wp_mono (ih i _ σ1 a w hsm (hround σ1 h1) h2) fun e a' w' h => ?_
    cases e with
    | normal =>
      obtain ⟨σ', ⟨l, σ2, g0, g1, g2⟩, g3⟩ := h
      have g4 := wkAll_sound (norm_sound g3) g0
      have hI' : ∃ σ, I σ ∧ Ste w0 fp0 ok0 W n σ a' w' := ⟨_, g1, g4⟩
      refine ⟨hI', ?_⟩
      have hex' := hleast a' w' hI'
      have hμ' : μ' a' w' = Classical.choose (least hex') := dif_pos hex'
      rw [hμ, hμ']
      refine Nat.lt_of_le_of_lt ((Classical.choose_spec (least hex')).2 _ ⟨_, g1, g4, rfl⟩) ?_
      rw [← h3]
      exact g2
    | exit id => exact h
    | ret => exact h
    | goto l => exact h
    | panic ch => exact h
    | outgrown => exact h
  | exit id =>
    intro i Q σ a w _ hk hs
    exact wp_exit ⟨σ, hk, hs⟩
  | ret =>
    intro i Q σ a w _ hk hs
    exact wp_ret ⟨σ, hk, hs⟩
  | _ => intro i Q σ a w hsm; simp [smallC] at hsm

end
end Go.Proofs.Ytdgeponcnlkaiaa.Ab
