/- Several cells are stored into; new roots; the frame and the temporaries. No condition. -/
import Derived.Test.YtdgeponcnlkaiaaAbG
namespace Go.Proofs.Ytdgeponcnlkaiaa.Ab
open Go
set_option linter.unusedSimpArgs false
set_option linter.unusedVariables false
set_option linter.unusedSectionVars false

def pendT : List Value → Nat → (Nat → Value) → (Nat → Value)
  | [], _, e => e
  | f :: r, t, e => pendT r (t + 1) (upd e t f)

section
variable {w0 : World} {fp0 : List Nat} {ok : Nat → Prop} {P : Program}

theorem FRL_length {w : World} {σ : St} {ρ : Rn → Value} : ∀ {fs : List FV} {us : List Value}, FRL w ok σ ρ fs us → us.length = fs.length
  | [], us, h => by simp only [FRL] at h; simp [h]
  | f :: fs, us, h => by
    simp only [FRL] at h
    obtain ⟨u, vs, e, _, h⟩ := h
    simp [e, FRL_length h]

theorem pend_env {w : World} {σ : St} {ρ : Rn → Value} : ∀ (fs : List FV) (us : List Value) (t : Nat) (e : Nat → FV) (θ : Nat → Value), FRL w ok σ ρ fs us → (∀ s, FR w ok σ ρ (e s) (θ s)) → ∀ s, FR w ok σ ρ (pend fs t e s) (pendT us t θ s)
  | [], us, t, e, θ, h, he, s => by
    simp only [FRL] at h
    subst h
    exact he s
  | f :: fs, us, t, e, θ, h, he, s => by
    simp only [FRL] at h
    obtain ⟨u, vs, rfl, h1, h2⟩ := h
    simp only [pend, pendT]
    refine pend_env fs vs (t + 1) _ _ h2 (fun s => ?_) s
    simp only [upd]
    split
    · exact h1
    · exact he s
theorem pendT_lt : ∀ (us : List Value) (t : Nat) (θ : Nat → Value) (s : Nat), s < t → pendT us t θ s = θ s
  | [], _, _, _, _ => rfl
  | u :: us, t, θ, s, h => by
    simp only [pendT]
    rw [pendT_lt us (t + 1) _ s (by omega)]
    simp only [upd]
    rw [if_neg (by omega)]
theorem pendT_get : ∀ (us : List Value) (t : Nat) (θ : Nat → Value) (j : Nat) (u : Value), us[j]? = some u → pendT us t θ (t + j) = u
  | [], _, _, _, _, h => by simp at h
  | v :: us, t, θ, 0, u, h => by
    simp only [List.getElem?_cons_zero, Option.some.injEq] at h
    simp only [pendT, Nat.add_zero]
    rw [pendT_lt us (t + 1) _ t (by omega)]
    simp [upd, h]
  | v :: us, t, θ, j + 1, u, h => by
    simp only [List.getElem?_cons_succ] at h
    simp only [pendT]
    rw [show t + (j + 1) = t + 1 + j by omega]
    exact pendT_get us (t + 1) _ j u h
theorem unpend_FRL {w : World} {σ : St} {ρ : Rn → Value} {e : Nat → FV} : ∀ (us : List Value) (t : Nat), (∀ j u, us[j]? = some u → FR w ok σ ρ (e (t + j)) u) → FRL w ok σ ρ (unpend e t us.length) us
  | [], t, _ => by simp [unpend, FRL]
  | u :: us, t, h => by
    simp only [List.length_cons, unpend, FRL]
    refine ⟨u, us, rfl, by simpa using h 0 u (by simp), unpend_FRL us (t + 1) fun j v hj => ?_⟩
    rw [show t + 1 + j = t + (j + 1) by omega]
    exact h (j + 1) v (by simpa using hj)

theorem Addr_add (b o n : Nat) : (⟨b, o, none⟩ : Addr).add n = ⟨b, o + n, none⟩ := by
  unfold Addr.add
  split
  · simp [*]
  · rfl

theorem leaf_FRL {w w' : World} {σ σ' : St} {ρ ρ' : Rn → Value} (hk : ∀ b, ok b → w'.heap[b]? = w.heap[b]?) : ∀ (fs : List FV) (us : List Value), fs.all FV.isLeaf = true → FRL w ok σ ρ fs us → FRL w' ok σ' ρ' fs us
  | [], us, _, h => by simpa [FRL] using h
  | f :: fs, us, hl, h => by
    simp only [FRL] at h ⊢
    simp only [List.all_cons, Bool.and_eq_true] at hl
    obtain ⟨u, vs, e, h1, h2⟩ := h
    refine ⟨u, vs, e, ?_, leaf_FRL hk fs vs hl.2 h2⟩
    cases f <;> simp [FV.isLeaf] at hl
    simp only [FR] at h1 ⊢
    exact Sh_mono (fun b hb => ⟨hb, hk b hb⟩) _ _ h1

/-- **Cells are stored into, one behind the other.** -/
theorem storeL_sound {r : Rn} {p : List Nat} {ρ : Rn → Value} {b q s : Nat} {hv : Value} (hb : baseOf hv = some (b, q)) : ∀ (m : Nat) (fs : List FV) (off : Nat) (σ : St) (θ : Nat → Value) (w : World) (φ : Rn → List Nat) (vs : List Value) (i : Nat) (σ' : St),
    Rel w0 fp0 ok σ θ w ρ φ → σ.storeL r p m off fs = some σ' → FRL w ok σ ρ fs vs → hdr w (ρ r) p = some hv → s + i = q + off →
    ∃ w' θ' φ', (storeCells ⟨b, s, none⟩ vs i).run P w = .ok () w' ∧ Rel w0 fp0 ok σ' θ' w' ρ φ' ∧ (∀ t, t < 2000 → θ' t = θ t) ∧ ∀ v ∈ vs, v.oneCell' = true
  | m, [], off, σ, θ, w, φ, vs, i, σ', h, hs, hf, hh, hi => by
    have : σ = σ' := by cases m <;> simpa [St.storeL] using hs
    subst this
    simp only [FRL] at hf
    subst hf
    exact ⟨w, θ, φ, by simp [storeCells], h, fun _ _ => rfl, by simp⟩
  | 0, f :: fs, off, σ, θ, w, φ, vs, i, σ', h, hs, hf, hh, hi => by simp [St.storeL] at hs
  | m + 1, f :: fs, off, σ, θ, w, φ, vs, i, σ', h, hs, hf, hh, hi => by
    simp only [FRL] at hf
    obtain ⟨v, us, rfl, hf1, hf2⟩ := hf
    simp only [St.storeL] at hs
    have hrun : ∀ (u : Value), (∃ x, w.cell? ⟨b, q + off, none⟩ = some x) → w.frozen? ⟨b, q + off, none⟩ = false → v.oneCell' = true → ∀ w', (storeCells ⟨b, s, none⟩ us (i + 1)).run P (w.setCell ⟨b, q + off, none⟩ v) = .ok () w' →
        (storeCells ⟨b, s, none⟩ (v :: us) i).run P w = .ok () w' := fun u ⟨x, hx⟩ hfz hone w' hrest => by
      simp only [storeCells, Sem.run_bind, Addr_add, hi]
      rw [run_store P w _ v .plain hone]
      simp only [hx, hfz, Bool.false_eq_true, if_false, Result.andThen_ok]
      exact hrest
    split at hs
    · rename_i hl
      split at hs
      · rename_i σ1 h1
        obtain ⟨hv', b', q', k1, k2, k3, k4, ⟨φ', k5⟩, _, k6, k7, k8⟩ := store1_sound h h1 hf1
        have e1 : hv' = hv := by rw [hh] at k1; injection k1 with k1; exact k1.symm
        subst e1
        rw [hb] at k2
        cases k2
        have hkk : ∀ c, ok c → (w.setCell ⟨b, q + off, none⟩ v).heap[c]? = w.heap[c]? := fun c hc => Go.RowKit.Below.heap_setCell w _ v c (fun e => by subst e; exact k7 hc)
        obtain ⟨w', θ', φ2, g1, g2, g3, g4⟩ := storeL_sound (s := s) hb m fs (off + 1) σ1 θ _ φ' us (i + 1) σ' k5 hs (leaf_FRL hkk fs us hl hf2) k6 (by omega)
        exact ⟨w', θ', φ2, hrun v k3 k4 k8 w' g1, g2, g3, fun x hx => by
          rcases List.mem_cons.1 hx with rfl | hx
          · exact k8
          · exact g4 x hx⟩
      · simp at hs
    · split at hs
      · rename_i σ1 h1
        have hp : Rel w0 fp0 ok { σ with env := pend fs 2000 σ.env } (pendT us 2000 θ) w ρ φ :=
          ⟨h.own, h.dis, fun t => FR_env _ _ (pend_env fs us 2000 _ _ hf2 h.env t), h.okb, h.frm⟩
        obtain ⟨hv', b', q', k1, k2, k3, k4, ⟨φ', k5⟩, _, k6, k7, k8⟩ := store1_sound hp h1 (FR_env _ _ hf1)
        have e1 : hv' = hv := by rw [hh] at k1; injection k1 with k1; exact k1.symm
        subst e1
        rw [hb] at k2
        cases k2
        have hun : FRL (w.setCell ⟨b, q + off, none⟩ v) ok σ1 ρ (unpend σ1.env 2000 fs.length) us := by
          rw [← FRL_length hf2]
          exact unpend_FRL us 2000 fun j u hj => by
            have := k5.env (2000 + j)
            rwa [pendT_get us 2000 θ j u hj] at this
        obtain ⟨w', θ', φ2, g1, g2, g3, g4⟩ := storeL_sound (s := s) hb m _ (off + 1) σ1 _ _ φ' us (i + 1) σ' k5 hs hun k6 (by omega)
        exact ⟨w', θ', φ2, hrun v k3 k4 k8 w' g1, g2, fun t ht => by rw [g3 t ht, pendT_lt us 2000 θ t ht], fun x hx => by
          rcases List.mem_cons.1 hx with rfl | hx
          · exact k8
          · exact g4 x hx⟩
      · simp at hs

/-! ### Draws, new blocks -/
theorem Keeps.refl (w : World) (fp : List Nat) : Keeps w fp w := ⟨rfl, rfl, rfl, Nat.le_refl _, fun _ _ _ => rfl⟩
theorem Keeps.trans {a b c : World} {f g : List Nat} (h : Keeps a f b) (k : Keeps b g c) (hg : ∀ x ∈ g, x ∈ f ∨ a.heap.size ≤ x) : Keeps a f c :=
  ⟨k.os.trans h.os, k.out.trans h.out, k.tape.trans h.tape, Nat.le_trans h.size k.size, fun x hx hn => by
    rw [k.old x (Nat.lt_of_lt_of_le hx h.size) (fun hh => by rcases hg x hh with e | e; exact hn e; omega)]
    exact h.old x hx hn⟩
theorem Keeps.drew {a b : World} {f : List Nat} (h : Keeps a f b) : Keeps a f b.drew := ⟨h.os, h.out, h.tape, h.size, h.old⟩
theorem Keeps.alloc {a b : World} {f : List Nat} (h : Keeps a f b) (o : Obj) : Keeps a f (b.alloc o) :=
  ⟨h.os, h.out, h.tape, by simp; have := h.size; omega, fun x hx hn => by
    rw [Go.RowKit.Below.heap_alloc b o x (Nat.lt_of_lt_of_le hx h.size)]; exact h.old x hx hn⟩

variable {σ : St} {θ : Nat → Value} {w : World} {ρ : Rn → Value} {φ : Rn → List Nat}

/-- The world goes on; nothing that is owned or shared has changed. -/
theorem Rel.world (h : Rel w0 fp0 ok σ θ w ρ φ) {w' : World} (hw : ∀ b, b < w.heap.size → w'.heap[b]? = w.heap[b]?) (hs : w.heap.size ≤ w'.heap.size) (hk : Keeps w0 fp0 w') : Rel w0 fp0 ok σ θ w' ρ φ := by
  have hR := h.rts_
  have hown : ∀ b, (∃ q e, σ.rts q = some e ∧ b ∈ φ q) → w'.heap[b]? = w.heap[b]? := fun b ⟨q, e, he, hb⟩ => hw b ((h.own q e he).2.2 b hb).2.2
  have hok : ∀ b, ok b → ok b ∧ w'.heap[b]? = w.heap[b]? := fun b hb => ⟨hb, hw b (h.okb b hb)⟩
  refine Rel.of_rts (hR.mono hown hok fun b hb => ⟨hb.1, hb.2.1, Nat.lt_of_lt_of_le hb.2.2 hs⟩) (fun t => ?_) (fun b hb => Nat.lt_of_lt_of_le (h.okb b hb) hs) hk
  refine FR_same (G := fun r p => ∃ o, σ.obj r p = some o ∧ isObj o) (I := fun r m p => σ.rts r = some .itr ∧ ∃ es, σ.obj m p = some (.mp es)) ⟨hok, fun r p o hg ho => ⟨o, ho, .inl (sameKind_refl o), hR.hdr_mono hown ho⟩⟩ ⟨fun r m p b mb es hi h1 h2 h3 h4 => ?_⟩ _ _ (FR_ats _ _ (h.env t)) (h.env t)
  obtain ⟨z1, z2, z3⟩ := h.own r _ h1
  simp only [Ow] at z1
  obtain ⟨b1, m1, s1, x1, l1, y1, y2, y3⟩ := z1
  rw [h2] at y1
  injection y1 with y1; injection y1 with y1; injection y1 with y1 _ _
  subst y1
  obtain ⟨hv5, fo5, hat5⟩ := hR.at_ (r := m) (p := p) h3
  have := hat5.own
  simp only [Ow] at this
  obtain ⟨m6, en6, cl6, e6, e7, e8⟩ := this
  have e9 : hv5 = .map (some mb) := by have := hat5.hdr; rw [h4] at this; injection this with this; exact this.symm
  rw [e9] at e6
  injection e6 with e6; injection e6 with e6
  subst e6
  have hlt : ∀ c x, w.heap[c]? = some x → w'.heap[c]? = w.heap[c]? := fun c x hx => hw c (by
    rcases Nat.lt_or_ge c w.heap.size with h' | h'
    · exact h'
    · simp [Array.getElem?_eq_none h'] at hx)
  exact ⟨h1, rfl, hlt b _ y3, h3, by rw [hR.hdr_mono hown h3]; exact h4, hlt mb _ e8.at_⟩

theorem Rel.drew (h : Rel w0 fp0 ok σ θ w ρ φ) : Rel w0 fp0 ok σ θ w.drew ρ φ := h.world (fun _ _ => rfl) (Nat.le_refl _) h.frm.drew
theorem Rel.alloc (h : Rel w0 fp0 ok σ θ w ρ φ) (o : Obj) : Rel w0 fp0 ok σ θ (w.alloc o) ρ φ :=
  h.world (fun b hb => Go.RowKit.Below.heap_alloc w o b hb) (by simp) (h.frm.alloc o)

/-- The aliases do not hang on roots that are not there. -/
theorem Rel.root (h : Rel w0 fp0 ok σ θ w ρ φ) {r : Rn} {d : D} {u : Value} {fp : List Nat} (hr : σ.rts r = none) (ho : Ow w ok d u fp) (hn : fp.Nodup)
    (hf : ∀ b ∈ fp, (∀ q e, σ.rts q = some e → b ∉ φ q) ∧ Bnd w0 fp0 ok w.heap.size b) : Rel w0 fp0 ok (σ.root r d) θ w (upR ρ r u) (upR φ r fp) := by
  have hR := h.rts_.new (r := r) (d := d) (u := u) (fp := fp) (w' := w) (ok' := ok) (B' := Bnd w0 fp0 ok w.heap.size) (fun _ _ => rfl) (fun b hb => ⟨hb, rfl⟩) ho hn (fun b hb q e _ he => (hf b hb).1 q e he) (fun b hb => (hf b hb).2) (fun _ hb => hb)
  refine Rel.of_rts hR (fun t => ?_) h.okb h.frm
  have hobj : ∀ q s x, σ.obj q s = some x → q ≠ r := fun q s x hx e => by subst e; simp [St.obj, hr] at hx
  have hroot : ∀ q s, q ≠ r → (σ.root r d).obj q s = σ.obj q s := fun q s hq => by simp [St.root, St.obj, hq]
  refine FR_same (G := fun r p => ∃ o, σ.obj r p = some o ∧ isObj o) (I := fun r m p => σ.rts r = some .itr ∧ ∃ es, σ.obj m p = some (.mp es)) ⟨fun b hb => ⟨hb, rfl⟩, fun q s o hg hx => ?_⟩ ⟨fun q m s b mb es hi h1 h2 h3 h4 => ?_⟩ _ _ (FR_ats _ _ (h.env t)) (h.env t)
  · have hq := hobj q s o hx
    exact ⟨o, by rw [hroot q s hq]; exact hx, .inl (sameKind_refl o), by simp [upR, hq]⟩
  · have hq : q ≠ r := fun e => by subst e; rw [hr] at h1; simp at h1
    have hm := hobj m s _ h3
    exact ⟨by simpa [St.root, hq] using h1, by simp [upR, hq], rfl, by rw [hroot m s hm]; exact h3, by simpa [upR, hm] using h4, rfl⟩

/-- A temporary gets a value. -/
theorem Rel.upd (h : Rel w0 fp0 ok σ θ w ρ φ) {t : Nat} {f : FV} {v : Value} (hf : FR w ok σ ρ f v) : Rel w0 fp0 ok { σ with env := Ab.upd σ.env t f } (Ab.upd θ t v) w ρ φ :=
  ⟨h.own, h.dis, fun s => by
    simp only [Ab.upd]
    split
    · exact FR_env _ _ hf
    · exact FR_env _ _ (h.env s), h.okb, h.frm⟩
theorem Rel.envs (h : Rel w0 fp0 ok σ θ w ρ φ) {e : Nat → FV} {θ' : Nat → Value} (he : ∀ t, FR w ok σ ρ (e t) (θ' t)) : Rel w0 fp0 ok { σ with env := e } θ' w ρ φ :=
  ⟨h.own, h.dis, fun s => FR_env _ _ (he s), h.okb, h.frm⟩

/-! ### The frame of the machine -/
/-- The temporaries of the machine are what the frame speaks of; what is watched stays. -/
def Th (a : Act) (W : Nat → Value) (θ : Nat → Value) : Prop := (∀ t, t < 1000 → θ t = a.tmps.getD t undef) ∧ (∀ j, j < 100 → θ (1000 + j) = W j) ∧ a.tmps.size ≤ 1000

theorem Th.put {a : Act} {W θ : Nat → Value} (h : Th a W θ) {d : Nat} {v : Value} (hd : d < a.tmps.size) : Th (a.put (some d) v) W (upd θ d v) := by
  refine ⟨fun t ht => ?_, fun j hj => ?_, by simp [Act.put]; exact h.2.2⟩
  · simp only [upd, Act.put]
    split
    · rename_i e
      subst e
      simp [hd]
    · rename_i e
      rw [h.1 t ht]
      simp only [Array.getD_eq_getD_getElem?, Array.getElem?_setIfInBounds]
      rw [if_neg (fun h => e h.symm)]
  · have h3 := h.2.2
    simp only [upd]
    rw [if_neg (by omega)]
    exact h.2.1 j hj
end
end Go.Proofs.Ytdgeponcnlkaiaa.Ab
