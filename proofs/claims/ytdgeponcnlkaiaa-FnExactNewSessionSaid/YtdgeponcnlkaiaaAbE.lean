/- The store of owned trees: an object taken out of its place, one cell written, and what becomes of places. No condition. -/
import Derived.Test.YtdgeponcnlkaiaaAbD
import Derived.Below
namespace Go.Proofs.Ytdgeponcnlkaiaa.Ab
open Go
set_option linter.unusedSimpArgs false
set_option linter.unusedVariables false
set_option linter.unusedSectionVars false

structure Rts (w : World) (ok : Nat → Prop) (B : Nat → Prop) (rts : Rn → Option D) (ρ : Rn → Value) (φ : Rn → List Nat) : Prop where
  own : ∀ r d, rts r = some d → Ow w ok d (ρ r) (φ r) ∧ (φ r).Nodup ∧ ∀ b ∈ φ r, B b
  dis : ∀ r r' d d', r ≠ r' → rts r = some d → rts r' = some d' → ∀ b ∈ φ r, b ∉ φ r'

def objOf (rts : Rn → Option D) (r : Rn) (p : List Nat) : Option D := match rts r with | some d => look d p | none => none
theorem obj_eq (σ : St) (r : Rn) (p : List Nat) : σ.obj r p = objOf σ.rts r p := rfl
def putR (rts : Rn → Option D) (r : Rn) (d : Option D) : Rn → Option D := fun q => if q = r then d else rts q
def upR {α : Type} (f : Rn → α) (r : Rn) (x : α) : Rn → α := fun q => if q = r then x else f q

theorem look_append : ∀ (p q : List Nat) (d : D), look d (p ++ q) = (look d p).bind fun o => look o q
  | [], q, d => by simp [look]
  | i :: p, q, d => by
    simp only [List.cons_append, look]
    split
    · split
      · exact look_append p q _
      · rfl
    · rfl
theorem hdr_append {w : World} : ∀ (p q : List Nat) (u : Value), hdr w u (p ++ q) = (hdr w u p).bind fun v => hdr w v q
  | [], q, d => by simp [hdr]
  | i :: p, q, d => by
    simp only [List.cons_append, hdr]
    split
    · split
      · exact hdr_append p q _
      · rfl
    · rfl
theorem isPre_iff : ∀ {p s : List Nat}, isPre p s = true → ∃ q, s = p ++ q
  | [], s, _ => ⟨s, rfl⟩
  | i :: p, [], h => by simp [isPre] at h
  | i :: p, j :: s, h => by
    simp only [isPre] at h
    split at h
    · rename_i e
      obtain ⟨q, hq⟩ := isPre_iff h
      exact ⟨q, by simp [e, hq]⟩
    · simp at h
theorem isPre_append (p q : List Nat) : isPre p (p ++ q) = true := by
  induction p with
  | nil => simp [isPre]
  | cons i p ih => simpa [isPre] using ih
theorem isPre_trans {p q s : List Nat} (h : isPre p s = false) : isPre (p ++ q) s = false := by
  cases e : isPre (p ++ q) s with
  | false => rfl
  | true =>
    obtain ⟨x, hx⟩ := isPre_iff e
    subst hx
    rw [List.append_assoc, isPre_append] at h
    exact h

section
variable {w : World} {ok : Nat → Prop} {B : Nat → Prop} {rts : Rn → Option D} {ρ : Rn → Value} {φ : Rn → List Nat}

/-- What a place is worth. -/
structure At (w : World) (ok : Nat → Prop) (rts : Rn → Option D) (ρ : Rn → Value) (φ : Rn → List Nat) (r : Rn) (p : List Nat) (o : D) (hv : Value) (fo : List Nat) : Prop where
  hdr : hdr w (ρ r) p = some hv
  own : Ow w ok o hv fo
  nod : fo.Nodup
  sub : ∀ b ∈ fo, b ∈ φ r

theorem Rts.at_ (h : Rts w ok B rts ρ φ) {r : Rn} {p : List Nat} {o : D} (ho : objOf rts r p = some o) : ∃ hv fo, At w ok rts ρ φ r p o hv fo := by
  unfold objOf at ho
  split at ho
  · rename_i d hd
    obtain ⟨h1, h2, h3⟩ := h.own r d hd
    obtain ⟨hv, fo, k1, k2, k3, k4, _⟩ := own_at p d (ρ r) (φ r) o h1 h2 ho
    exact ⟨hv, fo, k1, k2, k3, k4⟩
  · simp at ho

/-- **An object is replaced in its place**, under the same header. -/
theorem Rts.replace (h : Rts w ok B rts ρ φ) {r : Rn} {p : List Nat} {d o : D} {hv : Value} {fo : List Nat} (hd : rts r = some d) (hl : look d p = some o)
    (hat : At w ok rts ρ φ r p o hv fo) {w' : World} {ok' B' : Nat → Prop} {o' : D} {fo' : List Nat}
    (hw : ∀ b, b ∉ fo → (∃ q e, rts q = some e ∧ b ∈ φ q) → w'.heap[b]? = w.heap[b]?) (hk : ∀ b, ok b → ok' b ∧ w'.heap[b]? = w.heap[b]?)
    (ho : Ow w' ok' o' hv fo') (hn : fo'.Nodup) (hf : ∀ b ∈ fo', b ∈ fo ∨ ∀ q e, rts q = some e → b ∉ φ q) (hB : ∀ b ∈ fo', B' b) (hBB : ∀ b, b ∉ fo → B b → B' b) :
    ∃ φ', Rts w' ok' B' (putR rts r (some (putAt d p o'))) ρ φ' ∧ (∀ q, q ≠ r → φ' q = φ q) ∧ (∀ b ∈ φ' r, b ∈ fo' ∨ (b ∈ φ r ∧ b ∉ fo)) ∧
      hdr w' (ρ r) p = some hv ∧
      (∀ s x, objOf rts r s = some x → isPre p s = false → hdr w' (ρ r) s = hdr w (ρ r) s ∧ ∃ x', look (putAt d p o') s = some x' ∧ sameKind x x') ∧
      (∀ s, look (putAt d p o') (p ++ s) = look o' s) ∧
      (∀ q s x, q ≠ r → objOf rts q s = some x → hdr w' (ρ q) s = hdr w (ρ q) s) := by
  obtain ⟨h1, h2, h3⟩ := h.own r d hd
  obtain ⟨hv2, fo2, k1, k2, k3, k4, k5⟩ := own_at p d (ρ r) (φ r) o h1 h2 hl
  have e1 : hv2 = hv := by have := hat.hdr; rw [k1] at this; injection this
  subst e1
  have e2 : fo2 = fo := Ow_unique _ _ _ _ k2 hat.own
  subst e2
  obtain ⟨⟨fp', g1, g2, g3⟩, g4, g5⟩ := k5 w' ok' o' fo' (fun b hb hbo => hw b hbo ⟨r, d, hd, hb⟩) hk ho hn (fun b hb => (hf b hb).imp id fun hh => hh r d hd)
  refine ⟨upR φ r fp', ⟨fun q e he => ?_, fun q q' e e' hne he he' b hb hb' => ?_⟩, fun q hq => by simp [upR, hq], fun b hb => ?_, g5, fun s x hs hp => ?_, fun s => look_putAt p d o o' s hl, fun q s x hq hs => ?_⟩
  · by_cases hq : q = r
    · subst hq
      simp only [putR, ↓reduceIte, Option.some.injEq] at he
      subst he
      simp only [upR, ↓reduceIte]
      refine ⟨g1, g2, fun b hb => ?_⟩
      rcases g3 b hb with hb | ⟨hb, hb2⟩
      · exact hB b hb
      · exact hBB b hb2 (h3 b hb)
    · simp only [putR, if_neg hq] at he
      simp only [upR, if_neg hq]
      obtain ⟨a1, a2, a3⟩ := h.own q e he
      have hno : ∀ b ∈ φ q, b ∉ fo2 := fun b hb hb2 => h.dis q r e d hq he hd b hb (k4 b hb2)
      exact ⟨Ow_mono hk e _ _ (fun b hb => hw b (hno b hb) ⟨q, e, he, hb⟩) a1, a2, fun b hb => hBB b (hno b hb) (a3 b hb)⟩
  · have key : ∀ q e, q ≠ r → rts q = some e → ∀ b ∈ φ q, b ∉ fp' := fun q e hq he b hb hb' => by
      rcases g3 b hb' with h' | ⟨h', _⟩
      · rcases hf b h' with h'' | h''
        · exact h.dis q r e d hq he hd b hb (k4 b h'')
        · exact h'' q e he hb
      · exact h.dis q r e d hq he hd b hb h'
    by_cases hq : q = r
    · subst hq
      have hq' : q' ≠ q := fun hh => hne hh.symm
      simp only [putR, if_neg hq'] at he'
      simp only [upR, ↓reduceIte, if_neg hq'] at hb hb'
      exact key q' e' hq' he' b hb' hb
    · simp only [putR, if_neg hq] at he
      simp only [upR, if_neg hq] at hb
      by_cases hq' : q' = r
      · subst hq'
        simp only [upR, ↓reduceIte] at hb'
        exact key q e hq he b hb hb'
      · simp only [putR, if_neg hq'] at he'
        simp only [upR, if_neg hq'] at hb'
        exact h.dis q q' e e' hne he he' b hb hb'
  · simp only [upR, ↓reduceIte] at hb
    exact g3 b hb
  · simp only [objOf, hd] at hs
    exact ⟨g4 s x hs hp, look_putAt_other p d o o' s x hl hs hp⟩
  · unfold objOf at hs
    split at hs
    · rename_i e he
      obtain ⟨a1, a2, a3⟩ := h.own q e he
      exact hdr_stable s e _ _ x a1 (fun b hb => hw b (fun hb2 => h.dis q r e d hq he hd b hb (k4 b hb2)) ⟨q, e, he, hb⟩) hs
    · simp at hs

/-- A new root. -/
theorem Rts.new (h : Rts w ok B rts ρ φ) {r : Rn} {d : D} {u : Value} {fp : List Nat} {w' : World} {ok' B' : Nat → Prop}
    (hw : ∀ b, (∃ q e, rts q = some e ∧ b ∈ φ q) → w'.heap[b]? = w.heap[b]?) (hk : ∀ b, ok b → ok' b ∧ w'.heap[b]? = w.heap[b]?)
    (ho : Ow w' ok' d u fp) (hn : fp.Nodup) (hf : ∀ b ∈ fp, ∀ q e, q ≠ r → rts q = some e → b ∉ φ q) (hB : ∀ b ∈ fp, B' b) (hBB : ∀ b, B b → B' b) :
    Rts w' ok' B' (putR rts r (some d)) (upR ρ r u) (upR φ r fp) := by
  refine ⟨fun q e he => ?_, fun q q' e e' hne he he' b hb hb' => ?_⟩
  · by_cases hq : q = r
    · subst hq
      simp only [putR, ↓reduceIte, Option.some.injEq] at he
      subst he
      simp only [upR, ↓reduceIte]
      exact ⟨ho, hn, hB⟩
    · simp only [putR, if_neg hq] at he
      simp only [upR, if_neg hq]
      obtain ⟨a1, a2, a3⟩ := h.own q e he
      exact ⟨Ow_mono hk e _ _ (fun b hb => hw b ⟨q, e, he, hb⟩) a1, a2, fun b hb => hBB b (a3 b hb)⟩
  · by_cases hq : q = r
    · subst hq
      have hq' : q' ≠ q := fun hh => hne hh.symm
      simp only [putR, if_neg hq'] at he'
      simp only [upR, ↓reduceIte, if_neg hq'] at hb hb'
      exact hf b hb q' e' hq' he' hb'
    · simp only [putR, if_neg hq] at he
      simp only [upR, if_neg hq] at hb
      by_cases hq' : q' = r
      · subst hq'
        simp only [upR, ↓reduceIte] at hb'
        exact hf b hb' q e hq he hb
      · simp only [putR, if_neg hq'] at he'
        simp only [upR, if_neg hq'] at hb'
        exact h.dis q q' e e' hne he he' b hb hb'

theorem putR_none {r q : Rn} {e : D} (h : putR rts r none q = some e) : rts q = some e := by
  unfold putR at h
  split at h
  · simp at h
  · exact h
/-- A root goes. -/
theorem Rts.drop (h : Rts w ok B rts ρ φ) (r : Rn) : Rts w ok B (putR rts r none) ρ φ :=
  ⟨fun q e he => h.own q e (putR_none he), fun q q' e e' hne he he' => h.dis q q' e e' hne (putR_none he) (putR_none he')⟩

/-- The world changes where nothing is owned or shared. -/
theorem Rts.mono (h : Rts w ok B rts ρ φ) {w' : World} {ok' B' : Nat → Prop} (hw : ∀ b, (∃ q e, rts q = some e ∧ b ∈ φ q) → w'.heap[b]? = w.heap[b]?)
    (hk : ∀ b, ok b → ok' b ∧ w'.heap[b]? = w.heap[b]?) (hBB : ∀ b, B b → B' b) : Rts w' ok' B' rts ρ φ :=
  ⟨fun q e he => by
    obtain ⟨a1, a2, a3⟩ := h.own q e he
    exact ⟨Ow_mono hk e _ _ (fun b hb => hw b ⟨q, e, he, hb⟩) a1, a2, fun b hb => hBB b (a3 b hb)⟩, h.dis⟩

theorem Rts.hdr_mono (h : Rts w ok B rts ρ φ) {w' : World} (hw : ∀ b, (∃ q e, rts q = some e ∧ b ∈ φ q) → w'.heap[b]? = w.heap[b]?) {q : Rn} {s : List Nat} {x : D}
    (hs : objOf rts q s = some x) : hdr w' (ρ q) s = hdr w (ρ q) s := by
  unfold objOf at hs
  split at hs
  · rename_i e he
    obtain ⟨a1, a2, a3⟩ := h.own q e he
    exact hdr_stable s e _ _ x a1 (fun b hb => hw b ⟨q, e, he, hb⟩) hs
  · simp at hs

/-! ### A cell is written -/
theorem Ow_oneCell {d : D} {u : Value} {fp : List Nat} (h : Ow w ok d u fp) (hg : d ≠ .gone) (hv : ∀ x, d = .v x → x.oneCell' = true) : u.oneCell' = true := by
  cases d with
  | v x => simp only [Ow] at h; rw [h.2]; exact hv x rfl
  | ez => simp only [Ow, Sh] at h; obtain ⟨_, a, e⟩ := h; rw [e]; rfl
  | sh k n cs => simp only [Ow, Sh] at h; obtain ⟨_, a, c, e, _⟩ := h; rw [e]; rfl
  | vp cs => simp only [Ow, Sh] at h; obtain ⟨_, b, o, e, _⟩ := h; rw [e]; rfl
  | fn f cs => simp only [Ow, Sh] at h; obtain ⟨_, b, e, _⟩ := h; rw [e]; rfl
  | ow k n cs =>
    simp only [Ow] at h
    rcases h with ⟨_, _, _, a, e⟩ | ⟨b, o, c, arr, T, fp', e, _⟩ <;> (rw [e]; rfl)
  | bx cs => simp only [Ow] at h; obtain ⟨b, arr, T, fp', e, _⟩ := h; rw [e]; rfl
  | mp es => simp only [Ow] at h; obtain ⟨b, arr, T, e, _⟩ := h; rw [e]; rfl
  | itr => simp only [Ow] at h; obtain ⟨b, m, s, x, l, e, _⟩ := h; rw [e]; rfl
  | gone => exact absurd rfl hg

theorem heap_setCell_self {w : World} {b o : Nat} {arr : Array Value} {T : TypeId} {v : Value} (h : w.heap[b]? = some (.cells arr T (0, 0))) :
    (w.setCell ⟨b, o, none⟩ v).heap[b]? = some (.cells (arr.setIfInBounds o v) T (0, 0)) := by
  simp [World.setCell, Array.getElem?_modify, h]
theorem not_frozen {w : World} {b o : Nat} {arr : Array Value} {T : TypeId} (h : w.heap[b]? = some (.cells arr T (0, 0))) : w.frozen? ⟨b, o, none⟩ = false := by
  simp [World.frozen?, h]

/-- One cell of an object is written with what a tree says. -/
theorem Rts.write (h : Rts w ok B rts ρ φ) (hB : ∀ b, B b → ¬ ok b) {r : Rn} {p : List Nat} {i : Nat} {d o old e : D} {cs : List D} {v : Value} {fe : List Nat} (hd : rts r = some d) (hl : look d p = some o)
    (hc : o.cells? = some cs) (hi : cs[i]? = some old) (he : Ow w ok e v fe) (hen : fe.Nodup) (heB : ∀ b ∈ fe, B b) (hed : ∀ q e, rts q = some e → ∀ b ∈ φ q, b ∉ fe) :
    ∃ hv b q, hdr w (ρ r) p = some hv ∧ baseOf hv = some (b, q) ∧ B b ∧ (∃ u, w.cell? ⟨b, q + i, none⟩ = some u) ∧ w.frozen? ⟨b, q + i, none⟩ = false ∧
      ∃ φ', Rts (w.setCell ⟨b, q + i, none⟩ v) ok B (putR rts r (some (putAt d p (o.setCells (cs.set i e))))) ρ φ' ∧
        (∀ s x, s ≠ r → objOf rts s x ≠ none → hdr (w.setCell ⟨b, q + i, none⟩ v) (ρ s) x = hdr w (ρ s) x) ∧
        (∀ s x, objOf rts r s = some x → isPre (p ++ [i]) s = false → hdr (w.setCell ⟨b, q + i, none⟩ v) (ρ r) s = hdr w (ρ r) s ∧
            ∃ x', look (putAt d p (o.setCells (cs.set i e))) s = some x' ∧ sameKind x x') ∧
        (∀ s x, look e s = some x → look (putAt d p (o.setCells (cs.set i e))) (p ++ [i] ++ s) = some x ∧ hdr (w.setCell ⟨b, q + i, none⟩ v) (ρ r) (p ++ [i] ++ s) = hdr w v s) := by
  have hlt : i < cs.length := by
    rcases Nat.lt_or_ge i cs.length with h' | h'
    · exact h'
    · simp [List.getElem?_eq_none h'] at hi
  obtain ⟨hv, fo, hat⟩ := h.at_ (r := r) (p := p) (o := o) (by simp only [objOf, hd]; exact hl)
  obtain ⟨b, q, fp', hb, e1, hO, ⟨arr, T, hheap, hsz⟩, hre⟩ := Ow_cells hat.own hc (by rintro rfl; simp at hi)
  obtain ⟨u, f1, fx, f2, e2, hu, hx, hset⟩ := OwL_split hO hi
  subst e1; subst e2
  have hbB : B b := (h.own r d hd).2.2 b (hat.sub b (by simp))
  have hnb : ∀ c, c ≠ b → (w.setCell ⟨b, q + i, none⟩ v).heap[c]? = w.heap[c]? := fun c hc => Go.RowKit.Below.heap_setCell w ⟨b, q + i, none⟩ v c hc
  have hnd := hat.nod
  simp only [List.nodup_cons, List.nodup_append, List.mem_append, not_or] at hnd
  obtain ⟨⟨⟨hb1, hb2⟩, hb3⟩, ⟨hn1, hn2, hd1⟩, hn3, hd2⟩ := hnd
  have hbe : b ∉ fe := hed r d hd b (hat.sub b (by simp))
  have hfe : ∀ c ∈ f1 ++ fx ++ f2, c ∉ fe := fun c hc => hed r d hd c (hat.sub c (List.mem_cons_of_mem _ hc))
  have hk : ∀ c, ok c → ok c ∧ (w.setCell ⟨b, q + i, none⟩ v).heap[c]? = w.heap[c]? := fun c hc => ⟨hc, hnb c (fun e => hB b hbB (e ▸ hc))⟩
  have heW : Ow (w.setCell ⟨b, q + i, none⟩ v) ok e v fe := Ow_mono hk e v fe (fun c hc => hnb c (fun e => hbe (e ▸ hc))) he
  have hcell : (w.setCell ⟨b, q + i, none⟩ v).cell? ⟨b, q + i, none⟩ = some v := World.cell?_setCell_same w ⟨b, q + i, none⟩ v hu
  have hoL := hset (w.setCell ⟨b, q + i, none⟩ v) ok e v fe hk hcell heW (fun j _ hj => World.cell?_setCell_other w ⟨b, q + i, none⟩ ⟨b, q + j, none⟩ v (by simp; omega))
    (fun c hc => hnb c (fun e => by subst e; exact hc.elim hb1 hb3))
  have hOw := hre (w.setCell ⟨b, q + i, none⟩ v) ok (cs.set i e) (f1 ++ fe ++ f2) (by simp) ⟨_, T, heap_setCell_self hheap, arr, T, hheap, by simp⟩ hoL
  have hnod : (b :: (f1 ++ fe ++ f2)).Nodup := by
    simp only [List.nodup_cons, List.nodup_append, List.mem_append, not_or]
    refine ⟨⟨⟨hb1, hbe⟩, hb3⟩, ⟨hn1, hen, fun x hx y hy e => hfe x (by simp [hx]) (e ▸ hy)⟩, hn3, fun x hx y hy e => ?_⟩
    rcases hx with hx | hx
    · exact hd2 x (.inl hx) y hy e
    · exact hfe y (by simp [hy]) (e ▸ hx)
  obtain ⟨φ', r1, r2, r3, r4, r5, r6, r7⟩ := h.replace hd hl hat (w' := w.setCell ⟨b, q + i, none⟩ v) (ok' := ok) (B' := B) (o' := o.setCells (cs.set i e)) (fo' := b :: (f1 ++ fe ++ f2))
    (fun c hc _ => hnb c (fun e => hc (by simp [e]))) hk hOw hnod
    (fun c hc => by
      simp only [List.mem_cons, List.mem_append] at hc ⊢
      rcases hc with rfl | ((hc | hc) | hc)
      · exact .inl (.inl rfl)
      · exact .inl (.inr (.inl (.inl hc)))
      · exact .inr fun q e hq hcq => hed q e hq c hcq hc
      · exact .inl (.inr (.inr hc)))
    (fun c hc => by
      simp only [List.mem_cons, List.mem_append] at hc
      rcases hc with rfl | ((hc | hc) | hc)
      · exact hbB
      · exact (h.own r d hd).2.2 c (hat.sub c (by simp [hc]))
      · exact heB c hc
      · exact (h.own r d hd).2.2 c (hat.sub c (by simp [hc])))
    (fun c _ hc => hc)
  refine ⟨hv, b, q, hat.hdr, hb, hbB, ⟨u, hu⟩, not_frozen hheap, φ', r1, fun s x hs hx => ?_, fun s x hx hp => ?_, fun s x hx => ?_⟩
  · cases hxx : objOf rts s x with
    | none => exact absurd hxx hx
    | some y => exact r7 s x y hs hxx
  · by_cases hps : isPre p s = true
    · obtain ⟨t, rfl⟩ := isPre_iff hps
      rw [r6 t, hdr_append, hdr_append, r4, hat.hdr]
      simp only [Option.bind_some]
      simp only [objOf, hd, look_append, hl, Option.bind_some] at hx
      cases t with
      | nil =>
        simp only [look, Option.some.injEq] at hx
        subst hx
        exact ⟨by simp [hdr], o.setCells (cs.set i e), by simp [look], sameKind_setCells hc (by simp)⟩
      | cons j t =>
        have hji : i ≠ j := by
          rintro rfl
          rw [show p ++ i :: t = (p ++ [i]) ++ t by simp, isPre_append] at hp
          simp at hp
        simp only [look, hc] at hx
        simp only [look, cells_setCells hc, List.getElem?_set_ne hji, hdr, hb]
        split at hx
        · rename_i z hz
          obtain ⟨v2, a1, ax, a2, e3, hv2, hx2, _⟩ := OwL_split hO hz
          have : (w.setCell ⟨b, q + i, none⟩ v).cell? ⟨b, q + j, none⟩ = w.cell? ⟨b, q + j, none⟩ := World.cell?_setCell_other w ⟨b, q + i, none⟩ ⟨b, q + j, none⟩ v (by simp; omega)
          rw [this, hv2]
          refine ⟨hdr_stable t z v2 ax x hx2 (fun c hcx => hnb c (fun e => ?_)) hx, x, hx, sameKind_refl x⟩
          subst e
          have hmem : c ∈ f1 ++ fx ++ f2 := by rw [e3]; simp [hcx]
          simp only [List.mem_append] at hmem
          rcases hmem with (hm | hm) | hm
          · exact hb1 hm
          · exact hb2 hm
          · exact hb3 hm
        · simp at hx
    · have hps' : isPre p s = false := by simpa using hps
      exact r5 s x hx hps'
  · rw [List.append_assoc, r6, hdr_append, r4]
    simp only [Option.bind_some, List.singleton_append, look, cells_setCells hc, List.getElem?_set_self hlt, hdr, hb, hcell]
    exact ⟨hx, hdr_stable s e v fe x he (fun c hc => hnb c (fun e => hbe (e ▸ hc))) hx⟩

/-! ### An object is taken out of its place -/
def takeR (rts : Rn → Option D) (r : Rn) : List Nat → Rn → Option D
  | [] => putR rts r none
  | i :: p => match rts r with | some d => putR rts r (some (putAt d (i :: p) .gone)) | none => rts
theorem take_rts (σ : St) (r : Rn) (p : List Nat) : (σ.take r p).rts = takeR σ.rts r p ∧ (σ.take r p).env = σ.env := by
  cases p with
  | nil => exact ⟨rfl, rfl⟩
  | cons i p =>
    simp only [St.take, takeR, St.put]
    cases h : σ.rts r
    · simp [h]
    · simp only [h]; exact ⟨rfl, trivial⟩

theorem Rts.take (h : Rts w ok B rts ρ φ) {r : Rn} {p : List Nat} {o : D} (ho : objOf rts r p = some o) :
    ∃ hv fo φ', hdr w (ρ r) p = some hv ∧ Ow w ok o hv fo ∧ fo.Nodup ∧ (∀ b ∈ fo, B b) ∧ Rts w ok B (takeR rts r p) ρ φ' ∧
      (∀ q e, takeR rts r p q = some e → ∀ b ∈ φ' q, b ∉ fo) ∧
      (∀ q s x, objOf rts q s = some x → (q = r → isPre p s = false) → ∃ x', objOf (takeR rts r p) q s = some x' ∧ sameKind x x') ∧
      (∀ q e, takeR rts r p q = some e → ∃ e', rts q = some e' ∧ ∀ b ∈ φ' q, b ∈ φ q) := by
  have ho' := ho
  unfold objOf at ho
  split at ho
  · rename_i d hd
    obtain ⟨hv, fo, hat⟩ := h.at_ ho'
    cases p with
    | nil =>
      simp only [look, Option.some.injEq] at ho
      subst ho
      refine ⟨hv, fo, φ, hat.hdr, hat.own, hat.nod, fun b hb => (h.own r d hd).2.2 b (hat.sub b hb), h.drop r, fun q e he b hb hb' => ?_, fun q s x hx hq => ?_, fun q e he => ⟨e, putR_none he, fun b hb => hb⟩⟩
      · by_cases hqr : q = r
        · subst hqr; simp [takeR, putR] at he
        · simp only [takeR, putR, if_neg hqr] at he
          exact h.dis q r e d hqr he hd b hb (hat.sub b hb')
      · by_cases hqr : q = r
        · have := hq hqr; simp [isPre] at this
        · exact ⟨x, by simpa [takeR, objOf, putR, hqr] using hx, sameKind_refl x⟩
    | cons i p =>
      obtain ⟨φ', r1, r2, r3, r4, r5, r6, r7⟩ := h.replace hd ho hat (w' := w) (ok' := ok) (B' := B) (o' := .gone) (fo' := []) (fun b _ _ => rfl) (fun b hb => ⟨hb, rfl⟩) (by simp [Ow]) (by simp) (by simp) (by simp) (fun b _ hb => hb)
      have et : takeR rts r (i :: p) = putR rts r (some (putAt d (i :: p) .gone)) := by simp only [takeR, hd]
      rw [et]
      refine ⟨hv, fo, φ', hat.hdr, hat.own, hat.nod, fun b hb => (h.own r d hd).2.2 b (hat.sub b hb), r1, fun q e he b hb hb' => ?_, fun q s x hx hq => ?_, fun q e he => ?_⟩
      rotate_left 2
      · by_cases hqr : q = r
        · subst hqr
          refine ⟨d, hd, fun b hb => ?_⟩
          rcases r3 b hb with hb2 | hb2
          · simp at hb2
          · exact hb2.1
        · simp only [putR, if_neg hqr] at he
          exact ⟨e, he, fun b hb => by rw [r2 q hqr] at hb; exact hb⟩
      · by_cases hqr : q = r
        · subst hqr
          rcases r3 b hb with hb2 | ⟨_, hb2⟩
          · simp at hb2
          · exact hb2 hb'
        · simp only [putR, if_neg hqr] at he
          rw [r2 q hqr] at hb
          exact h.dis q r e d hqr he hd b hb (hat.sub b hb')
      · by_cases hqr : q = r
        · subst hqr
          obtain ⟨_, x', hx', hs⟩ := r5 s x hx (hq rfl)
          exact ⟨x', by simpa [objOf, putR] using hx', hs⟩
        · exact ⟨x, by simpa [objOf, putR, hqr] using hx, sameKind_refl x⟩
  · simp at ho
end
end Go.Proofs.Ytdgeponcnlkaiaa.Ab
