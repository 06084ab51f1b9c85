/- Objects leave their places, or are replaced there; maps are written. No condition. -/
import Derived.Test.YtdgeponcnlkaiaaAbS
namespace Go.Proofs.Ytdgeponcnlkaiaa.Ab
open Go
set_option linter.unusedSimpArgs false
set_option linter.unusedVariables false
set_option linter.unusedSectionVars false

section
variable {w0 w : World} {fp0 : List Nat} {ok0 ok : Nat → Prop} {W : Nat → Value} {n : Nat} {P : Program} {T : TT} {σ : St} {θ : Nat → Value} {ρ : Rn → Value} {φ : Rn → List Nat} {a : Act}

/-- The world changes where nothing is owned or shared. -/
theorem Rel.frame (h : Rel w0 fp0 ok σ θ w ρ φ) {w' : World} (hw : ∀ b, (∃ q e, σ.rts q = some e ∧ b ∈ φ q) → w'.heap[b]? = w.heap[b]?) (hk : ∀ b, ok b → w'.heap[b]? = w.heap[b]?) (hs : w.heap.size ≤ w'.heap.size) (hK : Keeps w0 fp0 w') :
    Rel w0 fp0 ok σ θ w' ρ φ := by
  have hR := h.rts_
  have hok : ∀ b, ok b → ok b ∧ w'.heap[b]? = w.heap[b]? := fun b hb => ⟨hb, hk b hb⟩
  refine Rel.of_rts (hR.mono hw hok fun b hb => ⟨hb.1, hb.2.1, Nat.lt_of_lt_of_le hb.2.2 hs⟩) (fun t => ?_) (fun b hb => Nat.lt_of_lt_of_le (h.okb b hb) hs) hK
  refine FR_same (G := fun r p => ∃ o, σ.obj r p = some o ∧ isObj o) (I := fun r m p => σ.rts r = some .itr ∧ ∃ es, σ.obj m p = some (.mp es)) ⟨hok, fun r p o hg ho => ⟨o, ho, .inl (sameKind_refl o), hR.hdr_mono hw ho⟩⟩ ⟨fun r m p b mb es hi h1 h2 h3 h4 => ?_⟩ _ _ (FR_ats _ _ (h.env t)) (h.env t)
  obtain ⟨z1, z2, z3⟩ := h.own r _ h1
  simp only [Ow] at z1
  obtain ⟨b1, m1, s1, x1, l1, y1, y2, y3⟩ := z1
  rw [h2] at y1
  injection y1 with y1; injection y1 with y1; injection y1 with y1 _ _
  subst y1
  obtain ⟨hv5, fo5, hat5⟩ := hR.at_ (r := m) (p := p) h3
  have := hat5.own
  simp only [Ow] at this
  obtain ⟨m6, en6, cl6, e6, e7, e8⟩ := this
  have e9 : hv5 = .map (some mb) := by have := hat5.hdr; rw [h4] at this; injection this with this; exact this.symm
  rw [e9] at e6
  injection e6 with e6; injection e6 with e6
  subst e6
  have hm : ∃ d, σ.rts m = some d := by
    unfold St.obj at h3
    split at h3
    · rename_i d hd; exact ⟨d, hd⟩
    · simp at h3
  obtain ⟨d5, hd5⟩ := hm
  exact ⟨h1, rfl, hw b ⟨r, _, h1, by rw [y2]; simp⟩, h3, by rw [hR.hdr_mono hw h3]; exact h4, hw mb ⟨m, d5, hd5, hat5.sub mb (by rw [e7]; simp)⟩⟩

theorem takeR_ne {rts : Rn → Option D} {r q : Rn} {p : List Nat} (h : q ≠ r) : takeR rts r p q = rts q := by
  cases p with
  | nil => simp [takeR, putR, h]
  | cons i p =>
    simp only [takeR]
    cases rts r
    · rfl
    · simp [putR, h]

/-- An object leaves its place; who named it or what lies below it is forgotten. -/
theorem Rel.takeKill (h : Rel w0 fp0 ok σ θ w ρ φ) {r : Rn} {p : List Nat} {o : D} (ho : σ.obj r p = some o) :
    ∃ hv fo φ', hdr w (ρ r) p = some hv ∧ Ow w ok o hv fo ∧ fo.Nodup ∧ (∀ b ∈ fo, Bnd w0 fp0 ok w.heap.size b) ∧ Rel w0 fp0 ok ((σ.take r p).kill r p) θ w ρ φ' ∧
      (∀ q e, (σ.take r p).rts q = some e → ∀ b ∈ φ' q, b ∉ fo) ∧ (∀ q e, (σ.take r p).rts q = some e → ∃ e', σ.rts q = some e' ∧ ∀ b ∈ φ' q, b ∈ φ q) := by
  obtain ⟨hv, fo, φ', h1, h2, h3, h4, h5, h6, h7, h8⟩ := h.rts_.take (r := r) (p := p) ho
  have et := (take_rts σ r p).1
  have ee := (take_rts σ r p).2
  refine ⟨hv, fo, φ', h1, h2, h3, h4, ?_, fun q e he => h6 q e (by rw [← et]; exact he), fun q e he => h8 q e (by rw [← et]; exact he)⟩
  have hrk : ((σ.take r p).kill r p).rts = takeR σ.rts r p := et
  refine Rel.of_rts (by rw [hrk]; exact h5) (fun t => ?_) h.okb h.frm
  show FR w ok _ ρ (if ((σ.take r p).env t).under r p then .dead else (σ.take r p).env t) (θ t)
  rw [ee]
  split
  · simp [FR]
  · rename_i hu
    refine FR_same (G := fun q s => (∃ o, σ.obj q s = some o ∧ isObj o) ∧ (q = r → isPre p s = false)) (I := fun q m s => (σ.rts q = some .itr ∧ ∃ es, σ.obj m s = some (.mp es)) ∧ q ≠ r ∧ (m = r → isPre p s = false))
      ⟨fun b hb => ⟨hb, rfl⟩, fun q s x hg hx => ?_⟩ ⟨fun q m s b mb es hi g1 g2 g3 g4 => ?_⟩ _ _ (ats_under _ (by simpa using hu) (FR_ats _ _ (h.env t))) (h.env t)
    · obtain ⟨x', k1, k2⟩ := h7 q s x hx hg.2
      exact ⟨x', by rw [obj_eq, hrk]; exact k1, .inl k2, rfl⟩
    · obtain ⟨x', k1, k2⟩ := h7 m s _ g3 hi.2.2
      have e : x' = .mp es := by cases x' <;> simp [sameKind] at k2; rw [k2]
      subst e
      exact ⟨by rw [hrk, takeR_ne hi.2.1]; exact g1, rfl, rfl, by rw [obj_eq, hrk]; exact k1, g4, rfl⟩

mutual
theorem ats_noIt {G : Rn → List Nat → Prop} {I : Rn → Rn → List Nat → Prop} : ∀ f : FV, f.hasIt = false → f.ats G I → f.ats G (fun _ _ _ => False)
  | .al .., _, g => g
  | .cu .., _, g => g
  | .pt .., _, g => g
  | .ar .., _, g => g
  | .mr .., _, g => g
  | .it .., h, _ => by simp [FV.hasIt] at h
  | .ag fs, h, g => atsL_noIt fs (by simpa [FV.hasIt] using h) g
  | .tu fs, h, g => atsL_noIt fs (by simpa [FV.hasIt] using h) g
  | .cl _ fs, h, g => atsL_noIt fs (by simpa [FV.hasIt] using h) g
  | .fb fs _, h, g => atsL_noIt fs (by simpa [FV.hasIt] using h) g
  | .d _, _, _ => trivial
  | .sp _ _, _, _ => trivial
  | .dead, _, _ => trivial
theorem atsL_noIt {G : Rn → List Nat → Prop} {I : Rn → Rn → List Nat → Prop} : ∀ fs : List FV, FV.hasItL fs = false → FV.atsL G I fs → FV.atsL G (fun _ _ _ => False) fs
  | [], _, _ => trivial
  | f :: fs, h, g => by
    simp only [FV.hasItL, Bool.or_eq_false_iff] at h
    exact ⟨ats_noIt f h.1 g.1, atsL_noIt fs h.2 g.2⟩
end

theorem Rel.dropIt (h : Rel w0 fp0 ok σ θ w ρ φ) : Rel w0 fp0 ok σ.dropIt θ w ρ φ ∧ ∀ t, (σ.dropIt.env t).hasIt = false := by
  refine ⟨h.envs fun t => ?_, fun t => ?_⟩
  · split
    · simp [FR]
    · exact h.env t
  · show (if (σ.env t).hasIt then FV.dead else σ.env t).hasIt = false
    split
    · rfl
    · rename_i hh
      simpa using hh

/-- An object is replaced in its place. -/
theorem Rel.replace (h : Rel w0 fp0 ok σ θ w ρ φ) {r : Rn} {p : List Nat} {o o' : D} {hv : Value} {fo fo' : List Nat} {w' : World} (ho : σ.obj r p = some o) (hat : At w ok σ.rts ρ φ r p o hv fo) (hn : fo'.Nodup) (hf : ∀ b ∈ fo', b ∈ fo)
    (hw : ∀ b, b < w.heap.size → b ∉ fo → w'.heap[b]? = w.heap[b]?) (hs : w.heap.size ≤ w'.heap.size) (hK : Keeps w0 fp0 w') (ho' : Ow w' ok o' hv fo') (hk : simK o o') (hsub : ∀ s x, s ≠ [] → look o s = some x → ¬ isObj x)
    (hit : ∀ t, (σ.env t).hasIt = false) : ∃ φ', Rel w0 fp0 ok (σ.put r p o') θ w' ρ φ' := by
  have ho2 := ho
  unfold St.obj at ho
  split at ho
  · rename_i d hd
    have hfb : ∀ b ∈ fo, Bnd w0 fp0 ok w.heap.size b := fun b hb => (h.own r d hd).2.2 b (hat.sub b hb)
    have hwo : ∀ b, b ∉ fo → (∃ q e, σ.rts q = some e ∧ b ∈ φ q) → w'.heap[b]? = w.heap[b]? := fun b hb ⟨q, e, he, hq⟩ => hw b ((h.own q e he).2.2 b hq).2.2 hb
    have hok : ∀ b, ok b → ok b ∧ w'.heap[b]? = w.heap[b]? := fun b hb => ⟨hb, hw b (h.okb b hb) fun hh => (hfb b hh).1 hb⟩
    obtain ⟨φ', r1, r2, r3, r4, r5, r6, r7⟩ := h.rts_.replace (w' := w') (ok' := ok) (B' := Bnd w0 fp0 ok w'.heap.size) hd ho hat hwo hok ho' hn (fun b hb => .inl (hf b hb))
      (fun b hb => ⟨(hfb b (hf b hb)).1, (hfb b (hf b hb)).2.1, Nat.lt_of_lt_of_le (hfb b (hf b hb)).2.2 hs⟩) (fun b _ hb => ⟨hb.1, hb.2.1, Nat.lt_of_lt_of_le hb.2.2 hs⟩)
    have ep : (σ.put r p o').rts = putR σ.rts r (some (putAt d p o')) := by
      simp only [St.put, hd]
      rfl
    have ee : (σ.put r p o').env = σ.env := by
      simp only [St.put, hd]
    refine ⟨φ', Rel.of_rts (by rw [ep]; exact r1) (fun t => ?_) (fun b hb => Nat.lt_of_lt_of_le (h.okb b hb) hs) hK⟩
    rw [ee]
    refine FR_same (G := fun q s => ∃ o, σ.obj q s = some o ∧ isObj o) (I := fun _ _ _ => False) ⟨hok, fun q s x hg hx => ?_⟩ ⟨fun q m s b mb es hi => hi.elim⟩ _ _ (ats_noIt _ (hit t) (FR_ats _ _ (h.env t))) (h.env t)
    by_cases hq : q = r
    · subst hq
      cases hpre : isPre p s with
      | false =>
        have hx' : objOf σ.rts q s = some x := hx
        obtain ⟨k1, x', k2, k3⟩ := r5 s x hx' hpre
        exact ⟨x', by simp only [St.obj, ep, putR, if_true]; exact k2, .inl k3, k1⟩
      | true =>
        obtain ⟨t', rfl⟩ := isPre_iff hpre
        have hlook : look o t' = some x := by
          unfold St.obj at hx
          rw [hd] at hx
          simp only [look_append, ho, Option.bind_some] at hx
          exact hx
        cases t' with
        | nil =>
          simp only [look, Option.some.injEq] at hlook
          subst hlook
          rw [List.append_nil]
          refine ⟨o', ?_, hk, by rw [r4, hat.hdr]⟩
          have := r6 []
          rw [List.append_nil] at this
          simp only [St.obj, ep, putR, if_true, this, look]
        | cons i t' =>
          obtain ⟨x2, hx2, hob⟩ := hg
          rw [hx] at hx2
          injection hx2 with hx2
          subst hx2
          exact absurd hob (hsub _ _ (by simp) hlook)
    · exact ⟨x, by simp only [St.obj, ep, putR, if_neg hq]; exact hx, .inl (sameKind_refl x), r7 q s x hq hx⟩
  · simp at ho

/-! ### Maps are written -/
def setBlk (w : World) (b : Nat) (o : Obj) : World := { w with heap := w.heap.setIfInBounds b o }
theorem mapErase {α β : Type} (f : α → β) : ∀ (l : List α) (j : Nat), (l.eraseIdx j).map f = (l.map f).eraseIdx j
  | [], _ => by simp
  | _ :: _, 0 => by simp
  | a :: r, j + 1 => by simp [mapErase f r j]
theorem setBlk_heap {w : World} {m : Nat} {o' : Obj} : (∀ b, b ≠ m → (setBlk w m o').heap[b]? = w.heap[b]?) ∧ (setBlk w m o').heap.size = w.heap.size := by
  refine ⟨fun b hb => ?_, by simp [setBlk]⟩
  simp only [setBlk]
  rw [Array.getElem?_setIfInBounds_ne (Ne.symm hb)]
theorem setBlk_at {w : World} {m : Nat} {o o' : Obj} (h : w.heap[m]? = some o) : (setBlk w m o').heap[m]? = some o' := by
  have := (Array.getElem?_eq_some_iff.1 h).1
  simp [setBlk, this]

theorem map_put (h : Stx w0 fp0 ok0 W n σ a w ok θ ρ φ) {r : Rn} {p : List Nat} {es es' : List (List Int × Int)} {m : Nat} {en en' : Array MapEntry} {cl cl' : Nat} (ho : σ.obj r p = some (.mp es)) (hh : hdr w (ρ r) p = some (.map (some m)))
    (hm : MapAt w m es en cl) (hm' : ∀ w', w'.heap[m]? = some (.map en' cl') → MapAt w' m es' en' cl') : ∃ φ', Stx w0 fp0 ok0 W n (σ.dropIt.put r p (.mp es')) a (setBlk w m (.map en' cl')) ok θ ρ φ' := by
  obtain ⟨hd, hit⟩ := h.rel.dropIt
  obtain ⟨hv, fo, hat⟩ := hd.rts_.at_ (r := r) (p := p) ho
  have e6 : hv = .map (some m) := by have := hat.hdr; rw [hh] at this; injection this with this; exact this.symm
  subst e6
  have hown := hat.own
  simp only [Ow] at hown
  obtain ⟨m', en2, cl2, e7, e8, _⟩ := hown
  injection e7 with e7; injection e7 with e7
  subst e7
  have hblk := setBlk_at (o' := .map en' cl') hm.at_
  have hbm : (m ∈ fp0 ∨ w0.heap.size ≤ m) := by
    have ho2 := ho
    unfold St.obj at ho2
    split at ho2
    · rename_i d hd2
      exact ((h.rel.own r d hd2).2.2 m (hat.sub m (by rw [e8]; simp))).2.1
    · simp at ho2
  obtain ⟨φ', h2⟩ := hd.replace (fo' := [m]) (o' := .mp es') (w' := setBlk w m (.map en' cl')) ho hat (by simp) (by rw [e8]; exact fun _ h => h)
    (fun b _ hb => setBlk_heap.1 b (by rw [e8] at hb; simpa using hb)) (by rw [setBlk_heap.2]; exact Nat.le_refl _)
    ⟨h.rel.frm.os, h.rel.frm.out, h.rel.frm.tape, by rw [setBlk_heap.2]; exact h.rel.frm.size, fun b hb hn => by
      rw [setBlk_heap.1 b (by rintro rfl; rcases hbm with hbm | hbm; exact hn hbm; omega)]; exact h.rel.frm.old b hb hn⟩
    (by simp only [Ow]; exact ⟨m, en', cl', rfl, rfl, hm' _ hblk⟩) (.inr ⟨es, es', rfl, rfl⟩)
    (fun s x hs hx => by
      cases s with
      | nil => exact absurd rfl hs
      | cons i s => simp [look, D.cells?] at hx) hit
  exact ⟨φ', h2, h.th, h.oks, h.okn, h.dfr, h.sz⟩

theorem kv_get {es : List (List Int × Int)} {en : Array MapEntry} (h : en.toList.map (fun e => (e.key, e.val)) = es.map fun x => (keyV x.1, Value.int .i64 x.2)) {j : Nat} {x : List Int × Int} (hx : es[j]? = some x) :
    ∃ e, en.toList[j]? = some e ∧ e.key = keyV x.1 ∧ e.val = .int .i64 x.2 := by
  have := congrArg (·[j]?) h
  simp only [List.getElem?_map, hx, Option.map_some] at this
  cases he : en.toList[j]? with
  | none => simp [he] at this
  | some e =>
    simp only [he, Option.map_some, Option.some.injEq, Prod.mk.injEq] at this
    exact ⟨e, rfl, this.1, this.2⟩

theorem sameBits_ints (m : Nat) : ∀ (k : List Int), ((k.map (Value.int .i64)).zip (k.map (Value.int .i64))).all (fun x => Instr.sameBits m x.1 x.2) = true
  | [] => rfl
  | n :: k => by
    simp only [List.map_cons, List.zip_cons_cons, List.all_cons, sameBits_ints m k, Bool.and_true]
    cases m <;> simp [Instr.sameBits]
theorem sameBits_key (k : List Int) : Instr.sameBits 10000 (keyV k) (keyV k) = true := by
  unfold keyV
  show Instr.sameBits (9999 + 1) _ _ = true
  simp only [Instr.sameBits, beq_self_eq_true, Bool.true_and]
  exact sameBits_ints 9999 k

theorem mapAt_push {m : Nat} {es : List (List Int × Int)} {en : Array MapEntry} {cl : Nat} (h : MapAt w m es en cl) {k : List Int} {c : Int} (hk : ∀ x ∈ es, x.1 ≠ k) (w' : World) (hw : w'.heap[m]? = some (.map (en.push { key := keyV k, val := .int .i64 c, born := cl }) (cl + 1))) :
    MapAt w' m (es ++ [(k, c)]) (en.push { key := keyV k, val := .int .i64 c, born := cl }) (cl + 1) := by
  refine ⟨hw, by simp [h.kv], fun e he => ?_, ?_, ?_⟩
  · simp only [Array.toList_push, List.mem_append, List.mem_singleton] at he
    rcases he with he | rfl
    · have := h.born e he; omega
    · simp
  · simp only [Array.toList_push, List.map_append, List.map_cons, List.map_nil]
    rw [List.nodup_append]
    refine ⟨h.uniq, by simp, fun x hx y hy => ?_⟩
    simp only [List.mem_singleton] at hy
    subst hy
    obtain ⟨e, he, rfl⟩ := List.mem_map.1 hx
    have := h.born e he
    omega
  · simp only [List.map_append, List.map_cons, List.map_nil]
    rw [List.nodup_append]
    refine ⟨h.keys, by simp, fun x hx y hy => ?_⟩
    simp only [List.mem_singleton] at hy
    subst hy
    obtain ⟨e, he, rfl⟩ := List.mem_map.1 hx
    exact hk e he

theorem set_map_same {α β : Type} (f : α → β) {l : List α} {j : Nat} {x y : α} (h : l[j]? = some x) (e : f y = f x) : (l.set j y).map f = l.map f := by
  apply List.ext_getElem?
  intro i
  rw [List.getElem?_map, List.getElem?_map, List.getElem?_set]
  split
  · rename_i hi
    subst hi
    split
    · simp [h, e]
    · rename_i hlt
      rw [List.getElem?_eq_none (by omega)] at h
      simp at h
  · rfl

theorem mapAt_set {m : Nat} {es : List (List Int × Int)} {en : Array MapEntry} {cl : Nat} (h : MapAt w m es en cl) {k : List Int} {c : Int} {j : Nat} {x : List Int × Int} (hx : es[j]? = some x) (hk : x.1 = k) (w' : World)
    (hw : w'.heap[m]? = some (.map (en.modify j fun e => { e with key := keyV k, val := .int .i64 c }) cl)) :
    MapAt w' m (es.set j (k, c)) (en.modify j fun e => { e with key := keyV k, val := .int .i64 c }) cl := by
  obtain ⟨e, he, e1, e2⟩ := kv_get h.kv hx
  have hlt : j < en.toList.length := by
    rcases Nat.lt_or_ge j en.toList.length with h' | h'
    · exact h'
    · rw [List.getElem?_eq_none h'] at he; simp at he
  have hen : (en.modify j fun e => ({ e with key := keyV k, val := .int .i64 c } : MapEntry)).toList = en.toList.set j { e with key := keyV k, val := .int .i64 c } := by
    apply List.ext_getElem?
    intro i
    rw [Array.getElem?_toList, Array.getElem?_modify, List.getElem?_set]
    by_cases hi : j = i
    · subst hi
      rw [if_pos rfl, if_pos rfl, if_pos hlt, ← Array.getElem?_toList, he]
      rfl
    · rw [if_neg hi, if_neg hi, Array.getElem?_toList]
  refine ⟨hw, ?_, fun e' he' => ?_, ?_, ?_⟩
  · rw [hen, List.map_set, h.kv, List.map_set]
  · rw [hen] at he'
    rcases List.mem_or_eq_of_mem_set he' with h' | rfl
    · exact h.born e' h'
    · exact h.born e (List.mem_of_getElem? he)
  · rw [hen, set_map_same (x := e) (y := { e with key := keyV k, val := .int .i64 c }) (fun e : MapEntry => e.born) he rfl]
    exact h.uniq
  · rw [set_map_same _ hx hk.symm]
    exact h.keys

theorem mapAt_erase {m : Nat} {es : List (List Int × Int)} {en : Array MapEntry} {cl : Nat} (h : MapAt w m es en cl) {j : Nat} (w' : World) (hw : w'.heap[m]? = some (.map (en.eraseIdxIfInBounds j) cl)) :
    MapAt w' m (es.eraseIdx j) (en.eraseIdxIfInBounds j) cl := by
  have hen : (en.eraseIdxIfInBounds j).toList = en.toList.eraseIdx j := by
    simp only [Array.eraseIdxIfInBounds]
    split
    · rw [Array.toList_eraseIdx]
    · rename_i hlt
      rw [List.eraseIdx_of_length_le (by simpa using hlt)]
  refine ⟨hw, ?_, fun e he => ?_, ?_, ?_⟩
  · rw [hen, mapErase, h.kv, mapErase]
  · rw [hen] at he
    exact h.born e ((List.eraseIdx_sublist _ _).subset he)
  · rw [hen]
    exact h.uniq.sublist ((List.eraseIdx_sublist _ _).map _)
  · exact h.keys.sublist ((List.eraseIdx_sublist _ _).map _)

theorem mapUpd_sound {C : Ctx} (hT : tabB C.P C.T = true) {o : Oper} (ho : smallO n o = true) {t : Nat} {x y z : Operand} (hop : o.op = .mapUpdate t x y z) {K : St → Prop} (hk : AMapUpd C o.dst t (opv σ x) (opv σ y) (opv σ z) σ K)
    (h : Stx w0 fp0 ok0 W n σ a w ok θ ρ φ) : Ends C.P o a w K (Ste w0 fp0 ok0 W n) := by
  unfold AMapUpd at hk
  split at hk
  · rename_i sz r p fs c ht hx hy hz
    split at hk
    · rename_i es key hes hkey
      obtain ⟨hl, hml, hk⟩ := hk
      have hxv := h.ops ho x (by rw [hop]; simp [Op.operands])
      have hyv := h.ops ho y (by rw [hop]; simp [Op.operands])
      have hzv := h.ops ho z (by rw [hop]; simp [Op.operands])
      rw [hx] at hxv
      rw [hy] at hyv
      rw [hz] at hzv
      obtain ⟨k, e, ki, ei, hki, hei, hu0, hf, ha, hs, _, _⟩ := (map_ty hT ht).out
      obtain ⟨m, en, cl, hm1, hm2, hm3⟩ := mr_map h.rel hes hxv
      have hyk := key_value hkey hyv
      subst hs
      have hfind := findKey_run hT hki hf ha hl hml hm2.kv w
      rcases midx_cases key c es 0 with ⟨h1, _, h3, _, h5⟩ | ⟨j, xx, h1, h2, h3, _, h5, _⟩
      · rw [h1] at hfind
        have hrun : (execOp a.eval o).run C.P w = .ok .skip (setBlk w m (.map (en.push { key := keyV key, val := .int .i64 c, born := cl }) (cl + 1))) := by
          simp [execOp, hop, hm1, hyk, FR_v hzv, Instr.mapUpdate, run_underlying hu0, MapKept.run_getObj_map hm2.at_, check_run hT hki hf ha hl, hfind, MapKept.run_setObj_map _ hm2.at_, setBlk]
        obtain ⟨φ', h6⟩ := map_put h (es' := mset key c es) hes hm3 hm2 (fun w' hw' => by rw [h3]; exact mapAt_push hm2 h5 w' hw')
        obtain ⟨θ2, h7⟩ := h6.put (dst := o.dst) (small_dst ho) (f := .dead) (v := undef) (by simp [FR])
        exact ends_skip hrun hk ⟨_, _, _, _, h7⟩
      · rw [h1] at hfind
        obtain ⟨e', he', e1, e2⟩ := kv_get hm2.kv h2
        have hj : en[0 + j]? = some e' := by rw [Nat.zero_add]; simpa using he'
        have hkt : (Instr.keyThatStays e'.key (keyV key)).run C.P w = .ok (keyV key) w := by
          rw [e1, h3]
          simp [Instr.keyThatStays, sameBits_key]
        have hrun : (execOp a.eval o).run C.P w = .ok .skip (setBlk w m (.map (en.modify j fun e => { e with key := keyV key, val := .int .i64 c }) cl)) := by
          simp only [execOp, hop, hm1, hyk, FR_v hzv, Instr.mapUpdate, Sem.run_bind, run_underlying hu0, Result.andThen_ok, MapKept.run_getObj_map hm2.at_, check_run hT hki hf ha hl, hfind, hj, Option.map_some, Option.getD_some, hkt, MapKept.run_setObj_map _ hm2.at_, Sem.run_pure]
          rw [Nat.zero_add]
          rfl
        obtain ⟨φ', h6⟩ := map_put h (es' := mset key c es) hes hm3 hm2 (fun w' hw' => by rw [h5]; exact mapAt_set hm2 h2 h3 w' hw')
        obtain ⟨θ2, h7⟩ := h6.put (dst := o.dst) (small_dst ho) (f := .dead) (v := undef) (by simp [FR])
        exact ends_skip hrun hk ⟨_, _, _, _, h7⟩
    · exact hk.elim
  · exact hk.elim

theorem delete_sound {C : Ctx} (hT : tabB C.P C.T = true) {o : Oper} (ho : smallO n o = true) {c : Call} {t t' : Nat} {x y : Operand} (hop : o.op = .call c) (hcb : c.callee = .builtin .delete) (hargs : c.args.toList = [x, y]) (htys : c.argTypes.toList = [t, t']) {K : St → Prop}
    (hk : ADelete C o.dst t (opv σ x) (opv σ y) σ K) (h : Stx w0 fp0 ok0 W n σ a w ok θ ρ φ) : Ends C.P o a w K (Ste w0 fp0 ok0 W n) := by
  have hargs' : c.args = #[x, y] := by rw [← Array.toList_inj]; exact hargs
  have htys' : c.argTypes = #[t, t'] := by rw [← Array.toList_inj]; exact htys
  unfold ADelete at hk
  split at hk
  · rename_i sz r p fs ht hx hy
    split at hk
    · rename_i es key hes hkey
      obtain ⟨hl, hml, hk⟩ := hk
      have hxv := h.ops ho x (by rw [hop]; simp [Op.operands, Call.operands, hcb, hargs'])
      have hyv := h.ops ho y (by rw [hop]; simp [Op.operands, Call.operands, hcb, hargs'])
      rw [hx] at hxv
      rw [hy] at hyv
      obtain ⟨k, e, ki, ei, hki, hei, hu0, hf, ha, hs, _, _⟩ := (map_ty hT ht).out
      obtain ⟨m, en, cl, hm1, hm2, hm3⟩ := mr_map h.rel hes hxv
      have hyk := key_value hkey hyv
      subst hs
      have hfind := findKey_run hT hki hf ha hl hml hm2.kv w
      rcases midx_cases key 0 es 0 with ⟨h1, _, _, h3, h5⟩ | ⟨j, xx, h1, h2, h3, _, _, h5⟩
      · rw [h1] at hfind
        have hrun : (execOp a.eval o).run C.P w = .ok (.value (.tuple #[])) (setBlk w m (.map en cl)) := by
          simp [execOp, hop, resolve, hcb, hargs', htys', invoke, builtin, hm1, hyk, Builtin.delete_, run_underlying hu0, MapKept.run_getObj_map hm2.at_, check_run hT hki hf ha hl, hfind, MapKept.run_setObj_map _ hm2.at_, setBlk]
        obtain ⟨φ', h6⟩ := map_put h (es' := mdel key es) hes hm3 hm2 (fun w' hw' => by rw [h3]; exact ⟨hw', hm2.kv, hm2.born, hm2.uniq, hm2.keys⟩)
        obtain ⟨θ2, h7⟩ := h6.put (dst := o.dst) (small_dst ho) (f := .tu []) (v := .tuple #[]) (by simp [FR, FRL])
        exact ends_value hrun hk ⟨_, _, _, _, h7⟩
      · rw [h1] at hfind
        have hrun : (execOp a.eval o).run C.P w = .ok (.value (.tuple #[])) (setBlk w m (.map (en.eraseIdxIfInBounds j) cl)) := by
          simp [execOp, hop, resolve, hcb, hargs', htys', invoke, builtin, hm1, hyk, Builtin.delete_, run_underlying hu0, MapKept.run_getObj_map hm2.at_, check_run hT hki hf ha hl, hfind, MapKept.run_setObj_map _ hm2.at_, setBlk]
        obtain ⟨φ', h6⟩ := map_put h (es' := mdel key es) hes hm3 hm2 (fun w' hw' => by rw [h5]; exact mapAt_erase hm2 w' hw')
        obtain ⟨θ2, h7⟩ := h6.put (dst := o.dst) (small_dst ho) (f := .tu []) (v := .tuple #[]) (by simp [FR, FRL])
        exact ends_value hrun hk ⟨_, _, _, _, h7⟩
    · exact hk.elim
  · exact hk.elim

/-! ### A box that is filled once -/
theorem storeCells_run {b : Nat} : ∀ (vs : List Value) (i : Nat) (w : World) (arr : Array Value) (T : Nat), w.heap[b]? = some (.cells arr T (0, 0)) → i + vs.length ≤ arr.size → (∀ v ∈ vs, v.oneCell' = true) →
    ∃ w' arr', (storeCells ⟨b, 0, none⟩ vs i).run P w = .ok () w' ∧ w'.heap[b]? = some (.cells arr' T (0, 0)) ∧ arr'.size = arr.size ∧ (∀ (j : Nat) (v : Value), vs[j]? = some v → arr'[i + j]? = some v) ∧ (∀ j, j < i → arr'[j]? = arr[j]?) ∧
      (∀ c, c ≠ b → w'.heap[c]? = w.heap[c]?) ∧ w'.heap.size = w.heap.size ∧ w'.os = w.os ∧ w'.output = w.output ∧ w'.tape = w.tape
  | [], i, w, arr, T, hb, hl, h1 => ⟨w, arr, by simp [storeCells], hb, rfl, by simp, fun _ _ => rfl, fun _ _ => rfl, rfl, rfl, rfl, rfl⟩
  | v :: vs, i, w, arr, T, hb, hl, h1 => by
    simp only [List.length_cons] at hl
    have hc : w.cell? ⟨b, i, none⟩ = some (arr[i]'(by omega)) := by
      simp [World.cell?, hb]
    have hf : w.frozen? ⟨b, i, none⟩ = false := not_frozen hb
    have hb1 : (w.setCell ⟨b, i, none⟩ v).heap[b]? = some (.cells (arr.setIfInBounds i v) T (0, 0)) := by
      simp [World.setCell, Array.getElem?_modify, hb]
    obtain ⟨w', arr', k1, k2, k3, k4, k5, k6, k7, k8, k9, k10⟩ := storeCells_run vs (i + 1) (w.setCell ⟨b, i, none⟩ v) _ T hb1 (by simp; omega) (fun u hu => h1 u (List.mem_cons_of_mem _ hu))
    refine ⟨w', arr', ?_, k2, by rw [k3]; simp, fun j u hj => ?_, fun j hj => ?_, fun c hcb => ?_, by rw [k7]; simp, by rw [k8]; rfl, by rw [k9]; rfl, by rw [k10]; rfl⟩
    · simp only [storeCells, Sem.run_bind, Addr_add, Nat.zero_add]
      rw [run_store P w _ v .plain (h1 v (List.mem_cons_self ..))]
      simp only [hc, hf, Bool.false_eq_true, if_false, Result.andThen_ok]
      exact k1
    · cases j with
      | zero =>
        simp only [List.getElem?_cons_zero, Option.some.injEq] at hj
        subst hj
        rw [Nat.add_zero, k5 i (by omega), Array.getElem?_setIfInBounds]
        rw [if_pos rfl, if_pos (by omega)]
      | succ j =>
        simp only [List.getElem?_cons_succ] at hj
        have := k4 j u hj
        rwa [show i + 1 + j = i + (j + 1) by omega] at this
    · rw [k5 j (by omega), Array.getElem?_setIfInBounds_ne (by omega)]
    · rw [k6 c hcb, Go.RowKit.Below.heap_setCell w ⟨b, i, none⟩ v c hcb]
theorem okAtom_one {f : FV} {v : Value} (hf : okAtom f = true) (h : FR w ok σ ρ f v) : v.oneCell' = true := by
  cases f with
  | d x =>
    simp only [FR] at h
    exact leaf_one hf h
  | al r p lo n' =>
    simp only [FR] at h
    obtain ⟨k, N, cs, hv, _, _, _, g4⟩ := h
    rcases g4 with ⟨_, a', N', c', _, e5⟩ | ⟨_, b', o', N', c', _, _, ⟨_, e5⟩ | ⟨_, _, _, e5⟩⟩ <;> (subst e5; rfl)
  | pt r p off =>
    simp only [FR] at h
    obtain ⟨o, cs, hv, b, q, _, _, _, _, e5⟩ := h
    subst e5; rfl
  | _ => simp [okAtom] at hf
theorem okAtoms_one : ∀ {fs : List FV} {vs : List Value}, fs.all okAtom = true → FRL w ok σ ρ fs vs → ∀ v ∈ vs, v.oneCell' = true
  | [], vs, _, h => by
    simp only [FRL] at h
    subst h
    simp
  | f :: fs, vs, hf, h => by
    simp only [List.all_cons, Bool.and_eq_true] at hf
    simp only [FRL] at h
    obtain ⟨u, us, rfl, h1, h2⟩ := h
    intro v hv
    rcases List.mem_cons.1 hv with rfl | hv
    · exact okAtom_one hf.1 h1
    · exact okAtoms_one hf.2 h2 v hv

theorem frz_sound {C : Ctx} (hT : tabB C.P C.T = true) (hz : C.nW = 0 → fp0 = []) {o : Oper} (ho : smallO n o = true) {t d : Nat} {x y : Operand} (hop : o.op = .store t x y) (hx : x = .tmp d) {K : St → Prop} (hk : AFrz C o.dst t d (opv σ y) σ K)
    (h : Stx w0 fp0 ok0 W n σ a w ok θ ρ φ) : Ends C.P o a w K (Ste w0 fp0 ok0 W n) := by
  unfold AFrz at hk
  split at hk
  · rename_i i r hi henv
    split at hk
    · rename_i cs hrts
      obtain ⟨hnw, hw, hal, hl, hcl, hun, hk⟩ := hk
      have hfp := hz hnw
      subst hx
      have hxv := h.ops ho (.tmp d) (by rw [hop]; simp [Op.operands])
      have hyv := h.ops ho y (by rw [hop]; simp [Op.operands])
      have henv2 : opv σ (.tmp d) = .pt r [] 0 := henv
      rw [henv2] at hxv
      simp only [FR] at hxv
      obtain ⟨ob, cs', hv', b', q', g1, g2, g3, g4, g5⟩ := hxv
      have hcs := whole_cells h.rel hw hyv
      have hlen := FRL_length hcs
      rw [hl, Array.length_toList] at hlen
      have hone := okAtoms_one hal hcs
      have hobj : σ.obj r [] = some (.bx cs) := by simp [St.obj, hrts, look]
      obtain ⟨hv, fo, φ1, t1, t2, t3, t4, t5, t6, t7⟩ := h.rel.takeKill hobj
      have hvr : hv = ρ r := by simpa [hdr] using t1.symm
      have hvr' : hv' = ρ r := by simpa [hdr] using g3.symm
      subst hvr
      simp only [Ow] at t2
      obtain ⟨b, arr, T, fp', e1, e2, e3, e4, _⟩ := t2
      rw [hvr', e1] at g4
      injection g4 with g4
      injection g4 with g4 g4'
      subst g4; subst g4'
      have hbfo : b ∈ fo := by rw [e2]; simp
      have hbnd := t4 b hbfo
      have hbn : w0.heap.size ≤ b := by
        rcases hbnd.2.1 with hh | hh
        · rw [hfp] at hh; simp at hh
        · exact hh
      obtain ⟨w', arr', k1, k2, k3, k4, _, k6, k7, k8, k9, k10⟩ := storeCells_run (P := C.P) (a.eval y).cells.toList 0 w arr T e3 (by rw [Array.length_toList, Nat.zero_add]; omega) hone
      have hrun : (execOp a.eval o).run C.P w = .ok .skip w' := by
        simp only [Nat.zero_add] at g5
        simp [execOp, hop, g5, Instr.storeAt, Instr.sureAddr, storeVar, (tab_ok hT hi).size, hlen, k1]
      have hKp : Keeps w0 fp0 w' := ⟨by rw [k8]; exact h.rel.frm.os, by rw [k9]; exact h.rel.frm.out, by rw [k10]; exact h.rel.frm.tape, by rw [k7]; exact h.rel.frm.size, fun c hc hcn => by rw [k6 c (by omega)]; exact h.rel.frm.old c hc hcn⟩
      have mk : ∀ {τ : St} {θτ : Nat → Value} {φτ : Rn → List Nat}, Rel w0 fp0 ok τ θτ w ρ φτ → (∀ q e, τ.rts q = some e → ∀ c ∈ φτ q, c ∉ fo) → Rel w0 fp0 (fun c => ok c ∨ c = b) τ θτ w' ρ φτ := by
        intro τ θτ φτ hR hdis
        have hne : ∀ q e, τ.rts q = some e → ∀ c ∈ φτ q, c ≠ b := fun q e he c hc hcb => hdis q e he c hc (hcb ▸ hbfo)
        have h2 := hR.frame (w' := w') (fun c ⟨q, e, he, hc⟩ => k6 c (hne q e he c hc)) (fun c hc => k6 c (fun hh => hbnd.1 (hh ▸ hc))) (by rw [k7]; exact Nat.le_refl _) hKp
        exact h2.grow' (fun c hc => .inl hc) (fun c hc => by
          rcases hc with hc | hc
          · exact h2.okb c hc
          · rw [hc, k7]; exact hbnd.2.2) (fun q e he c hc hh => by
          rcases hh with hh | hh
          · exact ((h2.own q e he).2.2 c hc).1 hh
          · exact hne q e he c hc hh)
      have h2 := mk t5 t6
      -- the atoms in the new state
      have hvia : FR w ok σ ρ (.tu (opv σ y).atoms) (.tuple (a.eval y).cells.toList.toArray) := by simp only [FR]; exact ⟨_, rfl, by simpa using hcs⟩
      have hR0 := h.rel.via hvia
      obtain ⟨hv2, fo2, φ2, s1, s2, s3, s4, s5, s6, s7⟩ := hR0.takeKill (r := r) (p := []) (o := .bx cs) (by simp [St.obj, hrts, look])
      have hfo2 : fo2 = fo := by
        have e5 : hv2 = ρ r := by simpa [hdr] using s1.symm
        obtain ⟨hv3, fo3, hat⟩ := h.rel.rts_.at_ (r := r) (p := []) (o := .bx cs) hobj
        have q1 := Ow_unique _ _ _ _ (e5 ▸ s2) (show Ow w ok (.bx cs) (ρ r) fo by
          simp only [Ow]
          exact ⟨b, arr, T, fp', e1, e2, e3, e4, by assumption⟩)
        exact q1
      have h4 := (mk s5 (by rw [← hfo2]; exact s6)).env 0
      have h5 : FR w' (fun c => ok c ∨ c = b) ((σ.take r []).kill r []) ρ (.tu (opv σ y).atoms) (.tuple (a.eval y).cells.toList.toArray) := by
        have e6 : (((({ σ with env := fun _ => FV.tu (opv σ y).atoms } : St).take r []).kill r []).env 0) = .tu (opv σ y).atoms := by
          show (if (FV.tu (opv σ y).atoms).under r [] then FV.dead else FV.tu (opv σ y).atoms) = _
          rw [show (FV.tu (opv σ y).atoms).under r [] = false from hun]
          rfl
        rw [e6] at h4
        exact FR_st (σ1 := (({ σ with env := fun _ => FV.tu (opv σ y).atoms } : St).take r []).kill r []) (σ2 := (σ.take r []).kill r []) rfl _ _ h4
      have hf : FR w' (fun c => ok c ∨ c = b) ((σ.take r []).kill r []) ρ (.fb (opv σ y).atoms 0) (.pointer (some ⟨b, 0, none⟩)) := by
        simp only [FR] at h5 ⊢
        obtain ⟨us, e7, h6⟩ := h5
        injection e7 with e7
        subst e7
        refine ⟨b, (a.eval y).cells.toList, rfl, .inr rfl, fun j v hj => ?_, by simpa using h6⟩
        have := k4 j v hj
        rw [Nat.zero_add] at this
        simpa [World.cell?, k2] using this
      have h7 := h2.upd (t := d) hf
      have hs' : Stx w0 fp0 ok0 W n { ((σ.take r []).kill r []) with env := upd ((σ.take r []).kill r []).env d (.fb (opv σ y).atoms 0) } a w' (fun c => ok c ∨ c = b) (upd θ d (.pointer (some ⟨b, 0, none⟩))) ρ φ1 := by
        refine ⟨h7, ?_, fun c hc => .inl (h.oks c hc), fun c hc => ?_, h.dfr, h.sz⟩
        · have hd : upd θ d (.pointer (some ⟨b, 0, none⟩)) = θ := by
            funext s
            simp only [Ab.upd]
            split
            · rename_i hsd
              subst hsd
              have hdn : s < n := by
                have := ho
                simp only [smallO, Bool.and_eq_true, List.all_eq_true] at this
                have h9 := this.1 (.tmp s) (by rw [hop]; simp [Op.operands])
                simpa [smallX] using h9
              have h8 := h.th.1 s (Nat.lt_of_lt_of_le hdn (by rw [← h.sz]; exact h.th.2.2))
              rw [h8]
              have : a.eval (.tmp s) = .pointer (some ⟨b, 0 + 0, none⟩) := g5
              exact this.symm
            · rfl
          rw [hd]
          exact h.th
        · rcases hc with hc | hc
          · exact h.okn c hc
          · rw [hc]; exact .inr hbn
      obtain ⟨θ2, h9⟩ := hs'.put (dst := o.dst) (small_dst ho) (f := .dead) (v := undef) (by simp [FR])
      exact ends_skip hrun hk ⟨_, _, _, _, h9⟩
    · exact hk.elim
  · exact hk.elim

end
end Go.Proofs.Ytdgeponcnlkaiaa.Ab
