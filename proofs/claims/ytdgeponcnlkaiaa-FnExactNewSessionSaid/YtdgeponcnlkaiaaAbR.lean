/- New variables, new slices, new maps, stores: sound. No condition. -/
import Derived.Test.YtdgeponcnlkaiaaAbQ
namespace Go.Proofs.Ytdgeponcnlkaiaa.Ab
open Go
set_option linter.unusedSimpArgs false
set_option linter.unusedVariables false
set_option linter.unusedSectionVars false

section
variable {w0 w : World} {fp0 : List Nat} {ok0 ok : Nat → Prop} {W : Nat → Value} {n : Nat} {P : Program} {T : TT} {σ : St} {θ : Nat → Value} {ρ : Rn → Value} {φ : Rn → List Nat} {a : Act}

theorem OwL_vals {b : Nat} : ∀ (zs : List Value) (o : Nat), (∀ (j : Nat) (v : Value), zs[j]? = some v → w.cell? ⟨b, o + j, none⟩ = some v) → OwL w ok b (zs.map .v) o []
  | [], o, _ => by simp [OwL]
  | z :: zs, o, h => by
    simp only [List.map_cons, OwL]
    refine ⟨z, [], [], by simpa using h 0 z rfl, rfl, by simp [Ow], OwL_vals zs (o + 1) fun j v hj => ?_⟩
    have := h (j + 1) v (by simpa using hj)
    rwa [show o + 1 + j = o + (j + 1) by omega]

def reps (z : List Value) : Nat → List Value
  | 0 => []
  | n + 1 => z ++ reps z n
theorem reps_length (z : List Value) : ∀ n, (reps z n).length = n * z.length
  | 0 => by simp [reps]
  | n + 1 => by simp only [reps, List.length_append, reps_length z n, Nat.add_mul, Nat.one_mul]; omega
theorem zerosD_reps (z : List Value) : ∀ n, zerosD z n = (reps z n).map .v
  | 0 => rfl
  | n + 1 => by simp [zerosD, reps, zerosD_reps z n]
theorem reps_get (z : List Value) : ∀ (n j : Nat), j < n * z.length → (reps z n)[j]? = z[j % z.length]?
  | 0, j, h => by simp at h
  | n + 1, j, h => by
    simp only [reps]
    by_cases hj : j < z.length
    · rw [List.getElem?_append_left hj, Nat.mod_eq_of_lt hj]
    · have hj' : z.length ≤ j := Nat.le_of_not_lt hj
      rw [List.getElem?_append_right hj', reps_get z n (j - z.length) (by rw [Nat.add_mul, Nat.one_mul] at h; omega), Nat.mod_eq_sub_mod hj']
theorem zcells {z : Array Value} {zs : List Value} (hz : z.toList = zs) (n : Nat) : ((Array.range (n * zs.length)).map fun i => z[i % z.size]!).toList = reps zs n := by
  subst hz
  apply List.ext_getElem?
  intro j
  rw [Array.toList_map, List.getElem?_map, Array.toList_range]
  by_cases hj : j < n * z.toList.length
  · rw [reps_get _ _ _ hj, List.getElem?_range hj]
    have hpos : 0 < z.size := by
      rcases Nat.eq_zero_or_pos z.size with h | h
      · simp [h] at hj
      · exact h
    have hm := Nat.mod_lt j hpos
    simp [hm]
  · rw [List.getElem?_eq_none (by simpa using hj), List.getElem?_eq_none (by rw [reps_length]; omega)]
    rfl

theorem alloc_sound {C : Ctx} (hT : tabB C.P C.T = true) {o : Oper} (ho : smallO n o = true) {t : Nat} (hop : o.op = .alloc t) {K : St → Prop} (hk : AAlloc C o.dst t σ K) (h : Stx w0 fp0 ok0 W n σ a w ok θ ρ φ) : Ends C.P o a w K (fun σ' a' w' => Ste w0 fp0 ok0 W n σ' a' w' ∧ Later w w') := by
  unfold AAlloc at hk
  split at hk
  · rename_i d i hd hi
    obtain ⟨hr, hk⟩ := hk
    obtain ⟨z, z1, z2, z3⟩ := (tab_ok hT hi).zeroV
    have hrun : (execOp a.eval o).run C.P w = .ok (.value (.pointer (some ⟨w.heap.size, 0, none⟩))) (w.alloc (.cells z.cells t)) := by
      simp [execOp, hop, Instr.alloc, z3, newVar, newRow]
    have hnew : (w.alloc (.cells z.cells t)).heap[w.heap.size]? = some (.cells z.cells t (0, 0)) := heap_alloc_new w _
    have h2 := (h.rel.alloc (.cells z.cells t)).root (r := (d, 0)) (d := .bx (i.zero.map .v)) (u := .pointer (some ⟨w.heap.size, 0, none⟩)) (fp := [w.heap.size]) hr
      (by simp only [Ow]
          refine ⟨w.heap.size, z.cells, t, [], rfl, rfl, hnew, by rw [List.length_map, ← z1, Array.length_toList]; exact Nat.le_refl _, OwL_vals _ 0 fun j v hj => ?_⟩
          rw [Nat.zero_add]
          exact cell_alloc z.cells t (by rw [← z1] at hj; simpa using hj))
      (by simp) (fun b hb => by
        simp only [List.mem_singleton] at hb
        subst hb
        exact fresh_bnd h.rel _)
    have hs : Stx w0 fp0 ok0 W n (σ.root (d, 0) (.bx (i.zero.map .v))) a (w.alloc (.cells z.cells t)) ok θ (upR ρ (d, 0) (.pointer (some ⟨w.heap.size, 0, none⟩))) (upR φ (d, 0) [w.heap.size]) := ⟨h2, h.th, h.oks, h.okn, h.dfr, h.sz⟩
    have hf : FR (w.alloc (.cells z.cells t)) ok (σ.root (d, 0) (.bx (i.zero.map .v))) (upR ρ (d, 0) (.pointer (some ⟨w.heap.size, 0, none⟩))) (.pt (d, 0) [] 0) (.pointer (some ⟨w.heap.size, 0, none⟩)) := by
      simp only [FR]
      exact ⟨.bx (i.zero.map .v), i.zero.map .v, .pointer (some ⟨w.heap.size, 0, none⟩), w.heap.size, 0, by simp [St.obj, St.root, look], rfl, by simp [hdr, upR], rfl, rfl⟩
    exact ends_value hrun hk ⟨hs.fin ho hd hf, later_alloc w _⟩
  · exact hk.elim

theorem store1_obj {r : Rn} {off : Nat} {f : FV} {σ σ2 : St} (h1 : σ.store1 r [] off f = some σ2) : ∃ σ3 o2 cs2 e, σ3.obj r [] = some o2 ∧ o2.cells? = some cs2 ∧ σ2.obj r [] = some (o2.setCells (cs2.set off e)) ∧
    (∃ σ4, (σ4 = σ ∨ σ4 = σ.kill r ([] ++ [off])) ∧ St.absorb σ4 f r ([] ++ [off]) = some (e, σ3)) := by
  unfold St.store1 at h1
  split at h1
  · rename_i o1 ho1
    split at h1
    · rename_i cs1 hc1
      split at h1
      · rename_i old hold
        split at h1
        · rename_i e σ3 h3
          split at h1
          · rename_i o2 ho2
            split at h1
            · rename_i cs2 hc2
              injection h1 with h1
              subst h1
              refine ⟨σ3, o2, cs2, e, ho2, hc2, ?_, ?_⟩
              · unfold St.obj at ho2
                split at ho2
                · rename_i d hd
                  simp only [St.put, St.obj, hd, if_true, putAt, look]
                · simp at ho2
              · split at h3
                · exact ⟨σ, .inl rfl, h3⟩
                · exact ⟨_, .inr rfl, h3⟩
            · simp at h1
          · simp at h1
        · simp at h1
      · simp at h1
    · simp at h1
  · simp at h1

theorem take_obj {σ : St} {r q : Rn} {s : List Nat} {o d : D} (h : (σ.take q s).obj r [] = some o) (hd : σ.obj r [] = some d) : sameKind d o := by
  have e0 : σ.rts r = some d := by
    unfold St.obj at hd
    split at hd
    · rename_i x hx
      simp only [look, Option.some.injEq] at hd
      subst hd
      exact hx
    · simp at hd
  cases s with
  | nil =>
    simp only [St.take, St.obj] at h
    by_cases e : r = q
    · simp [e] at h
    · simp only [e, if_false, e0, look, Option.some.injEq] at h
      subst h
      exact sameKind_refl _
  | cons i s =>
    simp only [St.take, St.put] at h
    split at h
    · rename_i x hx
      simp only [St.obj] at h
      by_cases e : r = q
      · subst e
        rw [e0] at hx
        injection hx with hx
        subst hx
        simp only [if_true, look, Option.some.injEq] at h
        subst h
        cases hc : d.cells? with
        | none =>
          simp only [putAt, hc]
          exact sameKind_refl _
        | some cs =>
          simp only [putAt, hc]
          exact sameKind_setCells hc (by simp)
      · simp only [e, if_false, e0, look, Option.some.injEq] at h
        subst h
        exact sameKind_refl _
    · simp only [St.obj, e0, look, Option.some.injEq] at h
      subst h
      exact sameKind_refl _

theorem absorb_obj {σ σ3 : St} {f : FV} {r r' : Rn} {p' : List Nat} {e o d : D} (h : σ.absorb f r' p' = some (e, σ3)) (ho : σ3.obj r [] = some o) (hd : σ.obj r [] = some d) : sameKind d o := by
  have env : ∀ (τ : St) (g : Nat → FV), ({ τ with env := g } : St).obj r [] = τ.obj r [] := fun _ _ => rfl
  unfold St.absorb at h
  split at h
  · split at h
    · injection h with h
      injection h with h1 h2
      subst h2
      rw [ho] at hd
      injection hd with hd
      subst hd
      exact sameKind_refl _
    · simp at h
  · split at h
    · split at h
      · injection h with h
        injection h with h1 h2
        subst h2
        exact take_obj (by simpa only [St.obj] using ho) hd
      · simp at h
    · simp at h
  · split at h
    · split at h
      · injection h with h
        injection h with h1 h2
        subst h2
        exact take_obj (by simpa only [St.obj] using ho) hd
      · simp at h
    · simp at h
  · split at h
    · injection h with h
      injection h with h1 h2
      subst h2
      exact take_obj (by simpa only [St.obj] using ho) hd
    · simp at h
  · simp at h

theorem store1_kind {r : Rn} {off : Nat} {f : FV} {σ σ2 : St} {d : D} (h1 : σ.store1 r [] off f = some σ2) (hd : σ.obj r [] = some d) : ∃ o, σ2.obj r [] = some o ∧ sameKind d o := by
  obtain ⟨σ3, o2, cs2, e, g1, g2, g3, σ4, g4, g5⟩ := store1_obj h1
  have hd4 : σ4.obj r [] = some d := by rcases g4 with rfl | rfl <;> exact hd
  exact ⟨_, g3, sameKind_trans (absorb_obj g5 g1 hd4) (sameKind_setCells g2 (by simp))⟩

theorem storeL_same {r : Rn} : ∀ {m off : Nat} {σ : St} {l : List FV} {σ1 : St} {d : D}, σ.storeL r [] m off l = some σ1 → σ.obj r [] = some d → ∃ o, σ1.obj r [] = some o ∧ sameKind d o := by
  intro m
  induction m with
  | zero =>
    intro off σ l σ1 d hs hd
    cases l with
    | nil =>
      simp only [St.storeL, Option.some.injEq] at hs
      subst hs
      exact ⟨d, hd, sameKind_refl d⟩
    | cons f fs => simp [St.storeL] at hs
  | succ m ih =>
    intro off σ l σ1 d hs hd
    cases l with
    | nil =>
      simp only [St.storeL, Option.some.injEq] at hs
      subst hs
      exact ⟨d, hd, sameKind_refl d⟩
    | cons f fs =>
      simp only [St.storeL] at hs
      split at hs
      · split at hs
        · rename_i σ2 h2
          obtain ⟨o, g1, g2⟩ := store1_kind h2 hd
          obtain ⟨o', g3, g4⟩ := ih hs g1
          exact ⟨o', g3, sameKind_trans g2 g4⟩
        · simp at hs
      · split at hs
        · rename_i σ2 h2
          obtain ⟨o, g1, g2⟩ := store1_kind (σ := { σ with env := pend fs 2000 σ.env }) h2 hd
          obtain ⟨o', g3, g4⟩ := ih hs g1
          exact ⟨o', g3, sameKind_trans g2 g4⟩
        · simp at hs
theorem storeL_kind {r : Rn} {m off : Nat} {σ : St} {l : List FV} {σ1 : St} {k N : Nat} {cs : List D} (hs : σ.storeL r [] m off l = some σ1) (hd : σ.obj r [] = some (.ow k N cs)) : ∃ cs', σ1.obj r [] = some (.ow k N cs') := by
  obtain ⟨o, g1, g2⟩ := storeL_same hs hd
  obtain ⟨cs', rfl, _⟩ := simK_ow (.inl g2)
  exact ⟨cs', g1⟩
theorem storeL_root {r : Rn} {m off : Nat} {σ : St} {l : List FV} {σ1 : St} {cs : List D} (hs : σ.storeL r [] m off l = some σ1) (hd : σ.obj r [] = some (.bx cs)) : ∃ o' cs', σ1.obj r [] = some o' ∧ o'.cells? = some cs' := by
  obtain ⟨o, g1, g2⟩ := storeL_same hs hd
  obtain ⟨cs', g3, _⟩ := simK_cells (.inl g2) rfl
  exact ⟨o, cs', g1, g3⟩

theorem box_sound {C : Ctx} (hT : tabB C.P C.T = true) {o : Oper} (ho : smallO n o = true) {t : Nat} {x : Operand} (hop : o.op = .box t x) {K : St → Prop} (hk : ABox C o.dst t (opv σ x) σ K) (h : Stx w0 fp0 ok0 W n σ a w ok θ ρ φ) :
    Ends C.P o a w K (fun σ' a' w' => Ste w0 fp0 ok0 W n σ' a' w' ∧ Later w w') := by
  unfold ABox at hk
  split at hk
  · rename_i d i hd hi
    obtain ⟨hr, hw, hl, hk⟩ := hk
    split at hk
    · rename_i σ1 hs
      have hx := h.ops ho x (by rw [hop]; simp [Op.operands])
      have hcs := whole_cells h.rel hw hx
      have hlen := FRL_length hcs
      rw [hl, Array.length_toList] at hlen
      have hrun : (execOp a.eval o).run C.P w = .ok (.value (.pointer (some ⟨w.heap.size, 0, none⟩))) (w.alloc (.cells (a.eval x).cells t)) := by
        simp [execOp, hop, Instr.box, newVar, newRow]
      obtain ⟨θ', φ', h2, h3⟩ := new_block (t := t) (u := .pointer (some ⟨w.heap.size, 0, none⟩)) (d := .bx (goneL i.size)) h.rel hr (fun w' hb => by
        refine ⟨[w.heap.size], ?_, by simp, by simp⟩
        simp only [Ow]
        refine ⟨w.heap.size, _, t, [], rfl, rfl, hb, by rw [goneL_length, hlen]; exact Nat.le_refl _, OwL_gone _ _ _ fun j hj => ?_⟩
        refine ⟨(a.eval x).cells[j]'(by omega), ?_⟩
        simp [World.cell?, hb]) rfl hs hcs
      have hs' : Stx w0 fp0 ok0 W n σ1 a (w.alloc (.cells (a.eval x).cells t)) ok θ' (upR ρ (d, 0) (.pointer (some ⟨w.heap.size, 0, none⟩))) φ' := ⟨h2, h.th.of_lt h3, h.oks, h.okn, h.dfr, h.sz⟩
      obtain ⟨o', cs', g1, g2⟩ := storeL_root (cs := goneL i.size) hs (by simp [St.obj, St.root, look])
      have hf : FR (w.alloc (.cells (a.eval x).cells t)) ok σ1 (upR ρ (d, 0) (.pointer (some ⟨w.heap.size, 0, none⟩))) (.pt (d, 0) [] 0) (.pointer (some ⟨w.heap.size, 0, none⟩)) := by
        simp only [FR]
        exact ⟨o', cs', .pointer (some ⟨w.heap.size, 0, none⟩), w.heap.size, 0, g1, g2, by simp [hdr, upR], rfl, rfl⟩
      exact ends_value hrun hk ⟨hs'.fin ho hd hf, later_alloc w _⟩
    · exact hk.elim
  · exact hk.elim

/-- More may be shared. -/
theorem Rel.grow' (h : Rel w0 fp0 ok σ θ w ρ φ) {okn : Nat → Prop} (hk : ∀ b, ok b → okn b) (hl : ∀ b, okn b → b < w.heap.size) (hn : ∀ q e, σ.rts q = some e → ∀ b ∈ φ q, ¬ okn b) : Rel w0 fp0 okn σ θ w ρ φ := by
  refine ⟨fun r d hd => ?_, h.dis, fun t => ?_, hl, h.frm⟩
  · obtain ⟨h1, h2, h3⟩ := h.own r d hd
    exact ⟨Ow_mono (fun b hb => ⟨hk b hb, rfl⟩) d _ _ (fun _ _ => rfl) h1, h2, fun b hb => ⟨hn r d hd b hb, (h3 b hb).2⟩⟩
  · refine FR_same (G := fun _ _ => True) (I := fun _ _ _ => True) ⟨fun b hb => ⟨hk b hb, rfl⟩, fun r p o _ ho => ⟨o, ho, .inl (sameKind_refl o), rfl⟩⟩ ⟨fun r m p b mb es _ h1 h2 h3 h4 => ⟨h1, rfl, rfl, h3, h4, rfl⟩⟩ _ _ ?_ (h.env t)
    exact ats_mono (fun _ _ _ => trivial) (fun _ _ _ _ => trivial) _ (FR_ats _ _ (h.env t))

/-- A box that nobody writes. -/
theorem fb_sound {C : Ctx} {o : Oper} (ho : smallO n o = true) {t : Nat} {x : Operand} (hop : o.op = .box t x) {K : St → Prop} (hk : AFb C o.dst t (opv σ x) σ K) (h : Stx w0 fp0 ok0 W n σ a w ok θ ρ φ) :
    Ends C.P o a w K (fun σ' a' w' => Ste w0 fp0 ok0 W n σ' a' w' ∧ Later w w') := by
  unfold AFb at hk
  split at hk
  · rename_i d i hd hi
    obtain ⟨hw, hk⟩ := hk
    have hx := h.ops ho x (by rw [hop]; simp [Op.operands])
    have hcs := whole_cells h.rel hw hx
    have hrun : (execOp a.eval o).run C.P w = .ok (.value (.pointer (some ⟨w.heap.size, 0, none⟩))) (w.alloc (.cells (a.eval x).cells t)) := by
      simp [execOp, hop, Instr.box, newVar, newRow]
    have hcs2 := FRL_alloc h.rel (.cells (a.eval x).cells t) hcs
    have h1 := h.rel.alloc (.cells (a.eval x).cells t)
    have h2 := h1.grow' (okn := fun b => ok b ∨ b = w.heap.size) (fun b hb => .inl hb) (fun b hb => by
      rcases hb with hb | hb
      · exact h1.okb b hb
      · rw [hb]; simp) (fun q e he b hb hh => by
      rcases hh with hh | hh
      · exact ((h1.own q e he).2.2 b hb).1 hh
      · have := ((h.rel.own q e he).2.2 b hb).2.2
        omega)
    have hs' : Stx w0 fp0 ok0 W n σ a (w.alloc (.cells (a.eval x).cells t)) (fun b => ok b ∨ b = w.heap.size) θ ρ φ := ⟨h2, h.th, fun b hb => .inl (h.oks b hb), fun b hb => by
      rcases hb with hb | hb
      · exact h.okn b hb
      · rw [hb]; exact .inr h.rel.frm.size, h.dfr, h.sz⟩
    have hf : FR (w.alloc (.cells (a.eval x).cells t)) (fun b => ok b ∨ b = w.heap.size) σ ρ (.fb (opv σ x).atoms 0) (.pointer (some ⟨w.heap.size, 0, none⟩)) := by
      simp only [FR]
      refine ⟨w.heap.size, (a.eval x).cells.toList, rfl, .inr rfl, fun j v hj => cell_alloc _ t (by simpa using hj), ?_⟩
      have h3 : FR (w.alloc (.cells (a.eval x).cells t)) ok σ ρ (.tu (opv σ x).atoms) (.tuple (a.eval x).cells.toList.toArray) := by simp only [FR]; exact ⟨_, rfl, by simpa using hcs2⟩
      have h4 := ((h1.via h3).grow' (okn := fun b => ok b ∨ b = w.heap.size) (fun b hb => .inl hb) (fun b hb => by
        rcases hb with hb | hb
        · exact h1.okb b hb
        · rw [hb]; simp) (fun q e he b hb hh => by
        rcases hh with hh | hh
        · exact ((h1.own q e he).2.2 b hb).1 hh
        · have := ((h.rel.own q e he).2.2 b hb).2.2
          omega)).env 0
      have h5 := FR_st (σ1 := { σ with env := fun _ => .tu (opv σ x).atoms }) (σ2 := σ) rfl _ _ h4
      simp only [FR] at h5
      obtain ⟨vs, e, h6⟩ := h5
      injection e with e
      subst e
      simpa using h6
    exact ends_value hrun hk ⟨hs'.fin ho hd hf, later_alloc w _⟩
  · exact hk.elim

theorem zeros_FRL (zs : List Value) (k : Nat) : FRL w ok σ ρ ((zerosD zs k).map .d) (reps zs k) := by
  rw [zerosD_reps, List.map_map]
  exact FRL_zero _

theorem ow_new {i : TI} {len cp b : Nat} {B : Array Value} {T : Nat} {w' : World} (hb : w'.heap[b]? = some (.cells B T (0, 0))) (hB : cp * i.size = B.size) (hl : len ≤ cp) {cs : List D} (hc : cs.length = len * i.size) (hcs : OwL w' ok b cs 0 []) :
    ∃ fp, Ow w' ok (.ow i.size len cs) (.slice (some ⟨b, 0, none⟩) len cp) fp ∧ fp.Nodup ∧ ∀ x ∈ fp, x = b := by
  rcases Nat.eq_zero_or_pos cp with h0 | h0
  · subst h0
    have : len = 0 := by omega
    subst this
    refine ⟨[], ?_, by simp, by simp⟩
    simp only [Ow]
    exact .inl ⟨trivial, List.eq_nil_of_length_eq_zero (by simpa using hc), trivial, _, rfl⟩
  · refine ⟨[b], ?_, by simp, by simp⟩
    simp only [Ow]
    exact .inr ⟨b, 0, cp, B, T, [], rfl, rfl, hb, ⟨hl, by omega⟩, by rw [Nat.mul_comm, hB]; omega, by rw [hc, Nat.mul_comm], hcs⟩

theorem buildSlice_run {t e len size : Nat} {parts : Array (Nat × Value)} {z : Value} {B : Array Value} (hu : P.underlying t = some (.slice e)) (hsz : ∀ w : World, (sizeOf e).run P w = .ok size w) (hz : ∀ w : World, (zeroValue e).run P w = .ok z w)
    (hle : len * size ≤ 16777216) (zz : Array Value) (hzz : zz = if len * size = 0 then #[] else z.cells)
    (hb : Instr.fill (fun j => some (j * size, size)) ((Array.range (len * size)).map (fun j => zz[j % zz.size]!)) parts.toList = some B) (w : World) :
    (Instr.buildSlice t len parts).run P w = .ok (.slice (some ⟨w.heap.size, 0, none⟩) len len) (w.alloc (.cells B e)) := by
  have hle' : ¬ (len * size > 2 ^ 24) := by omega
  unfold Instr.buildSlice
  rw [Sem.run_bind, run_underlying hu, Result.andThen_ok]
  simp only []
  rw [Sem.run_bind, hsz, Result.andThen_ok, if_neg hle']
  by_cases h0 : len * size = 0
  · rw [if_pos h0] at hzz
    subst hzz
    rw [if_pos h0, Sem.run_bind, Sem.run_pure, Result.andThen_ok, hb]
    simp [newRow]
  · rw [if_neg h0] at hzz
    subst hzz
    rw [if_neg h0, Sem.run_bind, hz, Result.andThen_ok, Sem.run_bind, Sem.run_pure, Result.andThen_ok, hb]
    simp [newRow]

theorem buildSlice_sound {C : Ctx} (hT : tabB C.P C.T = true) {o : Oper} (ho : smallO n o = true) {t len : Nat} {parts : Array (Nat × Operand)} (hop : o.op = .buildSlice t len parts) {K : St → Prop}
    (hk : ABuildSlice C o.dst t len (parts.toList.map fun x => (x.1, opv σ x.2)) σ K) (h : Stx w0 fp0 ok0 W n σ a w ok θ ρ φ) : Ends C.P o a w K (fun σ' a' w' => Ste w0 fp0 ok0 W n σ' a' w' ∧ Later w w') := by
  unfold ABuildSlice at hk
  split at hk
  · rename_i d ti hd hti
    split at hk
    · rename_i e hke
      split at hk
      · rename_i i hi
        obtain ⟨hr, hle, hk⟩ := hk
        split at hk
        · rename_i l hl
          split at hk
          · rename_i σ1 hs
            have hrow := tab_ok hT hi
            obtain ⟨z, z1, z2, z3⟩ := hrow.zeroV
            have hu := kd_sl (tab_ok hT hti) hke
            have hp : FRP w ok σ ρ (parts.toList.map fun x => (x.1, opv σ x.2)) (parts.map fun (i, x) => (i, a.eval x)).toList := by
              rw [Array.toList_map]
              exact FRP_of _ fun x hx => h.ops ho x (by rw [hop]; simpa [Op.operands] using hx)
            let zz : Array Value := if len * i.size = 0 then #[] else z.cells
            let A : Array Value := (Array.range (len * i.size)).map (fun j => zz[j % zz.size]!)
            have hA : A.toList = reps i.zero len := by
              show ((Array.range (len * i.size)).map (fun j => zz[j % zz.size]!)).toList = _
              by_cases h0 : len * i.size = 0
              · have : (reps i.zero len).length = 0 := by rw [reps_length, hrow.len, h0]
                rw [List.eq_nil_of_length_eq_zero this, h0]
                simp
              · have : zz = z.cells := if_neg h0
                rw [this, ← hrow.len]
                exact zcells z1 len
            obtain ⟨B, b1, b2, b3⟩ := fill_sound h.rel (place' := fun j => some (j * i.size, i.size)) (fun _ _ h => h) _ _ _ l A hp (by rw [hA]; exact zeros_FRL _ _) hl
            have hBs : B.size = len * i.size := by rw [b3]; show ((Array.range (len * i.size)).map _).size = _; simp
            have hrun : (execOp a.eval o).run C.P w = .ok (.value (.slice (some ⟨w.heap.size, 0, none⟩) len len)) (w.alloc (.cells B e)) := by
              have hb1 : Instr.fill (fun j => some (j * i.size, i.size)) ((Array.range (len * i.size)).map (fun j => zz[j % zz.size]!)) (parts.map fun (i, x) => (i, a.eval x)).toList = some B := b1
              have := buildSlice_run hu hrow.size z3 hle zz rfl hb1 w
              simp [execOp, hop, this]
            have hg : ∀ w' : World, w'.heap[w.heap.size]? = some (.cells B e (0, 0)) → OwL w' ok w.heap.size (goneL (len * i.size)) 0 [] := fun w' hb =>
              OwL_gone _ _ _ fun j hj => ⟨B[j]'(by omega), by simp [World.cell?, hb]⟩
            obtain ⟨θ', φ', h2, h3⟩ := new_block (t := e) (u := .slice (some ⟨w.heap.size, 0, none⟩) len len) (d := .ow i.size len (goneL (len * i.size))) h.rel hr
              (fun w' hb => ow_new hb hBs.symm (Nat.le_refl _) (goneL_length _) (hg w' hb)) rfl hs b2
            have hs' : Stx w0 fp0 ok0 W n σ1 a (w.alloc (.cells B e)) ok θ' (upR ρ (d, 0) (.slice (some ⟨w.heap.size, 0, none⟩) len len)) φ' := ⟨h2, h.th.of_lt h3, h.oks, h.okn, h.dfr, h.sz⟩
            have hf : FR (w.alloc (.cells B e)) ok σ1 (upR ρ (d, 0) (.slice (some ⟨w.heap.size, 0, none⟩) len len)) (.al (d, 0) [] 0 len) (.slice (some ⟨w.heap.size, 0, none⟩) len len) := by
              obtain ⟨cs', g1⟩ := storeL_kind hs (k := i.size) (N := len) (cs := goneL (len * i.size)) (by simp [St.obj, St.root, look])
              simp only [FR]
              exact ⟨i.size, len, cs', .slice (some ⟨w.heap.size, 0, none⟩) len len, g1, by simp [hdr, upR], by omega, .inl ⟨rfl, _, _, _, rfl, rfl⟩⟩
            exact ends_value hrun hk ⟨hs'.fin ho hd hf, later_alloc w _⟩
          · exact hk.elim
        · exact hk.elim
      · exact hk.elim
    · exact hk.elim
  · exact hk.elim

end
end Go.Proofs.Ytdgeponcnlkaiaa.Ab
