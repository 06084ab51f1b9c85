/- make, new maps, stores: sound. No condition. -/
import Derived.Test.YtdgeponcnlkaiaaAbR
namespace Go.Proofs.Ytdgeponcnlkaiaa.Ab
open Go
set_option linter.unusedSimpArgs false
set_option linter.unusedVariables false
set_option linter.unusedSectionVars false

section
variable {w0 w : World} {fp0 : List Nat} {ok0 ok : Nat → Prop} {W : Nat → Value} {n : Nat} {P : Program} {T : TT} {σ : St} {θ : Nat → Value} {ρ : Rn → Value} {φ : Rn → List Nat} {a : Act}

theorem OwL_reps {b : Nat} {z : List Value} {k m : Nat} (hm : m ≤ k) (h : ∀ (j : Nat) (v : Value), (reps z k)[j]? = some v → w.cell? ⟨b, j, none⟩ = some v) : OwL w ok b (zerosD z m) 0 [] := by
  rw [zerosD_reps]
  refine OwL_vals _ 0 fun j v hj => ?_
  rw [Nat.zero_add]
  refine h j v ?_
  have hlt : j < m * z.length := by
    rcases Nat.lt_or_ge j (m * z.length) with h | h
    · exact h
    · rw [List.getElem?_eq_none (by rw [reps_length]; exact h)] at hj
      simp at hj
  rw [reps_get _ _ _ hlt] at hj
  rw [reps_get _ _ _ (Nat.lt_of_lt_of_le hlt (Nat.mul_le_mul_right _ hm)), hj]

theorem make_sound {C : Ctx} (hT : tabB C.P C.T = true) {o : Oper} (ho : smallO n o = true) {t : Nat} {x y : Operand} (hop : o.op = .makeSlice t x y) {K : St → Prop} (hk : AMake C o.dst t (opv σ x) (opv σ y) σ K)
    (h : Stx w0 fp0 ok0 W n σ a w ok θ ρ φ) : Ends C.P o a w K (fun σ' a' w' => Ste w0 fp0 ok0 W n σ' a' w' ∧ Later w w') := by
  unfold AMake at hk
  split at hk
  · rename_i d ti l c hd hti hx hy
    split at hk
    · rename_i e hke
      split at hk
      · rename_i i hi
        obtain ⟨hr, ⟨h0, h1, h2, h3⟩, hk⟩ := hk
        have hrow := tab_ok hT hi
        obtain ⟨tin, t1, t2, t3, z, t4, t5, t6⟩ := hrow.info
        have hu := kd_sl (tab_ok hT hti) hke
        have hxv := h.ops ho x (by rw [hop]; simp [Op.operands])
        have hyv := h.ops ho y (by rw [hop]; simp [Op.operands])
        rw [hx] at hxv
        rw [hy] at hyv
        have hB : (madeCells z.cells (c.toNat * i.size)).toList = reps i.zero c.toNat := by
          unfold madeCells
          rw [← hrow.len]
          exact zcells t5 c.toNat
        have hrun : (execOp a.eval o).run C.P w = .ok (.value (.slice (some ⟨w.heap.size, 0, none⟩) l.toNat c.toNat)) (w.alloc (.cells (madeCells z.cells (c.toNat * i.size)) e)) := by
          have := run_make (P := C.P) w t e tin z hu t1 t4 .i64 .i64 l c h0 h1 (by rw [t3]; exact h2) (by omega)
          rw [t2] at this
          simp [execOp, hop, FR_v hxv, FR_v hyv, this]
        generalize hBB : madeCells z.cells (c.toNat * i.size) = B at hB hrun
        have hBs : B.size = c.toNat * i.size := by rw [← hBB, size_madeCells]
        have hnew : (w.alloc (.cells B e)).heap[w.heap.size]? = some (.cells B e (0, 0)) := heap_alloc_new w _
        obtain ⟨fp, f1, f2, f3⟩ := ow_new (ok := ok) (i := i) (len := l.toNat) (cp := c.toNat) hnew hBs.symm (by omega) (cs := zerosD i.zero l.toNat) (by rw [zerosD_reps, List.length_map, reps_length, hrow.len])
          (OwL_reps (k := c.toNat) (by omega) fun j v hj => cell_alloc B e (by rw [← hB] at hj; simpa using hj))
        have h2' := (h.rel.alloc (.cells B e)).root (r := (d, 0)) hr f1 f2 (fun b hb => by rw [f3 b hb]; exact fresh_bnd h.rel _)
        have hs : Stx w0 fp0 ok0 W n _ a _ ok θ _ _ := ⟨h2', h.th, h.oks, h.okn, h.dfr, h.sz⟩
        have hf : FR (w.alloc (.cells B e)) ok (σ.root (d, 0) (.ow i.size l.toNat (zerosD i.zero l.toNat))) (upR ρ (d, 0) (.slice (some ⟨w.heap.size, 0, none⟩) l.toNat c.toNat)) (.al (d, 0) [] 0 l.toNat) (.slice (some ⟨w.heap.size, 0, none⟩) l.toNat c.toNat) := by
          simp only [FR]
          exact ⟨i.size, l.toNat, zerosD i.zero l.toNat, .slice (some ⟨w.heap.size, 0, none⟩) l.toNat c.toNat, by simp [St.obj, St.root, look], by simp [hdr, upR], by omega, .inl ⟨rfl, _, _, _, rfl, rfl⟩⟩
        exact ends_value hrun hk ⟨hs.fin ho hd hf, later_alloc w _⟩
      · exact hk.elim
    · exact hk.elim
  · exact hk.elim

theorem makeMap_sound {C : Ctx} {o : Oper} (ho : smallO n o = true) {t d : Nat} (hop : o.op = .makeMap t none) (hd : o.dst = some d) {K : St → Prop} (hr : σ.rts (d, 0) = none) (hk : K { (σ.root (d, 0) (.mp [])) with env := upd σ.env d (.mr (d, 0) []) })
    (h : Stx w0 fp0 ok0 W n σ a w ok θ ρ φ) : Ends C.P o a w K (fun σ' a' w' => Ste w0 fp0 ok0 W n σ' a' w' ∧ Later w w') := by
  have hrun : (execOp a.eval o).run C.P w = .ok (.value (.map (some w.heap.size))) (w.alloc (.map #[] 0)) := by
    simp [execOp, hop, Instr.makeMap]
  have hnew : (w.alloc (.map #[] 0)).heap[w.heap.size]? = some (.map #[] 0) := heap_alloc_new w _
  have h2 := (h.rel.alloc (.map #[] 0)).root (r := (d, 0)) (d := .mp []) (u := .map (some w.heap.size)) (fp := [w.heap.size]) hr
    (by simp only [Ow]
        exact ⟨w.heap.size, #[], 0, rfl, rfl, ⟨hnew, rfl, by simp, by simp, by simp⟩⟩)
    (by simp) (fun b hb => by
      simp only [List.mem_singleton] at hb
      subst hb
      exact fresh_bnd h.rel _)
  have hs : Stx w0 fp0 ok0 W n _ a _ ok θ _ _ := ⟨h2, h.th, h.oks, h.okn, h.dfr, h.sz⟩
  have hf : FR (w.alloc (.map #[] 0)) ok (σ.root (d, 0) (.mp [])) (upR ρ (d, 0) (.map (some w.heap.size))) (.mr (d, 0) []) (.map (some w.heap.size)) := by
    simp only [FR]
    exact ⟨[], .map (some w.heap.size), by simp [St.obj, St.root, look], by simp [hdr, upR], rfl⟩
  exact ends_value hrun hk ⟨hs.fin ho hd hf, later_alloc w _⟩

theorem store_sound {C : Ctx} (hT : tabB C.P C.T = true) {o : Oper} (ho : smallO n o = true) {t : Nat} {x y : Operand} (hop : o.op = .store t x y) {K : St → Prop} (hk : AStore C o.dst t (opv σ x) (opv σ y) σ K)
    (h : Stx w0 fp0 ok0 W n σ a w ok θ ρ φ) : Ends C.P o a w K (Ste w0 fp0 ok0 W n) := by
  unfold AStore at hk
  split at hk
  · rename_i i r p off hi hx
    obtain ⟨hw, hl, hk⟩ := hk
    split at hk
    · rename_i σ1 hs
      have hxv := h.ops ho x (by rw [hop]; simp [Op.operands])
      have hyv := h.ops ho y (by rw [hop]; simp [Op.operands])
      rw [hx] at hxv
      simp only [FR] at hxv
      obtain ⟨ob, cs, hv, b, q, g1, g2, g3, g4, g5⟩ := hxv
      have hcs := whole_cells h.rel hw hyv
      have hlen := FRL_length hcs
      rw [hl, Array.length_toList] at hlen
      obtain ⟨w', θ', φ', k1, k2, k3, k4⟩ := storeL_sound (P := C.P) (s := q + off) g4 i.size (opv σ y).atoms off σ θ w φ (a.eval y).cells.toList 0 σ1 h.rel hs hcs g3 rfl
      have hrun : (execOp a.eval o).run C.P w = .ok .skip w' := by
        simp [execOp, hop, g5, Instr.storeAt, Instr.sureAddr, storeVar, (tab_ok hT hi).size, hlen, k1]
      have hs' : Stx w0 fp0 ok0 W n σ1 a w' ok θ' ρ φ' := ⟨k2, h.th.of_lt k3, h.oks, h.okn, h.dfr, h.sz⟩
      obtain ⟨θ2, h3⟩ := hs'.put (dst := o.dst) (small_dst ho) (f := .dead) (v := undef) (by simp [FR])
      exact ends_skip hrun hk ⟨_, _, _, _, h3⟩
    · exact hk.elim
  · exact hk.elim

end
end Go.Proofs.Ytdgeponcnlkaiaa.Ab
