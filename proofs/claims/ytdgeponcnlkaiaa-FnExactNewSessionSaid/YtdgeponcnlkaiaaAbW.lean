/- copy, ranges over maps, slices held against nil: sound. No condition. -/
import Derived.Test.YtdgeponcnlkaiaaAbV
import Derived.Laws.IdiomRangeMap
namespace Go.Proofs.Ytdgeponcnlkaiaa.Ab
open Go
set_option linter.unusedSimpArgs false
set_option linter.unusedVariables false
set_option linter.unusedSectionVars false

section
variable {w0 w : World} {fp0 : List Nat} {ok0 ok : Nat → Prop} {W : Nat → Value} {n : Nat} {P : Program} {T : TT} {σ : St} {θ : Nat → Value} {ρ : Rn → Value} {φ : Rn → List Nat} {a : Act}

theorem ShV_append : ∀ {cs cs2 : List D} {us us2 : List Value}, ShV w ok cs us → ShV w ok cs2 us2 → ShV w ok (cs ++ cs2) (us ++ us2)
  | [], cs2, us, us2, h, k => by
    simp only [ShV] at h
    subst h
    simpa using k
  | c :: cs, cs2, us, us2, h, k => by
    simp only [ShV] at h
    obtain ⟨u, vs, rfl, h1, h2⟩ := h
    simp only [List.cons_append, ShV]
    exact ⟨u, vs ++ us2, rfl, h1, ShV_append h2 k⟩
theorem ShV_take : ∀ {cs : List D} {us : List Value} (j : Nat), ShV w ok cs us → ShV w ok (cs.take j) (us.take j)
  | cs, us, 0, h => by simp [ShV]
  | [], us, j + 1, h => by
    simp only [ShV] at h
    subst h
    simp [ShV]
  | c :: cs, us, j + 1, h => by
    simp only [ShV] at h
    obtain ⟨u, vs, rfl, h1, h2⟩ := h
    simp only [List.take_succ_cons, ShV]
    exact ⟨u, vs.take j, rfl, h1, ShV_take j h2⟩
theorem ShV_drop : ∀ {cs : List D} {us : List Value} (j : Nat), ShV w ok cs us → ShV w ok (cs.drop j) (us.drop j)
  | cs, us, 0, h => by simpa using h
  | [], us, j + 1, h => by
    simp only [ShV] at h
    subst h
    simp [ShV]
  | c :: cs, us, j + 1, h => by
    simp only [ShV] at h
    obtain ⟨u, vs, rfl, h1, h2⟩ := h
    simpa using ShV_drop j h2
theorem leafL_take : ∀ {cs : List D} (j : Nat), leafL cs → leafL (cs.take j)
  | cs, 0, h => by simp [leafL]
  | [], j + 1, h => by simp [leafL]
  | c :: cs, j + 1, h => ⟨h.1, leafL_take j h.2⟩
theorem leafL_drop : ∀ {cs : List D} (j : Nat), leafL cs → leafL (cs.drop j)
  | cs, 0, h => by simpa using h
  | [], j + 1, h => by simp [leafL]
  | c :: cs, j + 1, h => leafL_drop j h.2
theorem leafL_append : ∀ {cs cs2 : List D}, leafL cs → leafL cs2 → leafL (cs ++ cs2)
  | [], _, _, k => k
  | c :: cs, cs2, h, k => ⟨h.1, leafL_append h.2 k⟩
theorem OwL_leaf {b : Nat} : ∀ {cs : List D} {o : Nat} {fp : List Nat}, leafL cs → OwL w ok b cs o fp → fp = []
  | [], o, fp, _, h => by simpa only [OwL] using h
  | c :: cs, o, fp, hl, h => by
    simp only [OwL] at h
    obtain ⟨u, f1, f2, _, rfl, h3, h4⟩ := h
    have e1 : f1 = [] := by
      have := hl.1
      cases c <;> simp [D.leaf] at this <;> simp only [Ow] at h3 <;> exact h3.1
    rw [e1, OwL_leaf hl.2 h4]
    rfl
theorem leafL_noObj : ∀ {cs : List D} {i : Nat} {x : D}, leafL cs → cs[i]? = some x → x.leaf = true
  | [], i, x, _, h => by simp at h
  | c :: cs, 0, x, hl, h => by
    simp only [List.getElem?_cons_zero, Option.some.injEq] at h
    subst h
    exact hl.1
  | c :: cs, i + 1, x, hl, h => by
    simp only [List.getElem?_cons_succ] at h
    exact leafL_noObj hl.2 h

theorem run_copy_ {t t' ty e : Nat} (ht : P.underlying t = some (.slice e)) (hsz : ∀ w : World, (sizeOf e).run P w = .ok 1 w) {base : Option Addr} {d cp m : Nat} {a' : Option Addr} {c' : Nat} {vals : List Value}
    (hf : (Builtin.firstCells 1 (min m d) (.slice a' m c')).run P w = .ok vals.toArray w) {w' : World} (hs : ∀ b, base = some b → (storeCells b vals).run P w = .ok () w') (hn : base = none → w' = w) :
    (Builtin.copy_ #[t, t'] ty #[.slice base d cp, .slice a' m c']).run P w = .ok (goInt ((min m d : Nat) : Int)) w' := by
  have hf' : (Builtin.firstCells 1 (Nat.min m d) (.slice a' m c')).run P w = .ok vals.toArray w := hf
  cases base with
  | none =>
    have := hn rfl
    subst this
    simp [Builtin.copy_, run_underlying ht, Builtin.lenOf, hsz, hf']
  | some b =>
    simp [Builtin.copy_, run_underlying ht, Builtin.lenOf, hsz, hf', hs b rfl]

theorem copy_sound {C : Ctx} (hT : tabB C.P C.T = true) {o : Oper} (ho : smallO n o = true) {c : Call} {t t' : Nat} {x y : Operand} (hop : o.op = .call c) (hcb : c.callee = .builtin .copy) (hargs : c.args.toList = [x, y]) (htys : c.argTypes.toList = [t, t']) {K : St → Prop}
    (hk : ACopy C o.dst t t' (opv σ x) (opv σ y) σ K) (h : Stx w0 fp0 ok0 W n σ a w ok θ ρ φ) : Ends C.P o a w K (Ste w0 fp0 ok0 W n) := by
  have hargs' : c.args = #[x, y] := by rw [← Array.toList_inj]; exact hargs
  have htys' : c.argTypes = #[t, t'] := by rw [← Array.toList_inj]; exact htys
  have hxv := h.ops ho x (by rw [hop]; simp [Op.operands, Call.operands, hcb, hargs'])
  have hyv := h.ops ho y (by rw [hop]; simp [Op.operands, Call.operands, hcb, hargs'])
  unfold ACopy at hk
  split at hk
  · rename_i ti ti' r p off n' hti hti' hx
    split at hk
    · rename_i e e' hke hke'
      split at hk
      · rename_i i m cs2 mv ob hi hnew hob
        split at hk
        · rename_i cs hcs
          obtain ⟨hs1, hl2, hl, hle, hk⟩ := hk
          rw [hx] at hxv
          have hxv' := hxv
          simp only [FR] at hxv
          obtain ⟨ob', cs', hv, b, q, cp, g1, g2, g3, g4, g5, g6, g7⟩ := hxv
          rw [hob] at g1
          cases g1
          rw [hcs] at g2
          cases g2
          obtain ⟨news, hR⟩ := appNew_read h.rel hnew hyv
          obtain ⟨hd, hit⟩ := h.rel.dropIt
          obtain ⟨hv', fo, hat⟩ := hd.rts_.at_ (r := r) (p := p) (o := ob) hob
          have e6 : hv' = hv := by have := hat.hdr; rw [g3] at this; injection this with this; exact this.symm
          subst e6
          have hsub : ∀ s z, s ≠ [] → look ob s = some z → ¬ isObj z := fun s z hs hz => by
            cases s with
            | nil => exact absurd rfl hs
            | cons i s =>
              simp only [look, hcs] at hz
              split at hz
              · rename_i y' hy'
                have hlf := leafL_noObj hl hy'
                cases s with
                | nil =>
                  simp only [look, Option.some.injEq] at hz
                  subst hz
                  rintro (hh | ⟨es, rfl⟩)
                  · cases y' <;> simp [D.leaf, D.cells?] at hlf hh
                  · simp [D.leaf] at hlf
                | cons j s =>
                  have : y'.cells? = none := by cases y' <;> simp [D.leaf] at hlf <;> rfl
                  simp [look, this] at hz
              · simp at hz
          obtain ⟨a', c', ex, hxr⟩ := hR.at_
          have hsz : ∀ w : World, (sizeOf e).run C.P w = .ok 1 w := fun w => by rw [← hs1]; exact (tab_ok hT hi).size w
          have hu := kd_sl (tab_ok hT hti) hke
          have hnl : (news.take (min m n')).length = min m n' := by
            rw [List.length_take, hR.len]
            omega
          have hfirst : (Builtin.firstCells 1 (min m n') (.slice a' m c')).run C.P w = .ok (news.take (min m n')).toArray w := by
            rcases hxr with rfl | ⟨b2, o2, rfl, hc2⟩
            · have hm0 : m = 0 := by simpa using hR.len.symm
              subst hm0
              cases a' <;> simp [Builtin.firstCells, loadCells, loadCellsFrom]
            · refine run_firstCells_some (P := C.P) w 1 (min m n') _ m c' _ (by rw [hnl, Nat.mul_one]) fun j v hj => ?_
              rw [Addr_add]
              refine hc2 j v ?_
              rw [List.getElem?_take] at hj
              split at hj
              · exact hj
              · simp at hj
          have hcs2 : (cs2.take (min m n')).length = min m n' := by rw [List.length_take, hR.clen]; omega
          have fin : ∀ (w' : World) (base : Option Addr) (cp : Nat), a.eval x = .slice base n' cp → (∀ b, base = some b → (storeCells b (news.take (min m n'))).run C.P w = .ok () w') → (base = none → w' = w) →
              (∃ φ', Rel w0 fp0 ok (σ.dropIt.put r p (ob.setCells (cs.take off ++ cs2.take (min m n') ++ cs.drop (off + min m n')))) θ w' ρ φ') → Ends C.P o a w K (Ste w0 fp0 ok0 W n) := by
            intro w' base cp eu hst hno ⟨φ', hrel'⟩
            have hrun := run_copy_ (P := C.P) (t' := t') (ty := o.type) (cp := cp) hu hsz hfirst hst hno
            have hrun' : (execOp a.eval o).run C.P w = .ok (.value (goInt ((min m n' : Nat) : Int))) w' := by
              rw [← eu, ← ex] at hrun
              simp [execOp, hop, resolve, hcb, hargs', htys', invoke, builtin, hrun]
            have hs : Stx w0 fp0 ok0 W n _ a w' ok θ ρ φ' := ⟨hrel', h.th, h.oks, h.okn, h.dfr, h.sz⟩
            obtain ⟨θ2, h3⟩ := hs.put (dst := o.dst) (small_dst ho) (f := .int ((min m n' : Nat) : Int)) (v := goInt ((min m n' : Nat) : Int)) (by simp only [FR, Sh]; rfl)
            exact ends_value hrun' hk ⟨_, _, _, _, h3⟩
          by_cases hce : cs = []
          · subst hce
            simp only [List.length_nil] at hle
            have hn0 : n' = 0 := by omega
            have ho0 : off = 0 := by omega
            subst hn0; subst ho0
            have hcells0 : ([] : List D).take 0 ++ cs2.take (min m 0) ++ ([] : List D).drop (0 + min m 0) = [] := by simp
            have hown : Ow w ok (ob.setCells []) hv' fo := by
              have : ob.setCells [] = ob := by cases ob <;> simp [D.cells?] at hcs <;> simp [D.setCells, hcs]
              rw [this]
              exact hat.own
            have hrep := hd.replace (o' := ob.setCells []) (w' := w) hob hat hat.nod (fun _ h => h) (fun _ _ _ => rfl) (Nat.le_refl _) h.rel.frm hown (.inl (sameKind_setCells hcs rfl)) hsub hit
            rw [hcells0] at fin
            have hnews0 : news.take (min m 0) = [] := by simp
            rw [hnews0] at fin
            rcases g7 with eu | ⟨_, a2, eu⟩
            · exact fin w _ _ eu (fun b _ => by simp [storeCells]) (fun _ => rfl) hrep
            · exact fin w _ _ eu (fun b _ => by simp [storeCells]) (fun _ => rfl) hrep
          · obtain ⟨b', o', fp', e1, e2, hOL, ⟨arr, T, hheap, hsize⟩, hreb⟩ := Ow_cells hat.own hcs hce
            rw [g4] at e1
            injection e1 with e1
            injection e1 with e1 e1'
            subst e1; subst e1'
            have hfp' := OwL_leaf hl hOL
            subst hfp'
            obtain ⟨us, u1, u2, u3⟩ := OwL_read hOL
            have hshu : ShV w ok cs us := by
              obtain ⟨us', v1, v2, v3⟩ := read_cells (w := w) (ok := ok) (b := b) cs q fun j z hj => cells_leaf h.rel hob hcs g3 g4 hj
              have : us' = us := by
                apply List.ext_getElem?
                intro j
                rcases Nat.lt_or_ge j us.length with hj | hj
                · have hj2 : j < us'.length := by rw [v1, ← u1]; exact hj
                  have k1 := u2 j us[j] (List.getElem?_eq_getElem hj)
                  have k2 := v2 j us'[j] (List.getElem?_eq_getElem hj2)
                  rw [k1] at k2
                  rw [List.getElem?_eq_getElem hj, List.getElem?_eq_getElem hj2, k2]
                · rw [List.getElem?_eq_none hj, List.getElem?_eq_none (by rw [v1, ← u1]; exact hj)]
              rw [← this]
              exact v3 hl
            have hlen2 : (cs.take off ++ cs2.take (min m n') ++ cs.drop (off + min m n')).length = cs.length := by
              rw [List.length_append, List.length_append, hcs2, List.length_take, List.length_drop]
              omega
            have hbfo : b ∈ fo := by rw [e2]; simp
            have hbb : Bnd w0 fp0 ok w.heap.size b := by
              have ho2 := hob
              unfold St.obj at ho2
              split at ho2
              · rename_i d hd2
                exact (h.rel.own r d hd2).2.2 b (hat.sub b hbfo)
              · simp at ho2
            have hone : ∀ v ∈ news.take (min m n'), v.oneCell' = true := fun v hv => OwVs_solid (leaf_solid hl2) (OwVs_leaf hl2 (hR.leaf hl2)) v (List.mem_of_mem_take hv)
            have hst := run_storeCells_at C.P b (q + off) T (news.take (min m n')) 0 arr w hheap (by rw [hnl]; omega) hone
            simp only [Nat.add_zero, hnl] at hst
            generalize hw' : w.setRow b (arr.toList.take (q + off) ++ news.take (min m n') ++ arr.toList.drop (q + off + min m n')).toArray = w' at hst
            have hnewc : w'.heap[b]? = some (.cells (arr.toList.take (q + off) ++ news.take (min m n') ++ arr.toList.drop (q + off + min m n')).toArray T (0, 0)) := by rw [← hw']; exact setRow_heap w b arr _ T _ hheap
            have hoth : ∀ z, z ≠ b → w'.heap[z]? = w.heap[z]? := fun z hz => by rw [← hw']; exact setRow_other w b z _ hz
            have hss : w'.heap.size = w.heap.size := by rw [← hw']; simp [World.setRow]
            have hK : Keeps w0 fp0 w' := ⟨by rw [← hw']; exact h.rel.frm.os, by rw [← hw']; exact h.rel.frm.out, by rw [← hw']; exact h.rel.frm.tape, by rw [hss]; exact h.rel.frm.size, fun z hz hn => by
              rw [hoth z (by rintro rfl; rcases hbb.2.1 with h | h; exact hn h; omega)]; exact h.rel.frm.old z hz hn⟩
            have hvals : OwVs w ok (cs.take off ++ cs2.take (min m n') ++ cs.drop (off + min m n')) (us.take off ++ news.take (min m n') ++ us.drop (off + min m n')) [] :=
              OwVs_leaf (leafL_append (leafL_append (leafL_take _ hl) (leafL_take _ hl2)) (leafL_drop _ hl)) (ShV_append (ShV_append (ShV_take _ hshu) (ShV_take _ (hR.leaf hl2))) (ShV_drop _ hshu))
            have hcell : ∀ (j : Nat) (v : Value), (us.take off ++ news.take (min m n') ++ us.drop (off + min m n'))[j]? = some v → w'.cell? ⟨b, q + j, none⟩ = some v := fun j v hj => by
              simp only [World.cell?, hnewc, Option.isSome_none, Bool.false_eq_true, if_false]
              rw [← Array.getElem?_toList]
              simp only
              have htl : (arr.toList.take (q + off)).length = q + off := by rw [List.length_take, Array.length_toList]; omega
              have hul : (us.take off).length = off := by rw [List.length_take, u1]; omega
              have hold : ∀ (j : Nat) (v : Value), us[j]? = some v → arr.toList[q + j]? = some v := fun j v hj => by
                have := u2 j v hj
                simp only [World.cell?, hheap, Option.isSome_none, Bool.false_eq_true, if_false] at this
                rw [Array.getElem?_toList]
                exact this
              rcases Nat.lt_or_ge j off with c1 | c1
              · rw [List.append_assoc, List.getElem?_append_left (by rw [hul]; exact c1), List.getElem?_take, if_pos c1] at hj
                rw [List.append_assoc, List.getElem?_append_left (by rw [htl]; omega), List.getElem?_take, if_pos (by omega)]
                exact hold j v hj
              · rw [List.append_assoc, List.getElem?_append_right (by rw [hul]; exact c1), hul] at hj
                rw [List.append_assoc, List.getElem?_append_right (by rw [htl]; omega), htl, show q + j - (q + off) = j - off by omega]
                rcases Nat.lt_or_ge (j - off) (min m n') with c2 | c2
                · rw [List.getElem?_append_left (by rw [hnl]; exact c2)] at hj ⊢
                  exact hj
                · rw [List.getElem?_append_right (by rw [hnl]; exact c2), hnl, List.getElem?_drop] at hj ⊢
                  have := hold _ v hj
                  rwa [show q + (off + min m n' + (j - off - min m n')) = q + off + min m n' + (j - off - min m n') by omega] at this
            have hOL' : OwL w' ok b (cs.take off ++ cs2.take (min m n') ++ cs.drop (off + min m n')) q [] := OwL_lay (fun z hz => hoth z (by rintro rfl; exact hbb.1 hz)) hvals hcell (by simp)
            have hown := hreb w' ok _ [] hlen2 ⟨_, T, hnewc, arr, T, hheap, by
              simp only [List.size_toArray, List.length_append, List.length_take, List.length_drop, Array.length_toList, hR.len]
              omega⟩ hOL'
            have hrep := hd.replace (w' := w') hob hat (fo' := [b]) (by simp) (by simpa using hbfo) (fun z _ hz => hoth z (by rintro rfl; exact hz hbfo)) (by rw [hss]; exact Nat.le_refl _) hK hown (.inl (sameKind_setCells hcs hlen2)) hsub hit
            rcases g7 with eu | ⟨hn0, a2, eu⟩
            · exact fin w' _ _ eu (fun b' hb' => by injection hb' with hb'; subst hb'; exact hst) (fun h => by simp at h) hrep
            · subst hn0
              have hnews0 : news.take (min m 0) = [] := by simp
              rw [hnews0] at hst
              have hw2 : w' = w := by
                simp only [storeCells, Sem.run_pure] at hst
                injection hst with _ hst
                exact hst.symm
              refine fin w' _ _ eu (fun b' hb' => ?_) (fun _ => hw2) hrep
              rw [hnews0, hw2]
              simp [storeCells]
        · exact hk.elim
      · exact hk.elim
    · exact hk.elim
  · exact hk.elim

/-! ### Ranges over maps -/
theorem range_sound {C : Ctx} (hT : tabB C.P C.T = true) {o : Oper} (ho : smallO n o = true) {t : Nat} {x : Operand} (hop : o.op = .range t x) {K : St → Prop} (hk : ARange C o.dst t (opv σ x) σ K) (h : Stx w0 fp0 ok0 W n σ a w ok θ ρ φ) :
    Ends C.P o a w K (Ste w0 fp0 ok0 W n) := by
  have hxv := h.ops ho x (by rw [hop]; simp [Op.operands])
  unfold ARange at hk
  split at hk
  · rename_i sz d r p ht hd hx
    split at hk
    · rename_i es hes
      obtain ⟨hr, hk⟩ := hk
      rw [hx] at hxv
      obtain ⟨k, e, ki, ei, hki, hei, hu0, _⟩ := (map_ty hT ht).out
      obtain ⟨m, en, cl, hm1, hm2, hm3⟩ := mr_map h.rel hes hxv
      have hrun : (execOp a.eval o).run C.P w = .ok (.value (.pointer (some ⟨w.heap.size, 0, none⟩))) (w.alloc (.mapIter (some m) cl #[] cl)) := by
        simp [execOp, hop, hm1, Instr.range, run_underlying hu0, MapKept.run_getObj_map hm2.at_]
      have hnew : (w.alloc (.mapIter (some m) cl #[] cl)).heap[w.heap.size]? = some (.mapIter (some m) cl #[] cl) := heap_alloc_new w _
      have h2 := (h.rel.alloc (.mapIter (some m) cl #[] cl)).root (r := (d, 0)) (d := .itr) (u := .pointer (some ⟨w.heap.size, 0, none⟩)) (fp := [w.heap.size]) hr
        (by simp only [Ow]; exact ⟨w.heap.size, some m, cl, #[], cl, rfl, rfl, hnew⟩) (by simp) (fun b hb => by
          simp only [List.mem_singleton] at hb
          subst hb
          exact fresh_bnd h.rel _)
      have hs : Stx w0 fp0 ok0 W n _ a _ ok θ _ _ := ⟨h2, h.th, h.oks, h.okn, h.dfr, h.sz⟩
      have hne : r ≠ (d, 0) := fun e => by
        subst e
        unfold St.obj at hes
        rw [hr] at hes
        simp at hes
      have hold : ∀ b, b < w.heap.size → (w.alloc (.mapIter (some m) cl #[] cl)).heap[b]? = w.heap[b]? := fun b hb => Go.RowKit.Below.heap_alloc w _ b hb
      have hm4 : (w.alloc (.mapIter (some m) cl #[] cl)).heap[m]? = some (.map en cl) := Later.heap (w := w) ⟨by simp, hold⟩ hm2.at_
      have hhdr : hdr (w.alloc (.mapIter (some m) cl #[] cl)) (ρ r) p = some (.map (some m)) := by
        rw [h.rel.rts_.hdr_mono (w' := w.alloc (.mapIter (some m) cl #[] cl)) (fun b ⟨q, e, he, hb⟩ => hold b ((h.rel.own q e he).2.2 b hb).2.2) hes]
        exact hm3
      have hf : FR (w.alloc (.mapIter (some m) cl #[] cl)) ok (σ.root (d, 0) .itr) (upR ρ (d, 0) (.pointer (some ⟨w.heap.size, 0, none⟩))) (.it (d, 0) r p es none) (.pointer (some ⟨w.heap.size, 0, none⟩)) := by
        simp only [FR]
        refine ⟨by simp [upR], by simp [St.root], w.heap.size, m, es, en, cl, #[], rfl, hnew, ?_, by simpa [upR, hne] using hhdr, ⟨hm4, hm2.kv, hm2.born, hm2.uniq, hm2.keys⟩, ?_, by simp⟩
        · simpa [St.obj, St.root, hne] using hes
        · have : (en.toList.filter fun e => !(#[] : Array Nat).contains e.born) = en.toList := List.filter_eq_self.2 (by simp)
          rw [this]
          exact hm2.kv
      exact ends_value hrun hk (hs.fin ho hd hf)
    · exact hk.elim
  · exact hk.elim

theorem filter_push {en : List MapEntry} {seen : Array Nat} {i : Nat} {e : MapEntry} (hn : (en.map (·.born)).Nodup) (h : (en.filter fun e => !seen.contains e.born)[i]? = some e) :
    (en.filter fun x => !(seen.push e.born).contains x.born) = (en.filter fun e => !seen.contains e.born).eraseIdx i := by
  induction en generalizing i with
  | nil => simp at h
  | cons x en ih =>
    have hn' : x.born ∉ en.map (·.born) ∧ (en.map (·.born)).Nodup := List.nodup_cons.1 hn
    by_cases hx : x.born ∈ seen
    · have e1 : ((x :: en).filter fun e => !seen.contains e.born) = en.filter fun e => !seen.contains e.born := by
        rw [List.filter_cons_of_neg (by simp [hx])]
      rw [e1] at h ⊢
      rw [List.filter_cons_of_neg (by simp [hx])]
      exact ih hn'.2 h
    · have e1 : ((x :: en).filter fun e => !seen.contains e.born) = x :: en.filter fun e => !seen.contains e.born := by
        rw [List.filter_cons_of_pos (by simp [hx])]
      rw [e1] at h ⊢
      cases i with
      | zero =>
        simp only [List.getElem?_cons_zero, Option.some.injEq] at h
        subst h
        rw [List.filter_cons_of_neg (by simp)]
        simp only [List.eraseIdx_cons_zero]
        apply List.filter_congr
        intro y hy
        have hne : y.born ≠ x.born := fun e => hn'.1 (by rw [← e]; exact List.mem_map.2 ⟨y, hy, rfl⟩)
        congr 1
        rw [Bool.eq_iff_iff]
        simp [hne]
      | succ i =>
        simp only [List.getElem?_cons_succ] at h
        have hem : e ∈ en := (List.mem_filter.1 (List.mem_of_getElem? h)).1
        have hne : x.born ≠ e.born := fun e' => hn'.1 (by rw [e']; exact List.mem_map.2 ⟨e, hem, rfl⟩)
        rw [List.filter_cons_of_pos (by simp [hx, hne])]
        simp only [List.eraseIdx_cons_succ]
        rw [ih hn'.2 h]

theorem next_run {ty b mb clock : Nat} {seen : Array Nat} {en : Array MapEntry} (hb : w.heap[b]? = some (.mapIter (some mb) clock seen clock)) (hm : w.heap[mb]? = some (.map en clock)) (hold : ∀ x ∈ en.toList, x.born < clock) :
    ((en.toList.filter fun e => !seen.contains e.born) = [] ∧ (Instr.next (.pointer (some ⟨b, 0, none⟩)) false ty).run P w = .ok (.tuple #[.bool false]) w) ∨
    ∃ (i : Nat) (e : MapEntry) (w1 : World), (en.toList.filter fun e => !seen.contains e.born)[i]? = some e ∧ (w1 = w ∨ w1 = w.drew) ∧
      (Instr.next (.pointer (some ⟨b, 0, none⟩)) false ty).run P w = .ok (.tuple #[.bool true, e.key, e.val]) (setBlk w1 b (.mapIter (some mb) clock (seen.push e.born) clock)) := by
  have r1 : (getObj b).run P w = .ok (.mapIter (some mb) clock seen clock) w := by simp [getObj, Sem.run, hb]
  have ht := next_test_false seen en clock clock hold (Nat.le_refl _)
  have e1 : ((en.filter fun e => !seen.contains e.born).filter fun x => decide (x.born < clock)) = en.filter fun e => !seen.contains e.born := Array.filter_eq_self.2 (fun x hx => by
    simp only [Array.mem_filter] at hx
    simpa using hold x (by simpa using hx.1))
  have e2 : ((en.filter fun e => !seen.contains e.born).filter fun x => decide (x.born ≥ clock)) = #[] := by
    rw [Array.filter_eq_empty_iff]
    intro x hx
    simp only [Array.mem_filter] at hx
    have := hold x (by simpa using hx.1)
    simp
    omega
  have htl : (en.toList.filter fun e => !seen.contains e.born) = (en.filter fun e => !seen.contains e.born).toList := by simp
  rw [htl]
  simp only [Instr.next, Sem.run_bind, r1, Result.andThen_ok, MapKept.run_getObj_map hm, ht, Bool.false_eq_true, if_false, e1, e2, Array.append_empty]
  generalize (en.filter fun e => !seen.contains e.born) = L
  by_cases h0 : L.size = 0
  · left
    have : L = #[] := Array.eq_empty_of_size_eq_zero h0
    subst this
    refine ⟨rfl, ?_⟩
    simp [choose, Sem.run, Question.forced]
  · right
    have hne : L.isEmpty = false := by simp [Array.isEmpty, h0]
    simp only [hne, Bool.false_eq_true, if_false, Array.empty_append, Array.size_map]
    have hch : ∃ (j : Nat) (w1 : World), j < L.size ∧ (w1 = w ∨ w1 = w.drew) ∧ (choose (Question.mapNext L.size)).run P w = .ok j w1 := by
      by_cases hf : L.size ≤ 1
      · exact ⟨0, w, by omega, .inl rfl, by simp [choose, Sem.run, Question.forced, hf]⟩
      · exact ⟨_, w.drew, Nat.mod_lt _ (by omega), .inr rfl, by
          simp only [choose, Sem.run, Question.forced, decide_eq_true_eq, hf, if_false, Question.cut]
          rfl⟩
    obtain ⟨j, w1, hj, hw1, hrun⟩ := hch
    refine ⟨j, L[j], w1, by simp [hj], hw1, ?_⟩
    have hb1 : w1.heap[b]? = some (.mapIter (some mb) clock seen clock) := by rcases hw1 with rfl | rfl <;> exact hb
    have hset : (setObj b (.mapIter (some mb) clock (seen.push L[j].born) clock)).run P w1 = .ok () (setBlk w1 b (.mapIter (some mb) clock (seen.push L[j].born) clock)) := by
      simp [setObj, Sem.run, hb1, setBlk]
    simp only [hrun, Result.andThen_ok, Array.getElem?_map, Array.getElem?_eq_getElem hj, Option.map_some, Sem.run_bind, hset, Sem.run_pure]

theorem next_sound {C : Ctx} {o : Oper} (ho : smallO n o = true) {x : Operand} {s : Bool} (hop : o.op = .next x s) {K : St → Prop} (hk : ANext o.dst x s σ K) (h : Stx w0 fp0 ok0 W n σ a w ok θ ρ φ) : Ends C.P o a w K (Ste w0 fp0 ok0 W n) := by
  have hxv := h.ops ho x (by rw [hop]; simp [Op.operands])
  have hsm := small_dst ho
  unfold ANext at hk
  split at hk
  · rename_i t d hdd
    split at hk
    · rename_i r m p rest cur hit
      obtain ⟨hdt, hk1, hk2⟩ := hk
      have htn : t < n := by
        simp only [smallO, hop, Op.operands, Bool.and_eq_true, List.all_cons, smallX] at ho
        simpa using ho.1
      have hfr : FR w ok σ ρ (.it r m p rest cur) (a.eval (.tmp t)) := by rw [← hit]; exact hxv
      have hfr' := hfr
      simp only [FR] at hfr
      obtain ⟨f1, f2, b, mb, es, en, clock, seen, f3, f4, f5, f6, f7, f8, f9⟩ := hfr
      have hOwr := (h.rel.own r _ f2).1
      simp only [Ow] at hOwr
      obtain ⟨b', m', s', x', l', y1, y2, y3⟩ := hOwr
      rw [← f1, f3] at y1
      injection y1 with y1; injection y1 with y1; injection y1 with y1 _ _
      subst y1
      rcases next_run (P := C.P) (ty := o.type) f4 f7.at_ f7.born with ⟨e0, hrun⟩ | ⟨i, e, w1, he, hw1, hrun⟩
      · have hrest : rest = [] := by
          rw [e0] at f8
          simpa using f8.symm
        have hrun' : (execOp a.eval o).run C.P w = .ok (.value (.tuple #[.bool false])) w := by
          simp [execOp, hop, f3, hrun]
        have hf : FR w ok σ ρ (.tu [.bool false]) (.tuple #[.bool false]) := by
          simp only [FR]
          exact ⟨_, rfl, by simp [FRL, FR, Sh]⟩
        exact ends_value hrun' (hk1 hrest) (h.fin ho hdd hf)
      · have hxr : ∃ xr : List Int × Int, rest[i]? = some xr ∧ e.key = keyV xr.1 ∧ e.val = .int .i64 xr.2 := by
          have := congrArg (·[i]?) f8
          simp only [List.getElem?_map, he, Option.map_some] at this
          cases hr : rest[i]? with
          | none => simp [hr] at this
          | some xr =>
            simp only [hr, Option.map_some, Option.some.injEq, Prod.mk.injEq] at this
            exact ⟨xr, rfl, this.1, this.2⟩
        obtain ⟨xr, hxr1, hxr2, hxr3⟩ := hxr
        have hrel1 : Rel w0 fp0 ok σ θ w1 ρ φ := by rcases hw1 with rfl | rfl; exact h.rel; exact h.rel.drew
        have hw1h : w1.heap = w.heap := by rcases hw1 with rfl | rfl <;> rfl
        generalize hw' : setBlk w1 b (.mapIter (some mb) clock (seen.push e.born) clock) = w' at hrun
        have hnewb : w'.heap[b]? = some (.mapIter (some mb) clock (seen.push e.born) clock) := by rw [← hw']; exact setBlk_at (by rw [hw1h]; exact f4)
        have hoth : ∀ z, z ≠ b → w'.heap[z]? = w1.heap[z]? := fun z hz => by rw [← hw']; exact setBlk_heap.1 z hz
        have hss : w'.heap.size = w1.heap.size := by rw [← hw']; exact setBlk_heap.2
        have hbb := (h.rel.own r _ f2).2.2 b (by rw [y2]; simp)
        have hmem : ∀ q e', q ≠ r → σ.rts q = some e' → b ∉ φ q := fun q e' hq he' hb => h.rel.dis q r e' _ hq he' f2 b hb (by rw [y2]; simp)
        have hK : Keeps w0 fp0 w' := ⟨by rw [← hw']; exact hrel1.frm.os, by rw [← hw']; exact hrel1.frm.out, by rw [← hw']; exact hrel1.frm.tape, by rw [hss]; exact hrel1.frm.size, fun z hz hn => by
          rw [hoth z (by rintro rfl; rcases hbb.2.1 with h | h; exact hn h; omega)]; exact hrel1.frm.old z hz hn⟩
        have hmne : m ≠ r := fun e => by
          subst e
          unfold St.obj at f5
          rw [f2] at f5
          cases p <;> simp [look, D.cells?] at f5
        have hobjr : ∀ s x, σ.obj r s = some x → ¬ isObj x := fun s x hx => by
          unfold St.obj at hx
          rw [f2] at hx
          cases s with
          | nil =>
            simp only [look, Option.some.injEq] at hx
            subst hx
            rintro (hh | ⟨es, hh⟩)
            · simp [D.cells?] at hh
            · simp at hh
          | cons j s => simp [look, D.cells?] at hx
        have hhdr : ∀ q s x, q ≠ r → σ.obj q s = some x → hdr w' (ρ q) s = hdr w1 (ρ q) s := fun q s x hq hx => by
          unfold St.obj at hx
          split at hx
          · rename_i dq hdq
            exact hdr_stable s dq _ _ x (hrel1.own q dq hdq).1 (fun z hz => hoth z (by rintro rfl; exact hmem q dq hq hdq hz)) hx
          · simp at hx
        have hown : ∀ q dq, σ.rts q = some dq → Ow w' ok dq (ρ q) (φ q) := fun q dq hq => by
          by_cases hqr : q = r
          · subst hqr
            rw [f2] at hq
            injection hq with hq
            subst hq
            simp only [Ow]
            exact ⟨b, some mb, clock, seen.push e.born, clock, by rw [← f1]; exact f3, y2, hnewb⟩
          · exact Ow_mono (fun z hz => ⟨hz, hoth z (by rintro rfl; exact hbb.1 hz)⟩) _ _ _ (fun z hz => hoth z (by rintro rfl; exact hmem q dq hqr hq hz)) (hrel1.own q dq hq).1
        have henv : ∀ s, FR w' ok σ ρ ((σ.env s).notIt r) (θ s) := fun s => by
          have S : Sim w1 ok σ ρ w' ok σ ρ (fun q s => ∃ o, σ.obj q s = some o ∧ isObj o) (fun r p => (r, p)) := ⟨fun z hz => ⟨hz, hoth z (by rintro rfl; exact hbb.1 hz)⟩, fun q s x hg hx => by
            have hq : q ≠ r := fun e => by
              subst e
              obtain ⟨x2, hx2, hob⟩ := hg
              exact hobjr s x2 hx2 hob
            exact ⟨x, hx, .inl (sameKind_refl x), hhdr q s x hq hx⟩⟩
          have J : ItOk w1 σ ρ w' σ ρ (fun q m s => (σ.rts q = some .itr ∧ ∃ es, σ.obj m s = some (.mp es)) ∧ q ≠ r) := ⟨fun q m' s b2 mb2 es2 hi g1 g2 g3 g4 => by
            have hOwq := (hrel1.own q _ g1).1
            simp only [Ow] at hOwq
            obtain ⟨b3, _, _, _, _, z1, z2, z3⟩ := hOwq
            rw [g2] at z1
            injection z1 with z1; injection z1 with z1; injection z1 with z1 _ _
            subst z1
            have hb2 : b2 ≠ b := by rintro rfl; exact hmem q _ hi.2 g1 (by rw [z2]; simp)
            have hm'r : m' ≠ r := fun e => by
              subst e
              exact hobjr s _ g3 (.inr ⟨es2, rfl⟩)
            obtain ⟨hv5, fo5, hat5⟩ := hrel1.rts_.at_ (r := m') (p := s) g3
            have := hat5.own
            simp only [Ow] at this
            obtain ⟨m6, en6, cl6, e6, e7, e8⟩ := this
            have e9 : hv5 = .map (some mb2) := by have := hat5.hdr; rw [g4] at this; injection this with this; exact this.symm
            rw [e9] at e6
            injection e6 with e6; injection e6 with e6
            subst e6
            have hmb : mb2 ≠ b := by
              rintro rfl
              have g3' := g3
              unfold St.obj at g3'
              split at g3'
              · rename_i d5 hd5
                exact hmem m' d5 hm'r hd5 (hat5.sub _ (by rw [e7]; simp))
              · simp at g3'
            exact ⟨g1, rfl, hoth b2 hb2, g3, by rw [hhdr m' s _ hm'r g3]; exact g4, hoth mb2 hmb⟩⟩
          have hfs := hrel1.env s
          unfold FV.notIt
          split
          · split
            · rename_i q m' p' l' c' hq
              rw [hq] at hfs
              split
              · simp [FR]
              · rename_i hqr
                have ha := FR_ats _ _ hfs
                exact FR_same S J _ _ ⟨ha, hqr⟩ hfs
            · simp [FR]
          · rename_i hh
            have ha := ats_noIt _ (by simpa using hh) (FR_ats _ _ hfs)
            exact FR_same S J _ _ (ats_mono (fun _ _ h => h) (fun _ _ _ h => h.elim) _ ha) hfs
        have hfind : en.find? (·.born == e.born) = some e := by
          rw [← Array.find?_toList]
          exact find_born e en.toList f7.uniq (List.mem_filter.1 (List.mem_of_getElem? he)).1
        have hmb : mb ≠ b := by
          rintro rfl
          have := f7.at_
          rw [f4] at this
          simp at this
        have hnewit : FR w' ok σ ρ (.it r m p (rest.eraseIdx i) (some xr)) (a.eval (.tmp t)) := by
          simp only [FR]
          refine ⟨f1, f2, b, mb, es, en, clock, seen.push e.born, f3, hnewb, f5, ?_, ⟨by rw [hoth mb hmb, hw1h]; exact f7.at_, f7.kv, f7.born, f7.uniq, f7.keys⟩, ?_, ?_⟩
          · rw [hhdr m p _ hmne f5]
            rcases hw1 with rfl | rfl
            · exact f6
            · rw [h.rel.rts_.hdr_mono (w' := w.drew) (fun _ _ => rfl) f5]
              exact f6
          · rw [filter_push f7.uniq he, mapErase, f8, mapErase]
          · intro x0 hx0
            injection hx0 with hx0
            subst hx0
            exact ⟨e.born, by simp, e, hfind, hxr2, hxr3⟩
        have hthx : θ t = a.eval (.tmp t) := h.th.1 t (Nat.lt_of_lt_of_le htn (by rw [← h.sz]; exact h.th.2.2))
        have hrel' : Rel w0 fp0 ok (σ.setIt r t (.it r m p (rest.eraseIdx i) (some xr))) θ w' ρ φ := by
          refine ⟨fun q dq hq => ⟨hown q dq hq, (hrel1.own q dq hq).2.1, fun z hz => ?_⟩, hrel1.dis, fun s => ?_, fun z hz => by rw [hss]; exact hrel1.okb z hz, hK⟩
          · have := (hrel1.own q dq hq).2.2 z hz
            exact ⟨this.1, this.2.1, by rw [hss]; exact this.2.2⟩
          · show FR w' ok _ ρ (if s = t then .it r m p (rest.eraseIdx i) (some xr) else (σ.env s).notIt r) (θ s)
            split
            · rename_i hst
              subst hst
              rw [hthx]
              exact FR_st (σ1 := σ) (σ2 := σ.setIt r s (.it r m p (rest.eraseIdx i) (some xr))) rfl _ _ hnewit
            · exact FR_st (σ1 := σ) (σ2 := σ.setIt r t (.it r m p (rest.eraseIdx i) (some xr))) rfl _ _ (henv s)
        have hrun' : (execOp a.eval o).run C.P w = .ok (.value (.tuple #[.bool true, e.key, e.val])) w' := by
          simp [execOp, hop, f3, hrun]
        have hs : Stx w0 fp0 ok0 W n _ a w' ok θ ρ φ := ⟨hrel', h.th, h.oks, h.okn, h.dfr, h.sz⟩
        have hf : FR w' ok (σ.setIt r t (.it r m p (rest.eraseIdx i) (some xr))) ρ (.tu [.bool true, .ag (xr.1.map fun n => .int n), .int xr.2]) (.tuple #[.bool true, e.key, e.val]) := by
          simp only [FR]
          refine ⟨_, rfl, ?_⟩
          simp only [FRL, FR]
          exact ⟨_, _, rfl, by simp [Sh], _, _, rfl, ⟨(xr.1.map (Value.int .i64)).toArray, by rw [hxr2]; rfl, by simpa using FRL_ints xr.1⟩, _, _, rfl, by simp [Sh, hxr3], rfl⟩
        exact ends_value hrun' (hk2 i xr hxr1) (hs.fin ho hdd hf)
    · exact hk.elim
  · exact hk.elim

end
end Go.Proofs.Ytdgeponcnlkaiaa.Ab
