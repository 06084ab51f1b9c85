/- The machine and the state step together: silent operations, new blocks, stores. No condition. -/
import Derived.Test.YtdgeponcnlkaiaaAbP
import Derived.Laws.MakeOwn
namespace Go.Proofs.Ytdgeponcnlkaiaa.Ab
open Go
set_option linter.unusedSimpArgs false
set_option linter.unusedVariables false
set_option linter.unusedSectionVars false

structure Stx (w0 : World) (fp0 : List Nat) (ok0 : Nat → Prop) (W : Nat → Value) (n : Nat) (σ : St) (a : Act) (w : World) (ok : Nat → Prop) (θ : Nat → Value) (ρ : Rn → Value) (φ : Rn → List Nat) : Prop where
  rel : Rel w0 fp0 ok σ θ w ρ φ
  th : Th a W θ
  oks : ∀ b, ok0 b → ok b
  okn : ∀ b, ok b → ok0 b ∨ w0.heap.size ≤ b
  dfr : a.defers = []
  sz : a.tmps.size = n
def Ste (w0 : World) (fp0 : List Nat) (ok0 : Nat → Prop) (W : Nat → Value) (n : Nat) (σ : St) (a : Act) (w : World) : Prop :=
  ∃ ok θ ρ φ, Stx w0 fp0 ok0 W n σ a w ok θ ρ φ

def smallX (n : Nat) : Operand → Bool
  | .tmp t => decide (t < n)
  | _ => true
def smallO (n : Nat) (o : Oper) : Bool :=
  o.op.operands.toList.all (smallX n) && (match o.dst with | some d => decide (d < n) | none => true)

section
variable {w0 w : World} {fp0 : List Nat} {ok0 ok : Nat → Prop} {W : Nat → Value} {n : Nat} {P : Program} {T : TT} {σ : St} {θ : Nat → Value} {ρ : Rn → Value} {φ : Rn → List Nat} {a : Act}

theorem Stx.opv (h : Stx w0 fp0 ok0 W n σ a w ok θ ρ φ) {x : Operand} (hx : smallX n x = true) : FR w ok σ ρ (opv σ x) (a.eval x) := by
  cases x with
  | tmp t =>
    simp only [smallX, decide_eq_true_eq] at hx
    have h1 := h.th.1 t (Nat.lt_of_lt_of_le hx (by rw [← h.sz]; exact h.th.2.2))
    show FR w ok σ ρ (σ.env t) (a.tmps.getD t undef)
    rw [← h1]
    exact h.rel.env t
  | const v =>
    show FR w ok σ ρ (constFV v) v
    unfold constFV
    split
    · rename_i cs
      simp only [FR]
      exact ⟨cs, rfl, FRL_zero _⟩
    · simp [FR, Sh]
  | global g => simp [Ab.opv, FR]
  | func f =>
    show FR w ok σ ρ (.d (.fn f [])) (.func (.func f) #[] #[])
    simp only [FR, Sh]
    exact ⟨#[], rfl, rfl⟩

theorem Stx.ops (h : Stx w0 fp0 ok0 W n σ a w ok θ ρ φ) {o : Oper} (ho : smallO n o = true) : ∀ x ∈ o.op.operands.toList, FR w ok σ ρ (Ab.opv σ x) (a.eval x) := by
  simp only [smallO, Bool.and_eq_true, List.all_eq_true] at ho
  exact fun x hx => h.opv (ho.1 x hx)
theorem small_dst {o : Oper} (ho : smallO n o = true) : ∀ d, o.dst = some d → d < n := by
  intro d hd
  simp only [smallO, Bool.and_eq_true] at ho
  have := ho.2
  rw [hd] at this
  simpa using this

theorem Stx.put (h : Stx w0 fp0 ok0 W n σ a w ok θ ρ φ) {dst : Option Nat} (hd : ∀ d, dst = some d → d < n) {f : FV} {v : Value} (hf : FR w ok σ ρ f v) : ∃ θ', Stx w0 fp0 ok0 W n (σ.set dst f) (a.put dst v) w ok θ' ρ φ := by
  cases dst with
  | none => exact ⟨θ, h⟩
  | some d =>
    exact ⟨upd θ d v, h.rel.upd hf, h.th.put (by rw [h.sz]; exact hd d rfl), h.oks, h.okn, h.dfr, by simp [Act.put, h.sz]⟩

theorem Stx.fin {o : Oper} {d : Nat} (h : Stx w0 fp0 ok0 W n σ a w ok θ ρ φ) (ho : smallO n o = true) (hd : o.dst = some d) {f : FV} {v : Value} (hf : FR w ok σ ρ f v) :
    Ste w0 fp0 ok0 W n { σ with env := upd σ.env d f } (a.put o.dst v) w := by
  obtain ⟨θ', h3⟩ := h.put (dst := o.dst) (small_dst ho) hf
  rw [hd] at h3 ⊢
  exact ⟨_, _, _, _, h3⟩

/-- What an operation comes to. -/
def Ends (P : Program) (o : Oper) (a : Act) (w : World) (K : St → Prop) (S : St → Act → World → Prop) : Prop :=
  ∀ (Kc : Act → World → Prop) (Q : Exit → Act → World → Prop), (∀ σ' a' w', K σ' → S σ' a' w' → Kc a' w') → o.wp P a w Kc Q
theorem ends_value {o : Oper} {K : St → Prop} {S : St → Act → World → Prop} {v : Value} {w' : World} {σ' : St} (hr : (execOp a.eval o).run P w = .ok (.value v) w') (hk : K σ') (hs : S σ' (a.put o.dst v) w') : Ends P o a w K S :=
  fun Kc Q hK => by
    unfold Oper.wp
    rw [hr]
    exact hK _ _ _ hk hs
theorem ends_skip {o : Oper} {K : St → Prop} {S : St → Act → World → Prop} {w' : World} {σ' : St} (hr : (execOp a.eval o).run P w = .ok .skip w') (hk : K σ') (hs : S σ' (a.put o.dst undef) w') : Ends P o a w K S :=
  fun Kc Q hK => by
    unfold Oper.wp
    rw [hr]
    exact hK _ _ _ hk hs

theorem Ends.mono {o : Oper} {K : St → Prop} {S S' : St → Act → World → Prop} (h : Ends P o a w K S) (hs : ∀ σ' a' w', S σ' a' w' → S' σ' a' w') : Ends P o a w K S' := fun Kc Q hK => h Kc Q fun σ' a' w' hk hS => hK σ' a' w' hk (hs _ _ _ hS)
theorem later_alloc (w : World) (o : Obj) : Later w (w.alloc o) := ⟨by simp, fun b hb => Go.RowKit.Below.heap_alloc w o b hb⟩

theorem silK_sound {C : Ctx} (hT : tabB C.P C.T = true) {o : Oper} (ho : smallO n o = true) {K : St → Prop} (hk : silK C o σ K) (h : Stx w0 fp0 ok0 W n σ a w ok θ ρ φ) : Ends C.P o a w K (fun σ' a' w' => Ste w0 fp0 ok0 W n σ' a' w' ∧ Later w w') := by
  unfold silK at hk
  split at hk
  · rename_i c f hs
    obtain ⟨v, h1, h2⟩ := sil_sound hT h.rel a o hs hk.1 (h.ops ho)
    obtain ⟨θ', h3⟩ := h.put (dst := o.dst) (small_dst ho) h1
    exact ends_value (h2 w fun _ => Later.refl w) hk.2 ⟨⟨_, _, _, _, h3⟩, Later.refl w⟩
  · exact hk.elim

/-! ### New blocks -/
theorem setCell_same {b i : Nat} {v : Value} (h : w.cell? ⟨b, i, none⟩ = some v) : w.setCell ⟨b, i, none⟩ v = w := by
  unfold World.cell? at h
  split at h
  · rename_i c e f hb
    simp only [Option.isSome_none, Bool.false_eq_true, if_false] at h
    have hc : c.setIfInBounds i v = c := by
      apply Array.ext'
      rw [Array.toList_setIfInBounds]
      have h' : c.toList[i]? = some v := by simpa using h
      apply List.ext_getElem?
      intro j
      rw [List.getElem?_set]
      split
      · rename_i e
        subst e
        split
        · exact h'.symm
        · rename_i hlt
          rw [List.getElem?_eq_none (by omega)] at h'
          simp at h'
      · rfl
    have : w.heap.modify b (fun x => match x with | .cells c elem frozen => .cells (if (none : Option Nat).isSome then c else c.setIfInBounds i v) elem frozen | o => o) = w.heap := by
      apply Array.ext_getElem?
      intro j
      rw [Array.getElem?_modify]
      split
      · rename_i e
        subst e
        rw [hb]
        simp [hc]
      · rfl
    exact congrArg (fun hp => ({ w with heap := hp } : World)) this
  · simp at h

theorem storeCells_same {b s : Nat} : ∀ (vs : List Value) (i : Nat), (∀ (j : Nat) (v : Value), vs[j]? = some v → w.cell? ⟨b, s + i + j, none⟩ = some v ∧ w.frozen? ⟨b, s + i + j, none⟩ = false) → (∀ v ∈ vs, v.oneCell' = true) →
    (storeCells ⟨b, s, none⟩ vs i).run P w = .ok () w
  | [], i, _, _ => by simp [storeCells]
  | v :: vs, i, h, h1 => by
    obtain ⟨h2, h3⟩ := h 0 v rfl
    rw [Nat.add_zero] at h2 h3
    simp only [storeCells, Sem.run_bind, Addr_add]
    rw [run_store P w _ v .plain (h1 v (List.mem_cons_self ..))]
    simp only [h2, h3, Bool.false_eq_true, if_false, Result.andThen_ok, setCell_same h2]
    refine storeCells_same vs (i + 1) (fun j u hj => ?_) (fun u hu => h1 u (List.mem_cons_of_mem _ hu))
    have := h (j + 1) u (by simpa using hj)
    rwa [show s + i + (j + 1) = s + (i + 1) + j by omega] at this

theorem OwL_gone (b : Nat) : ∀ (n o : Nat), (∀ j, j < n → ∃ u, w.cell? ⟨b, o + j, none⟩ = some u) → OwL w ok b (goneL n) o []
  | 0, o, _ => by simp [goneL, OwL]
  | n + 1, o, h => by
    simp only [goneL, OwL]
    obtain ⟨u, hu⟩ := h 0 (by omega)
    refine ⟨u, [], [], by simpa using hu, rfl, by simp [Ow], OwL_gone b n (o + 1) fun j hj => ?_⟩
    have := h (j + 1) (by omega)
    rwa [show o + 1 + j = o + (j + 1) by omega]
theorem goneL_length : ∀ n, (goneL n).length = n
  | 0 => rfl
  | n + 1 => by simp [goneL, goneL_length n]

/-- What is true of a frame's value stays true. -/
theorem Rel.via (h : Rel w0 fp0 ok σ θ w ρ φ) {f : FV} {u : Value} (hf : FR w ok σ ρ f u) : Rel w0 fp0 ok { σ with env := fun _ => f } (fun _ => u) w ρ φ := h.envs fun _ => FR_env _ _ hf
theorem FRL_alloc (h : Rel w0 fp0 ok σ θ w ρ φ) (o : Obj) {fs : List FV} {us : List Value} (hf : FRL w ok σ ρ fs us) : FRL (w.alloc o) ok σ ρ fs us := by
  have h1 : FR w ok σ ρ (.tu fs) (.tuple us.toArray) := by simp only [FR]; exact ⟨_, rfl, by simpa using hf⟩
  have h2 := ((h.via h1).alloc o).env 0
  have h3 := FR_st (σ1 := { σ with env := fun _ => .tu fs }) (σ2 := σ) rfl _ _ h2
  simp only [FR] at h3
  obtain ⟨vs, e, h4⟩ := h3
  injection e with e
  subst e
  simpa using h4
theorem FRL_root (h : Rel w0 fp0 ok σ θ w ρ φ) {r : Rn} {d : D} {u : Value} {fp : List Nat} (hr : σ.rts r = none) (ho : Ow w ok d u fp) (hn : fp.Nodup)
    (hb : ∀ b ∈ fp, (∀ q e, σ.rts q = some e → b ∉ φ q) ∧ Bnd w0 fp0 ok w.heap.size b) {fs : List FV} {us : List Value} (hf : FRL w ok σ ρ fs us) : FRL w ok (σ.root r d) (upR ρ r u) fs us := by
  have h1 : FR w ok σ ρ (.tu fs) (.tuple us.toArray) := by simp only [FR]; exact ⟨_, rfl, by simpa using hf⟩
  have h2 := ((h.via h1).root (r := r) (d := d) (u := u) (fp := fp) hr ho hn hb).env 0
  have h3 : FR w ok (σ.root r d) (upR ρ r u) (.tu fs) (.tuple us.toArray) := FR_st (σ1 := St.root { σ with env := fun _ => .tu fs } r d) (σ2 := σ.root r d) rfl _ _ h2
  simp only [FR] at h3
  obtain ⟨vs, e, h4⟩ := h3
  injection e with e
  subst e
  simpa using h4

theorem fresh_bnd (h : Rel w0 fp0 ok σ θ w ρ φ) (o : Obj) : (∀ q e, σ.rts q = some e → w.heap.size ∉ φ q) ∧ Bnd w0 fp0 ok (w.alloc o).heap.size w.heap.size := by
  refine ⟨fun q e he hb => ?_, fun hk => ?_, .inr h.frm.size, by simp⟩
  · have := ((h.own q e he).2.2 _ hb).2.2
    omega
  · have := h.okb _ hk
    omega

theorem cell_alloc (B : Array Value) (t : Nat) {j : Nat} {v : Value} (h : B[j]? = some v) : (w.alloc (.cells B t)).cell? ⟨w.heap.size, j, none⟩ = some v := by
  rw [World.cell?_alloc_new]
  exact h

/-- A new block with these cells, of which the frame knows something. -/
theorem new_block (h : Rel w0 fp0 ok σ θ w ρ φ) {r : Rn} {d : D} {u : Value} {B : Array Value} {t k : Nat} {l : List FV} {σ1 : St} (hr : σ.rts r = none)
    (hd : ∀ w', w'.heap[w.heap.size]? = some (.cells B t (0, 0)) → ∃ fp, Ow w' ok d u fp ∧ fp.Nodup ∧ ∀ x ∈ fp, x = w.heap.size) (hu : baseOf u = some (w.heap.size, 0)) (hs : (σ.root r d).storeL r [] k 0 l = some σ1) (hl : FRL w ok σ ρ l B.toList) :
    ∃ θ' φ', Rel w0 fp0 ok σ1 θ' (w.alloc (.cells B t)) (upR ρ r u) φ' ∧ ∀ s, s < 2000 → θ' s = θ s := by
  have hnew : (w.alloc (.cells B t)).heap[w.heap.size]? = some (.cells B t (0, 0)) := heap_alloc_new w _
  obtain ⟨fp, f1, f2, f3⟩ := hd _ hnew
  have hf : ∀ b ∈ fp, (∀ q e, σ.rts q = some e → b ∉ φ q) ∧ Bnd w0 fp0 ok (w.alloc (.cells B t)).heap.size b := fun b hb => by
    rw [f3 b hb]
    exact fresh_bnd h _
  have h2 := (h.alloc (.cells B t)).root (r := r) (d := d) (u := u) (fp := fp) hr f1 f2 hf
  have h3 := FRL_root (h.alloc (.cells B t)) (r := r) (d := d) (u := u) (fp := fp) hr f1 f2 hf (FRL_alloc h (.cells B t) hl)
  have h4 : hdr (w.alloc (.cells B t)) (upR ρ r u r) [] = some u := by simp [hdr, upR]
  obtain ⟨w', θ', φ', g1, g2, g3, h1⟩ := storeL_sound (P := (default : Program)) (s := 0) hu k l 0 (σ.root r d) θ _ _ B.toList 0 σ1 h2 hs h3 h4 rfl
  have h5 := storeCells_same (P := (default : Program)) (w := w.alloc (.cells B t)) (b := w.heap.size) (s := 0) B.toList 0 (fun j v hj => by
    simp only [Nat.zero_add]
    exact ⟨cell_alloc B t (by simpa using hj), not_frozen hnew⟩) h1
  rw [g1] at h5
  injection h5 with _ h5
  subst h5
  exact ⟨θ', φ', g2, g3⟩

theorem Th.of_lt {W θ θ' : Nat → Value} (h : Th a W θ) (he : ∀ s, s < 2000 → θ' s = θ s) : Th a W θ' :=
  ⟨fun t ht => by rw [he t (by omega)]; exact h.1 t ht, fun j hj => by rw [he _ (by omega)]; exact h.2.1 j hj, h.2.2⟩

end
end Go.Proofs.Ytdgeponcnlkaiaa.Ab
