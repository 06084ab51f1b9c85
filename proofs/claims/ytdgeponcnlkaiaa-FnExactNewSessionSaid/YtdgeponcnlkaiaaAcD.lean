/- What a body's end hands out; a call's promise from the body. No condition. -/
import Derived.Test.YtdgeponcnlkaiaaAcC
namespace Go.Proofs.Ytdgeponcnlkaiaa.Ab
open Go
set_option linter.unusedSimpArgs false
set_option linter.unusedVariables false
set_option linter.unusedSectionVars false

/-! ### Results are taken out of the store -/
/-- One value that leaves: its tree, the store without it. -/
def exportD (σ : St) (f : FV) : Option (D × St) :=
  match f with
  | .d x => if x.leaf then some (x, σ) else none
  | .al r p lo n => (match σ.obj r p with | some (.ow k N cs) => if lo = 0 then some (.ow k n (takeCells k n N cs), (σ.take r p).kill r p) else none | _ => none)
  | .pt r p o => (match σ.obj r p with | some (.bx cs) => if o = 0 then some (.bx cs, (σ.take r p).kill r p) else none | _ => none)
  | .mr r p => (match σ.obj r p with | some (.mp es) => some (.mp es, (σ.take r p).kill r p) | _ => none)
  | _ => none
def exportN : St → Nat → Nat → Option (List D × St)
  | σ, _, 0 => some ([], σ)
  | σ, t, n + 1 => match exportD σ (σ.env t) with
    | some (d, σ1) => (match exportN σ1 (t + 1) n with | some (ds, σ2) => some (d :: ds, σ2) | none => none)
    | none => none
/-- Atoms of all results; how they go together again. -/
def atomsL : List FV → List FV
  | [] => []
  | f :: r => f.atoms ++ atomsL r
def groupR : List FV → List D → Option (List RV)
  | [], [] => some []
  | .ag gs :: r, ds => (match groupR r (ds.drop gs.length) with | some l => some (.ag (ds.take gs.length) :: l) | none => none)
  | _ :: r, d :: ds => (match groupR r ds with | some l => some (.one d :: l) | none => none)
  | _, _ => none
def resVals (T : TT) (σ : St) : List ResultVar → Option (List FV)
  | [] => some []
  | .tmp t :: r => (match resVals T σ r with | some l => some (σ.env t :: l) | none => none)
  | .cell a t :: r => (match loadF T σ t (σ.env a), resVals T σ r with | some f, some l => some (f :: l) | _, _ => none)
/-- What is asked where a body ends: the results are taken out, then what was lent for writing. -/
def endK (C : Ctx) (rs : List ResultVar) (pure : Bool) (Q : List D → List RV → Prop) (σ : St) : Prop :=
  match resVals C.T σ rs with
  | some fs => (∀ f ∈ fs, f.whole = true) ∧ (match exportN { σ with env := pend (atomsL fs) 3000 σ.env } 3000 (atomsL fs).length with
    | some (ds, σ1) => (match groupR fs ds, exportN σ1 1000 C.nW with
      | some res, some (outs, _) => (pure = true → noShR res ∧ noShL outs) ∧ Q outs res
      | _, _ => False)
    | none => False)
  | none => False
def endQ (C : Ctx) (rs : List ResultVar) (pure : Bool) (Q : List D → List RV → Prop) : AEx → St → Prop
  | .normal, σ => endK C rs pure Q σ
  | .ret, σ => endK C rs pure Q σ
  | .exit _, _ => False

section
variable {w0 w : World} {fp0 : List Nat} {ok0 ok : Nat → Prop} {W : Nat → Value} {n : Nat} {σ : St} {θ : Nat → Value} {ρ : Rn → Value} {φ : Rn → List Nat} {a : Act} {P : Program} {T : TT}

structure Taken (w0 w : World) (fp0 : List Nat) (ok : Nat → Prop) (σ σ1 : St) (φ φ1 : Rn → List Nat) (fx : List Nat) : Prop where
  nod : fx.Nodup
  bl : ∀ b ∈ fx, Bnd w0 fp0 ok w.heap.size b ∧ ∀ q e, σ1.rts q = some e → b ∉ φ1 q
  sub : ∀ q e, σ1.rts q = some e → ∃ e', σ.rts q = some e' ∧ ∀ b ∈ φ1 q, b ∈ φ q
  from_ : ∀ b ∈ fx, ∃ q e, σ.rts q = some e ∧ b ∈ φ q

theorem takeKill_taken (h : Rel w0 fp0 ok σ θ w ρ φ) {r : Rn} {p : List Nat} {o : D} (ho : σ.obj r p = some o) : ∃ hv fo φ1, hdr w (ρ r) p = some hv ∧ Ow w ok o hv fo ∧ Rel w0 fp0 ok ((σ.take r p).kill r p) θ w ρ φ1 ∧ Taken w0 w fp0 ok σ ((σ.take r p).kill r p) φ φ1 fo := by
  obtain ⟨hv, fo, φ1, h1, h2, h3, h4, h5, h6, h7⟩ := h.takeKill ho
  refine ⟨hv, fo, φ1, h1, h2, h5, h3, fun b hb => ⟨h4 b hb, fun q e he hbq => h6 q e he b hbq hb⟩, h7, fun b hb => ?_⟩
  obtain ⟨hv', fo', hat⟩ := h.rts_.at_ (r := r) (p := p) ho
  have e : hv' = hv := by have := hat.hdr; rw [h1] at this; injection this with this; exact this.symm
  subst e
  have e2 := Ow_unique _ _ _ _ hat.own h2
  subst e2
  obtain ⟨d, hd, _⟩ := obj_root ho
  exact ⟨r, d, hd, hat.sub b hb⟩

theorem exportD_sound (h : Rel w0 fp0 ok σ θ w ρ φ) {f : FV} {d : D} {σ1 : St} {u : Value} (hs : exportD σ f = some (d, σ1)) (hu : FR w ok σ ρ f u) :
    ∃ φ1 fx, Rel w0 fp0 ok σ1 θ w ρ φ1 ∧ Ow w ok d u fx ∧ Taken w0 w fp0 ok σ σ1 φ φ1 fx := by
  unfold exportD at hs
  split at hs
  · rename_i x
    split at hs
    · rename_i hl
      injection hs with hs
      injection hs with h1 h2
      subst h1; subst h2
      simp only [FR] at hu
      exact ⟨φ, [], h, Ow_leaf hl hu, by simp, by simp, fun q e he => ⟨e, he, fun _ h => h⟩, by simp⟩
    · simp at hs
  · rename_i r p lo n'
    split at hs
    · rename_i k N cs ho
      split at hs
      · rename_i hlo
        subst hlo
        injection hs with hs
        injection hs with h1 h2
        subst h1; subst h2
        obtain ⟨hv, fo, φ1, g1, g2, g3, g4⟩ := takeKill_taken h ho
        simp only [FR] at hu
        obtain ⟨k', N', cs', hv', q1, q2, q3, q4⟩ := hu
        rw [ho] at q1
        cases q1
        rw [g1] at q2
        injection q2 with q2
        subst q2
        rcases q4 with ⟨_, a', N2, c', e4, e5⟩ | ⟨hlo, _⟩
        · have hcl := ow_len h ho
          have hcs : takeCells k n' N cs = cs.take (k * n') := by
            unfold takeCells
            split
            · rename_i hN
              subst hN
              rw [List.take_of_length_le (by rw [hcl]; exact Nat.le_refl _)]
            · rfl
          rw [hcs]
          simp only [Ow] at g2
          rcases g2 with ⟨rfl, rfl, rfl, a0, e6⟩ | ⟨b, o, c, arr, T, fp', e6, rfl, h5, h6, h7, h8, h9⟩
          · rw [e6] at e4
            cases e4
            have hn : n' = 0 := by omega
            subst hn
            refine ⟨φ1, [], g3, ?_, by simp, by simp, g4.sub, by simp⟩
            simp only [Ow]
            exact .inl ⟨trivial, by simp, trivial, _, e5⟩
          · rw [e6] at e4
            cases e4
            obtain ⟨us, u1, u2, u3⟩ := OwL_read h9
            obtain ⟨f1, f2, rfl, u4⟩ := OwVs_take (k * n') u3
            have hnod := g4.nod
            simp only [List.nodup_cons, List.mem_append, not_or] at hnod
            have hle : k * n' ≤ cs.length := by rw [h8]; exact Nat.mul_le_mul_left _ (by omega)
            refine ⟨φ1, b :: f1, g3, ?_, List.nodup_cons.2 ⟨hnod.1.1, (List.nodup_append.1 hnod.2).1⟩, fun x hx => g4.bl x ?_, g4.sub, fun x hx => g4.from_ x ?_⟩
            · simp only [Ow]
              refine .inr ⟨b, o, _, arr, T, f1, e5, rfl, h5, ⟨by omega, h6.2⟩, h7, by rw [List.length_take, Nat.min_eq_left hle], OwL_lay (fun _ _ => rfl) u4 (fun j v hj => u2 j v ?_) (fun _ _ => rfl)⟩
              rw [List.getElem?_take] at hj
              split at hj
              · exact hj
              · simp at hj
            · rcases List.mem_cons.1 hx with rfl | hx <;> simp [*]
            · rcases List.mem_cons.1 hx with rfl | hx <;> simp [*]
        · omega
      · simp at hs
    · simp at hs
  · rename_i r p o
    split at hs
    · rename_i cs ho
      split at hs
      · rename_i hlo
        subst hlo
        injection hs with hs
        injection hs with h1 h2
        subst h1; subst h2
        obtain ⟨hv, fo, φ1, g1, g2, g3, g4⟩ := takeKill_taken h ho
        simp only [FR] at hu
        obtain ⟨o', cs', hv', b, q, q1, q2, q3, q4, q5⟩ := hu
        rw [ho] at q1
        cases q1
        rw [g1] at q3
        injection q3 with q3
        subst q3
        have hu2 : u = hv := by
          simp only [Ow] at g2
          obtain ⟨b', arr, T, fp', e, _⟩ := g2
          rw [e] at q4
          injection q4 with q4
          injection q4 with q4 q4'
          subst q4; subst q4'
          rw [q5, e]
        rw [hu2]
        exact ⟨φ1, fo, g3, g2, g4⟩
      · simp at hs
    · simp at hs
  · rename_i r p
    split at hs
    · rename_i es ho
      injection hs with hs
      injection hs with h1 h2
      subst h1; subst h2
      obtain ⟨hv, fo, φ1, g1, g2, g3, g4⟩ := takeKill_taken h ho
      simp only [FR] at hu
      obtain ⟨es', hv', q1, q2, q3⟩ := hu
      rw [g1] at q2
      injection q2 with q2
      subst q2
      rw [q3]
      exact ⟨φ1, fo, g3, g2, g4⟩
    · simp at hs
  · simp at hs

theorem Taken.trans {σ1 σ2 : St} {φ1 φ2 : Rn → List Nat} {f1 f2 : List Nat} (h : Taken w0 w fp0 ok σ σ1 φ φ1 f1) (k : Taken w0 w fp0 ok σ1 σ2 φ1 φ2 f2) : Taken w0 w fp0 ok σ σ2 φ φ2 (f1 ++ f2) := by
  refine ⟨?_, fun b hb => ?_, fun q e he => ?_, fun b hb => ?_⟩
  · rw [List.nodup_append]
    refine ⟨h.nod, k.nod, fun x hx y hy hxy => ?_⟩
    subst hxy
    obtain ⟨q, e, he, hq⟩ := k.from_ x hy
    exact (h.bl x hx).2 q e he hq
  · rcases List.mem_append.1 hb with hb | hb
    · refine ⟨(h.bl b hb).1, fun q e he hq => ?_⟩
      obtain ⟨e', he', hs⟩ := k.sub q e he
      exact (h.bl b hb).2 q e' he' (hs b hq)
    · exact k.bl b hb
  · obtain ⟨e1, he1, hs1⟩ := k.sub q e he
    obtain ⟨e2, he2, hs2⟩ := h.sub q e1 he1
    exact ⟨e2, he2, fun b hb => hs2 b (hs1 b hb)⟩
  · rcases List.mem_append.1 hb with hb | hb
    · exact h.from_ b hb
    · obtain ⟨q, e, he, hq⟩ := k.from_ b hb
      obtain ⟨e', he', hs⟩ := h.sub q e he
      exact ⟨q, e', he', hs b hq⟩

theorem exportN_sound : ∀ (m t : Nat) (σ σ1 : St) (φ : Rn → List Nat) (ds : List D), Rel w0 fp0 ok σ θ w ρ φ → exportN σ t m = some (ds, σ1) →
    ∃ φ1 fx, Rel w0 fp0 ok σ1 θ w ρ φ1 ∧ OwVs w ok ds ((List.range' t m).map θ) fx ∧ Taken w0 w fp0 ok σ σ1 φ φ1 fx
  | 0, t, σ, σ1, φ, ds, h, hs => by
    simp only [exportN, Option.some.injEq, Prod.mk.injEq] at hs
    obtain ⟨h1, h2⟩ := hs
    subst h1; subst h2
    exact ⟨φ, [], h, by simp [OwVs], by simp, by simp, fun q e he => ⟨e, he, fun _ h => h⟩, by simp⟩
  | m + 1, t, σ, σ2, φ, ds, h, hs => by
    simp only [exportN] at hs
    split at hs
    · rename_i d σ1 h1
      split at hs
      · rename_i ds' σ2' h2
        injection hs with hs
        injection hs with e1 e2
        subst e1; subst e2
        obtain ⟨φ1, f1, a1, a2, a3⟩ := exportD_sound h h1 (h.env t)
        obtain ⟨φ2, f2, b1, b2, b3⟩ := exportN_sound m (t + 1) σ1 σ2' φ1 ds' a1 h2
        refine ⟨φ2, f1 ++ f2, b1, ?_, a3.trans b3⟩
        simp only [List.range'_succ, List.map_cons, OwVs]
        exact ⟨θ t, _, f1, f2, rfl, rfl, a2, b2⟩
      · simp at hs
    · simp at hs

theorem OwVs_split : ∀ {ds : List D} {us : List Value} {fx : List Nat} (j : Nat), OwVs w ok ds us fx → ∃ f1 f2, fx = f1 ++ f2 ∧ OwVs w ok (ds.take j) (us.take j) f1 ∧ OwVs w ok (ds.drop j) (us.drop j) f2
  | ds, us, fx, 0, h => ⟨[], fx, rfl, by simp [OwVs], by simpa using h⟩
  | [], us, fx, j + 1, h => by
    simp only [OwVs] at h
    obtain ⟨rfl, rfl⟩ := h
    exact ⟨[], [], rfl, by simp [OwVs], by simp [OwVs]⟩
  | d :: ds, us, fx, j + 1, h => by
    simp only [OwVs] at h
    obtain ⟨u, vs, g1, g2, rfl, rfl, h1, h2⟩ := h
    obtain ⟨f1, f2, rfl, h3, h4⟩ := OwVs_split j h2
    refine ⟨g1 ++ f1, f2, by simp, ?_, by simpa using h4⟩
    simp only [List.take_succ_cons, OwVs]
    exact ⟨u, vs.take j, g1, f1, rfl, rfl, h1, h3⟩

theorem atoms_val (h : Rel w0 fp0 ok σ θ w ρ φ) : ∀ {fs : List FV} {us : List Value}, (∀ f ∈ fs, f.whole = true) → FRL w ok σ ρ fs us → ∃ vs : List Value, FRL w ok σ ρ (atomsL fs) vs ∧ vs = us.flatMap (fun u => u.cells.toList)
  | [], us, hw, hu => by
    simp only [FRL] at hu
    subst hu
    exact ⟨[], by simp [atomsL, FRL], rfl⟩
  | f :: fs, us, hw, hu => by
    simp only [FRL] at hu
    obtain ⟨u, us', rfl, h1, h2⟩ := hu
    obtain ⟨vs, h3, h4⟩ := atoms_val h (fun g hg => hw g (List.mem_cons_of_mem _ hg)) h2
    have hc := whole_cells h (hw f (List.mem_cons_self ..)) h1
    exact ⟨_, FRL_append hc h3, by simp [h4]⟩

theorem whole_one (hR : Rel w0 fp0 ok σ θ w ρ φ) {f : FV} {v : Value} (hne : ∀ gs, f ≠ .ag gs) (hw : f.whole = true) (h : FR w ok σ ρ f v) : v.cells = #[v] := by
  have fin : (∀ cs, v ≠ .agg cs) → v.cells = #[v] := fun hv => by
    unfold Value.cells
    split
    · rename_i cs
      exact absurd rfl (hv cs)
    · rfl
  cases f with
  | d x =>
    refine fin fun cs e => ?_
    simp only [FR] at h
    have := leaf_one (by simpa [FV.whole] using hw) h
    subst e
    simp [Value.oneCell'] at this
  | al r p lo n =>
    refine fin fun cs e => ?_
    simp only [FR] at h
    obtain ⟨k, N, cs, hv, _, _, _, g4⟩ := h
    subst e
    rcases g4 with ⟨_, a', N', c', _, e5⟩ | ⟨_, b', o', N', c', _, _, ⟨_, e5⟩ | ⟨_, _, _, e5⟩⟩ <;> simp at e5
  | cu r p n =>
    refine fin fun cs e => ?_
    simp only [FR] at h
    obtain ⟨k, N, cs, hv, a, M, c, _, _, _, _, e5⟩ := h
    subst e
    simp at e5
  | pt r p off =>
    refine fin fun cs e => ?_
    simp only [FR] at h
    obtain ⟨o, cs, hv, b, q, _, _, _, _, e5⟩ := h
    subst e
    simp at e5
  | ar r p off n =>
    refine fin fun cs e => ?_
    simp only [FR] at h
    obtain ⟨o, cs, hv, b, q, c, _, _, _, _, _, _, e5 | ⟨_, _, e5⟩⟩ := h <;> (subst e; simp at e5)
  | mr r p =>
    refine fin fun cs e => ?_
    simp only [FR] at h
    obtain ⟨es, hv, g1, g2, e5⟩ := h
    subst e
    obtain ⟨hv', fo, hat⟩ := hR.rts_.at_ (r := r) (p := p) g1
    have e6 : hv' = hv := by have := hat.hdr; rw [g2] at this; injection this with this; exact this.symm
    subst e6
    have := hat.own
    simp only [Ow] at this
    obtain ⟨m, en, cl, e7, _⟩ := this
    rw [← e5] at e7
    simp at e7
  | fb fs off => simp [FV.whole] at hw
  | sp cs off =>
    refine fin fun cs e => ?_
    simp only [FR] at h
    obtain ⟨b, o, e5, _⟩ := h
    subst e
    simp at e5
  | cl f fs =>
    refine fin fun cs e => ?_
    simp only [FR] at h
    obtain ⟨vs, e5, _⟩ := h
    subst e
    simp at e5
  | ag fs => exact absurd rfl (hne fs)
  | it => simp [FV.whole] at hw
  | tu => simp [FV.whole] at hw
  | dead => simp [FV.whole] at hw

theorem groupR_one {f : FV} {r : List FV} {d : D} {ds : List D} (hne : ∀ gs, f ≠ .ag gs) : groupR (f :: r) (d :: ds) = (match groupR r ds with | some l => some (.one d :: l) | none => none) := by
  cases f <;> first | rfl | exact absurd rfl (hne _)
theorem groupR_none {f : FV} {r : List FV} (hne : ∀ gs, f ≠ .ag gs) : groupR (f :: r) [] = none := by
  cases f <;> first | rfl | exact absurd rfl (hne _)
theorem groupR_ag {gs : List FV} {r : List FV} {ds : List D} : groupR (.ag gs :: r) ds = (match groupR r (ds.drop gs.length) with | some l => some (.ag (ds.take gs.length) :: l) | none => none) := by
  cases ds <;> rfl

theorem group_sound (h : Rel w0 fp0 ok σ θ w ρ φ) : ∀ {fs : List FV} {us : List Value} {ds : List D} {res : List RV} {fx : List Nat}, (∀ f ∈ fs, f.whole = true) → FRL w ok σ ρ fs us → groupR fs ds = some res → OwVs w ok ds (us.flatMap fun u => u.cells.toList) fx → OwRs w ok res us fx
  | [], us, ds, res, fx, hw, hu, hg, ho => by
    simp only [FRL] at hu
    subst hu
    cases ds with
    | nil =>
      simp only [groupR, Option.some.injEq] at hg
      subst hg
      simp only [List.flatMap_nil, OwVs] at ho
      simp [OwRs, ho.2]
    | cons d ds => simp [groupR] at hg
  | f :: fs, us, ds, res, fx, hw, hu, hg, ho => by
    simp only [FRL] at hu
    obtain ⟨u, us', rfl, h1, h2⟩ := hu
    have hwf := hw f (List.mem_cons_self ..)
    have hw' : ∀ g ∈ fs, g.whole = true := fun g hg => hw g (List.mem_cons_of_mem _ hg)
    rw [List.flatMap_cons] at ho
    by_cases hag : ∃ gs, f = .ag gs
    · obtain ⟨gs, rfl⟩ := hag
      rw [groupR_ag] at hg
      split at hg
      · rename_i l hl
        injection hg with hg
        subst hg
        simp only [FR] at h1
        obtain ⟨vs, rfl, h3⟩ := h1
        have hlen : vs.toList.length = gs.length := FRL_length h3
        obtain ⟨f1, f2, rfl, o1, o2⟩ := OwVs_split gs.length ho
        have ec : (Value.agg vs).cells = vs := rfl
        rw [ec] at o1 o2
        rw [List.take_append_of_le_length (Nat.le_of_eq hlen.symm), List.take_of_length_le (Nat.le_of_eq hlen)] at o1
        rw [List.drop_append_of_le_length (Nat.le_of_eq hlen.symm), List.drop_of_length_le (Nat.le_of_eq hlen), List.nil_append] at o2
        simp only [OwRs, OwRV]
        exact ⟨.agg vs, us', f1, f2, rfl, rfl, ⟨vs, rfl, o1⟩, group_sound h hw' h2 hl o2⟩
      · simp at hg
    · have hne : ∀ gs, f ≠ .ag gs := fun gs e => hag ⟨gs, e⟩
      cases ds with
      | nil => rw [groupR_none hne] at hg; simp at hg
      | cons d ds =>
        rw [groupR_one hne] at hg
        split at hg
        · rename_i l hl
          injection hg with hg
          subst hg
          rw [whole_one h hne hwf h1] at ho
          simp only [List.singleton_append, OwVs] at ho
          obtain ⟨v, vs, f1, f2, e4, rfl, o1, o2⟩ := ho
          injection e4 with e4 e5
          subst e4; subst e5
          simp only [OwRs, OwRV]
          exact ⟨u, us', f1, f2, rfl, rfl, o1, group_sound h hw' h2 hl o2⟩
        · simp at hg

end
end Go.Proofs.Ytdgeponcnlkaiaa.Ab
