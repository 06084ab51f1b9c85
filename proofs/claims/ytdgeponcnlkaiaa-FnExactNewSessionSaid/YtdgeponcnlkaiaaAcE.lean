/- A call's promise from the body. No condition. -/
import Derived.Test.YtdgeponcnlkaiaaAcD
namespace Go.Proofs.Ytdgeponcnlkaiaa.Ab
open Go
set_option linter.unusedSimpArgs false
set_option linter.unusedVariables false
set_option linter.unusedSectionVars false

def argL : Nat → List FV → List (Nat × FV)
  | _, [] => []
  | i, f :: r => (i, f) :: argL (i + 1) r
def wFV (r : Rn) : D → FV
  | .ow _ n _ => .al r [] 0 n
  | .bx _ => .pt r [] 0
  | _ => .dead
def watchL : Nat → List (Rn × D) → List (Nat × FV)
  | _, [] => []
  | j, x :: r => (1000 + j, wFV x.1 x.2) :: watchL (j + 1) r
def smallR (n : Nat) : List ResultVar → Bool
  | [] => true
  | .tmp t :: r => decide (t < n) && smallR n r
  | .cell a _ :: r => decide (a < n) && smallR n r

section
variable {w0 w : World} {fp0 : List Nat} {ok0 ok : Nat → Prop} {W : Nat → Value} {n : Nat} {σ : St} {θ : Nat → Value} {ρ : Rn → Value} {φ : Rn → List Nat} {a : Act} {P : Program} {T : TT}

def oneRes (tmps : Array Value) : ResultVar → Sem Value
  | .tmp t => Pure.pure (tmps.getD t undef)
  | .cell x t => do loadVar t (← asAddr (tmps.getD x undef))
theorem resVals_sound (hT : tabB P T = true) (h : Stx w0 fp0 ok0 W n σ a w ok θ ρ φ) : ∀ (rs : List ResultVar) (fs : List FV), smallR n rs = true → resVals T σ rs = some fs → ∃ us, FRL w ok σ ρ fs us ∧
    (rs.mapM (oneRes a.tmps)).run P w = .ok us w
  | [], fs, _, hs => by
    simp only [resVals, Option.some.injEq] at hs
    subst hs
    exact ⟨[], by simp [FRL], by simp⟩
  | .tmp t :: rs, fs, hsm, hs => by
    simp only [smallR, Bool.and_eq_true, decide_eq_true_eq] at hsm
    simp only [resVals] at hs
    split at hs
    · rename_i l hl
      injection hs with hs
      subst hs
      obtain ⟨us, h1, h2⟩ := resVals_sound hT h rs l hsm.2 hl
      have h3 := h.opv (x := .tmp t) (by simpa [smallX] using hsm.1)
      refine ⟨a.tmps.getD t undef :: us, ?_, ?_⟩
      · simp only [FRL]
        exact ⟨_, us, rfl, h3, h1⟩
      · rw [List.mapM_cons]
        simp only [Sem.run_bind, oneRes, Sem.run_pure, Result.andThen_ok]
        rw [h2]
        rfl
    · simp at hs
  | .cell x t :: rs, fs, hsm, hs => by
    simp only [smallR, Bool.and_eq_true, decide_eq_true_eq] at hsm
    simp only [resVals] at hs
    split at hs
    · rename_i f l hf hl
      injection hs with hs
      subst hs
      obtain ⟨us, h1, h2⟩ := resVals_sound hT h rs l hsm.2 hl
      have h3 := h.opv (x := .tmp x) (by simpa [smallX] using hsm.1)
      obtain ⟨v, h4, h5⟩ := load_sound hT h.rel hf h3
      have h6 := h5 w (Later.refl w)
      have e : a.eval (.tmp x) = a.tmps.getD x undef := rfl
      rw [e] at h6
      have hptr : ∃ b, a.tmps.getD x undef = .pointer (some b) := by
        cases hv : a.tmps.getD x undef with
        | pointer b =>
          cases b with
          | some b => exact ⟨b, rfl⟩
          | none => rw [hv] at h6; simp [Instr.loadAt, Instr.sureAddr] at h6
        | _ => rw [hv] at h6; simp [Instr.loadAt, Instr.sureAddr] at h6
      obtain ⟨b, hb⟩ := hptr
      rw [hb] at h6
      simp only [Instr.loadAt, Instr.sureAddr, Sem.run_bind, Sem.run_pure, Result.andThen_ok] at h6
      refine ⟨v :: us, ?_, ?_⟩
      · simp only [FRL]
        exact ⟨_, us, rfl, h4, h1⟩
      · rw [List.mapM_cons]
        have h7 : (oneRes a.tmps (.cell x t)).run P w = .ok v w := by
          simp only [oneRes, Sem.run_bind, hb, asAddr, Sem.run_pure, Result.andThen_ok, h6]
        simp only [Sem.run_bind, h7, Result.andThen_ok, h2, Sem.run_pure]
    · simp at hs

theorem results_run {fn : Func} {us : List Value} (h : (fn.results.toList.mapM (oneRes a.tmps)).run P w = .ok us w) : (results fn a.tmps).run P w = .ok (resultOf us) w := by
  have e : results fn a.tmps = (do let vs ← fn.results.mapM (oneRes a.tmps); pure (if h : vs.size = 1 then vs[0] else .tuple vs)) := by
    unfold results
    congr
  have hm : (fn.results.mapM (oneRes a.tmps)).run P w = .ok us.toArray w := by
    rw [Array.mapM_eq_mapM_toList, Sem.run_map, h]
    rfl
  rw [e, Sem.run_bind, hm]
  simp only [Result.andThen_ok, Sem.run_pure]
  congr 1
  match us with
  | [] => rfl
  | [v] => rfl
  | v :: u :: r =>
    rw [dif_neg (by simp)]
    rfl

theorem OwVs_nosh {ok' : Nat → Prop} : ∀ {ds : List D} {us : List Value} {fp : List Nat}, noShL ds → OwVs w ok ds us fp → OwVs w ok' ds us fp
  | [], us, fp, _, h => by simpa only [OwVs] using h
  | d :: ds, us, fp, hn, h => by
    simp only [OwVs] at h ⊢
    obtain ⟨u, vs, f1, f2, e1, e2, h1, h2⟩ := h
    exact ⟨u, vs, f1, f2, e1, e2, Ow_nosh d u f1 hn.1 h1, OwVs_nosh hn.2 h2⟩
theorem OwRs_nosh {ok' : Nat → Prop} : ∀ {ds : List RV} {us : List Value} {fp : List Nat}, noShR ds → OwRs w ok ds us fp → OwRs w ok' ds us fp
  | [], us, fp, _, h => by simpa only [OwRs] using h
  | .one d :: ds, us, fp, hn, h => by
    simp only [OwRs, OwRV] at h ⊢
    obtain ⟨u, vs, f1, f2, e1, e2, h1, h2⟩ := h
    exact ⟨u, vs, f1, f2, e1, e2, Ow_nosh d u f1 hn.1 h1, OwRs_nosh hn.2 h2⟩
  | .ag xs :: ds, us, fp, hn, h => by
    simp only [OwRs, OwRV] at h ⊢
    obtain ⟨u, vs, f1, f2, e1, e2, ⟨vv, e3, h1⟩, h2⟩ := h
    exact ⟨u, vs, f1, f2, e1, e2, ⟨vv, e3, OwVs_nosh hn.1 h1⟩, OwRs_nosh hn.2 h2⟩

theorem OwVs_len : ∀ {ds : List D} {us : List Value} {fx : List Nat}, OwVs w ok ds us fx → ds.length = us.length
  | [], us, fx, h => by
    simp only [OwVs] at h
    rw [h.1]
    rfl
  | d :: ds, us, fx, h => by
    simp only [OwVs] at h
    obtain ⟨u, vs, g1, g2, rfl, rfl, h1, h2⟩ := h
    simp [OwVs_len h2]
theorem OwVs_names : ∀ (names : List Rn) (outs : List D) (us : List Value) (fo : List Nat), names.length = outs.length → names.Nodup → fo.Nodup → OwVs w ok outs us fo →
    ∃ φ' : Rn → List Nat, (∀ nm d, ofR (names.zip outs) nm = some d → ∃ (k : Nat) (u : Value), names[k]? = some nm ∧ us[k]? = some u ∧ outs[k]? = some d ∧ Ow w ok d u (φ' nm)) ∧
      (∀ nm d, ofR (names.zip outs) nm = some d → (φ' nm).Nodup ∧ ∀ b ∈ φ' nm, b ∈ fo) ∧
      (∀ nm nm' d d', nm ≠ nm' → ofR (names.zip outs) nm = some d → ofR (names.zip outs) nm' = some d' → ∀ b ∈ φ' nm, b ∉ φ' nm')
  | [], outs, us, fo, _, _, _, _ => ⟨fun _ => [], by simp [ofR], by simp [ofR], by simp [ofR]⟩
  | n :: names, [], us, fo, h, _, _, _ => by simp at h
  | n :: names, d :: outs, us, fo, hl, hn, hf, ho => by
    simp only [OwVs] at ho
    obtain ⟨u, vs, f1, f2, rfl, rfl, h1, h2⟩ := ho
    rw [List.nodup_append] at hf
    rw [List.nodup_cons] at hn
    obtain ⟨φ', k1, k2, k3⟩ := OwVs_names names outs vs f2 (by simpa using hl) hn.2 hf.2.1 h2
    refine ⟨fun q => if q = n then f1 else φ' q, fun nm x hx => ?_, fun nm x hx => ?_, fun nm nm' x x' hne hx hx' b hb => ?_⟩
    · simp only [List.zip_cons_cons, ofR] at hx
      by_cases e : n = nm
      · subst e
        rw [if_pos rfl] at hx
        injection hx with hx
        subst hx
        exact ⟨0, u, rfl, rfl, rfl, by simpa using h1⟩
      · rw [if_neg e] at hx
        obtain ⟨k, v, q1, q2, q3, q4⟩ := k1 nm x hx
        exact ⟨k + 1, v, by simpa using q1, by simpa using q2, by simpa using q3, by simpa only [if_neg (Ne.symm e)] using q4⟩
    · simp only [List.zip_cons_cons, ofR] at hx
      by_cases e : n = nm
      · subst e
        simp only [if_true]
        exact ⟨hf.1, fun b hb => List.mem_append_left _ hb⟩
      · rw [if_neg e] at hx
        simp only [if_neg (Ne.symm e)]
        exact ⟨(k2 nm x hx).1, fun b hb => List.mem_append_right _ ((k2 nm x hx).2 b hb)⟩
    · simp only [List.zip_cons_cons, ofR] at hx hx'
      by_cases e : n = nm
      · subst e
        simp only [if_true] at hb
        rw [if_neg hne] at hx'
        simp only [if_neg (Ne.symm hne)]
        exact fun hb' => hf.2.2 b hb b ((k2 nm' x' hx').2 b hb') rfl
      · rw [if_neg e] at hx
        simp only [if_neg (Ne.symm e)] at hb
        by_cases e' : n = nm'
        · subst e'
          simp only [if_true]
          exact fun hb' => hf.2.2 b hb' b ((k2 nm x hx).2 b hb) rfl
        · rw [if_neg e'] at hx'
          simp only [if_neg (Ne.symm e')]
          exact k3 nm nm' x x' hne hx hx' b hb

theorem noShL_get : ∀ {l : List D} {k : Nat} {d : D}, noShL l → l[k]? = some d → noSh d
  | [], k, d, _, h => by simp at h
  | x :: l, 0, d, hn, h => by
    simp only [List.getElem?_cons_zero, Option.some.injEq] at h
    subst h
    exact hn.1
  | x :: l, k + 1, d, hn, h => by
    simp only [List.getElem?_cons_succ] at h
    exact noShL_get hn.2 h

theorem end_sound {C : Ctx} {fn : Func} {pure : Bool} {Q : List D → List RV → Prop} (hT : tabB C.P C.T = true) (hsr : smallR n fn.results.toList = true) (hk : endK C fn.results.toList pure Q σ) (h : Stx w0 fp0 ok0 W n σ a w ok θ ρ φ)
    {ρ0 : Rn → Value} {ros : List (Rn × D)} (hnW : C.nW = ros.length) (hr1 : ros.length ≤ 100) (hnn : (ros.map (·.1)).Nodup) (hW : ∀ (k : Nat) (x : Rn × D), ros[k]? = some x → W k = ρ0 x.1) :
    ∃ v, (results fn a.tmps).run C.P w = .ok v w ∧ ∃ outs res ok' φ' fr, Q outs res ∧ Done w0 ok0 ρ0 fp0 (ros.map (·.1)) pure outs res v w ok' φ' fr := by
  unfold endK at hk
  split at hk
  · rename_i fs hfs
    obtain ⟨hwh, hk⟩ := hk
    obtain ⟨us, h1, h2⟩ := resVals_sound hT h fn.results.toList fs hsr hfs
    obtain ⟨avs, h3, h4⟩ := atoms_val h.rel hwh h1
    have hpend : Rel w0 fp0 ok { σ with env := pend (atomsL fs) 3000 σ.env } (pendT avs 3000 θ) w ρ φ :=
      ⟨h.rel.own, h.rel.dis, fun t => FR_env _ _ (pend_env (atomsL fs) avs 3000 _ _ h3 h.rel.env t), h.rel.okb, h.rel.frm⟩
    split at hk
    · rename_i ds σ1 hex
      split at hk
      · rename_i res outs σ2 hgr hou
        obtain ⟨hpure, hQ⟩ := hk
        obtain ⟨φ1, fr, g1, g2, g3⟩ := exportN_sound (atomsL fs).length 3000 _ σ1 φ ds hpend hex
        obtain ⟨φ2, fo, k1, k2, k3⟩ := exportN_sound C.nW 1000 σ1 σ2 φ1 outs g1 hou
        have hav : (List.range' 3000 (atomsL fs).length).map (pendT avs 3000 θ) = avs := by
          have hl := FRL_length h3
          apply List.ext_getElem?
          intro j
          rw [List.getElem?_map]
          rcases Nat.lt_or_ge j avs.length with hj | hj
          · rw [List.getElem?_range' (by rw [← hl]; exact hj)]
            simp only [Option.map_some, Nat.one_mul]
            rw [pendT_get avs 3000 θ j avs[j] (List.getElem?_eq_getElem hj), List.getElem?_eq_getElem hj]
          · rw [List.getElem?_eq_none (l := List.range' 3000 (atomsL fs).length) (by rw [List.length_range', ← hl]; exact hj), List.getElem?_eq_none hj]
            rfl
        rw [hav, h4] at g2
        have hres := group_sound h.rel hwh h1 hgr g2
        have hol : outs.length = C.nW := by rw [OwVs_len k2]; simp
        obtain ⟨φ', o1, o2, o3⟩ := OwVs_names (ros.map (·.1)) outs _ fo (by rw [List.length_map, hol, hnW]) hnn k3.nod k2
        refine ⟨resultOf us, results_run h2, outs, res, ok, φ', fr, hQ, ?_⟩
        have hres' : OwRs w (if pure then fun _ => False else ok) res us fr := by
          cases pure with
          | true => exact OwRs_nosh (hpure rfl).1 hres
          | false => exact hres
        have okn : ∀ b, ok b → (ok0 b ∨ w0.heap.size ≤ b) ∧ b < w.heap.size := fun b hb => ⟨h.okn b hb, h.rel.okb b hb⟩
        refine ⟨by simp [hol, hnW], fun nm d hd => ?_, o3, ⟨us, rfl, hres'⟩, g3.nod, fun b hb => ⟨(g3.bl b hb).1.1, (g3.bl b hb).1.2.1, (g3.bl b hb).1.2.2⟩, fun nm d hd b hb hbf => ?_, h.rel.frm, h.oks, okn⟩
        · obtain ⟨k, u, q1, q2, q3, q4⟩ := o1 nm d hd
          obtain ⟨p1, p2⟩ := o2 nm d hd
          refine ⟨?_, p1, fun b hb => ⟨(k3.bl b (p2 b hb)).1.1, (k3.bl b (p2 b hb)).1.2.1, (k3.bl b (p2 b hb)).1.2.2⟩⟩
          have hk : k < ros.length := by
            have := (List.getElem?_eq_some_iff.1 q1).1
            simpa using this
          have hu : u = ρ0 nm := by
            rw [List.getElem?_map, List.getElem?_range' (by omega)] at q2
            simp only [Option.map_some, Nat.one_mul, Option.some.injEq] at q2
            rw [pendT_lt avs 3000 θ _ (by omega), h.th.2.1 k (by omega)] at q2
            rw [List.getElem?_map] at q1
            cases hx : ros[k]? with
            | none => rw [hx] at q1; simp at q1
            | some x =>
              rw [hx] at q1
              simp only [Option.map_some, Option.some.injEq] at q1
              rw [hW k x hx, q1] at q2
              exact q2.symm
          rw [← hu]
          cases pure with
          | true => exact Ow_nosh d _ _ (noShL_get (hpure rfl).2 q3) q4
          | false => exact q4
        · obtain ⟨q, e, he, hq⟩ := k3.from_ b ((o2 nm d hd).2 b hb)
          exact (g3.bl b hbf).2 q e he hq
      · exact hk.elim
    · exact hk.elim
  · exact hk.elim

theorem ofL_argL : ∀ (args : List FV) (i t : Nat) (r : List (Nat × FV)), ofL (argL i args ++ r) t = if i ≤ t ∧ t < i + args.length then args.getD (t - i) .dead else ofL r t
  | [], i, t, r => by
    rw [if_neg (by simp)]
    rfl
  | f :: args, i, t, r => by
    simp only [argL, List.cons_append, ofL, List.length_cons]
    by_cases h : i = t
    · subst h
      simp
    · rw [if_neg h, ofL_argL args (i + 1) t r]
      by_cases h2 : i + 1 ≤ t ∧ t < i + 1 + args.length
      · rw [if_pos h2, if_pos (by omega), show t - i = (t - (i + 1)) + 1 by omega]
        rfl
      · rw [if_neg h2, if_neg (by omega)]

theorem ofL_watchL : ∀ (ros : List (Rn × D)) (j t : Nat), ofL (watchL j ros) t = .dead ∨ ∃ k x, ros[k]? = some x ∧ t = 1000 + (j + k) ∧ ofL (watchL j ros) t = wFV x.1 x.2
  | [], j, t => .inl rfl
  | x :: ros, j, t => by
    simp only [watchL, ofL]
    split
    · rename_i e
      exact .inr ⟨0, x, rfl, e.symm, rfl⟩
    · rcases ofL_watchL ros (j + 1) t with h | ⟨k, y, h1, h2, h3⟩
      · exact .inl h
      · exact .inr ⟨k + 1, y, by simpa using h1, by omega, h3⟩
theorem ofR_get : ∀ {ros : List (Rn × D)} {k : Nat} {x : Rn × D}, (ros.map (·.1)).Nodup → ros[k]? = some x → ofR ros x.1 = some x.2
  | [], k, x, _, h => by simp at h
  | y :: ros, 0, x, _, h => by
    simp only [List.getElem?_cons_zero, Option.some.injEq] at h
    subst h
    obtain ⟨a, b⟩ := y
    simp [ofR]
  | y :: ros, k + 1, x, hn, h => by
    simp only [List.getElem?_cons_succ] at h
    simp only [List.map_cons, List.nodup_cons] at hn
    have hne : y.1 ≠ x.1 := fun e => hn.1 (by rw [e]; exact List.mem_map.2 ⟨x, List.mem_of_getElem? h, rfl⟩)
    obtain ⟨a, b⟩ := y
    simp only [ofR]
    rw [if_neg hne]
    exact ofR_get hn.2 h

theorem Done.wider {w : World} {ok : Nat → Prop} {ρ : Rn → Value} {fp0 fp1 : List Nat} {names : List Rn} {pure : Bool} {outs : List D} {res : List RV} {v : Value} {w' : World} {ok' : Nat → Prop} {φ : Rn → List Nat} {fr : List Nat}
    (h : Done w ok ρ fp0 names pure outs res v w' ok' φ fr) (hs : ∀ b ∈ fp0, b ∈ fp1) : Done w ok ρ fp1 names pure outs res v w' ok' φ fr :=
  ⟨h.len, fun r d hd => ⟨(h.out r d hd).1, (h.out r d hd).2.1, fun b hb => ⟨((h.out r d hd).2.2 b hb).1, ((h.out r d hd).2.2 b hb).2.1.imp (hs b) id, ((h.out r d hd).2.2 b hb).2.2⟩⟩, h.dis, h.res, h.nod,
    fun b hb => ⟨(h.bl b hb).1, (h.bl b hb).2.1.imp (hs b) id, (h.bl b hb).2.2⟩, h.disr, ⟨h.frm.os, h.frm.out, h.frm.tape, h.frm.size, fun b hb hn => h.frm.old b hb fun hh => hn (hs b hh)⟩, h.okm, h.okn⟩
/-- **A call's promise, from the body.** -/
theorem ACalls.of_body {C : Ctx} {f : Nat} {fn : Func} {c : Code} {args : List FV} {ros : List (Rn × D)} {pure : Bool} {Q : List D → List RV → Prop} (hT : tabB C.P C.T = true) (hM : C.P.follows .mixedOrders = true)
    (hf : C.P.funcs[f]? = some fn) (hb : fn.body = some c) (hname : (fn.name == "runtime.NumGoroutine") = false) (hn : fn.ntmps = n) (hla : args.length ≤ n) (hn2 : n ≤ 1000) (hsm : smallC n c = true) (hsr : smallR n fn.results.toList = true)
    (hnW : C.nW = ros.length) (hr1 : ros.length ≤ 100) (hnn : (ros.map (·.1)).Nodup) (h : AWp C c 0 (endQ C fn.results.toList pure Q) ⟨ofL (argL 0 args ++ watchL 0 ros), ofR ros⟩) : ACalls C.P f args ros pure Q := by
  refine ⟨⟨fn, c, hf, hb, hname⟩, fun w fp1 ok vs ρ φ hlen hrel1 => ?_⟩
  -- where nothing is lent for writing, nothing old may be written
  obtain ⟨fp0, hz, hsub, hrel⟩ : ∃ fp0 : List Nat, (C.nW = 0 → fp0 = []) ∧ (∀ b ∈ fp0, b ∈ fp1) ∧ Rel w fp0 ok ⟨argEnv args, ofR ros⟩ (fun t => vs.getD t undef) w ρ φ := by
    by_cases h0 : C.nW = 0
    · have hros : ros = [] := List.eq_nil_of_length_eq_zero (by rw [← hnW]; exact h0)
      subst hros
      refine ⟨[], fun _ => rfl, by simp, ⟨fun r d hd => by simp [ofR] at hd, fun r r' d d' _ hd => by simp [ofR] at hd, hrel1.env, hrel1.okb, Keeps.refl w []⟩⟩
    · exact ⟨fp1, fun h => absurd h h0, fun _ h => h, hrel1⟩
  refine Calls.mono (R := fun e w' => ∃ v outs res ok' φ' fr, e = .returned v ∧ Q outs res ∧ Done w ok ρ fp0 (ros.map (·.1)) pure outs res v w' ok' φ' fr) ?_ (fun e w' ⟨v, outs, res, ok', φ', fr, he, hQ, hd⟩ => ⟨v, outs, res, ok', φ', fr, he, hQ, hd.wider hsub⟩)
  refine calls_of_wp hf hb ?_
  have hsz : (vs.toArray ++ Array.replicate (fn.ntmps - vs.toArray.size) undef).size = n := by
    simp only [Array.size_append, List.size_toArray, Array.size_replicate]
    omega
  let W : Nat → Value := fun j => match ros[j]? with | some x => ρ x.1 | none => undef
  let θ : Nat → Value := fun t => if t < 1000 then (vs.toArray ++ Array.replicate (fn.ntmps - vs.toArray.size) undef).getD t undef else W (t - 1000)
  have hs : Stx w fp0 ok W n ⟨ofL (argL 0 args ++ watchL 0 ros), ofR ros⟩ { tmps := vs.toArray ++ Array.replicate (fn.ntmps - vs.toArray.size) undef, defers := [] } w ok θ ρ φ := by
    refine ⟨⟨hrel.own, hrel.dis, fun t => ?_, hrel.okb, hrel.frm⟩, ⟨fun t ht => if_pos ht, fun j hj => ?_, by rw [hsz]; exact hn2⟩, fun _ h => h, fun b hb => .inl hb, rfl, hsz⟩
    · show FR w ok _ ρ (ofL (argL 0 args ++ watchL 0 ros) t) (θ t)
      rw [ofL_argL]
      by_cases ht : t < args.length
      · rw [if_pos (by omega)]
        have h1 : FR w ok ⟨argEnv args, ofR ros⟩ ρ (args.getD t .dead) (vs.getD t undef) := hrel.env t
        have h2 : θ t = vs.getD t undef := by
          show (if t < 1000 then _ else _) = _
          rw [if_pos (by omega)]
          have hlt : t < vs.length := by omega
          simp only [Array.getD_eq_getD_getElem?, List.getD_eq_getElem?_getD]
          rw [Array.getElem?_append_left (by simpa using hlt)]
          simp
        rw [h2, Nat.sub_zero]
        exact FR_st (σ1 := ⟨argEnv args, ofR ros⟩) (σ2 := ⟨ofL (argL 0 args ++ watchL 0 ros), ofR ros⟩) rfl _ _ h1
      · rw [if_neg (by omega)]
        rcases ofL_watchL ros 0 t with e | ⟨k, x, hkx, rfl, e⟩
        · rw [e]
          simp [FR]
        · rw [e]
          have h2 : θ (1000 + (0 + k)) = ρ x.1 := by
            show (if 1000 + (0 + k) < 1000 then _ else W (1000 + (0 + k) - 1000)) = _
            rw [if_neg (by omega), show 1000 + (0 + k) - 1000 = k by omega]
            show (match ros[k]? with | some x => ρ x.1 | none => undef) = _
            rw [hkx]
          rw [h2]
          have hor : ofR ros x.1 = some x.2 := ofR_get hnn hkx
          have hx := (hrel.own x.1 x.2 hor).1
          unfold wFV
          split
          · rename_i k N cs hd
            rw [hd] at hx hor
            simp only [FR]
            refine ⟨k, N, cs, ρ x.1, by simp [St.obj, hor, look], by simp [hdr], by omega, .inl ⟨rfl, ?_⟩⟩
            simp only [Ow] at hx
            rcases hx with ⟨rfl, _, _, a0, e⟩ | ⟨b, o, cp, arr, T, fp', e, _⟩
            · exact ⟨a0, 0, 0, e, e⟩
            · exact ⟨_, N, cp, e, e⟩
          · rename_i cs hd
            rw [hd] at hx hor
            simp only [FR]
            simp only [Ow] at hx
            obtain ⟨b, arr, T, fp', e, _⟩ := hx
            exact ⟨.bx cs, cs, ρ x.1, b, 0, by simp [St.obj, hor, look], rfl, by simp [hdr], by rw [e]; rfl, e⟩
          · simp [FR]
    · show (if 1000 + j < 1000 then _ else W (1000 + j - 1000)) = W j
      rw [if_neg (by omega), Nat.add_sub_cancel_left]
  have hfin : ∀ (σ : St) (a' : Act) (w' : World), endK C fn.results.toList pure Q σ → Ste w fp0 ok W n σ a' w' → a'.defers = [] ∧ ∃ v, (results fn a'.tmps).run C.P w' = .ok v w' ∧
      ∃ v' outs res ok' φ' fr, Ending.returned v = Ending.returned v' ∧ Q outs res ∧ Done w ok ρ fp0 (ros.map (·.1)) pure outs res v' w' ok' φ' fr := by
    intro σ a' w' hk ⟨ok', θ', ρ', φ', hs'⟩
    obtain ⟨v, h1, outs, res, ok2, φ2, fr, h2, h3⟩ := end_sound (ρ0 := ρ) (ros := ros) hT hsr hk hs' hnW hr1 hnn (fun k x hx => by
      show (match ros[k]? with | some x => ρ x.1 | none => undef) = _
      rw [hx])
    exact ⟨hs'.dfr, v, h1, v, outs, res, ok2, φ2, fr, rfl, h2, h3⟩
  refine wp_mono (awp_sound hT hz hM c 0 _ _ _ w hsm h ⟨_, _, _, _, hs⟩) fun e a' w' hc => ?_
  cases e with
  | normal =>
    obtain ⟨σ, hk, hs'⟩ := hc
    exact hfin σ a' w' hk hs'
  | ret =>
    obtain ⟨σ, hk, hs'⟩ := hc
    exact hfin σ a' w' hk hs'
  | exit id =>
    obtain ⟨σ, hk, _⟩ := hc
    exact hk.elim
  | goto l => exact hc.elim
  | panic ch => exact hc.elim
  | outgrown => exact hc.elim

end
end Go.Proofs.Ytdgeponcnlkaiaa.Ab
