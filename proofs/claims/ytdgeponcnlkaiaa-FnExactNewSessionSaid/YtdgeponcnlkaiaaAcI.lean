/- A promise made weaker: empty slices among results and arguments. No condition. -/
import Derived.Test.YtdgeponcnlkaiaaAcH
namespace Go.Proofs.Ytdgeponcnlkaiaa.Ab
open Go
set_option linter.unusedSimpArgs false
set_option linter.unusedVariables false
set_option linter.unusedSectionVars false

/-! ### Operations by their numbers, part by part -/
def AOpsI (C : Ctx) (ops : Array Oper) : List Nat → St → (St → Prop) → Prop
  | [], σ, K => K σ
  | i :: r, σ, K => match ops[i]? with
    | some o => AOpG C ops o σ fun σ' => AOpsI C ops r σ' K
    | none => False
attribute [simp ↓] AOpsI
theorem AOpsI_append (C : Ctx) (ops : Array Oper) (K : St → Prop) : ∀ (is js : List Nat) (σ : St), AOpsI C ops (is ++ js) σ K = AOpsI C ops is σ fun σ' => AOpsI C ops js σ' K
  | [], js, σ => rfl
  | i :: is, js, σ => by
    simp only [List.cons_append, AOpsI]
    have : (fun σ' => AOpsI C ops (is ++ js) σ' K) = fun σ' => AOpsI C ops is σ' fun σ'' => AOpsI C ops js σ'' K := funext fun σ' => AOpsI_append C ops K is js σ'
    rw [this]
theorem AOpsI_range (C : Ctx) (ops : Array Oper) (K : St → Prop) : ∀ (m i : Nat) (σ : St), i + m = ops.size → AOpsI C ops (List.range' i m) σ K = AOps C ops (ops.toList.drop i) σ K
  | 0, i, σ, h => by
    rw [List.drop_of_length_le (by simp; omega)]
    rfl
  | m + 1, i, σ, h => by
    have hi : i < ops.toList.length := by simp; omega
    rw [List.drop_eq_getElem_cons hi, List.range'_succ]
    have : (fun σ' => AOpsI C ops (List.range' (i + 1) m) σ' K) = fun σ' => AOps C ops (ops.toList.drop (i + 1)) σ' K := funext fun σ' => AOpsI_range C ops K m (i + 1) σ' (by omega)
    have e : ops[i]? = some ops.toList[i] := by
      rw [Array.getElem?_eq_getElem (by omega)]
      simp
    show (match ops[i]? with
      | some o => AOpG C ops o σ fun σ' => AOpsI C ops (List.range' (i + 1) m) σ' K
      | none => False) = _
    rw [e, this]
    rfl
theorem opsI_seg {C : Ctx} {ops : Array Oper} {is js : List Nat} {σ : St} {K : St → Prop} (h : ∀ K1 : St → Prop, (∀ σ', AOpsI C ops js σ' K → K1 σ') → AOpsI C ops is σ K1) : AOpsI C ops (is ++ js) σ K := by
  rw [AOpsI_append]
  exact h _ fun _ h => h
theorem opsI_end {C : Ctx} {ops : Array Oper} {is : List Nat} {σ : St} {K : St → Prop} (h : ∀ K1 : St → Prop, (∀ σ', K σ' → K1 σ') → AOpsI C ops is σ K1) : AOpsI C ops is σ K := h _ fun _ h => h
def chainP : List (Bool × Nat) → Plan → Plan
  | [], p => p
  | (true, i) :: r, p => .take i (chainP r p)
  | (false, i) :: r, p => .all [(i, chainP r p)]
theorem ARun_chain (C : Ctx) (ops : Array Oper) (p : Plan) (K : St → Prop) : ∀ (l : List (Bool × Nat)) (σ : St), ARun C ops (chainP l p) σ K = AOpsI C ops (l.map (·.2)) σ fun σ' => ARun C ops p σ' K
  | [], σ => rfl
  | (true, i) :: l, σ => by
    simp only [chainP, ARun, List.map_cons, AOpsI]
    have : (fun σ' => ARun C ops (chainP l p) σ' K) = fun σ' => AOpsI C ops (l.map (·.2)) σ' fun σ'' => ARun C ops p σ'' K := funext fun σ' => ARun_chain C ops p K l σ'
    rw [this]
    rfl
  | (false, i) :: l, σ => by
    simp only [chainP, ARun, ARunL, List.map_cons, AOpsI]
    have : (fun σ' => ARun C ops (chainP l p) σ' K) = fun σ' => AOpsI C ops (l.map (·.2)) σ' fun σ'' => ARun C ops p σ'' K := funext fun σ' => ARun_chain C ops p K l σ'
    rw [this, and_true]
    rfl
section
variable {C : Ctx} {i : Nat} {Q : AEx → St → Prop} {σ : St}
theorem wregI {id : Nat} {ops : Array Oper} (is : List Nat) (he : is = List.range' 0 ops.size) (h : ∀ K : St → Prop, (∀ σ', Q .normal σ' → K σ') → AOpsI C ops is σ (fun σ' => K (norm C (aget [] C.kp id) σ'))) : AWp C (.region id ops false) i Q σ :=
  wreg fun K hK => by
    have := h K hK
    rw [he, AOpsI_range _ _ _ _ _ _ (by omega)] at this
    exact this
theorem wdrawI {id : Nat} {ops : Array Oper} (l : List (Bool × Nat)) (hp : (chainP l .done).ok C ops) (is : List Nat) (he : is = l.map (·.2)) (h : ∀ K : St → Prop, (∀ σ', Q .normal σ' → K σ') → AOpsI C ops is σ (fun σ' => K (norm C (aget [] C.kp id) σ'))) : AWp C (.region id ops true) i Q σ :=
  wdraw (chainP l .done) hp fun K hK => by
    rw [ARun_chain, ← he]
    exact h K hK
end

theorem wcondJ {C : Ctx} {i : Nat} {Q : AEx → St → Prop} {σ : St} {c : Operand} {a b : Code} (P : St → Prop) (t : Bool) (hc : opv σ c = .d (.v (.bool t))) (tail : ∀ σ', P σ' → Q .normal σ')
    (h1 : t = true → ∀ Q' : AEx → St → Prop, (∀ σ', P σ' → Q' .normal σ') → AWp C a i Q' σ) (h2 : t = false → ∀ Q' : AEx → St → Prop, (∀ σ', P σ' → Q' .normal σ') → AWp C b i Q' σ) : AWp C (.cond c a b) i Q σ :=
  ⟨t, hc, fun h => h1 h Q tail, fun h => h2 h Q tail⟩

/-! ### Results -/
def WkD (a b : D) : Prop := a = b ∨ (isNil0 a = true ∧ ∃ k, b = .ow k 0 [])
def WkL : List D → List D → Prop
  | [], [] => True
  | a :: l, b :: r => WkD a b ∧ WkL l r
  | _, _ => False
def WkR : RV → RV → Prop
  | .one a, .one b => WkD a b
  | .ag a, .ag b => WkL a b
  | _, _ => False
def WkRs : List RV → List RV → Prop
  | [], [] => True
  | a :: l, b :: r => WkR a b ∧ WkRs l r
  | _, _ => False
theorem WkD.rfl' (a : D) : WkD a a := .inl rfl
theorem WkL.rfl' : ∀ l : List D, WkL l l
  | [] => trivial
  | a :: l => ⟨.inl rfl, WkL.rfl' l⟩
theorem WkR.rfl' : ∀ a : RV, WkR a a
  | .one a => .inl rfl
  | .ag l => WkL.rfl' l
theorem WkRs.rfl' : ∀ l : List RV, WkRs l l
  | [] => trivial
  | a :: l => ⟨WkR.rfl' a, WkRs.rfl' l⟩
theorem WkD.nil (k : Nat) : WkD (.v (.slice none 0 0)) (.ow k 0 []) := .inr ⟨rfl, k, rfl⟩
theorem WkD.ez (k : Nat) : WkD .ez (.ow k 0 []) := .inr ⟨rfl, k, rfl⟩

section
variable {w : World} {ok : Nat → Prop}
theorem WkD.ow {a b : D} (h : WkD a b) {u : Value} {fp : List Nat} (ha : Ow w ok a u fp) : Ow w ok b u fp := by
  rcases h with rfl | ⟨h1, k, rfl⟩
  · exact ha
  · have hv := isNil0_val h1 ha
    have hf : fp = [] := by
      unfold isNil0 at h1
      split at h1
      · simp only [Ow] at ha; exact ha.1
      · simp only [Ow] at ha; exact ha.1
      · simp at h1
    subst hf
    exact ow_empty k hv
theorem WkL.ow : ∀ {a b : List D}, WkL a b → ∀ {us : List Value} {fp : List Nat}, OwVs w ok a us fp → OwVs w ok b us fp
  | [], [], _, us, fp, h => h
  | a :: l, b :: r, h, us, fp, ha => by
    obtain ⟨u, us', f1, f2, e1, e2, h1, h2⟩ := ha
    exact ⟨u, us', f1, f2, e1, e2, h.1.ow h1, WkL.ow h.2 h2⟩
  | [], b :: r, h, _, _, _ => h.elim
  | a :: l, [], h, _, _, _ => h.elim
theorem WkR.ow : ∀ {a b : RV}, WkR a b → ∀ {u : Value} {fp : List Nat}, OwRV w ok a u fp → OwRV w ok b u fp
  | .one a, .one b, h, u, fp, ha => WkD.ow h ha
  | .ag a, .ag b, h, u, fp, ha => by
    obtain ⟨vs, e, h1⟩ := ha
    exact ⟨vs, e, WkL.ow h h1⟩
  | .one a, .ag b, h, _, _, _ => h.elim
  | .ag a, .one b, h, _, _, _ => h.elim
theorem WkRs.ow : ∀ {a b : List RV}, WkRs a b → ∀ {us : List Value} {fp : List Nat}, OwRs w ok a us fp → OwRs w ok b us fp
  | [], [], _, us, fp, h => h
  | a :: l, b :: r, h, us, fp, ha => by
    obtain ⟨u, us', f1, f2, e1, e2, h1, h2⟩ := ha
    exact ⟨u, us', f1, f2, e1, e2, WkR.ow h.1 h1, WkRs.ow h.2 h2⟩
  | [], b :: r, h, _, _, _ => h.elim
  | a :: l, [], h, _, _, _ => h.elim
end

theorem ACalls.weak {P : Program} {f : Nat} {args : List FV} {ros : List (Rn × D)} {pure : Bool} {Q Q' : List D → List RV → Prop} (h : ACalls P f args ros pure Q) (hq : ∀ outs res, Q outs res → ∃ res', WkRs res res' ∧ Q' outs res') : ACalls P f args ros pure Q' := by
  refine ⟨h.1, fun w fp0 ok vs ρ φ hl hr => (h.2 w fp0 ok vs ρ φ hl hr).mono ?_⟩
  rintro e w' ⟨v, outs, res, ok', φ', fr, he, hQ, hd⟩
  obtain ⟨res', h1, h2⟩ := hq outs res hQ
  obtain ⟨vs', e1, e2⟩ := hd.res
  exact ⟨v, outs, res', ok', φ', fr, he, h2, ⟨hd.len, hd.out, hd.dis, ⟨vs', e1, h1.ow e2⟩, hd.nod, hd.bl, hd.disr, hd.frm, hd.okm, hd.okn⟩⟩

theorem ACalls.weak1 {P : Program} {f : Nat} {args : List FV} {ros : List (Rn × D)} {pure : Bool} {os : List D} {rs : List RV} (h : ACalls P f args ros pure fun outs res => outs = os ∧ WkRs res rs) : ACalls P f args ros pure fun outs res => outs = os ∧ res = rs :=
  h.weak fun outs res ⟨h1, h2⟩ => ⟨rs, h2, h1, rfl⟩
attribute [simp] WkRs WkR WkL WkD isNil0

theorem nd_t {p : Prop} [Decidable p] (h : (!decide p) = true) : ¬ p := by simpa using h
theorem nd_f {p : Prop} [Decidable p] (h : (!decide p) = false) : p := by simpa using h
theorem d_t {p : Prop} [Decidable p] (h : decide p = true) : p := by simpa using h
theorem d_f {p : Prop} [Decidable p] (h : decide p = false) : ¬ p := by simpa using h
theorem ibeq (a b : Int) : (a == b) = decide (a = b) := by
  by_cases h : a = b <;> simp [h]
theorem ibne (a b : Int) : (a != b) = !decide (a = b) := by
  by_cases h : a = b <;> simp [h]
theorem wrap_nat {j : Nat} (h : j < 4611686018427387904) : IntKind.i64.wrap (j : Int) = (j : Int) := wrapOk (by omega) (by omega)

/-! ### Arguments -/
def GeD (a b : D) : Prop := a = b ∨ (isNil0 a = true ∧ ∃ k, b = .sh k 0 [])
def GeDL : List D → List D → Prop
  | [], [] => True
  | a :: l, b :: r => GeD a b ∧ GeDL l r
  | _, _ => False
/-- An argument of the first kind may stand where one of the second is asked for. -/
def GeF : FV → FV → Prop
  | .d a, .d b => GeD a b
  | .ag l, .ag r => ∃ a b, l = a.map .d ∧ r = b.map .d ∧ GeDL a b
  | a, b => a = b
def GeL : List FV → List FV → Prop
  | [], [] => True
  | a :: l, b :: r => (a = b ∨ GeF a b) ∧ GeL l r
  | _, _ => False

section
variable {w : World} {ok : Nat → Prop} {σ : St} {ρ : Rn → Value}
theorem GeD.sh {a b : D} (h : GeD a b) {u : Value} (ha : Sh w ok a u) : Sh w ok b u := by
  rcases h with rfl | ⟨h1, k, rfl⟩
  · exact ha
  · obtain ⟨a, rfl⟩ := isNil0_sh h1 ha
    simp only [Sh]
    exact ⟨a, 0, rfl, Nat.le_refl _, by simp, by simp⟩
theorem GeDL.sh : ∀ {a b : List D}, GeDL a b → ∀ {us : List Value}, FRL w ok σ ρ (a.map .d) us → FRL w ok σ ρ (b.map .d) us
  | [], [], _, us, h => h
  | a :: l, b :: r, h, us, ha => by
    simp only [List.map_cons, FRL, FR] at ha ⊢
    obtain ⟨u, us', e, h1, h2⟩ := ha
    exact ⟨u, us', e, h.1.sh h1, GeDL.sh h.2 h2⟩
  | [], b :: r, h, _, _ => h.elim
  | a :: l, [], h, _, _ => h.elim
theorem GeF.fr : ∀ {a b : FV}, GeF a b → ∀ {u : Value}, FR w ok σ ρ a u → FR w ok σ ρ b u := by
  intro a b h u ha
  unfold GeF at h
  split at h
  · simp only [FR] at ha ⊢
    exact h.sh ha
  · obtain ⟨x, y, rfl, rfl, h⟩ := h
    simp only [FR] at ha ⊢
    obtain ⟨vs, e, h1⟩ := ha
    exact ⟨vs, e, h.sh h1⟩
  · subst h
    exact ha
theorem GeL.fr : ∀ {a b : List FV}, GeL a b → ∀ (t : Nat) {u : Value}, FR w ok σ ρ (a.getD t .dead) u → FR w ok σ ρ (b.getD t .dead) u
  | [], [], _, t, u, h => h
  | a :: l, b :: r, h, 0, u, ha => by
    simp only [List.getD_cons_zero] at ha ⊢
    rcases h.1 with e | e
    · rw [← e]; exact ha
    · exact e.fr ha
  | a :: l, b :: r, h, t + 1, u, ha => by
    simp only [List.getD_cons_succ] at ha ⊢
    exact GeL.fr h.2 t ha
  | [], b :: r, h, _, _, _ => h.elim
  | a :: l, [], h, _, _, _ => h.elim
theorem GeL.length : ∀ {a b : List FV}, GeL a b → a.length = b.length
  | [], [], _ => rfl
  | a :: l, b :: r, h => by simp [GeL.length h.2]
  | [], b :: r, h => h.elim
  | a :: l, [], h => h.elim
end

theorem ACalls.args {P : Program} {f : Nat} {args args' : List FV} {ros : List (Rn × D)} {pure : Bool} {Q : List D → List RV → Prop} (h : ACalls P f args ros pure Q) (hg : GeL args' args) : ACalls P f args' ros pure Q := by
  refine ⟨h.1, fun w fp0 ok vs ρ φ hl hr => h.2 w fp0 ok vs ρ φ (by rw [hl, hg.length]) ⟨hr.own, hr.dis, fun t => ?_, hr.okb, hr.frm⟩⟩
  have h1 := hg.fr t (hr.env t)
  exact FR_st (σ1 := ⟨argEnv args', ofR ros⟩) (σ2 := ⟨argEnv args, ofR ros⟩) rfl _ _ h1

end Go.Proofs.Ytdgeponcnlkaiaa.Ab
