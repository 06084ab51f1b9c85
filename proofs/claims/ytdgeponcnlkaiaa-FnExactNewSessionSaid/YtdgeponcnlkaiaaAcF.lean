/- Steps for proofs of single functions. No condition. -/
import Derived.Test.YtdgeponcnlkaiaaAcE
namespace Go.Proofs.Ytdgeponcnlkaiaa.Ab
open Go
set_option linter.unusedSimpArgs false
set_option linter.unusedVariables false
set_option linter.unusedSectionVars false

def ints (xs : List Int) : List D := xs.map D.int

section
variable {C : Ctx} {i : Nat} {Q : AEx → St → Prop} {σ : St}
theorem wseq {a b : Code} (h : AWp C a i (AEx.seq (AWp C b i Q) Q) σ) : AWp C (.seq a b) i Q σ := h
theorem wskip (h : Q .normal σ) : AWp C .skip i Q σ := h
theorem wexit {id : Nat} (h : Q (.exit id) σ) : AWp C (.exit id) i Q σ := h
theorem wret (h : Q .ret σ) : AWp C .ret i Q σ := h
theorem wblock {id : Nat} {c : Code} (h : AWp C c id (AEx.block id Q) σ) : AWp C (.block id c) i Q σ := h
theorem wreg {id : Nat} {ops : Array Oper} (h : ∀ K : St → Prop, (∀ σ', Q .normal σ' → K σ') → AOps C ops ops.toList σ (fun σ' => K (norm C (aget [] C.kp id) σ'))) : AWp C (.region id ops false) i Q σ := h _ (fun _ h => h)
theorem wdraw {id : Nat} {ops : Array Oper} (p : Plan) (hp : p.ok C ops) (h : ∀ K : St → Prop, (∀ σ', Q .normal σ' → K σ') → ARun C ops p σ (fun σ' => K (norm C (aget [] C.kp id) σ'))) : AWp C (.region id ops true) i Q σ :=
  ⟨p, hp, h _ (fun _ h => h)⟩
theorem wcond {c : Operand} {a b : Code} (t : Bool) (hc : opv σ c = .d (.v (.bool t))) (h1 : t = true → AWp C a i Q σ) (h2 : t = false → AWp C b i Q σ) : AWp C (.cond c a b) i Q σ := ⟨t, hc, h1, h2⟩

/-- A loop whose states are told by a parameter; at its entry empty slices may be held for owned ones. -/
theorem wloopWW {c : Code} {α : Type} (S : α → St) (J : α → Prop) (μ : α → Nat) (x0 : α) (l0 : List Wk) (h0 : wkAll l0 (norm C (aget [] C.lp i) σ) = some (S x0)) (hJ : J x0)
    (h : ∀ x, J x → ∀ K : St → Prop, (∀ y, J y → μ y < μ x → K (S y)) → AWp C c i (AEx.seq (fun σ' => ∃ l σ1, wkAll l (norm C (aget [] C.lp i) σ') = some σ1 ∧ K σ1) Q) (S x)) : AWp C (.loop c) i Q σ := by
  have hex : ∀ τ : St, (∃ x, J x ∧ τ = S x) → ∃ k, (∃ x, J x ∧ τ = S x ∧ μ x = k) := fun τ ⟨x, h1, h2⟩ => ⟨_, x, h1, h2, rfl⟩
  classical
  let μ' : St → Nat := fun τ => if h : ∃ k, (∃ x, J x ∧ τ = S x ∧ μ x = k) then Classical.choose (least h) else 0
  refine ⟨fun τ => ∃ x, J x ∧ τ = S x, μ', ⟨l0, S x0, h0, x0, hJ, rfl⟩, fun τ hτ => ?_⟩
  have e1 : μ' τ = Classical.choose (least (hex τ hτ)) := dif_pos (hex τ hτ)
  obtain ⟨⟨x, h1, h2, h3⟩, _⟩ := Classical.choose_spec (least (hex τ hτ))
  have := h x h1 (fun ξ => (∃ x, J x ∧ ξ = S x) ∧ μ' ξ < μ' τ) fun y hy hlt => by
    have hy' : ∃ x, J x ∧ S y = S x := ⟨y, hy, rfl⟩
    refine ⟨hy', ?_⟩
    have e2 : μ' (S y) = Classical.choose (least (hex (S y) hy')) := dif_pos (hex (S y) hy')
    rw [e1, e2]
    have := (Classical.choose_spec (least (hex (S y) hy'))).2 (μ y) ⟨y, hy, rfl, rfl⟩
    omega
  rw [h2]
  rw [h2] at this
  exact this
theorem wloopB {c : Code} {α : Type} (S : α → St) (J : α → Prop) (μ : α → Nat) (x0 : α) (l0 : List Wk) (h0 : wkAll l0 (norm C (aget [] C.lp i) σ) = some (S x0)) (hJ : J x0)
    (h : ∀ x, J x → ∀ K : St → Prop, (∀ l τ y, wkAll l τ = some (S y) → J y → μ y < μ x → K τ) → AWp C c i (AEx.seq (fun σ' => K (norm C (aget [] C.lp i) σ')) Q) (S x)) : AWp C (.loop c) i Q σ :=
  wloopWW S J μ x0 l0 h0 hJ fun x hx K hK => h x hx (fun τ => ∃ l σ1, wkAll l τ = some σ1 ∧ K σ1) fun l τ y hl hy hlt => ⟨l, _, hl, hK y hy hlt⟩
theorem wloopW {c : Code} {α : Type} (S : α → St) (J : α → Prop) (μ : α → Nat) (x0 : α) (l0 : List Wk) (h0 : wkAll l0 (norm C (aget [] C.lp i) σ) = some (S x0)) (hJ : J x0)
    (h : ∀ x, J x → ∀ K : St → Prop, (∀ y, J y → μ y < μ x → K (S y)) → AWp C c i (AEx.seq (fun σ' => K (norm C (aget [] C.lp i) σ')) Q) (S x)) : AWp C (.loop c) i Q σ :=
  wloopB S J μ x0 l0 h0 hJ fun x hx K hK => h x hx K fun y hy hlt => hK [] _ y rfl hy hlt
theorem wloop {c : Code} {α : Type} (S : α → St) (J : α → Prop) (μ : α → Nat) (x0 : α) (h0 : norm C (aget [] C.lp i) σ = S x0) (hJ : J x0)
    (h : ∀ x, J x → ∀ K : St → Prop, (∀ y, J y → μ y < μ x → K (S y)) → AWp C c i (AEx.seq (fun σ' => K (norm C (aget [] C.lp i) σ')) Q) (S x)) : AWp C (.loop c) i Q σ :=
  wloopW S J μ x0 [] (by rw [h0]; rfl) hJ h
end

theorem ofL_nil (t : Nat) : ofL [] t = .dead := rfl
theorem ofL_cons (i : Nat) (f : FV) (r : List (Nat × FV)) (t : Nat) : ofL ((i, f) :: r) t = if i = t then f else ofL r t := rfl
theorem ofR_nil (t : Rn) : ofR [] t = none := rfl
theorem ofR_cons (i : Rn) (f : D) (r : List (Rn × D)) (t : Rn) : ofR ((i, f) :: r) t = if i = t then some f else ofR r t := rfl
theorem ofRO_nil (t : Rn) : ofRO [] t = none := rfl
theorem ofRO_cons (i : Rn) (f : Option D) (r : List (Rn × Option D)) (t : Rn) : ofRO ((i, f) :: r) t = if i = t then f else ofRO r t := rfl
theorem upd_at {α : Type} (e : Nat → α) (t : Nat) (f : α) (s : Nat) : upd e t f s = if s = t then f else e s := rfl
theorem root_env (σ : St) (r : Rn) (d : D) : (σ.root r d).env = σ.env := rfl
theorem root_rts (σ : St) (r : Rn) (d : D) (q : Rn) : (σ.root r d).rts q = if q = r then some d else σ.rts q := rfl

theorem wrapOk {x : Int} (h0 : -9223372036854775808 ≤ x) (h1 : x < 9223372036854775808) : IntKind.i64.wrap x = x := by
  rw [IntKind.wrap_i64]
  omega
theorem get_ints (xs : List Int) (i : Nat) (h : i < xs.length) : (ints xs)[i]? = some (D.int xs[i]) := by simp [ints, h]
theorem getElem_ints (xs : List Int) (i : Nat) (h : i < (ints xs).length) : (ints xs)[i] = D.int (xs[i]'(by simpa [ints] using h)) := by simp [ints]
theorem length_ints (xs : List Int) : (ints xs).length = xs.length := by simp [ints]
theorem ints_nil : ints [] = [] := rfl
theorem ints_cons (x : Int) (xs : List Int) : D.v (.int .i64 x) :: ints xs = ints (x :: xs) := rfl
theorem ints_append (xs ys : List Int) : ints xs ++ ints ys = ints (xs ++ ys) := by simp [ints]
theorem ints_set (xs : List Int) (i : Nat) (x : Int) : (ints xs).set i (D.v (.int .i64 x)) = ints (xs.set i x) := by
  unfold ints
  rw [List.map_set]
theorem ints_take (xs : List Int) (i : Nat) : (ints xs).take i = ints (xs.take i) := by simp [ints, List.map_take]
theorem ints_drop (xs : List Int) (i : Nat) : (ints xs).drop i = ints (xs.drop i) := by simp [ints, List.map_drop]
theorem ints_inj {xs ys : List Int} (h : ints xs = ints ys) : xs = ys := by
  unfold ints at h
  exact List.map_inj_right (f := D.int) (fun a b e => by injection e with e; injection e) |>.1 h
theorem leafL_ints : ∀ (xs : List Int), leafL (ints xs)
  | [] => trivial
  | x :: xs => ⟨rfl, leafL_ints xs⟩
theorem noShL_ints : ∀ (xs : List Int), noShL (ints xs)
  | [] => trivial
  | x :: xs => ⟨trivial, noShL_ints xs⟩
theorem shareL_ints : ∀ (xs : List Int), shareL (ints xs) = ints xs
  | [] => rfl
  | x :: xs => by
    have := shareL_ints xs
    simp only [ints, List.map_cons, shareL, share] at this ⊢
    rw [this]
theorem zeros_ints : ∀ n : Nat, zerosD [.int .i64 0] n = ints (List.replicate n 0)
  | 0 => rfl
  | n + 1 => by
    simp only [zerosD, zeros_ints n, List.replicate_succ]
    rfl

end Go.Proofs.Ytdgeponcnlkaiaa.Ab
