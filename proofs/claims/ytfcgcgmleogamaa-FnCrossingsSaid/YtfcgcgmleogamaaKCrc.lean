/- All operations, guarded ones, and regions in the order of the text. Regions: in the order of the text, and in any order. Normal states, and code: sound. What a body's end hands out; a call's promise from the body. A call's promise from the body. Steps for proofs of single functions. Rows of cells: lists of structs as trees. What the simplifier may unfold where a function is evaluated. A promise made weaker: empty slices among results and arguments. Matrices, sums, seeds and sessions as trees; numbers written into them one behind the other. From a call's promise to a row: what was there is as it was. Arguments that are read as data: numbers, texts, slices and structs as trees over old blocks. Arguments of this program's laws, read as trees. Sums as lists of keys with numbers: the descending list without zeros is told by the sum that belongs to each key. Division of sums by their greatest terms, over any keys: what it finds, what it keeps, and that it does not matter which of two tests it makes. Sums as linear maps: what a function on keys makes of a sum. Exponents as one number: the code is one to one, keeps the order, and goes with sums. Sums that are right; their coded terms; what products and sums come to. Sums and their values at great numbers: equal values make equal sums. Triangulations of polygons with at most eight vertices: what the kernel counts through. Vectors of vertices from triangle to triangle: determinants of two vectors are lengths. Division finds the factor of a product again, over any keys. Printed by wip/tools/gen.py: the numbers of functions and types, and what lives where. No condition. -/
import Derived.Test.YtfcgcgmleogamaaKCrb
import Derived.WalkKit
import Derived.ProofKit
import Derived.OpenShut
import Derived.Test.YtfcgcgmleogamaaProg
import Derived.Test.YtfcgcgmleogamaaKCra
set_option linter.unusedVariables false
set_option linter.unusedSimpArgs false
set_option linter.unusedSectionVars false
namespace Go.Proofs.Ytfcgcgmleogamaa.Ab
open Go
set_option linter.unusedSimpArgs false
set_option linter.unusedVariables false
set_option linter.unusedSectionVars false

section
variable {w0 w : World} {fp0 : List Nat} {ok0 ok : Nat → Prop} {W : Nat → Value} {n : Nat} {σ : St} {θ : Nat → Value} {ρ : Rn → Value} {φ : Rn → List Nat} {a : Act}

theorem FRL_append : ∀ {fs gs : List FV} {us vs : List Value}, FRL w ok σ ρ fs us → FRL w ok σ ρ gs vs → FRL w ok σ ρ (fs ++ gs) (us ++ vs)
  | [], gs, us, vs, h, k => by
    simp only [FRL] at h
    subst h
    simpa using k
  | f :: fs, gs, us, vs, h, k => by
    simp only [FRL] at h
    obtain ⟨u, us', rfl, h1, h2⟩ := h
    simp only [List.cons_append, FRL]
    exact ⟨u, us' ++ vs, rfl, h1, FRL_append h2 k⟩
theorem FRL_map : ∀ {xs : List Operand}, (∀ x ∈ xs, FR w ok σ ρ (opv σ x) (a.eval x)) → FRL w ok σ ρ (xs.map (opv σ)) (xs.map a.eval)
  | [], _ => by simp [FRL]
  | x :: xs, h => by
    simp only [List.map_cons, FRL]
    exact ⟨_, _, rfl, h x (List.mem_cons_self ..), FRL_map fun y hy => h y (List.mem_cons_of_mem _ hy)⟩
theorem FRL_sh : ∀ {caps : List D} {vs : List Value}, ShV w ok caps vs → FRL w ok σ ρ (caps.map .d) vs
  | [], vs, h => by
    simp only [ShV] at h
    simp [FRL, h]
  | c :: caps, vs, h => by
    simp only [ShV] at h
    obtain ⟨u, us, rfl, h1, h2⟩ := h
    simp only [List.map_cons, FRL, FR]
    exact ⟨u, us, rfl, h1, FRL_sh h2⟩

theorem run_call_func {C : Ctx} {o : Oper} {c : Call} {f : Operand} {g : Nat} {captured : Array Value} (hop : o.op = .call c) (hcb : c.callee = .value f) (hf : a.eval f = .func (.func g) #[] captured) (h : Callable C.P g) :
    (execOp a.eval o).run C.P w = .ok (.enter g (c.args.map a.eval ++ captured)) w := by
  obtain ⟨fn, cd, h1, h2, h3⟩ := h
  have h4 : ¬ fn.name = "runtime.NumGoroutine" := by simpa using h3
  simp [execOp, hop, resolve, hcb, hf, Deferred.ofValue, invoke, callFunc, h1, h2, h4]

theorem op_sound {C : Ctx} (hT : tabB C.P C.T = true) (hz : C.nW = 0 → fp0 = []) {o : Oper} (ho : smallO n o = true) {K : St → Prop} (hk : AOp C o σ K) (h : Stx w0 fp0 ok0 W n σ a w ok θ ρ φ) : Ends C.P o a w K (fun σ' a' w' => Ste w0 fp0 ok0 W n σ' a' w' ∧ (keepsB C.M o.op = true → Later w w')) := by
  have later : ∀ {S : St → Act → World → Prop}, Ends C.P o a w K (fun σ' a' w' => S σ' a' w' ∧ Later w w') → Ends C.P o a w K (fun σ' a' w' => S σ' a' w' ∧ (keepsB C.M o.op = true → Later w w')) := fun h => h.mono fun _ _ _ hh => ⟨hh.1, fun _ => hh.2⟩
  have never : ∀ {S : St → Act → World → Prop}, keepsB C.M o.op = false → Ends C.P o a w K S → Ends C.P o a w K (fun σ' a' w' => S σ' a' w' ∧ (keepsB C.M o.op = true → Later w w')) := fun hn h => h.mono fun _ _ _ hh => ⟨hh, fun h1 => by rw [hn] at h1; simp at h1⟩
  unfold AOp at hk
  split at hk
  case h_1 x hop =>
    split at hk
    · exact later (frs_sound hz ho (.inl hop) hk h)
    · exact later (silK_sound hT ho hk h)
  case h_2 x hop =>
    split at hk
    · exact later (frs_sound hz ho (.inr hop) hk h)
    · exact later (silK_sound hT ho hk h)
  case h_12 =>
    split at hk
    · exact later (cutSlice_sound hT ho hk h)
    · exact later (silK_sound hT ho hk h)
  case h_16 op t x y t' hop =>
    split at hk
    · rename_i hy
      exact never (by rw [hop]; simp [keepsB, silB, hy]) (nil_sound hT ho hop hy hk h)
    · exact later (silK_sound hT ho hk h)
  case h_17 t hop => exact later (alloc_sound hT ho hop hk h)
  case h_18 t x hop =>
    split at hk
    · exact later (fb_sound ho hop hk h)
    · exact later (box_sound hT ho hop hk h)
  case h_19 t len parts hop =>
    split at hk
    · exact later (fz_sound hT ho hop hk h)
    · exact later (buildSlice_sound hT ho hop hk h)
  case h_20 t l c hop => exact later (make_sound hT ho hop hk h)
  case h_21 t r hop =>
    split at hk
    · rename_i d hd
      exact later (makeMap_sound ho hop hd hk.1 hk.2 h)
    · exact hk.elim
  case h_22 t x y hop =>
    split at hk
    · rename_i d hd
      have hx : x = .tmp d := by
        unfold frzB at hd
        split at hd
        · rename_i d'
          split at hd
          · injection hd with hd
            rw [hd]
          · simp at hd
        · simp at hd
      exact never (by rw [hop]; rfl) (frz_sound hT hz ho hop hx hk h)
    · exact never (by rw [hop]; rfl) (store_sound hT ho hop hk h)
  case h_23 t m k x hop => exact never (by rw [hop]; rfl) (mapUpd_sound hT ho hop hk h)
  case h_24 t m hop => exact never (by rw [hop]; rfl) (range_sound hT ho hop hk h)
  case h_25 x s hop => exact never (by rw [hop]; rfl) (next_sound ho hop hk h)
  case h_26 c hop =>
    split at hk
    · rename_i b hb
      unfold ABuiltin at hk
      split at hk
      · exact later (silK_sound hT ho hk h)
      · exact later (silK_sound hT ho hk h)
      · exact later (silK_sound hT ho hk h)
      · split at hk
        · rename_i s x t t' ha ht
          exact never (by rw [hop]; simp [keepsB, hb]) (append_sound hT ho hop hb ha ht hk h)
        · exact hk.elim
      · split at hk
        · rename_i s x t t' ha ht
          exact never (by rw [hop]; simp [keepsB, hb]) (copy_sound hT ho hop hb ha ht hk h)
        · exact hk.elim
      · split at hk
        · rename_i s x t t' ha ht
          exact never (by rw [hop]; simp [keepsB, hb]) (delete_sound hT ho hop hb ha ht hk h)
        · exact hk.elim
      · exact hk.elim
    · rename_i f hf
      have calls : ∀ (_ : o.op = .call c) (_ : c.callee = .value f) (g : Nat) (_ : FV), (∀ g', f = .func g' → g' = g) → Ends C.P o a w K (fun σ' a' w' => Ste w0 fp0 ok0 W n σ' a' w' ∧ ((aget [] C.M g).any id = false → Later w w')) →
          Ends C.P o a w K (fun σ' a' w' => Ste w0 fp0 ok0 W n σ' a' w' ∧ (keepsB C.M o.op = true → Later w w')) := fun hop hf g _ hg h => h.mono fun _ _ _ hh => ⟨hh.1, fun hkb => hh.2 (by
        rw [hop] at hkb
        simp only [keepsB, hf] at hkb
        split at hkb
        · rename_i g' _
          rw [hg g' rfl] at hkb
          simpa using hkb
        · simp at hkb)⟩
      have hops : ∀ x ∈ c.args.toList, FR w ok σ ρ (opv σ x) (a.eval x) := fun x hx => h.ops ho x (by
        rw [hop]
        simp only [Op.operands, Call.operands, hf, Array.toList_append, List.mem_append]
        exact .inr hx)
      have hfv : FR w ok σ ρ (opv σ f) (a.eval f) := h.ops ho f (by rw [hop]; simp [Op.operands, Call.operands, hf])
      split at hk
      · rename_i g caps hg
        rw [hg] at hfv
        simp only [FR, Sh] at hfv
        obtain ⟨vs, e, h3⟩ := hfv
        refine calls hop hf g .dead (fun g' hg' => by subst hg'; simp [opv] at hg; exact hg.1) (call_sound ho (fun hc => run_call_func hop hf e hc) hk h ?_)
        rw [Array.toList_append, Array.toList_map]
        exact FRL_append (FRL_map hops) (FRL_sh h3)
      · rename_i g caps hg
        rw [hg] at hfv
        simp only [FR] at hfv
        obtain ⟨vs, e, h3⟩ := hfv
        refine calls hop hf g .dead (fun g' hg' => by subst hg'; simp [opv] at hg) (call_sound ho (fun hc => run_call_func hop hf e hc) hk h ?_)
        rw [Array.toList_append, Array.toList_map]
        exact FRL_append (FRL_map hops) h3
      · exact hk.elim
    · exact hk.elim
  case h_28 => exact hk.elim
  all_goals exact later (silK_sound hT ho hk h)

/-! ### Guards -/
def smallOps (n : Nat) (ops : Array Oper) : Bool := ops.toList.all (smallO n)
theorem small_get {ops : Array Oper} {i : Nat} {o : Oper} (h : smallOps n ops = true) (hi : ops[i]? = some o) : smallO n o = true := by
  simp only [smallOps, List.all_eq_true] at h
  exact h o (by simpa using Array.mem_of_getElem? hi)

/-- The step of one number of a region. -/
theorem FR_skip : FR w ok σ ρ (.tu []) undef := by
  simp only [FR, FRL]
  exact ⟨#[], rfl, rfl⟩
theorem unwanted_skip (h : Stx w0 fp0 ok0 W n σ a w ok θ ρ φ) {ops : Array Oper} {o : Oper} {t j : Nat} {want : Bool} (htn : t < n) (hb : σ.env t = .tu []) (hg : o.guard = some (j, want)) (ht : (ops[j]?).bind (·.dst) = some t) : Region.wanted o (yielded ops a.tmps) = false := by
  have hev : a.eval (.tmp t) = undef := by
    have h1 := h.opv (x := .tmp t) (by simpa [smallX] using htn)
    have h2 : opv σ (.tmp t) = .tu [] := hb
    rw [h2] at h1
    simp only [FR, FRL] at h1
    obtain ⟨vs, e1, e2⟩ := h1
    rw [e1]
    have : vs = #[] := by
      apply Array.ext'
      simpa using e2
    rw [this]
    rfl
  have hy : yielded ops a.tmps j = none := by
    have hlt : t < a.tmps.size := by rw [h.sz]; exact htn
    have h1 : a.tmps[t]? = some undef := by
      have : a.tmps.getD t undef = undef := hev
      rw [Array.getD_eq_getD_getElem?, Array.getElem?_eq_getElem hlt] at this
      rw [Array.getElem?_eq_getElem hlt]
      simpa using this
    unfold yielded
    rw [ht]
    simp [h1, undef]
  simp [Region.wanted, hg, hy]
theorem opG_sound {C : Ctx} (hT : tabB C.P C.T = true) (hz : C.nW = 0 → fp0 = []) {ops : Array Oper} (hsm : smallOps n ops = true) {i : Nat} {o : Oper} (hi : ops[i]? = some o) {K : St → Prop} (hk : AOpG C ops o σ K) (h : Stx w0 fp0 ok0 W n σ a w ok θ ρ φ)
    (Kc : Act → World → Prop) (Q : Exit → Act → World → Prop) (hK : ∀ σ' a' w', K σ' → Ste w0 fp0 ok0 W n σ' a' w' → (keepsB C.M o.op = true → Later w w') → Kc a' w') : wpOp C.P ops Q i Kc a w := by
  have hK' : ∀ σ' a' w', K σ' → (Ste w0 fp0 ok0 W n σ' a' w' ∧ (keepsB C.M o.op = true → Later w w')) → Kc a' w' := fun σ' a' w' h1 h2 => hK σ' a' w' h1 h2.1 h2.2
  have ho := small_get hsm hi
  unfold wpOp
  simp only [hi]
  unfold AOpG at hk
  split at hk
  · rename_i hg
    have hw : Region.wanted o (yielded ops a.tmps) = true := by simp [Region.wanted, hg]
    rw [if_pos hw]
    exact .inl (op_sound hT hz ho hk h Kc Q hK')
  · rename_i j want hg
    split at hk
    · rename_i t ht
      split at hk
      · rename_i b hb
        have htn : t < n := by
          cases hj : ops[j]? with
          | none => simp [hj] at ht
          | some oj =>
            simp only [hj, Option.bind_some] at ht
            exact small_dst (small_get hsm hj) t ht
        have hev : a.eval (.tmp t) = .bool b := by
          have h1 := h.opv (x := .tmp t) (by simpa [smallX] using htn)
          have h2 : opv σ (.tmp t) = .d (.v (.bool b)) := hb
          rw [h2] at h1
          exact FR_v h1
        have hy : yielded ops a.tmps j = some b := by
          have hlt : t < a.tmps.size := by rw [h.sz]; exact htn
          have h1 : a.tmps[t]? = some (.bool b) := by
            have : a.tmps.getD t undef = .bool b := hev
            rw [Array.getD_eq_getD_getElem?, Array.getElem?_eq_getElem hlt] at this
            rw [Array.getElem?_eq_getElem hlt]
            simpa using this
          unfold yielded
          rw [ht]
          simp [h1]
        have hwant : Region.wanted o (yielded ops a.tmps) = (b == want) := by
          simp [Region.wanted, hg, hy]
        rw [hwant]
        by_cases hbw : b = want
        · subst hbw
          simp only [beq_self_eq_true, if_true]
          exact .inl (op_sound hT hz ho (hk.1 rfl) h Kc Q hK')
        · have : (b == want) = false := by simpa using hbw
          rw [this]
          simp only [Bool.false_eq_true, if_false]
          obtain ⟨θ', h3⟩ := h.put (dst := o.dst) (small_dst ho) (f := .tu []) (v := undef) (FR_skip)
          exact hK _ _ _ (hk.2 hbw) ⟨_, _, _, _, h3⟩ (fun _ => Later.refl w)
      · rename_i hb
        have htn : t < n := by
          cases hj : ops[j]? with
          | none => simp [hj] at ht
          | some oj =>
            simp only [hj, Option.bind_some] at ht
            exact small_dst (small_get hsm hj) t ht
        rw [unwanted_skip h htn hb hg ht]
        simp only [Bool.false_eq_true, if_false]
        obtain ⟨θ', h3⟩ := h.put (dst := o.dst) (small_dst ho) (f := .tu []) (v := undef) (FR_skip)
        exact hK _ _ _ hk ⟨_, _, _, _, h3⟩ (fun _ => Later.refl w)
      · exact hk.elim
    · exact hk.elim

end
end Go.Proofs.Ytfcgcgmleogamaa.Ab
namespace Go.Proofs.Ytfcgcgmleogamaa.Ab
open Go
set_option linter.unusedSimpArgs false
set_option linter.unusedVariables false
set_option linter.unusedSectionVars false

section
variable {w0 w : World} {fp0 : List Nat} {ok0 ok : Nat → Prop} {W : Nat → Value} {n : Nat} {σ : St} {θ : Nat → Value} {ρ : Rn → Value} {φ : Rn → List Nat} {a : Act} {P : Program} {ops : Array Oper} {Q : Exit → Act → World → Prop}

/-! ### In the order of the text -/
theorem ops_sound {C : Ctx} (hT : tabB C.P C.T = true) (hz : C.nW = 0 → fp0 = []) (hsm : smallOps n ops = true) : ∀ (m i : Nat) (σ : St) (a : Act) (w : World) (K : St → Prop), i + m = ops.size → AOps C ops (ops.toList.drop i) σ K → Ste w0 fp0 ok0 W n σ a w →
    (∀ σ' a' w', K σ' → Ste w0 fp0 ok0 W n σ' a' w' → Q .normal a' w') → wpOps C.P ops Q (List.range' i m) a w
  | 0, i, σ, a, w, K, hi, hk, hs, hK => by
    rw [List.drop_eq_nil_of_le (by simp; omega)] at hk
    exact hK σ a w hk hs
  | m + 1, i, σ, a, w, K, hi, hk, hs, hK => by
    have hlt : i < ops.toList.length := by simp; omega
    have ho : ops[i]? = some ops.toList[i] := by simp [hlt]
    rw [List.drop_eq_getElem_cons hlt] at hk
    simp only [AOps] at hk
    obtain ⟨ok, θ, ρ, φ, hs⟩ := hs
    rw [List.range'_succ, wpOps_cons]
    refine opG_sound hT hz hsm ho hk hs _ _ fun σ' a' w' hk' hs' _ => ?_
    exact ops_sound hT hz hsm m (i + 1) σ' a' w' K (by omega) hk' hs' hK

/-! ### In any order -/
def wpAnyK (P : Program) (M : List (Nat × List Bool)) (ops : Array Oper) (Q : Exit → Act → World → Prop) : Nat → Array Bool → Act → World → Prop
  | 0, listed, a, w => Region.ready .any ops listed = [] ∧ Q .normal a w
  | fuel + 1, listed, a, w => (Region.ready .any ops listed = [] → Q .normal a w) ∧
    ∀ i ∈ Region.ready .any ops listed, ∀ o, ops[i]? = some o → wpOp P ops Q i (fun a' w' => (keepsB M o.op = true → Later w w') ∧ wpAnyK P M ops Q fuel (listed.setIfInBounds i true) a' w') a w

theorem wpAnyK_any {M : List (Nat × List Bool)} : ∀ (fuel : Nat) (listed : Array Bool) (a : Act) (w : World), wpAnyK P M ops Q fuel listed a w → wpAny P .any ops Q fuel listed a w
  | 0, _, _, _, h => h
  | fuel + 1, listed, a, w, h => ⟨h.1, fun i hi => by
      obtain ⟨_, o, ho, _⟩ := mem_ready.1 hi
      exact wpOp_mono (fun a' w' h' => wpAnyK_any fuel _ a' w' h'.2) (h.2 i hi o ho)⟩

def YieldsL (P : Program) (ops : Array Oper) (o : Oper) (v : Value) (rd : Bool) (a : Act) (w : World) : Prop :=
  (Region.wanted o (yielded ops a.tmps) = true ∧ ∀ w', (rd = true → Later w w') → (execOp a.eval o).run P w' = .ok (.value v) w') ∨
  (Region.wanted o (yielded ops a.tmps) = false ∧ v = undef)
theorem YieldsL.wpOp {i : Nat} {o : Oper} {v : Value} {rd : Bool} (hi : ops[i]? = some o) (hy : YieldsL P ops o v rd a w) {K : Act → World → Prop} (h : K (a.put o.dst v) w) : wpOp P ops Q i K a w := by
  unfold Go.wpOp
  simp only [hi]
  rcases hy with ⟨hw, hv⟩ | ⟨hw, rfl⟩
  · simp only [hw, if_true, Oper.wp, hv w (fun _ => Later.refl w), Oper.upon]; exact .inl h
  · simp only [hw, Bool.false_eq_true, if_false]; exact h
theorem YieldsL.of_same {o : Oper} {v : Value} {rd : Bool} {a a' : Act} {w w' : World} (hy : YieldsL P ops o v rd a w) (he : execOp a'.eval o = execOp a.eval o)
    (hw : Region.wanted o (yielded ops a'.tmps) = Region.wanted o (yielded ops a.tmps)) (hl : rd = true → Later w w') : YieldsL P ops o v rd a' w' := by
  unfold YieldsL at *
  rw [he, hw]
  exact hy.imp (fun h => ⟨h.1, fun w2 h2 => h.2 w2 fun hr => (hl hr).trans (h2 hr)⟩) id

theorem wpOp_putK {M : List (Nat × List Bool)} {j : Nat} {oi oj : Oper} {v : Value} {rd : Bool} (hj : ops[j]? = some oj) (hap : oi.apart ops oj = true) (hkp : rd = true → keepsB M oj.op = true)
    (hsi : ∀ cs b, oi.op ≠ .select cs b) (hsj : ∀ cs b, oj.op ≠ .select cs b)
    (hQ : ∀ c a w, Q (.panic c) (a.put oi.dst v) w → Q (.panic c) a w) {K : Act → World → Prop} {a : Act} {w : World}
    (hy : YieldsL P ops oi v rd a w) (h : wpOp P ops Q j (fun a' w' => (keepsB M oj.op = true → Later w w') ∧ K a' w') (a.put oi.dst v) w) :
    wpOp P ops Q j (fun a' w' => (keepsB M oj.op = true → Later w w') ∧ YieldsL P ops oi v rd a' w' ∧ K (a'.put oi.dst v) w') a w := by
  obtain ⟨h1, h2, h3⟩ := Oper.apart_spec hap
  have keep : ∀ (a : Act) (w' : World), YieldsL P ops oi v rd a w → (keepsB M oj.op = true → Later w w') → ∀ u, YieldsL P ops oi v rd (a.put oj.dst u) w' := fun a w' hy hl u =>
    hy.of_same (execOp_put oi hsi a oj.dst u h3) (wanted_put oi a oj.dst u h3) fun hr => hl (hkp hr)
  have keepD : ∀ d, YieldsL P ops oi v rd { a with defers := d :: a.defers } w := fun d => hy.of_same rfl rfl fun _ => Later.refl w
  unfold wpOp at *
  simp only [hj] at *
  rw [wanted_put oj a oi.dst v h1] at h
  split
  · rename_i hw
    simp only [hw, if_true] at h
    rcases h with h | ⟨hasks, hlets⟩
    case inr => exact .inr ⟨by unfold Oper.asks at *; rw [execOp_put oj hsj a oi.dst v h1] at hasks; exact hasks, hlets⟩
    refine .inl ?_
    unfold Oper.wp at *
    rw [execOp_put oj hsj a oi.dst v h1] at h
    generalize (execOp a.eval oj).run P w = r at *
    cases r with
    | ok n w' =>
      cases n <;> simp only [Oper.upon] at h ⊢
      case value u => exact ⟨h.1, keep a w' hy h.1 u, by rw [← Act.put_comm a v u h2]; exact h.2⟩
      case skip => exact ⟨h.1, keep a w' hy h.1 _, by rw [← Act.put_comm a v undef h2]; exact h.2⟩
      case defer d =>
        refine ⟨h.1, keep _ w' (keepD d) h.1 _, ?_⟩
        rw [← Act.put_comm _ v undef h2, ← Act.put_defers]
        exact h.2
      case enter f args =>
        refine Calls.mono h fun e w'' he => ?_
        cases e with
        | returned u => exact ⟨he.1, keep a w'' hy he.1 u, by rw [← Act.put_comm a v u h2]; exact he.2⟩
        | panicked c => exact hQ _ _ _ he
        | outgrown => exact he
      case row row args => exact Rows.mono h fun u w'' he => ⟨he.1, keep a w'' hy he.1 u, by rw [← Act.put_comm a v u h2]; exact he.2⟩
    | halt x w' =>
      cases x <;> simp only [Oper.upon] at h ⊢
      case panic u => exact hQ _ _ _ h
  · rename_i hw
    simp only [hw] at h
    exact ⟨h.1, keep a w hy h.1 _, by rw [← Act.put_comm a v undef h2]; exact h.2⟩

/-- What is listed has all it waits for listed. -/
def Closed (ops : Array Oper) (listed : Array Bool) : Prop := ∀ k o, ops[k]? = some o → listed.getD k false = true → ∀ e ∈ o.after, bindsB e = true → listed.getD e.on false = true
theorem getD_lt {listed : Array Bool} {k : Nat} (h : listed.getD k false = true) : k < listed.size := by
  rcases Nat.lt_or_ge k listed.size with h' | h'
  · exact h'
  · simp [Array.getElem?_eq_none h'] at h
theorem closed_set {listed : Array Bool} {i : Nat} (h : Closed ops listed) (hr : i ∈ Region.ready .any ops listed) : Closed ops (listed.setIfInBounds i true) := by
  intro k o hk hl e he hb
  by_cases hki : i = k
  · subst hki
    obtain ⟨_, o', ho', hall⟩ := mem_ready.1 hr
    rw [hk] at ho'
    injection ho' with ho'
    subst ho'
    exact getD_set_true (hall e he hb)
  · rw [getD_set_ne false hki] at hl
    exact getD_set_true (h k o hk hl e he hb)
theorem not_waits {listed : Array Bool} {i : Nat} (h : Closed ops listed) (hi : listed.getD i true = false) : ∀ (m k : Nat), (∀ o, ops[k]? = some o → ∀ e ∈ o.after, bindsB e = true → listed.getD e.on false = true) → waitsB ops i m k = false
  | 0, k, _ => rfl
  | m + 1, k, hk => by
    unfold waitsB
    split
    · rename_i oj hoj
      rw [Bool.eq_false_iff]
      intro hany
      rw [Bool.or_eq_true] at hany
      rcases hany with hany | hany
      · obtain ⟨e, he, hb⟩ := Array.any_eq_true'.1 hany
        simp only [Bool.and_eq_true, beq_iff_eq] at hb
        have hle := hk oj hoj e he hb.1
        rw [hb.2] at hle
        have := getD_lt hle
        simp [this] at hi hle
        rw [hi] at hle
        simp at hle
      · obtain ⟨e, he, hb⟩ := Array.any_eq_true'.1 hany
        simp only [Bool.and_eq_true] at hb
        have hle := hk oj hoj e he hb.1
        have h2 := hb.2.2
        rw [not_waits h hi m e.on (fun o ho e' he' hb' => h e.on o ho hle e' he' hb')] at h2
        simp at h2
    · rfl

theorem wpAnyK_first {M : List (Nat × List Bool)} {i : Nat} {oi : Oper} {v : Value} {rd : Bool} (hi : ops[i]? = some oi) (hsel : ∀ (j : Nat) (o : Oper) cs b, ops[j]? = some o → o.op ≠ .select cs b)
    (hQ : ∀ c a w, Q (.panic c) (a.put oi.dst v) w → Q (.panic c) a w) :
    ∀ (fuel : Nat) (listed : Array Bool) (a : Act) (w : World), Closed ops listed →
      (∀ j oj, ops[j]? = some oj → j ≠ i → listed.getD j true = false → waitsB ops i ops.size j = false → oi.apart ops oj = true ∧ (rd = true → keepsB M oj.op = true)) →
      i ∈ Region.ready .any ops listed → YieldsL P ops oi v rd a w →
      wpAnyK P M ops Q fuel (listed.setIfInBounds i true) (a.put oi.dst v) w → wpAnyK P M ops Q (fuel + 1) listed a w := by
  intro fuel
  induction fuel with
  | zero =>
    intro listed a w _ _ hr hy H
    refine ⟨fun h => (by rw [h] at hr; cases hr), fun j hj o ho => ?_⟩
    by_cases hji : j = i
    · subst hji
      exact hy.wpOp hi ⟨fun _ => Later.refl w, H⟩
    · have := ready_mono hj hji
      rw [H.1] at this
      cases this
  | succ fuel ih =>
    intro listed a w hcl hfree hr hy H
    refine ⟨fun h => (by rw [h] at hr; cases hr), fun j hj o ho => ?_⟩
    by_cases hji : j = i
    · subst hji
      exact hy.wpOp hi ⟨fun _ => Later.refl w, H⟩
    · have h1 := H.2 j (ready_mono hj hji) o ho
      obtain ⟨hjun, oj, hoj, hall⟩ := mem_ready.1 hj
      rw [ho] at hoj
      injection hoj with hoj
      subst hoj
      have hiun := (mem_ready.1 hr).1
      have hnw : waitsB ops i ops.size j = false := not_waits hcl hiun _ _ fun o' ho' e he hb => by
        rw [ho] at ho'
        injection ho' with ho'
        subst ho'
        exact hall e he hb
      obtain ⟨f1, f2⟩ := hfree j o ho hji hjun hnw
      have h2 := wpOp_putK (M := M) ho f1 f2 (fun cs b => hsel i oi cs b hi) (fun cs b => hsel j o cs b ho) hQ hy h1
      refine wpOp_mono (fun a' w' h3 => ⟨h3.1, ih (listed.setIfInBounds j true) a' w' (closed_set hcl hj) (fun k ok hk hki hun hno => hfree k ok hk hki ?_ hno) (ready_mono hr (Ne.symm hji)) h3.2.1 ?_⟩) h2
      · by_cases hjk : j = k
        · subst hjk; exact hjun
        · rw [getD_set_ne true hjk] at hun; exact hun
      · rw [Array.setIfInBounds_comm _ _ hji]
        exact h3.2.2

theorem AOp_sil {C : Ctx} {o : Oper} {K : St → Prop} (hs : silB o.op = true) (hk : AOp C o σ K) : silK C o σ K ∨ (∃ x, (o.op = .move x ∨ o.op = .assign x) ∧ AFrS C o.dst x σ K) ∨ ASlice C o σ K := by
  unfold AOp at hk
  split at hk <;> rename_i hop <;> first
    | exact .inl hk
    | (rw [hop] at hs; simp [silB] at hs; done)
    | skip
  · split at hk
    · exact .inr (.inl ⟨_, .inl hop, hk⟩)
    · exact .inl hk
  · split at hk
    · exact .inr (.inl ⟨_, .inr hop, hk⟩)
    · exact .inl hk
  · split at hk
    · exact .inr (.inr hk)
    · exact .inl hk
  · left
    rw [hop] at hs
    simp only [silB, Bool.not_eq_true'] at hs
    rw [hs] at hk
    simpa using hk
  · left
    rw [hop] at hs
    simp only [silB] at hs
    split at hs
    · rename_i b hb
      rw [hb] at hk
      simp only at hk
      unfold ABuiltin at hk
      split at hs <;> first | exact hk | (simp at hs; done)
    · simp at hs
  · exact hk.elim

theorem silG_sound {C : Ctx} (hT : tabB C.P C.T = true) (hz : C.nW = 0 → fp0 = []) (hsm : smallOps n ops = true) {i : Nat} {o : Oper} (hi : ops[i]? = some o) {K : St → Prop} (hs : silB o.op = true) (hk : AOpG C ops o σ K) (h : Stx w0 fp0 ok0 W n σ a w ok θ ρ φ) :
    ∃ v σ', K σ' ∧ Ste w0 fp0 ok0 W n σ' (a.put o.dst v) w ∧ YieldsL C.P ops o v (readsB o.op) a w := by
  have ho := small_get hsm hi
  have main : ∀ K', AOp C o σ K' → Region.wanted o (yielded ops a.tmps) = true → ∃ v σ', K' σ' ∧ Ste w0 fp0 ok0 W n σ' (a.put o.dst v) w ∧ YieldsL C.P ops o v (readsB o.op) a w := by
    intro K' hk' hw
    rcases AOp_sil hs hk' with this | ⟨x, hop, hfr⟩ | hsl
    case inr.inr =>
      obtain ⟨v, σ', k1, k2, k3⟩ := cutSlice_step hT ho hsl h
      exact ⟨v, σ', k1, k2, .inl ⟨hw, k3⟩⟩
    case inr.inl =>
      obtain ⟨σ', k1, k2⟩ := frs_step hz ho hop hfr h
      exact ⟨a.eval x, σ', k1, k2, .inl ⟨hw, fun w' _ => by rcases hop with hop | hop <;> simp [execOp, hop]⟩⟩
    unfold silK at this
    split at this
    · rename_i c f hsil
      obtain ⟨v, h1, h2⟩ := sil_sound hT h.rel a o hsil this.1 (h.ops ho)
      obtain ⟨θ', h3⟩ := h.put (dst := o.dst) (small_dst ho) h1
      exact ⟨v, _, this.2, ⟨_, _, _, _, h3⟩, .inl ⟨hw, h2⟩⟩
    · exact this.elim
  unfold AOpG at hk
  split at hk
  · rename_i hg
    exact main K hk (by simp [Region.wanted, hg])
  · rename_i j want hg
    split at hk
    · rename_i t ht
      split at hk
      · rename_i b hb
        have htn : t < n := by
          cases hj : ops[j]? with
          | none => simp [hj] at ht
          | some oj =>
            simp only [hj, Option.bind_some] at ht
            exact small_dst (small_get hsm hj) t ht
        have hev : a.eval (.tmp t) = .bool b := by
          have h1 := h.opv (x := .tmp t) (by simpa [smallX] using htn)
          have h2 : opv σ (.tmp t) = .d (.v (.bool b)) := hb
          rw [h2] at h1
          exact FR_v h1
        have hy : yielded ops a.tmps j = some b := by
          have hlt : t < a.tmps.size := by rw [h.sz]; exact htn
          have h1 : a.tmps[t]? = some (.bool b) := by
            have : a.tmps.getD t undef = .bool b := hev
            rw [Array.getD_eq_getD_getElem?, Array.getElem?_eq_getElem hlt] at this
            rw [Array.getElem?_eq_getElem hlt]
            simpa using this
          unfold yielded
          rw [ht]
          simp [h1]
        have hwant : Region.wanted o (yielded ops a.tmps) = (b == want) := by
          simp [Region.wanted, hg, hy]
        by_cases hbw : b = want
        · exact main K (hk.1 hbw) (by rw [hwant]; simpa using hbw)
        · obtain ⟨θ', h3⟩ := h.put (dst := o.dst) (small_dst ho) (f := .tu []) (v := undef) (FR_skip)
          exact ⟨undef, _, hk.2 hbw, ⟨_, _, _, _, h3⟩, .inr ⟨by rw [hwant]; simpa using hbw, rfl⟩⟩
      · rename_i hb
        have htn : t < n := by
          cases hj : ops[j]? with
          | none => simp [hj] at ht
          | some oj =>
            simp only [hj, Option.bind_some] at ht
            exact small_dst (small_get hsm hj) t ht
        obtain ⟨θ', h3⟩ := h.put (dst := o.dst) (small_dst ho) (f := .tu []) (v := undef) (FR_skip)
        exact ⟨undef, _, hk, ⟨_, _, _, _, h3⟩, .inr ⟨unwanted_skip h htn hb hg ht, rfl⟩⟩
      · exact hk.elim
    · exact hk.elim

def unl (listed : Array Bool) : Nat := listed.toList.count false
theorem count_set : ∀ (l : List Bool) (i : Nat), l[i]? = some false → (l.set i true).count false + 1 = l.count false
  | [], i, h => by simp at h
  | x :: l, 0, h => by
    simp only [List.getElem?_cons_zero, Option.some.injEq] at h
    subst h
    simp
  | x :: l, i + 1, h => by
    simp only [List.getElem?_cons_succ] at h
    have := count_set l i h
    simp only [List.set_cons_succ, List.count_cons]
    omega
theorem unl_set {listed : Array Bool} {i : Nat} (hi : listed.getD i true = false) : unl (listed.setIfInBounds i true) + 1 = unl listed := by
  unfold unl
  rw [Array.toList_setIfInBounds]
  refine count_set _ _ ?_
  rcases Nat.lt_or_ge i listed.size with h' | h'
  · simp [h'] at hi
    simp [h', hi]
  · simp [Array.getElem?_eq_none h'] at hi

mutual
theorem run_sound {C : Ctx} (hT : tabB C.P C.T = true) (hz : C.nW = 0 → fp0 = []) (hsm : smallOps n ops = true) (hns : Region.noSelect ops = true) (hQ : ∀ c a w, ¬ Q (.panic c) a w) : ∀ (p : Plan) (listed : Array Bool) (σ : St) (a : Act) (w : World) (K : St → Prop), planB C.M ops p listed = true → Closed ops listed →
    ARun C ops p σ K → Ste w0 fp0 ok0 W n σ a w → (∀ σ' a' w', K σ' → Ste w0 fp0 ok0 W n σ' a' w' → Q .normal a' w') → ∀ fuel, unl listed ≤ fuel → wpAnyK C.P C.M ops Q fuel listed a w
  | .done, listed, σ, a, w, K, hp, hc, hk, hs, hK, fuel, hf => by
    have hr : Region.ready .any ops listed = [] := by simpa [planB] using hp
    have hq := hK σ a w (by simpa only [ARun] using hk) hs
    cases fuel with
    | zero => exact ⟨hr, hq⟩
    | succ fuel => exact ⟨fun _ => hq, by rw [hr]; simp⟩
  | .take i p, listed, σ, a, w, K, hp, hc, hk, hs, hK, fuel, hf => by
    simp only [planB, Bool.and_eq_true] at hp
    obtain ⟨⟨hr, hfr⟩, hp⟩ := hp
    have hr' : i ∈ Region.ready .any ops listed := by simpa using hr
    have hun := (mem_ready.1 hr').1
    have hu := unl_set hun
    cases fuel with
    | zero => omega
    | succ fuel =>
      simp only [ARun] at hk
      split at hk
      · rename_i o ho
        obtain ⟨ok, θ, ρ, φ, hs⟩ := hs
        unfold freeB at hfr
        rw [ho] at hfr
        simp only [Bool.and_eq_true, List.all_eq_true, List.mem_range] at hfr
        obtain ⟨v, σ', k1, k2, k3⟩ := silG_sound hT hz hsm ho hfr.1 hk hs
        refine wpAnyK_first ho (Region.noSelect_spec hns) (fun c a w h => absurd h (hQ c _ w)) fuel listed a w hc (fun j oj hj hji hjun hnw => ?_) hr' k3
          (run_sound hT hz hsm hns hQ p _ σ' _ w K hp (closed_set hc hr') k1 k2 hK fuel (by omega))
        have h1 := hfr.2 j (Array.getElem?_eq_some_iff.1 hj).1
        simp only [hj, Bool.or_eq_true, beq_iff_eq, hji, false_or, hjun, Bool.false_eq_true, hnw, Bool.and_eq_true, Bool.not_eq_true'] at h1
        have h2 : Oper.apart ops o oj = true ∧ (readsB o.op = false ∨ keepsB C.M oj.op = true) := by simpa using h1
        exact ⟨h2.1, fun hrd => h2.2.resolve_left (by rw [hrd]; simp)⟩
      · exact hk.elim
  | .all ps, listed, σ, a, w, K, hp, hc, hk, hs, hK, fuel, hf => by
    simp only [planB, Bool.and_eq_true, beq_iff_eq] at hp
    obtain ⟨⟨hr, hne⟩, hp⟩ := hp
    have hun : ∀ i ∈ Region.ready .any ops listed, listed.getD i true = false := fun i hi => (mem_ready.1 hi).1
    have hnil : Region.ready .any ops listed ≠ [] := by
      rw [hr]
      cases ps <;> simp_all
    cases fuel with
    | zero =>
      cases hrr : Region.ready .any ops listed with
      | nil => exact absurd hrr hnil
      | cons i l =>
        have := unl_set (hun i (by rw [hrr]; simp))
        omega
    | succ fuel =>
      refine ⟨fun h => absurd h hnil, fun i hi o ho => ?_⟩
      have hu := unl_set (hun i hi)
      have hmem : i ∈ ps.map (·.1) := by rw [← hr]; exact hi
      obtain ⟨⟨i', p⟩, hip, e⟩ := List.mem_map.1 hmem
      simp only at e
      subst e
      exact runL_sound hT hz hsm hns hQ ps listed σ a w K hp hc (by simpa only [ARun] using hk) hs hK fuel i' p hip hi o ho (by omega)
theorem runL_sound {C : Ctx} (hT : tabB C.P C.T = true) (hz : C.nW = 0 → fp0 = []) (hsm : smallOps n ops = true) (hns : Region.noSelect ops = true) (hQ : ∀ c a w, ¬ Q (.panic c) a w) : ∀ (ps : List (Nat × Plan)) (listed : Array Bool) (σ : St) (a : Act) (w : World) (K : St → Prop), planBL C.M ops ps listed = true → Closed ops listed →
    ARunL C ops ps σ K → Ste w0 fp0 ok0 W n σ a w → (∀ σ' a' w', K σ' → Ste w0 fp0 ok0 W n σ' a' w' → Q .normal a' w') → ∀ fuel i p, (i, p) ∈ ps → i ∈ Region.ready .any ops listed → ∀ o, ops[i]? = some o → unl (listed.setIfInBounds i true) ≤ fuel →
    wpOp C.P ops Q i (fun a' w' => (keepsB C.M o.op = true → Later w w') ∧ wpAnyK C.P C.M ops Q fuel (listed.setIfInBounds i true) a' w') a w
  | [], listed, σ, a, w, K, hp, hc, hk, hs, hK, fuel, i, p, hip, hi, o, ho, hf => by simp at hip
  | (i0, p0) :: ps, listed, σ, a, w, K, hp, hc, hk, hs, hK, fuel, i, p, hip, hi, o, ho, hf => by
    simp only [planBL, Bool.and_eq_true] at hp
    simp only [ARunL] at hk
    rcases List.mem_cons.1 hip with e | hip
    · injection e with e1 e2
      subst e1; subst e2
      have hk1 := hk.1
      rw [ho] at hk1
      simp only at hk1
      obtain ⟨ok, θ, ρ, φ, hs⟩ := hs
      exact opG_sound hT hz hsm ho hk1 hs _ _ fun σ' a' w' h1 h2 h3 => ⟨h3, run_sound hT hz hsm hns hQ p _ σ' a' w' K hp.1 (closed_set hc hi) h1 h2 hK fuel hf⟩
    · exact runL_sound hT hz hsm hns hQ ps listed σ a w K hp.2 hc hk.2 hs hK fuel i p hip hi o ho hf
end

end
end Go.Proofs.Ytfcgcgmleogamaa.Ab
namespace Go.Proofs.Ytfcgcgmleogamaa.Ab
open Go
set_option linter.unusedSimpArgs false
set_option linter.unusedVariables false
set_option linter.unusedSectionVars false

section
variable {w0 w : World} {fp0 : List Nat} {ok0 ok : Nat → Prop} {W : Nat → Value} {n : Nat} {σ : St} {θ : Nat → Value} {ρ : Rn → Value} {φ : Rn → List Nat} {a : Act}

/-! ### Names -/
structure NInv (e : Nat → FV) (seen : List Nat) (m : List (Rn × Rn)) : Prop where
  old : (m.map (·.1)).Nodup
  new : (m.map (·.2)).Nodup
  own : ∀ x ∈ m, x.2.1 ∈ seen
  all : ∀ t ∈ seen, ∀ r ∈ (e t).roots, r ∈ m.map (·.1)

theorem any_mem {m : List (Rn × Rn)} {r : Rn} : m.any (fun x => x.1 == r) = true ↔ r ∈ m.map (·.1) := by
  rw [List.any_eq_true, List.mem_map]
  refine ⟨fun ⟨x, hx, e⟩ => ⟨x, hx, by simpa using e⟩, fun ⟨x, hx, e⟩ => ⟨x, hx, by simpa using e⟩⟩

theorem addNames_spec (t : Nat) : ∀ (rs : List Rn) (j : Nat) (m : List (Rn × Rn)), (m.map (·.1)).Nodup → (m.map (·.2)).Nodup → (∀ x ∈ m, x.2.1 = t → x.2.2 < j) →
    ((addNames t j rs m).map (·.1)).Nodup ∧ ((addNames t j rs m).map (·.2)).Nodup ∧ (∀ x ∈ addNames t j rs m, x ∈ m ∨ x.2.1 = t) ∧ (∀ x ∈ m, x ∈ addNames t j rs m) ∧ (∀ r ∈ rs, r ∈ (addNames t j rs m).map (·.1)) ∧
      ((∀ r ∈ rs, r ∈ m.map (·.1)) → addNames t j rs m = m)
  | [], j, m, h1, h2, h3 => ⟨h1, h2, fun x hx => .inl hx, fun x hx => hx, by simp, fun _ => rfl⟩
  | r :: rs, j, m, h1, h2, h3 => by
    simp only [addNames]
    by_cases hr : r ∈ m.map (·.1)
    · rw [if_pos (any_mem.2 hr)]
      obtain ⟨a1, a2, a3, a4, a5, a6⟩ := addNames_spec t rs j m h1 h2 h3
      refine ⟨a1, a2, a3, a4, fun q hq => ?_, fun h => a6 fun q hq => h q (List.mem_cons_of_mem _ hq)⟩
      rcases List.mem_cons.1 hq with rfl | hq
      · obtain ⟨x, hx, e⟩ := List.mem_map.1 hr
        exact List.mem_map.2 ⟨x, a4 x hx, e⟩
      · exact a5 q hq
    · rw [if_neg (fun h => hr (any_mem.1 h))]
      have g1 : ((m ++ [(r, (t, j))]).map (·.1)).Nodup := by
        rw [List.map_append, List.nodup_append]
        refine ⟨h1, by simp, fun x hx y hy => ?_⟩
        simp only [List.map_cons, List.map_nil, List.mem_singleton] at hy
        subst hy
        exact fun e => hr (e ▸ hx)
      have g2 : ((m ++ [(r, (t, j))]).map (·.2)).Nodup := by
        rw [List.map_append, List.nodup_append]
        refine ⟨h2, by simp, fun x hx y hy => ?_⟩
        simp only [List.map_cons, List.map_nil, List.mem_singleton] at hy
        subst hy
        obtain ⟨z, hz, e⟩ := List.mem_map.1 hx
        intro e2
        have := h3 z hz (by rw [e, e2])
        rw [e, e2] at this
        simp at this
      have g3 : ∀ x ∈ m ++ [(r, (t, j))], x.2.1 = t → x.2.2 < j + 1 := fun x hx hxt => by
        rcases List.mem_append.1 hx with hx | hx
        · have := h3 x hx hxt; omega
        · simp only [List.mem_singleton] at hx
          subst hx
          simp
      obtain ⟨a1, a2, a3, a4, a5, a6⟩ := addNames_spec t rs (j + 1) _ g1 g2 g3
      refine ⟨a1, a2, fun x hx => ?_, fun x hx => a4 x (by simp [hx]), fun q hq => ?_, fun h => absurd (h r (by simp)) hr⟩
      · rcases a3 x hx with h | h
        · rcases List.mem_append.1 h with h | h
          · exact .inl h
          · simp only [List.mem_singleton] at h
            subst h
            exact .inr rfl
        · exact .inr h
      · rcases List.mem_cons.1 hq with rfl | hq
        · exact List.mem_map.2 ⟨(q, (t, j)), a4 _ (by simp), rfl⟩
        · exact a5 q hq

theorem names_spec (e : Nat → FV) : ∀ (ks seen : List Nat) (m : List (Rn × Rn)), NInv e seen m → ∃ seen', NInv e seen' (names e ks m)
  | [], seen, m, h => ⟨seen, h⟩
  | t :: ks, seen, m, h => by
    simp only [names]
    by_cases ht : t ∈ seen
    · have hno : addNames t 0 (e t).roots m = m := by
        have : ∀ (rs : List Rn) (j : Nat), (∀ r ∈ rs, r ∈ m.map (·.1)) → addNames t j rs m = m := by
          intro rs
          induction rs with
          | nil => intro j _; rfl
          | cons r rs ih =>
            intro j hr
            simp only [addNames]
            rw [if_pos (any_mem.2 (hr r (by simp)))]
            exact ih j fun q hq => hr q (by simp [hq])
        exact this _ _ (h.all t ht)
      rw [hno]
      exact names_spec e ks seen m h
    · obtain ⟨a1, a2, a3, a4, a5, a6⟩ := addNames_spec t (e t).roots 0 m h.old h.new (fun x hx hxt => absurd (hxt ▸ h.own x hx) ht)
      refine names_spec e ks (t :: seen) _ ⟨a1, a2, fun x hx => ?_, fun s hs r hr => ?_⟩
      · rcases a3 x hx with h1 | h1
        · exact List.mem_cons_of_mem _ (h.own x h1)
        · rw [h1]; simp
      · rcases List.mem_cons.1 hs with rfl | hs
        · exact a5 r hr
        · obtain ⟨x, hx, e2⟩ := List.mem_map.1 (h.all s hs r hr)
          exact List.mem_map.2 ⟨x, a4 x hx, e2⟩

def invR (m : List (Rn × Rn)) (q : Rn) : Option Rn :=
  match m with
  | [] => none
  | (o, x) :: l => if x = q then some o else invR l q
theorem invR_ofRO (g : Rn → Option D) : ∀ (m : List (Rn × Rn)) (q : Rn), ofRO (m.map fun x => (x.2, g x.1)) q = (match invR m q with | some o => g o | none => none)
  | [], q => rfl
  | (o, x) :: l, q => by
    simp only [List.map_cons, ofRO, invR]
    split
    · rfl
    · exact invR_ofRO g l q
theorem renR_mem : ∀ {m : List (Rn × Rn)} {r q : Rn}, renR m r = some q → (r, q) ∈ m
  | [], r, q, h => by simp [renR] at h
  | (o, x) :: l, r, q, h => by
    simp only [renR] at h
    split at h
    · rename_i e
      subst e
      injection h with h
      subst h
      simp
    · exact List.mem_cons_of_mem _ (renR_mem h)
theorem invR_mem : ∀ {m : List (Rn × Rn)} {r q : Rn}, invR m q = some r → (r, q) ∈ m
  | [], r, q, h => by simp [invR] at h
  | (o, x) :: l, r, q, h => by
    simp only [invR] at h
    split at h
    · rename_i e
      subst e
      injection h with h
      subst h
      simp
    · exact List.mem_cons_of_mem _ (invR_mem h)
theorem invR_of : ∀ {m : List (Rn × Rn)} {r q : Rn}, (m.map (·.2)).Nodup → (r, q) ∈ m → invR m q = some r
  | [], r, q, _, h => by simp at h
  | (o, x) :: l, r, q, hn, h => by
    simp only [List.map_cons, List.nodup_cons] at hn
    rcases List.mem_cons.1 h with e | h
    · injection e with e1 e2
      subst e1; subst e2
      simp [invR]
    · have hne : x ≠ q := fun e => hn.1 (e ▸ List.mem_map.2 ⟨(r, q), h, rfl⟩)
      simp only [invR, if_neg hne]
      exact invR_of hn.2 h
theorem fst_inj : ∀ {m : List (Rn × Rn)} {r q q' : Rn}, (m.map (·.1)).Nodup → (r, q) ∈ m → (r, q') ∈ m → q = q'
  | [], r, q, q', _, h, _ => by simp at h
  | (o, x) :: l, r, q, q', hn, h, h' => by
    simp only [List.map_cons, List.nodup_cons] at hn
    rcases List.mem_cons.1 h with e | h1 <;> rcases List.mem_cons.1 h' with e' | h2
    · injection e with e1 e2
      injection e' with e3 e4
      exact e2.trans e4.symm
    · injection e with e1 e2
      subst e1
      exact absurd (List.mem_map.2 ⟨(r, q'), h2, rfl⟩) hn.1
    · injection e' with e1 e2
      subst e1
      exact absurd (List.mem_map.2 ⟨(r, q), h1, rfl⟩) hn.1
    · exact fst_inj hn.2 h1 h2

def reR (m : List (Rn × Rn)) (ρ : Rn → Value) (q : Rn) : Value := match invR m q with | some o => ρ o | none => undef
def reF (m : List (Rn × Rn)) (φ : Rn → List Nat) (q : Rn) : List Nat := match invR m q with | some o => φ o | none => []
theorem reR_some {m : List (Rn × Rn)} {q o : Rn} (h : invR m q = some o) : reR m ρ q = ρ o := by simp [reR, h]
theorem reF_some {m : List (Rn × Rn)} {q o : Rn} (h : invR m q = some o) : reF m φ q = φ o := by simp [reF, h]
mutual
theorem FR_ren {m : List (Rn × Rn)} {σ' : St} {ρ' : Rn → Value} (hσ : ∀ r q, renR m r = some q → σ'.rts q = σ.rts r ∧ ρ' q = ρ r) : ∀ (f : FV) (u : Value), FR w ok σ ρ f u → FR w ok σ' ρ' (f.ren m) u
  | .d x, u, h => by simpa only [FR, FV.ren] using h
  | .sp cs o, u, h => by simpa only [FR, FV.ren] using h
  | .dead, u, h => by simp [FR, FV.ren]
  | .al r p lo n, u, h => by
    simp only [FV.ren]
    split
    · rename_i q hq
      obtain ⟨h1, h2⟩ := hσ r q hq
      simpa only [FR, St.obj, h1, h2] using h
    · simp [FR]
  | .cu r p n, u, h => by
    simp only [FV.ren]
    split
    · rename_i q hq
      obtain ⟨h1, h2⟩ := hσ r q hq
      simpa only [FR, St.obj, h1, h2] using h
    · simp [FR]
  | .pt r p o, u, h => by
    simp only [FV.ren]
    split
    · rename_i q hq
      obtain ⟨h1, h2⟩ := hσ r q hq
      simpa only [FR, St.obj, h1, h2] using h
    · simp [FR]
  | .ar r p o n, u, h => by
    simp only [FV.ren]
    split
    · rename_i q hq
      obtain ⟨h1, h2⟩ := hσ r q hq
      simpa only [FR, St.obj, h1, h2] using h
    · simp [FR]
  | .mr r p, u, h => by
    simp only [FV.ren]
    split
    · rename_i q hq
      obtain ⟨h1, h2⟩ := hσ r q hq
      simpa only [FR, St.obj, h1, h2] using h
    · simp [FR]
  | .it r s p l c, u, h => by
    simp only [FV.ren]
    split
    · rename_i q x hq hx
      obtain ⟨h1, h2⟩ := hσ r q hq
      obtain ⟨h3, h4⟩ := hσ s x hx
      simpa only [FR, St.obj, h1, h2, h3, h4] using h
    · simp [FR]
  | .ag fs, u, h => by
    simp only [FR, FV.ren] at h ⊢
    obtain ⟨vs, e, h⟩ := h
    exact ⟨vs, e, FRL_ren hσ fs vs.toList h⟩
  | .tu fs, u, h => by
    simp only [FR, FV.ren] at h ⊢
    obtain ⟨vs, e, h⟩ := h
    exact ⟨vs, e, FRL_ren hσ fs vs.toList h⟩
  | .cl f fs, u, h => by
    simp only [FR, FV.ren] at h ⊢
    obtain ⟨vs, e, h⟩ := h
    exact ⟨vs, e, FRL_ren hσ fs vs.toList h⟩
  | .fb fs off, u, h => by
    simp only [FR, FV.ren] at h ⊢
    obtain ⟨b, vs, e, hb, hc, h⟩ := h
    exact ⟨b, vs, e, hb, hc, FRL_ren hσ fs vs h⟩
theorem FRL_ren {m : List (Rn × Rn)} {σ' : St} {ρ' : Rn → Value} (hσ : ∀ r q, renR m r = some q → σ'.rts q = σ.rts r ∧ ρ' q = ρ r) : ∀ (fs : List FV) (us : List Value), FRL w ok σ ρ fs us → FRL w ok σ' ρ' (FV.renL m fs) us
  | [], us, h => by simpa only [FRL, FV.renL] using h
  | f :: fs, us, h => by
    simp only [FRL, FV.renL] at h ⊢
    obtain ⟨u, vs, e, h1, h2⟩ := h
    exact ⟨u, vs, e, FR_ren hσ f u h1, FRL_ren hσ fs vs h2⟩
end

theorem ofL_map (g : Nat → FV) : ∀ (ks : List Nat) (t : Nat), ofL (ks.map fun t => (t, g t)) t = g t ∨ ofL (ks.map fun t => (t, g t)) t = .dead
  | [], t => .inr rfl
  | k :: ks, t => by
    simp only [List.map_cons, ofL]
    split
    · rename_i e
      subst e
      exact .inl rfl
    · exact ofL_map g ks t

theorem norm_sound {C : Ctx} {ks : List Nat} (h : Ste w0 fp0 ok0 W n σ a w) : Ste w0 fp0 ok0 W n (norm C ks σ) a w := by
  obtain ⟨ok, θ, ρ, φ, h⟩ := h
  unfold norm normWith
  obtain ⟨seen, hN⟩ := names_spec σ.env (ks ++ watchers C.nW) [] [] ⟨by simp, by simp, by simp, by simp⟩
  generalize names σ.env (ks ++ watchers C.nW) [] = m at hN
  refine ⟨ok, θ, reR m ρ, reF m φ, ?_, h.th, h.oks, h.okn, h.dfr, h.sz⟩
  refine ⟨fun q d hd => ?_, fun q q' d d' hne hd hd' => ?_, fun t => ?_, h.rel.okb, h.rel.frm⟩
  · simp only [invR_ofRO] at hd
    split at hd
    · rename_i o ho
      rw [reR_some ho, reF_some ho]
      exact h.rel.own o d hd
    · simp at hd
  · simp only [invR_ofRO] at hd hd'
    split at hd
    · rename_i o ho
      split at hd'
      · rename_i o' ho'
        rw [reF_some ho, reF_some ho']
        refine h.rel.dis o o' d d' (fun e => ?_) hd hd'
        subst e
        exact hne (fst_inj hN.old (invR_mem ho) (invR_mem ho'))
      · simp at hd'
    · simp at hd
  · have key : ∀ (g : FV), g = (σ.env t).ren m → FR w ok ⟨ofL ((ks ++ watchers C.nW).map fun t => (t, (σ.env t).ren m)), ofRO (m.map fun x => (x.2, σ.rts x.1))⟩ (reR m ρ) g (θ t) := by
      intro g e
      subst e
      refine FR_ren (fun r q hq => ?_) _ _ (h.rel.env t)
      have := invR_of hN.new (renR_mem hq)
      exact ⟨by simp only [invR_ofRO, this], reR_some this⟩
    show FR w ok _ _ (ofL ((ks ++ watchers C.nW).map fun t => (t, (σ.env t).ren m)) t) (θ t)
    rcases ofL_map (fun t => (σ.env t).ren m) (ks ++ watchers C.nW) t with e | e
    · exact key _ e
    · rw [e]
      simp [FR]

/-! ### Code -/
theorem least {p : Nat → Prop} (h : ∃ k, p k) : ∃ k, p k ∧ ∀ j, p j → k ≤ j := by
  obtain ⟨k, hk⟩ := h
  induction k using Nat.strongRecOn with
  | _ k ih =>
    by_cases hl : ∃ j, j < k ∧ p j
    · obtain ⟨j, h1, h2⟩ := hl
      exact ih j h1 h2
    · refine ⟨k, hk, fun j hj => ?_⟩
      rcases Nat.lt_or_ge j k with h | h
      · exact absurd ⟨j, h, hj⟩ hl
      · exact h
def smallC (n : Nat) : Code → Bool
  | .skip => true
  | .region _ ops _ => smallOps n ops
  | .seq a b => smallC n a && smallC n b
  | .cond c a b => smallX n c && smallC n a && smallC n b
  | .block _ c => smallC n c
  | .loop c => smallC n c
  | .exit _ => true
  | .ret => true
  | _ => false

theorem isNil0_val {x : D} {u : Value} {fp : List Nat} (hx : isNil0 x = true) (h : Ow w ok x u fp) : ∃ a, u = .slice a 0 0 := by
  unfold isNil0 at hx
  split at hx
  · simp only [Ow] at h
    exact ⟨none, h.2⟩
  · simp only [Ow, Sh] at h
    exact h.2
  · simp at hx
theorem isNil0_sh {x : D} {u : Value} (hx : isNil0 x = true) (h : Sh w ok x u) : ∃ a, u = .slice a 0 0 := by
  unfold isNil0 at hx
  split at hx
  · simp only [Sh] at h
    exact ⟨none, h⟩
  · simpa only [Sh] using h
  · simp at hx
theorem ow_empty (k : Nat) {u : Value} (h : ∃ a, u = .slice a 0 0) : Ow w ok (.ow k 0 []) u [] := by
  simp only [Ow]
  exact .inl ⟨trivial, trivial, trivial, h⟩
theorem al_empty {r : Rn} {k : Nat} {u : Value} (h : ∃ a, u = .slice a 0 0) : FR w ok (σ.root r (.ow k 0 [])) (upR ρ r u) (.al r [] 0 0) u := by
  obtain ⟨a, h⟩ := h
  simp only [FR]
  exact ⟨k, 0, [], u, by simp [St.obj, St.root, look], by simp [hdr, upR], by omega, .inl ⟨rfl, a, 0, 0, h, h⟩⟩

theorem store1_empty {σ1 : St} {r : Rn} {p : List Nat} {i k : Nat} {o x : D} {cs : List D} (ho : σ.obj r p = some o) (hc : o.cells? = some cs) (hx : cs[i]? = some x) (hn : isNil0 x = true) (h9 : σ.rts (9999, 0) = none)
    (hs : (σ.root (9999, 0) (.ow k 0 [])).store1 r p i (.al (9999, 0) [] 0 0) = some σ1) :
    ∃ d, σ.rts r = some d ∧ look d p = some o ∧ ∀ q, σ1.rts q = if q = r then some (putAt d p (o.setCells (cs.set i (.ow k 0 [])))) else σ.rts q := by
  have hr : r ≠ (9999, 0) := by
    rintro rfl
    simp [St.obj, h9] at ho
  have hq : x.quiet = true := by
    unfold isNil0 at hn
    split at hn <;> first | rfl | simp at hn
  have ho2 : (σ.root (9999, 0) (.ow k 0 [])).obj r p = some o := by simpa [St.obj, St.root, hr] using ho
  have ho3 : (σ.root (9999, 0) (.ow k 0 [])).obj (9999, 0) [] = some (.ow k 0 []) := by simp [St.obj, St.root, look]
  simp only [St.obj] at ho
  split at ho
  case h_2 => simp at ho
  rename_i d hd
  refine ⟨d, hd, ho, fun q => ?_⟩
  simp only [St.store1, ho2, hc, hx, hq, if_true, St.absorb, ho3, and_self, St.take] at hs
  have ho4 : St.obj { (σ.root (9999, 0) (.ow k 0 [])) with env := fun t => ((σ.root (9999, 0) (.ow k 0 [])).env t).move ⟨(9999, 0), [], r, p ++ [i]⟩, rts := fun q => if q = (9999, 0) then none else (σ.root (9999, 0) (.ow k 0 [])).rts q } r p = some o := by
    simp [St.obj, St.root, hr, hd, ho]
  simp only [ho4, hc, Option.some.injEq] at hs
  subst hs
  simp only [St.put, St.root, if_neg hr, hd]
  by_cases e : q = r
  · simp [e]
  · simp only [if_neg e]
    split
    · rename_i e2
      rw [e2, h9]
    · rfl

theorem wk1_sound {x : Wk} {σ' : St} (h : Rel w0 fp0 ok σ θ w ρ φ) (hs : wk1 σ x = some σ') : ∃ ρ' φ', Rel w0 fp0 ok σ' θ w ρ' φ' := by
  cases x with
  | drop t =>
    simp only [wk1, Option.some.injEq] at hs
    subst hs
    refine ⟨ρ, φ, h.own, h.dis, fun s => ?_, h.okb, h.frm⟩
    have h5 := h.env s
    by_cases e : s = t
    · subst e
      simp only [Ab.upd, if_true]
      simp [FR]
    · simp only [Ab.upd, if_neg e]
      exact FR_st (σ1 := σ) (σ2 := { σ with env := Ab.upd σ.env t .dead }) rfl _ _ h5
  | tmp t k =>
    simp only [wk1] at hs
    split at hs
    · rename_i x hx
      split at hs
      · rename_i hc
        injection hs with hs
        subst hs
        have he := h.env t
        rw [hx] at he
        simp only [FR] at he
        have hv := isNil0_sh hc.1 he
        have h2 := h.root (r := (t, 0)) (d := .ow k 0 []) (u := θ t) (fp := []) (by simpa using hc.2) (ow_empty k hv) List.nodup_nil (by simp)
        have h3 := h2.upd (t := t) (al_empty (σ := σ) (ρ := ρ) (r := (t, 0)) (k := k) hv)
        refine ⟨_, _, h3.own, h3.dis, fun s => ?_, h3.okb, h3.frm⟩
        have h5 := h3.env s
        by_cases e : s = t
        · subst e
          simp only [Ab.upd, if_true] at h5 ⊢
          exact FR_st rfl _ _ h5
        · simp only [Ab.upd, if_neg e] at h5 ⊢
          exact FR_st rfl _ _ h5
      · simp at hs
    · simp at hs
  | cell r p i k =>
    simp only [wk1] at hs
    split at hs
    · rename_i o ho
      split at hs
      · rename_i cs hc
        split at hs
        · rename_i x hx
          split at hs
          · rename_i hcc
            obtain ⟨hv, fo, hat⟩ := h.rts_.at_ (r := r) (p := p) (o := o) ho
            have hne : cs ≠ [] := by rintro rfl; simp at hx
            obtain ⟨b, q, fp', e1, e2, e3, _, _⟩ := Ow_cells hat.own hc hne
            obtain ⟨v, f1, fx, f2, g1, g2, g3, _⟩ := OwL_split e3 hx
            have hv0 := isNil0_val hcc.1 g3
            have h2 := h.root (r := (9999, 0)) (d := .ow k 0 []) (u := v) (fp := []) (by simpa using hcc.2) (ow_empty k hv0) List.nodup_nil (by simp)
            split at hs
            case h_2 => simp at hs
            rename_i σ1 hs1
            simp only [Option.some.injEq] at hs
            subst hs
            obtain ⟨hv', b', q', k1, k2, k3, k4, ⟨φ', k5⟩, k6, k7, k8, k9⟩ := store1_sound h2 hs1 (al_empty (σ := σ) (ρ := ρ) (r := (9999, 0)) (k := k) hv0)
            have hr : r ≠ (9999, 0) := by
              rintro rfl
              simp only [Option.isNone_iff_eq_none] at hcc
              simp [St.obj, hcc.2] at ho
            have e9 : hv' = hv := by
              have := hat.hdr
              simp only [upR, if_neg hr] at k1
              rw [k1] at this
              injection this
            subst e9
            rw [e1] at k2
            injection k2 with k2
            injection k2 with k2 k2'
            subst k2; subst k2'
            rw [setCell_same g2] at k5
            have h9 : σ.rts (9999, 0) = none := by simpa using hcc.2
            obtain ⟨d, hd, hld, hrts⟩ := store1_empty ho hc hx hcc.1 h9 hs1
            refine ⟨_, _, k5.own, k5.dis, fun t => ?_, k5.okb, k5.frm⟩
            have hobj : ∀ q s x2, σ.obj q s = some x2 → isObj x2 → ∃ o', St.obj { σ1 with env := σ.env } q s = some o' ∧ sameKind x2 o' := fun q s x2 hx2 hio => by
              by_cases e : q = r
              · subst e
                have hds : look d s = some x2 := by simpa [St.obj, hd] using hx2
                have hgo : ∀ (e2 : D) (t2 : List Nat), St.obj { σ1 with env := σ.env } q t2 = look (putAt d p (o.setCells (cs.set i (.ow k 0 [])))) t2 := fun _ t2 => by simp [St.obj, hrts]
                rw [hgo (.gone) s]
                by_cases hp : isPre p s = true
                · obtain ⟨t2, rfl⟩ := isPre_iff hp
                  rw [look_putAt p d o _ t2 hld]
                  rw [look_append, hld] at hds
                  simp only [Option.bind_some] at hds
                  cases t2 with
                  | nil =>
                    simp only [look, Option.some.injEq] at hds ⊢
                    subst hds
                    refine ⟨_, rfl, ?_⟩
                    cases o <;> simp [D.cells?] at hc <;> subst hc <;> simp [D.setCells, sameKind]
                  | cons j t2 =>
                    simp only [look, hc, cells_setCells hc] at hds ⊢
                    by_cases hj : j = i
                    · subst hj
                      rw [hx] at hds
                      exfalso
                      have hn := hcc.1
                      unfold isNil0 at hn
                      split at hn
                      · cases t2 <;> simp [look, D.cells?] at hds
                        subst hds
                        rcases hio with hio | ⟨es, hio⟩ <;> simp [D.cells?] at hio
                      · cases t2 <;> simp [look, D.cells?] at hds
                        subst hds
                        rcases hio with hio | ⟨es, hio⟩ <;> simp [D.cells?] at hio
                      · simp at hn
                    · rw [List.getElem?_set_ne (Ne.symm hj)]
                      exact ⟨x2, hds, sameKind_refl _⟩
                · obtain ⟨x', a1, a2⟩ := look_putAt_other p d o (o.setCells (cs.set i (.ow k 0 []))) s x2 hld hds (by simpa using hp)
                  exact ⟨x', a1, a2⟩
              · exact ⟨x2, by simpa [St.obj, hrts, e] using hx2, sameKind_refl _⟩
            have hup : ∀ q, σ.rts q ≠ none → upR ρ (9999, 0) v q = ρ q := fun q hq => by
              unfold upR
              rw [if_neg]
              rintro rfl
              exact hq h9
            have hne9 : ∀ q s x2, σ.obj q s = some x2 → σ.rts q ≠ none := fun q s x2 h3 h4 => by simp [St.obj, h4] at h3
            refine FR_same (G := fun r p => ∃ o, σ.obj r p = some o ∧ isObj o) (I := fun r m p => σ.rts r = some .itr ∧ ∃ es, σ.obj m p = some (.mp es)) ⟨fun b hb => ⟨hb, rfl⟩, fun q s x2 hg hx2 => ?_⟩ ⟨fun q m s b mb es hI h1 h2 h3 h4 => ?_⟩ _ _ (FR_ats _ _ (h.env t)) (h.env t)
            · obtain ⟨x3, hx3, hi3⟩ := hg
              rw [hx2] at hx3
              cases hx3
              obtain ⟨o', a1, a2⟩ := hobj q s x2 hx2 hi3
              exact ⟨o', a1, .inl a2, by rw [hup q (hne9 q s x2 hx2)]⟩
            · obtain ⟨o', a1, a2⟩ := hobj m s _ h3 (.inr ⟨es, rfl⟩)
              have ex : o' = .mp es := by cases o' <;> simp [sameKind] at a2; rw [a2]
              subst ex
              have hqr : q ≠ r := by
                rintro rfl
                rw [hd] at h1
                cases h1
                cases p with
                | nil => simp [look] at hld; subst hld; simp [D.cells?] at hc
                | cons j p => simp [look, D.cells?] at hld
              exact ⟨by simpa [hrts, hqr] using h1, hup q (by rw [h1]; simp), rfl, a1, by rw [hup m (hne9 m s _ h3)]; exact h4, rfl⟩
          · simp at hs
        · simp at hs
      · simp at hs
    · simp at hs
theorem wkAll_sound : ∀ {l : List Wk} {σ σ' : St}, Ste w0 fp0 ok0 W n σ a w → wkAll l σ = some σ' → Ste w0 fp0 ok0 W n σ' a w
  | [], σ, σ', h, hs => by
    simp only [wkAll, Option.some.injEq] at hs
    subst hs
    exact h
  | x :: l, σ, σ', h, hs => by
    simp only [wkAll] at hs
    split at hs
    · rename_i σ1 h1
      obtain ⟨ok, θ, ρ, φ, h⟩ := h
      obtain ⟨ρ', φ', g⟩ := wk1_sound h.rel h1
      exact wkAll_sound ⟨ok, θ, ρ', φ', g, h.th, h.oks, h.okn, h.dfr, h.sz⟩ hs
    · simp at hs

def conc (S : St → Act → World → Prop) (Q : AEx → St → Prop) : Exit → Act → World → Prop
  | .normal, a, w => ∃ σ, Q .normal σ ∧ S σ a w
  | .exit id, a, w => ∃ σ, Q (.exit id) σ ∧ S σ a w
  | .ret, a, w => ∃ σ, Q .ret σ ∧ S σ a w
  | _, _, _ => False

theorem Ste.drew (h : Ste w0 fp0 ok0 W n σ a w) : Ste w0 fp0 ok0 W n σ a w.drew := by
  obtain ⟨ok, θ, ρ, φ, h⟩ := h
  exact ⟨ok, θ, ρ, φ, h.rel.drew, h.th, h.oks, h.okn, h.dfr, h.sz⟩

theorem awp_sound {C : Ctx} (hT : tabB C.P C.T = true) (hz : C.nW = 0 → fp0 = []) (hM : C.P.follows .mixedOrders = true) : ∀ (c : Code) (i : Nat) (Q : AEx → St → Prop) (σ : St) (a : Act) (w : World), smallC n c = true → AWp C c i Q σ → Ste w0 fp0 ok0 W n σ a w →
    c.wp C.P (conc (Ste w0 fp0 ok0 W n) Q) a w := by
  intro c
  induction c with
  | skip =>
    intro i Q σ a w _ hk hs
    exact wp_skip ⟨σ, hk, hs⟩
  | region id ops draw =>
    intro i Q σ a w hsm hk hs
    simp only [smallC] at hsm
    simp only [AWp] at hk
    cases draw with
    | false =>
      simp only [Bool.false_eq_true, if_false] at hk
      refine wp_region ?_
      rw [List.range_eq_range']
      exact ops_sound hT hz hsm ops.size 0 σ a w _ (by omega) (by simpa using hk) hs fun σ' a' w' h1 h2 => ⟨_, h1, norm_sound h2⟩
    | true =>
      simp only [if_true] at hk
      obtain ⟨p, hp, hk⟩ := hk
      refine wp_region_any hM (wpAnyK_any (M := C.M) _ _ _ _ ?_)
      refine run_sound hT hz hsm hp.2 (fun c a w h => h) p _ σ a w.drew _ hp.1 (fun k o _ hl => ?_) hk hs.drew (fun σ' a' w' h1 h2 => ⟨_, h1, norm_sound h2⟩) _ ?_
      · have := getD_lt hl
        simp only [Array.size_replicate] at this
        simp [this] at hl
      · unfold unl
        simp
  | seq x y ihx ihy =>
    intro i Q σ a w hsm hk hs
    simp only [smallC, Bool.and_eq_true] at hsm
    simp only [AWp] at hk
    refine wp_seq (wp_mono (ihx i _ σ a w hsm.1 hk hs) fun e a' w' h => ?_)
    cases e with
    | normal =>
      obtain ⟨σ', h1, h2⟩ := h
      exact ihy i Q σ' a' w' hsm.2 h1 h2
    | exit id => exact h
    | ret => exact h
    | goto l => exact h
    | panic ch => exact h
    | outgrown => exact h
  | cond c x y ihx ihy =>
    intro i Q σ a w hsm hk hs
    simp only [smallC, Bool.and_eq_true] at hsm
    simp only [AWp] at hk
    obtain ⟨t, ht, hx, hy⟩ := hk
    have hc : a.eval c = .bool t := by
      obtain ⟨ok, θ, ρ, φ, hs⟩ := hs
      have := hs.opv hsm.1.1
      rw [ht] at this
      exact FR_v this
    exact wp_cond_split hc (fun h => ihx i Q σ a w hsm.1.2 (hx h) hs) (fun h => ihy i Q σ a w hsm.2 (hy h) hs)
  | block id c ih =>
    intro i Q σ a w hsm hk hs
    simp only [smallC] at hsm
    simp only [AWp] at hk
    refine wp_block (wp_mono (ih id _ σ a w hsm hk hs) fun e a' w' h => ?_)
    cases e with
    | normal => exact h
    | exit id' =>
      obtain ⟨σ', h1, h2⟩ := h
      simp only [Exit.inBlock, AEx.block] at h1 ⊢
      split at h1
      · rename_i e
        rw [if_pos e]
        exact ⟨σ', h1, h2⟩
      · rename_i e
        rw [if_neg e]
        exact ⟨σ', h1, h2⟩
    | ret => exact h
    | goto l => exact h
    | panic ch => exact h
    | outgrown => exact h
  | loop c ih =>
    intro i Q σ a w hsm hk hs
    simp only [smallC] at hsm
    simp only [AWp] at hk
    obtain ⟨I, μ, h0, hround⟩ := hk
    have hleast : ∀ (a : Act) (w : World), (∃ σ, I σ ∧ Ste w0 fp0 ok0 W n σ a w) → ∃ k, (∃ σ, I σ ∧ Ste w0 fp0 ok0 W n σ a w ∧ μ σ = k) := fun a w ⟨σ, h1, h2⟩ => ⟨_, σ, h1, h2, rfl⟩
    classical
    let μ' : Act → World → Nat := fun a w => if h : ∃ k, (∃ σ, I σ ∧ Ste w0 fp0 ok0 W n σ a w ∧ μ σ = k) then Classical.choose (least h) else 0
    refine wp_loop (fun a w => ∃ σ, I σ ∧ Ste w0 fp0 ok0 W n σ a w) μ' (by obtain ⟨l, σ0, q1, q2⟩ := h0; exact ⟨σ0, q2, wkAll_sound (norm_sound hs) q1⟩) fun a w hI => ?_
    have hex := hleast a w hI
    have hμ : μ' a w = Classical.choose (least hex) := dif_pos hex
    obtain ⟨⟨σ1, h1, h2, h3⟩, _⟩ := Classical.choose_spec (least hex)
    refine wp_mono (ih i _ σ1 a w hsm (hround σ1 h1) h2) fun e a' w' h => ?_
    cases e with
    | normal =>
      obtain ⟨σ', ⟨l, σ2, g0, g1, g2⟩, g3⟩ := h
      have g4 := wkAll_sound (norm_sound g3) g0
      have hI' : ∃ σ, I σ ∧ Ste w0 fp0 ok0 W n σ a' w' := ⟨_, g1, g4⟩
      refine ⟨hI', ?_⟩
      have hex' := hleast a' w' hI'
      have hμ' : μ' a' w' = Classical.choose (least hex') := dif_pos hex'
      rw [hμ, hμ']
      refine Nat.lt_of_le_of_lt ((Classical.choose_spec (least hex')).2 _ ⟨_, g1, g4, rfl⟩) ?_
      rw [← h3]
      exact g2
    | exit id => exact h
    | ret => exact h
    | goto l => exact h
    | panic ch => exact h
    | outgrown => exact h
  | exit id =>
    intro i Q σ a w _ hk hs
    exact wp_exit ⟨σ, hk, hs⟩
  | ret =>
    intro i Q σ a w _ hk hs
    exact wp_ret ⟨σ, hk, hs⟩
  | _ => intro i Q σ a w hsm; simp [smallC] at hsm

end
end Go.Proofs.Ytfcgcgmleogamaa.Ab
namespace Go.Proofs.Ytfcgcgmleogamaa.Ab
open Go
set_option linter.unusedSimpArgs false
set_option linter.unusedVariables false
set_option linter.unusedSectionVars false

/-! ### Results are taken out of the store -/
/-- One value that leaves: its tree, the store without it. -/
def exportD (σ : St) (f : FV) : Option (D × St) :=
  match f with
  | .d x => if x.leaf then some (x, σ) else none
  | .al r p lo n => (match σ.obj r p with | some (.ow k N cs) => if lo = 0 then some (.ow k n (takeCells k n N cs), (σ.take r p).kill r p) else none | _ => none)
  | .pt r p o => (match σ.obj r p with | some (.bx cs) => if o = 0 then some (.bx cs, (σ.take r p).kill r p) else none | _ => none)
  | .mr r p => (match σ.obj r p with | some (.mp es) => some (.mp es, (σ.take r p).kill r p) | _ => none)
  | .dead => some (.gone, σ)
  | _ => none
def exportN : St → Nat → Nat → Option (List D × St)
  | σ, _, 0 => some ([], σ)
  | σ, t, n + 1 => match exportD σ (σ.env t) with
    | some (d, σ1) => (match exportN σ1 (t + 1) n with | some (ds, σ2) => some (d :: ds, σ2) | none => none)
    | none => none
/-- Atoms of all results; how they go together again. -/
def atomsL : List FV → List FV
  | [] => []
  | f :: r => f.atoms ++ atomsL r
def groupR : List FV → List D → Option (List RV)
  | [], [] => some []
  | .ag gs :: r, ds => (match groupR r (ds.drop gs.length) with | some l => some (.ag (ds.take gs.length) :: l) | none => none)
  | _ :: r, d :: ds => (match groupR r ds with | some l => some (.one d :: l) | none => none)
  | _, _ => none
def resVals (T : TT) (σ : St) : List ResultVar → Option (List FV)
  | [] => some []
  | .tmp t :: r => (match resVals T σ r with | some l => some (σ.env t :: l) | none => none)
  | .cell a t :: r => (match loadF T σ t (σ.env a), resVals T σ r with | some f, some l => some (f :: l) | _, _ => none)
/-- What is asked where a body ends: the results are taken out, then what was lent for writing. -/
def endK (C : Ctx) (rs : List ResultVar) (pure : Bool) (Q : List D → List RV → Prop) (σ : St) : Prop :=
  match resVals C.T σ rs with
  | some fs => (∀ f ∈ fs, f.whole = true) ∧ (match exportN { σ with env := pend (atomsL fs) 3000 σ.env } 3000 (atomsL fs).length with
    | some (ds, σ1) => (match groupR fs ds, exportN σ1 1000 C.nW with
      | some res, some (outs, _) => (pure = true → noShR res ∧ noShL outs) ∧ Q outs res
      | _, _ => False)
    | none => False)
  | none => False
def endQ (C : Ctx) (rs : List ResultVar) (pure : Bool) (Q : List D → List RV → Prop) : AEx → St → Prop
  | .normal, σ => endK C rs pure Q σ
  | .ret, σ => endK C rs pure Q σ
  | .exit _, _ => False

section
variable {w0 w : World} {fp0 : List Nat} {ok0 ok : Nat → Prop} {W : Nat → Value} {n : Nat} {σ : St} {θ : Nat → Value} {ρ : Rn → Value} {φ : Rn → List Nat} {a : Act} {P : Program} {T : TT}

structure Taken (w0 w : World) (fp0 : List Nat) (ok : Nat → Prop) (σ σ1 : St) (φ φ1 : Rn → List Nat) (fx : List Nat) : Prop where
  nod : fx.Nodup
  bl : ∀ b ∈ fx, Bnd w0 fp0 ok w.heap.size b ∧ ∀ q e, σ1.rts q = some e → b ∉ φ1 q
  sub : ∀ q e, σ1.rts q = some e → ∃ e', σ.rts q = some e' ∧ ∀ b ∈ φ1 q, b ∈ φ q
  from_ : ∀ b ∈ fx, ∃ q e, σ.rts q = some e ∧ b ∈ φ q

theorem takeKill_taken (h : Rel w0 fp0 ok σ θ w ρ φ) {r : Rn} {p : List Nat} {o : D} (ho : σ.obj r p = some o) : ∃ hv fo φ1, hdr w (ρ r) p = some hv ∧ Ow w ok o hv fo ∧ Rel w0 fp0 ok ((σ.take r p).kill r p) θ w ρ φ1 ∧ Taken w0 w fp0 ok σ ((σ.take r p).kill r p) φ φ1 fo := by
  obtain ⟨hv, fo, φ1, h1, h2, h3, h4, h5, h6, h7⟩ := h.takeKill ho
  refine ⟨hv, fo, φ1, h1, h2, h5, h3, fun b hb => ⟨h4 b hb, fun q e he hbq => h6 q e he b hbq hb⟩, h7, fun b hb => ?_⟩
  obtain ⟨hv', fo', hat⟩ := h.rts_.at_ (r := r) (p := p) ho
  have e : hv' = hv := by have := hat.hdr; rw [h1] at this; injection this with this; exact this.symm
  subst e
  have e2 := Ow_unique _ _ _ _ hat.own h2
  subst e2
  obtain ⟨d, hd, _⟩ := obj_root ho
  exact ⟨r, d, hd, hat.sub b hb⟩

theorem exportD_sound (h : Rel w0 fp0 ok σ θ w ρ φ) {f : FV} {d : D} {σ1 : St} {u : Value} (hs : exportD σ f = some (d, σ1)) (hu : FR w ok σ ρ f u) :
    ∃ φ1 fx, Rel w0 fp0 ok σ1 θ w ρ φ1 ∧ Ow w ok d u fx ∧ Taken w0 w fp0 ok σ σ1 φ φ1 fx := by
  unfold exportD at hs
  split at hs
  · rename_i x
    split at hs
    · rename_i hl
      injection hs with hs
      injection hs with h1 h2
      subst h1; subst h2
      simp only [FR] at hu
      exact ⟨φ, [], h, Ow_leaf hl hu, by simp, by simp, fun q e he => ⟨e, he, fun _ h => h⟩, by simp⟩
    · simp at hs
  · rename_i r p lo n'
    split at hs
    · rename_i k N cs ho
      split at hs
      · rename_i hlo
        subst hlo
        injection hs with hs
        injection hs with h1 h2
        subst h1; subst h2
        obtain ⟨hv, fo, φ1, g1, g2, g3, g4⟩ := takeKill_taken h ho
        simp only [FR] at hu
        obtain ⟨k', N', cs', hv', q1, q2, q3, q4⟩ := hu
        rw [ho] at q1
        cases q1
        rw [g1] at q2
        injection q2 with q2
        subst q2
        rcases q4 with ⟨_, a', N2, c', e4, e5⟩ | ⟨hlo, _⟩
        · have hcl := ow_len h ho
          have hcs : takeCells k n' N cs = cs.take (k * n') := by
            unfold takeCells
            split
            · rename_i hN
              subst hN
              rw [List.take_of_length_le (by rw [hcl]; exact Nat.le_refl _)]
            · rfl
          rw [hcs]
          simp only [Ow] at g2
          rcases g2 with ⟨rfl, rfl, rfl, a0, e6⟩ | ⟨b, o, c, arr, T, fp', e6, rfl, h5, h6, h7, h8, h9⟩
          · rw [e6] at e4
            cases e4
            have hn : n' = 0 := by omega
            subst hn
            refine ⟨φ1, [], g3, ?_, by simp, by simp, g4.sub, by simp⟩
            simp only [Ow]
            exact .inl ⟨trivial, by simp, trivial, _, e5⟩
          · rw [e6] at e4
            cases e4
            obtain ⟨us, u1, u2, u3⟩ := OwL_read h9
            obtain ⟨f1, f2, rfl, u4⟩ := OwVs_take (k * n') u3
            have hnod := g4.nod
            simp only [List.nodup_cons, List.mem_append, not_or] at hnod
            have hle : k * n' ≤ cs.length := by rw [h8]; exact Nat.mul_le_mul_left _ (by omega)
            refine ⟨φ1, b :: f1, g3, ?_, List.nodup_cons.2 ⟨hnod.1.1, (List.nodup_append.1 hnod.2).1⟩, fun x hx => g4.bl x ?_, g4.sub, fun x hx => g4.from_ x ?_⟩
            · simp only [Ow]
              refine .inr ⟨b, o, _, arr, T, f1, e5, rfl, h5, ⟨by omega, h6.2⟩, h7, by rw [List.length_take, Nat.min_eq_left hle], OwL_lay (fun _ _ => rfl) u4 (fun j v hj => u2 j v ?_) (fun _ _ => rfl)⟩
              rw [List.getElem?_take] at hj
              split at hj
              · exact hj
              · simp at hj
            · rcases List.mem_cons.1 hx with rfl | hx <;> simp [*]
            · rcases List.mem_cons.1 hx with rfl | hx <;> simp [*]
        · omega
      · simp at hs
    · simp at hs
  · rename_i r p o
    split at hs
    · rename_i cs ho
      split at hs
      · rename_i hlo
        subst hlo
        injection hs with hs
        injection hs with h1 h2
        subst h1; subst h2
        obtain ⟨hv, fo, φ1, g1, g2, g3, g4⟩ := takeKill_taken h ho
        simp only [FR] at hu
        obtain ⟨o', cs', hv', b, q, q1, q2, q3, q4, q5⟩ := hu
        rw [ho] at q1
        cases q1
        rw [g1] at q3
        injection q3 with q3
        subst q3
        have hu2 : u = hv := by
          simp only [Ow] at g2
          obtain ⟨b', arr, T, fp', e, _⟩ := g2
          rw [e] at q4
          injection q4 with q4
          injection q4 with q4 q4'
          subst q4; subst q4'
          rw [q5, e]
        rw [hu2]
        exact ⟨φ1, fo, g3, g2, g4⟩
      · simp at hs
    · simp at hs
  · rename_i r p
    split at hs
    · rename_i es ho
      injection hs with hs
      injection hs with h1 h2
      subst h1; subst h2
      obtain ⟨hv, fo, φ1, g1, g2, g3, g4⟩ := takeKill_taken h ho
      simp only [FR] at hu
      obtain ⟨es', hv', q1, q2, q3⟩ := hu
      rw [g1] at q2
      injection q2 with q2
      subst q2
      rw [q3]
      exact ⟨φ1, fo, g3, g2, g4⟩
    · simp at hs
  · injection hs with hs
    injection hs with h1 h2
    subst h1; subst h2
    exact ⟨φ, [], h, rfl, by simp, by simp, fun q e he => ⟨e, he, fun _ h => h⟩, by simp⟩
  · simp at hs

theorem Taken.trans {σ1 σ2 : St} {φ1 φ2 : Rn → List Nat} {f1 f2 : List Nat} (h : Taken w0 w fp0 ok σ σ1 φ φ1 f1) (k : Taken w0 w fp0 ok σ1 σ2 φ1 φ2 f2) : Taken w0 w fp0 ok σ σ2 φ φ2 (f1 ++ f2) := by
  refine ⟨?_, fun b hb => ?_, fun q e he => ?_, fun b hb => ?_⟩
  · rw [List.nodup_append]
    refine ⟨h.nod, k.nod, fun x hx y hy hxy => ?_⟩
    subst hxy
    obtain ⟨q, e, he, hq⟩ := k.from_ x hy
    exact (h.bl x hx).2 q e he hq
  · rcases List.mem_append.1 hb with hb | hb
    · refine ⟨(h.bl b hb).1, fun q e he hq => ?_⟩
      obtain ⟨e', he', hs⟩ := k.sub q e he
      exact (h.bl b hb).2 q e' he' (hs b hq)
    · exact k.bl b hb
  · obtain ⟨e1, he1, hs1⟩ := k.sub q e he
    obtain ⟨e2, he2, hs2⟩ := h.sub q e1 he1
    exact ⟨e2, he2, fun b hb => hs2 b (hs1 b hb)⟩
  · rcases List.mem_append.1 hb with hb | hb
    · exact h.from_ b hb
    · obtain ⟨q, e, he, hq⟩ := k.from_ b hb
      obtain ⟨e', he', hs⟩ := h.sub q e he
      exact ⟨q, e', he', hs b hq⟩

theorem exportN_sound : ∀ (m t : Nat) (σ σ1 : St) (φ : Rn → List Nat) (ds : List D), Rel w0 fp0 ok σ θ w ρ φ → exportN σ t m = some (ds, σ1) →
    ∃ φ1 fx, Rel w0 fp0 ok σ1 θ w ρ φ1 ∧ OwVs w ok ds ((List.range' t m).map θ) fx ∧ Taken w0 w fp0 ok σ σ1 φ φ1 fx
  | 0, t, σ, σ1, φ, ds, h, hs => by
    simp only [exportN, Option.some.injEq, Prod.mk.injEq] at hs
    obtain ⟨h1, h2⟩ := hs
    subst h1; subst h2
    exact ⟨φ, [], h, by simp [OwVs], by simp, by simp, fun q e he => ⟨e, he, fun _ h => h⟩, by simp⟩
  | m + 1, t, σ, σ2, φ, ds, h, hs => by
    simp only [exportN] at hs
    split at hs
    · rename_i d σ1 h1
      split at hs
      · rename_i ds' σ2' h2
        injection hs with hs
        injection hs with e1 e2
        subst e1; subst e2
        obtain ⟨φ1, f1, a1, a2, a3⟩ := exportD_sound h h1 (h.env t)
        obtain ⟨φ2, f2, b1, b2, b3⟩ := exportN_sound m (t + 1) σ1 σ2' φ1 ds' a1 h2
        refine ⟨φ2, f1 ++ f2, b1, ?_, a3.trans b3⟩
        simp only [List.range'_succ, List.map_cons, OwVs]
        exact ⟨θ t, _, f1, f2, rfl, rfl, a2, b2⟩
      · simp at hs
    · simp at hs

theorem OwVs_split : ∀ {ds : List D} {us : List Value} {fx : List Nat} (j : Nat), OwVs w ok ds us fx → ∃ f1 f2, fx = f1 ++ f2 ∧ OwVs w ok (ds.take j) (us.take j) f1 ∧ OwVs w ok (ds.drop j) (us.drop j) f2
  | ds, us, fx, 0, h => ⟨[], fx, rfl, by simp [OwVs], by simpa using h⟩
  | [], us, fx, j + 1, h => by
    simp only [OwVs] at h
    obtain ⟨rfl, rfl⟩ := h
    exact ⟨[], [], rfl, by simp [OwVs], by simp [OwVs]⟩
  | d :: ds, us, fx, j + 1, h => by
    simp only [OwVs] at h
    obtain ⟨u, vs, g1, g2, rfl, rfl, h1, h2⟩ := h
    obtain ⟨f1, f2, rfl, h3, h4⟩ := OwVs_split j h2
    refine ⟨g1 ++ f1, f2, by simp, ?_, by simpa using h4⟩
    simp only [List.take_succ_cons, OwVs]
    exact ⟨u, vs.take j, g1, f1, rfl, rfl, h1, h3⟩

theorem atoms_val (h : Rel w0 fp0 ok σ θ w ρ φ) : ∀ {fs : List FV} {us : List Value}, (∀ f ∈ fs, f.whole = true) → FRL w ok σ ρ fs us → ∃ vs : List Value, FRL w ok σ ρ (atomsL fs) vs ∧ vs = us.flatMap (fun u => u.cells.toList)
  | [], us, hw, hu => by
    simp only [FRL] at hu
    subst hu
    exact ⟨[], by simp [atomsL, FRL], rfl⟩
  | f :: fs, us, hw, hu => by
    simp only [FRL] at hu
    obtain ⟨u, us', rfl, h1, h2⟩ := hu
    obtain ⟨vs, h3, h4⟩ := atoms_val h (fun g hg => hw g (List.mem_cons_of_mem _ hg)) h2
    have hc := whole_cells h (hw f (List.mem_cons_self ..)) h1
    exact ⟨_, FRL_append hc h3, by simp [h4]⟩

theorem whole_one (hR : Rel w0 fp0 ok σ θ w ρ φ) {f : FV} {v : Value} (hne : ∀ gs, f ≠ .ag gs) (hw : f.whole = true) (h : FR w ok σ ρ f v) : v.cells = #[v] := by
  have fin : (∀ cs, v ≠ .agg cs) → v.cells = #[v] := fun hv => by
    unfold Value.cells
    split
    · rename_i cs
      exact absurd rfl (hv cs)
    · rfl
  cases f with
  | d x =>
    refine fin fun cs e => ?_
    simp only [FR] at h
    have := leaf_one (by simpa [FV.whole] using hw) h
    subst e
    simp [Value.oneCell'] at this
  | al r p lo n =>
    refine fin fun cs e => ?_
    simp only [FR] at h
    obtain ⟨k, N, cs, hv, _, _, _, g4⟩ := h
    subst e
    rcases g4 with ⟨_, a', N', c', _, e5⟩ | ⟨_, b', o', N', c', _, _, ⟨_, e5⟩ | ⟨_, _, _, e5⟩⟩ <;> simp at e5
  | cu r p n =>
    refine fin fun cs e => ?_
    simp only [FR] at h
    obtain ⟨k, N, cs, hv, a, M, c, _, _, _, _, e5⟩ := h
    subst e
    simp at e5
  | pt r p off =>
    refine fin fun cs e => ?_
    simp only [FR] at h
    obtain ⟨o, cs, hv, b, q, _, _, _, _, e5⟩ := h
    subst e
    simp at e5
  | ar r p off n =>
    refine fin fun cs e => ?_
    simp only [FR] at h
    obtain ⟨o, cs, hv, b, q, c, _, _, _, _, _, _, e5 | ⟨_, _, e5⟩⟩ := h <;> (subst e; simp at e5)
  | mr r p =>
    refine fin fun cs e => ?_
    simp only [FR] at h
    obtain ⟨es, hv, g1, g2, e5⟩ := h
    subst e
    obtain ⟨hv', fo, hat⟩ := hR.rts_.at_ (r := r) (p := p) g1
    have e6 : hv' = hv := by have := hat.hdr; rw [g2] at this; injection this with this; exact this.symm
    subst e6
    have := hat.own
    simp only [Ow] at this
    obtain ⟨m, en, cl, e7, _⟩ := this
    rw [← e5] at e7
    simp at e7
  | fb fs off => simp [FV.whole] at hw
  | sp cs off =>
    refine fin fun cs e => ?_
    simp only [FR] at h
    obtain ⟨b, o, e5, _⟩ := h
    subst e
    simp at e5
  | cl f fs =>
    refine fin fun cs e => ?_
    simp only [FR] at h
    obtain ⟨vs, e5, _⟩ := h
    subst e
    simp at e5
  | ag fs => exact absurd rfl (hne fs)
  | it => simp [FV.whole] at hw
  | tu => simp [FV.whole] at hw
  | dead => simp [FV.whole] at hw

theorem groupR_one {f : FV} {r : List FV} {d : D} {ds : List D} (hne : ∀ gs, f ≠ .ag gs) : groupR (f :: r) (d :: ds) = (match groupR r ds with | some l => some (.one d :: l) | none => none) := by
  cases f <;> first | rfl | exact absurd rfl (hne _)
theorem groupR_none {f : FV} {r : List FV} (hne : ∀ gs, f ≠ .ag gs) : groupR (f :: r) [] = none := by
  cases f <;> first | rfl | exact absurd rfl (hne _)
theorem groupR_ag {gs : List FV} {r : List FV} {ds : List D} : groupR (.ag gs :: r) ds = (match groupR r (ds.drop gs.length) with | some l => some (.ag (ds.take gs.length) :: l) | none => none) := by
  cases ds <;> rfl

theorem group_sound (h : Rel w0 fp0 ok σ θ w ρ φ) : ∀ {fs : List FV} {us : List Value} {ds : List D} {res : List RV} {fx : List Nat}, (∀ f ∈ fs, f.whole = true) → FRL w ok σ ρ fs us → groupR fs ds = some res → OwVs w ok ds (us.flatMap fun u => u.cells.toList) fx → OwRs w ok res us fx
  | [], us, ds, res, fx, hw, hu, hg, ho => by
    simp only [FRL] at hu
    subst hu
    cases ds with
    | nil =>
      simp only [groupR, Option.some.injEq] at hg
      subst hg
      simp only [List.flatMap_nil, OwVs] at ho
      simp [OwRs, ho.2]
    | cons d ds => simp [groupR] at hg
  | f :: fs, us, ds, res, fx, hw, hu, hg, ho => by
    simp only [FRL] at hu
    obtain ⟨u, us', rfl, h1, h2⟩ := hu
    have hwf := hw f (List.mem_cons_self ..)
    have hw' : ∀ g ∈ fs, g.whole = true := fun g hg => hw g (List.mem_cons_of_mem _ hg)
    rw [List.flatMap_cons] at ho
    by_cases hag : ∃ gs, f = .ag gs
    · obtain ⟨gs, rfl⟩ := hag
      rw [groupR_ag] at hg
      split at hg
      · rename_i l hl
        injection hg with hg
        subst hg
        simp only [FR] at h1
        obtain ⟨vs, rfl, h3⟩ := h1
        have hlen : vs.toList.length = gs.length := FRL_length h3
        obtain ⟨f1, f2, rfl, o1, o2⟩ := OwVs_split gs.length ho
        have ec : (Value.agg vs).cells = vs := rfl
        rw [ec] at o1 o2
        rw [List.take_append_of_le_length (Nat.le_of_eq hlen.symm), List.take_of_length_le (Nat.le_of_eq hlen)] at o1
        rw [List.drop_append_of_le_length (Nat.le_of_eq hlen.symm), List.drop_of_length_le (Nat.le_of_eq hlen), List.nil_append] at o2
        simp only [OwRs, OwRV]
        exact ⟨.agg vs, us', f1, f2, rfl, rfl, ⟨vs, rfl, o1⟩, group_sound h hw' h2 hl o2⟩
      · simp at hg
    · have hne : ∀ gs, f ≠ .ag gs := fun gs e => hag ⟨gs, e⟩
      cases ds with
      | nil => rw [groupR_none hne] at hg; simp at hg
      | cons d ds =>
        rw [groupR_one hne] at hg
        split at hg
        · rename_i l hl
          injection hg with hg
          subst hg
          rw [whole_one h hne hwf h1] at ho
          simp only [List.singleton_append, OwVs] at ho
          obtain ⟨v, vs, f1, f2, e4, rfl, o1, o2⟩ := ho
          injection e4 with e4 e5
          subst e4; subst e5
          simp only [OwRs, OwRV]
          exact ⟨u, us', f1, f2, rfl, rfl, o1, group_sound h hw' h2 hl o2⟩
        · simp at hg

end
end Go.Proofs.Ytfcgcgmleogamaa.Ab
namespace Go.Proofs.Ytfcgcgmleogamaa.Ab
open Go
set_option linter.unusedSimpArgs false
set_option linter.unusedVariables false
set_option linter.unusedSectionVars false

def argL : Nat → List FV → List (Nat × FV)
  | _, [] => []
  | i, f :: r => (i, f) :: argL (i + 1) r
def wFV (r : Rn) : D → FV
  | .ow _ n _ => .al r [] 0 n
  | .bx _ => .pt r [] 0
  | _ => .dead
def watchL : Nat → List (Rn × D) → List (Nat × FV)
  | _, [] => []
  | j, x :: r => (1000 + j, wFV x.1 x.2) :: watchL (j + 1) r
def smallR (n : Nat) : List ResultVar → Bool
  | [] => true
  | .tmp t :: r => decide (t < n) && smallR n r
  | .cell a _ :: r => decide (a < n) && smallR n r

section
variable {w0 w : World} {fp0 : List Nat} {ok0 ok : Nat → Prop} {W : Nat → Value} {n : Nat} {σ : St} {θ : Nat → Value} {ρ : Rn → Value} {φ : Rn → List Nat} {a : Act} {P : Program} {T : TT}

def oneRes (tmps : Array Value) : ResultVar → Sem Value
  | .tmp t => Pure.pure (tmps.getD t undef)
  | .cell x t => do loadVar t (← asAddr (tmps.getD x undef))
theorem resVals_sound (hT : tabB P T = true) (h : Stx w0 fp0 ok0 W n σ a w ok θ ρ φ) : ∀ (rs : List ResultVar) (fs : List FV), smallR n rs = true → resVals T σ rs = some fs → ∃ us, FRL w ok σ ρ fs us ∧
    (rs.mapM (oneRes a.tmps)).run P w = .ok us w
  | [], fs, _, hs => by
    simp only [resVals, Option.some.injEq] at hs
    subst hs
    exact ⟨[], by simp [FRL], by simp⟩
  | .tmp t :: rs, fs, hsm, hs => by
    simp only [smallR, Bool.and_eq_true, decide_eq_true_eq] at hsm
    simp only [resVals] at hs
    split at hs
    · rename_i l hl
      injection hs with hs
      subst hs
      obtain ⟨us, h1, h2⟩ := resVals_sound hT h rs l hsm.2 hl
      have h3 := h.opv (x := .tmp t) (by simpa [smallX] using hsm.1)
      refine ⟨a.tmps.getD t undef :: us, ?_, ?_⟩
      · simp only [FRL]
        exact ⟨_, us, rfl, h3, h1⟩
      · rw [List.mapM_cons]
        simp only [Sem.run_bind, oneRes, Sem.run_pure, Result.andThen_ok]
        rw [h2]
        rfl
    · simp at hs
  | .cell x t :: rs, fs, hsm, hs => by
    simp only [smallR, Bool.and_eq_true, decide_eq_true_eq] at hsm
    simp only [resVals] at hs
    split at hs
    · rename_i f l hf hl
      injection hs with hs
      subst hs
      obtain ⟨us, h1, h2⟩ := resVals_sound hT h rs l hsm.2 hl
      have h3 := h.opv (x := .tmp x) (by simpa [smallX] using hsm.1)
      obtain ⟨v, h4, h5⟩ := load_sound hT h.rel hf h3
      have h6 := h5 w (Later.refl w)
      have e : a.eval (.tmp x) = a.tmps.getD x undef := rfl
      rw [e] at h6
      have hptr : ∃ b, a.tmps.getD x undef = .pointer (some b) := by
        cases hv : a.tmps.getD x undef with
        | pointer b =>
          cases b with
          | some b => exact ⟨b, rfl⟩
          | none => rw [hv] at h6; simp [Instr.loadAt, Instr.sureAddr] at h6
        | _ => rw [hv] at h6; simp [Instr.loadAt, Instr.sureAddr] at h6
      obtain ⟨b, hb⟩ := hptr
      rw [hb] at h6
      simp only [Instr.loadAt, Instr.sureAddr, Sem.run_bind, Sem.run_pure, Result.andThen_ok] at h6
      refine ⟨v :: us, ?_, ?_⟩
      · simp only [FRL]
        exact ⟨_, us, rfl, h4, h1⟩
      · rw [List.mapM_cons]
        have h7 : (oneRes a.tmps (.cell x t)).run P w = .ok v w := by
          simp only [oneRes, Sem.run_bind, hb, asAddr, Sem.run_pure, Result.andThen_ok, h6]
        simp only [Sem.run_bind, h7, Result.andThen_ok, h2, Sem.run_pure]
    · simp at hs

theorem results_run {fn : Func} {us : List Value} (h : (fn.results.toList.mapM (oneRes a.tmps)).run P w = .ok us w) : (results fn a.tmps).run P w = .ok (resultOf us) w := by
  have e : results fn a.tmps = (do let vs ← fn.results.mapM (oneRes a.tmps); pure (if h : vs.size = 1 then vs[0] else .tuple vs)) := by
    unfold results
    congr
  have hm : (fn.results.mapM (oneRes a.tmps)).run P w = .ok us.toArray w := by
    rw [Array.mapM_eq_mapM_toList, Sem.run_map, h]
    rfl
  rw [e, Sem.run_bind, hm]
  simp only [Result.andThen_ok, Sem.run_pure]
  congr 1
  match us with
  | [] => rfl
  | [v] => rfl
  | v :: u :: r =>
    rw [dif_neg (by simp)]
    rfl

theorem OwVs_nosh {ok' : Nat → Prop} : ∀ {ds : List D} {us : List Value} {fp : List Nat}, noShL ds → OwVs w ok ds us fp → OwVs w ok' ds us fp
  | [], us, fp, _, h => by simpa only [OwVs] using h
  | d :: ds, us, fp, hn, h => by
    simp only [OwVs] at h ⊢
    obtain ⟨u, vs, f1, f2, e1, e2, h1, h2⟩ := h
    exact ⟨u, vs, f1, f2, e1, e2, Ow_nosh d u f1 hn.1 h1, OwVs_nosh hn.2 h2⟩
theorem OwRs_nosh {ok' : Nat → Prop} : ∀ {ds : List RV} {us : List Value} {fp : List Nat}, noShR ds → OwRs w ok ds us fp → OwRs w ok' ds us fp
  | [], us, fp, _, h => by simpa only [OwRs] using h
  | .one d :: ds, us, fp, hn, h => by
    simp only [OwRs, OwRV] at h ⊢
    obtain ⟨u, vs, f1, f2, e1, e2, h1, h2⟩ := h
    exact ⟨u, vs, f1, f2, e1, e2, Ow_nosh d u f1 hn.1 h1, OwRs_nosh hn.2 h2⟩
  | .ag xs :: ds, us, fp, hn, h => by
    simp only [OwRs, OwRV] at h ⊢
    obtain ⟨u, vs, f1, f2, e1, e2, ⟨vv, e3, h1⟩, h2⟩ := h
    exact ⟨u, vs, f1, f2, e1, e2, ⟨vv, e3, OwVs_nosh hn.1 h1⟩, OwRs_nosh hn.2 h2⟩

theorem OwVs_len : ∀ {ds : List D} {us : List Value} {fx : List Nat}, OwVs w ok ds us fx → ds.length = us.length
  | [], us, fx, h => by
    simp only [OwVs] at h
    rw [h.1]
    rfl
  | d :: ds, us, fx, h => by
    simp only [OwVs] at h
    obtain ⟨u, vs, g1, g2, rfl, rfl, h1, h2⟩ := h
    simp [OwVs_len h2]
theorem OwVs_names : ∀ (names : List Rn) (outs : List D) (us : List Value) (fo : List Nat), names.length = outs.length → names.Nodup → fo.Nodup → OwVs w ok outs us fo →
    ∃ φ' : Rn → List Nat, (∀ nm d, ofR (names.zip outs) nm = some d → ∃ (k : Nat) (u : Value), names[k]? = some nm ∧ us[k]? = some u ∧ outs[k]? = some d ∧ Ow w ok d u (φ' nm)) ∧
      (∀ nm d, ofR (names.zip outs) nm = some d → (φ' nm).Nodup ∧ ∀ b ∈ φ' nm, b ∈ fo) ∧
      (∀ nm nm' d d', nm ≠ nm' → ofR (names.zip outs) nm = some d → ofR (names.zip outs) nm' = some d' → ∀ b ∈ φ' nm, b ∉ φ' nm')
  | [], outs, us, fo, _, _, _, _ => ⟨fun _ => [], by simp [ofR], by simp [ofR], by simp [ofR]⟩
  | n :: names, [], us, fo, h, _, _, _ => by simp at h
  | n :: names, d :: outs, us, fo, hl, hn, hf, ho => by
    simp only [OwVs] at ho
    obtain ⟨u, vs, f1, f2, rfl, rfl, h1, h2⟩ := ho
    rw [List.nodup_append] at hf
    rw [List.nodup_cons] at hn
    obtain ⟨φ', k1, k2, k3⟩ := OwVs_names names outs vs f2 (by simpa using hl) hn.2 hf.2.1 h2
    refine ⟨fun q => if q = n then f1 else φ' q, fun nm x hx => ?_, fun nm x hx => ?_, fun nm nm' x x' hne hx hx' b hb => ?_⟩
    · simp only [List.zip_cons_cons, ofR] at hx
      by_cases e : n = nm
      · subst e
        rw [if_pos rfl] at hx
        injection hx with hx
        subst hx
        exact ⟨0, u, rfl, rfl, rfl, by simpa using h1⟩
      · rw [if_neg e] at hx
        obtain ⟨k, v, q1, q2, q3, q4⟩ := k1 nm x hx
        exact ⟨k + 1, v, by simpa using q1, by simpa using q2, by simpa using q3, by simpa only [if_neg (Ne.symm e)] using q4⟩
    · simp only [List.zip_cons_cons, ofR] at hx
      by_cases e : n = nm
      · subst e
        simp only [if_true]
        exact ⟨hf.1, fun b hb => List.mem_append_left _ hb⟩
      · rw [if_neg e] at hx
        simp only [if_neg (Ne.symm e)]
        exact ⟨(k2 nm x hx).1, fun b hb => List.mem_append_right _ ((k2 nm x hx).2 b hb)⟩
    · simp only [List.zip_cons_cons, ofR] at hx hx'
      by_cases e : n = nm
      · subst e
        simp only [if_true] at hb
        rw [if_neg hne] at hx'
        simp only [if_neg (Ne.symm hne)]
        exact fun hb' => hf.2.2 b hb b ((k2 nm' x' hx').2 b hb') rfl
      · rw [if_neg e] at hx
        simp only [if_neg (Ne.symm e)] at hb
        by_cases e' : n = nm'
        · subst e'
          simp only [if_true]
          exact fun hb' => hf.2.2 b hb' b ((k2 nm x hx).2 b hb) rfl
        · rw [if_neg e'] at hx'
          simp only [if_neg (Ne.symm e')]
          exact k3 nm nm' x x' hne hx hx' b hb

theorem noShL_get : ∀ {l : List D} {k : Nat} {d : D}, noShL l → l[k]? = some d → noSh d
  | [], k, d, _, h => by simp at h
  | x :: l, 0, d, hn, h => by
    simp only [List.getElem?_cons_zero, Option.some.injEq] at h
    subst h
    exact hn.1
  | x :: l, k + 1, d, hn, h => by
    simp only [List.getElem?_cons_succ] at h
    exact noShL_get hn.2 h

theorem end_sound {C : Ctx} {fn : Func} {pure : Bool} {Q : List D → List RV → Prop} (hT : tabB C.P C.T = true) (hsr : smallR n fn.results.toList = true) (hk : endK C fn.results.toList pure Q σ) (h : Stx w0 fp0 ok0 W n σ a w ok θ ρ φ)
    {ρ0 : Rn → Value} {ros : List (Rn × D)} (hnW : C.nW = ros.length) (hr1 : ros.length ≤ 100) (hnn : (ros.map (·.1)).Nodup) (hW : ∀ (k : Nat) (x : Rn × D), ros[k]? = some x → W k = ρ0 x.1) :
    ∃ v, (results fn a.tmps).run C.P w = .ok v w ∧ ∃ outs res ok' φ' fr, Q outs res ∧ Done w0 ok0 ρ0 fp0 (ros.map (·.1)) pure outs res v w ok' φ' fr := by
  unfold endK at hk
  split at hk
  · rename_i fs hfs
    obtain ⟨hwh, hk⟩ := hk
    obtain ⟨us, h1, h2⟩ := resVals_sound hT h fn.results.toList fs hsr hfs
    obtain ⟨avs, h3, h4⟩ := atoms_val h.rel hwh h1
    have hpend : Rel w0 fp0 ok { σ with env := pend (atomsL fs) 3000 σ.env } (pendT avs 3000 θ) w ρ φ :=
      ⟨h.rel.own, h.rel.dis, fun t => FR_env _ _ (pend_env (atomsL fs) avs 3000 _ _ h3 h.rel.env t), h.rel.okb, h.rel.frm⟩
    split at hk
    · rename_i ds σ1 hex
      split at hk
      · rename_i res outs σ2 hgr hou
        obtain ⟨hpure, hQ⟩ := hk
        obtain ⟨φ1, fr, g1, g2, g3⟩ := exportN_sound (atomsL fs).length 3000 _ σ1 φ ds hpend hex
        obtain ⟨φ2, fo, k1, k2, k3⟩ := exportN_sound C.nW 1000 σ1 σ2 φ1 outs g1 hou
        have hav : (List.range' 3000 (atomsL fs).length).map (pendT avs 3000 θ) = avs := by
          have hl := FRL_length h3
          apply List.ext_getElem?
          intro j
          rw [List.getElem?_map]
          rcases Nat.lt_or_ge j avs.length with hj | hj
          · rw [List.getElem?_range' (by rw [← hl]; exact hj)]
            simp only [Option.map_some, Nat.one_mul]
            rw [pendT_get avs 3000 θ j avs[j] (List.getElem?_eq_getElem hj), List.getElem?_eq_getElem hj]
          · rw [List.getElem?_eq_none (l := List.range' 3000 (atomsL fs).length) (by rw [List.length_range', ← hl]; exact hj), List.getElem?_eq_none hj]
            rfl
        rw [hav, h4] at g2
        have hres := group_sound h.rel hwh h1 hgr g2
        have hol : outs.length = C.nW := by rw [OwVs_len k2]; simp
        obtain ⟨φ', o1, o2, o3⟩ := OwVs_names (ros.map (·.1)) outs _ fo (by rw [List.length_map, hol, hnW]) hnn k3.nod k2
        refine ⟨resultOf us, results_run h2, outs, res, ok, φ', fr, hQ, ?_⟩
        have hres' : OwRs w (if pure then fun _ => False else ok) res us fr := by
          cases pure with
          | true => exact OwRs_nosh (hpure rfl).1 hres
          | false => exact hres
        have okn : ∀ b, ok b → (ok0 b ∨ w0.heap.size ≤ b) ∧ b < w.heap.size := fun b hb => ⟨h.okn b hb, h.rel.okb b hb⟩
        refine ⟨by simp [hol, hnW], fun nm d hd => ?_, o3, ⟨us, rfl, hres'⟩, g3.nod, fun b hb => ⟨(g3.bl b hb).1.1, (g3.bl b hb).1.2.1, (g3.bl b hb).1.2.2⟩, fun nm d hd b hb hbf => ?_, h.rel.frm, h.oks, okn⟩
        · obtain ⟨k, u, q1, q2, q3, q4⟩ := o1 nm d hd
          obtain ⟨p1, p2⟩ := o2 nm d hd
          refine ⟨?_, p1, fun b hb => ⟨(k3.bl b (p2 b hb)).1.1, (k3.bl b (p2 b hb)).1.2.1, (k3.bl b (p2 b hb)).1.2.2⟩⟩
          have hk : k < ros.length := by
            have := (List.getElem?_eq_some_iff.1 q1).1
            simpa using this
          have hu : u = ρ0 nm := by
            rw [List.getElem?_map, List.getElem?_range' (by omega)] at q2
            simp only [Option.map_some, Nat.one_mul, Option.some.injEq] at q2
            rw [pendT_lt avs 3000 θ _ (by omega), h.th.2.1 k (by omega)] at q2
            rw [List.getElem?_map] at q1
            cases hx : ros[k]? with
            | none => rw [hx] at q1; simp at q1
            | some x =>
              rw [hx] at q1
              simp only [Option.map_some, Option.some.injEq] at q1
              rw [hW k x hx, q1] at q2
              exact q2.symm
          rw [← hu]
          cases pure with
          | true => exact Ow_nosh d _ _ (noShL_get (hpure rfl).2 q3) q4
          | false => exact q4
        · obtain ⟨q, e, he, hq⟩ := k3.from_ b ((o2 nm d hd).2 b hb)
          exact (g3.bl b hbf).2 q e he hq
      · exact hk.elim
    · exact hk.elim
  · exact hk.elim

theorem ofL_argL : ∀ (args : List FV) (i t : Nat) (r : List (Nat × FV)), ofL (argL i args ++ r) t = if i ≤ t ∧ t < i + args.length then args.getD (t - i) .dead else ofL r t
  | [], i, t, r => by
    rw [if_neg (by simp)]
    rfl
  | f :: args, i, t, r => by
    simp only [argL, List.cons_append, ofL, List.length_cons]
    by_cases h : i = t
    · subst h
      simp
    · rw [if_neg h, ofL_argL args (i + 1) t r]
      by_cases h2 : i + 1 ≤ t ∧ t < i + 1 + args.length
      · rw [if_pos h2, if_pos (by omega), show t - i = (t - (i + 1)) + 1 by omega]
        rfl
      · rw [if_neg h2, if_neg (by omega)]

theorem ofL_watchL : ∀ (ros : List (Rn × D)) (j t : Nat), ofL (watchL j ros) t = .dead ∨ ∃ k x, ros[k]? = some x ∧ t = 1000 + (j + k) ∧ ofL (watchL j ros) t = wFV x.1 x.2
  | [], j, t => .inl rfl
  | x :: ros, j, t => by
    simp only [watchL, ofL]
    split
    · rename_i e
      exact .inr ⟨0, x, rfl, e.symm, rfl⟩
    · rcases ofL_watchL ros (j + 1) t with h | ⟨k, y, h1, h2, h3⟩
      · exact .inl h
      · exact .inr ⟨k + 1, y, by simpa using h1, by omega, h3⟩
theorem ofR_get : ∀ {ros : List (Rn × D)} {k : Nat} {x : Rn × D}, (ros.map (·.1)).Nodup → ros[k]? = some x → ofR ros x.1 = some x.2
  | [], k, x, _, h => by simp at h
  | y :: ros, 0, x, _, h => by
    simp only [List.getElem?_cons_zero, Option.some.injEq] at h
    subst h
    obtain ⟨a, b⟩ := y
    simp [ofR]
  | y :: ros, k + 1, x, hn, h => by
    simp only [List.getElem?_cons_succ] at h
    simp only [List.map_cons, List.nodup_cons] at hn
    have hne : y.1 ≠ x.1 := fun e => hn.1 (by rw [e]; exact List.mem_map.2 ⟨x, List.mem_of_getElem? h, rfl⟩)
    obtain ⟨a, b⟩ := y
    simp only [ofR]
    rw [if_neg hne]
    exact ofR_get hn.2 h

theorem Done.wider {w : World} {ok : Nat → Prop} {ρ : Rn → Value} {fp0 fp1 : List Nat} {names : List Rn} {pure : Bool} {outs : List D} {res : List RV} {v : Value} {w' : World} {ok' : Nat → Prop} {φ : Rn → List Nat} {fr : List Nat}
    (h : Done w ok ρ fp0 names pure outs res v w' ok' φ fr) (hs : ∀ b ∈ fp0, b ∈ fp1) : Done w ok ρ fp1 names pure outs res v w' ok' φ fr :=
  ⟨h.len, fun r d hd => ⟨(h.out r d hd).1, (h.out r d hd).2.1, fun b hb => ⟨((h.out r d hd).2.2 b hb).1, ((h.out r d hd).2.2 b hb).2.1.imp (hs b) id, ((h.out r d hd).2.2 b hb).2.2⟩⟩, h.dis, h.res, h.nod,
    fun b hb => ⟨(h.bl b hb).1, (h.bl b hb).2.1.imp (hs b) id, (h.bl b hb).2.2⟩, h.disr, ⟨h.frm.os, h.frm.out, h.frm.tape, h.frm.drawn, h.frm.size, fun b hb hn => h.frm.old b hb fun hh => hn (hs b hh)⟩, h.okm, h.okn⟩
/-- **A call's promise, from the body.** -/
theorem ACalls.of_body {C : Ctx} {f : Nat} {fn : Func} {c : Code} {args : List FV} {ros : List (Rn × D)} {pure : Bool} {Q : List D → List RV → Prop} (hT : tabB C.P C.T = true) (hM : C.P.follows .mixedOrders = true)
    (hf : C.P.funcs[f]? = some fn) (hb : fn.body = some c) (hname : (fn.name == "runtime.NumGoroutine") = false) (hn : fn.ntmps = n) (hla : args.length ≤ n) (hn2 : n ≤ 1000) (hsm : smallC n c = true) (hsr : smallR n fn.results.toList = true)
    (hnW : C.nW = ros.length) (hr1 : ros.length ≤ 100) (hnn : (ros.map (·.1)).Nodup) (h : AWp C c 0 (endQ C fn.results.toList pure Q) ⟨ofL (argL 0 args ++ watchL 0 ros), ofR ros⟩) : ACalls C.P f args ros pure Q := by
  refine ⟨⟨fn, c, hf, hb, hname⟩, fun w fp1 ok vs ρ φ hlen hrel1 => ?_⟩
  -- where nothing is lent for writing, nothing old may be written
  obtain ⟨fp0, hz, hsub, hrel⟩ : ∃ fp0 : List Nat, (C.nW = 0 → fp0 = []) ∧ (∀ b ∈ fp0, b ∈ fp1) ∧ Rel w fp0 ok ⟨argEnv args, ofR ros⟩ (fun t => vs.getD t undef) w ρ φ := by
    by_cases h0 : C.nW = 0
    · have hros : ros = [] := List.eq_nil_of_length_eq_zero (by rw [← hnW]; exact h0)
      subst hros
      refine ⟨[], fun _ => rfl, by simp, ⟨fun r d hd => by simp [ofR] at hd, fun r r' d d' _ hd => by simp [ofR] at hd, hrel1.env, hrel1.okb, Keeps.refl w []⟩⟩
    · exact ⟨fp1, fun h => absurd h h0, fun _ h => h, hrel1⟩
  refine Calls.mono (R := fun e w' => ∃ v outs res ok' φ' fr, e = .returned v ∧ Q outs res ∧ Done w ok ρ fp0 (ros.map (·.1)) pure outs res v w' ok' φ' fr) ?_ (fun e w' ⟨v, outs, res, ok', φ', fr, he, hQ, hd⟩ => ⟨v, outs, res, ok', φ', fr, he, hQ, hd.wider hsub⟩)
  refine calls_of_wp hf hb ?_
  have hsz : (vs.toArray ++ Array.replicate (fn.ntmps - vs.toArray.size) undef).size = n := by
    simp only [Array.size_append, List.size_toArray, Array.size_replicate]
    omega
  let W : Nat → Value := fun j => match ros[j]? with | some x => ρ x.1 | none => undef
  let θ : Nat → Value := fun t => if t < 1000 then (vs.toArray ++ Array.replicate (fn.ntmps - vs.toArray.size) undef).getD t undef else W (t - 1000)
  have hs : Stx w fp0 ok W n ⟨ofL (argL 0 args ++ watchL 0 ros), ofR ros⟩ { tmps := vs.toArray ++ Array.replicate (fn.ntmps - vs.toArray.size) undef, defers := [] } w ok θ ρ φ := by
    refine ⟨⟨hrel.own, hrel.dis, fun t => ?_, hrel.okb, hrel.frm⟩, ⟨fun t ht => if_pos ht, fun j hj => ?_, by rw [hsz]; exact hn2⟩, fun _ h => h, fun b hb => .inl hb, rfl, hsz⟩
    · show FR w ok _ ρ (ofL (argL 0 args ++ watchL 0 ros) t) (θ t)
      rw [ofL_argL]
      by_cases ht : t < args.length
      · rw [if_pos (by omega)]
        have h1 : FR w ok ⟨argEnv args, ofR ros⟩ ρ (args.getD t .dead) (vs.getD t undef) := hrel.env t
        have h2 : θ t = vs.getD t undef := by
          show (if t < 1000 then _ else _) = _
          rw [if_pos (by omega)]
          have hlt : t < vs.length := by omega
          simp only [Array.getD_eq_getD_getElem?, List.getD_eq_getElem?_getD]
          rw [Array.getElem?_append_left (by simpa using hlt)]
          simp
        rw [h2, Nat.sub_zero]
        exact FR_st (σ1 := ⟨argEnv args, ofR ros⟩) (σ2 := ⟨ofL (argL 0 args ++ watchL 0 ros), ofR ros⟩) rfl _ _ h1
      · rw [if_neg (by omega)]
        rcases ofL_watchL ros 0 t with e | ⟨k, x, hkx, rfl, e⟩
        · rw [e]
          simp [FR]
        · rw [e]
          have h2 : θ (1000 + (0 + k)) = ρ x.1 := by
            show (if 1000 + (0 + k) < 1000 then _ else W (1000 + (0 + k) - 1000)) = _
            rw [if_neg (by omega), show 1000 + (0 + k) - 1000 = k by omega]
            show (match ros[k]? with | some x => ρ x.1 | none => undef) = _
            rw [hkx]
          rw [h2]
          have hor : ofR ros x.1 = some x.2 := ofR_get hnn hkx
          have hx := (hrel.own x.1 x.2 hor).1
          unfold wFV
          split
          · rename_i k N cs hd
            rw [hd] at hx hor
            simp only [FR]
            refine ⟨k, N, cs, ρ x.1, by simp [St.obj, hor, look], by simp [hdr], by omega, .inl ⟨rfl, ?_⟩⟩
            simp only [Ow] at hx
            rcases hx with ⟨rfl, _, _, a0, e⟩ | ⟨b, o, cp, arr, T, fp', e, _⟩
            · exact ⟨a0, 0, 0, e, e⟩
            · exact ⟨_, N, cp, e, e⟩
          · rename_i cs hd
            rw [hd] at hx hor
            simp only [FR]
            simp only [Ow] at hx
            obtain ⟨b, arr, T, fp', e, _⟩ := hx
            exact ⟨.bx cs, cs, ρ x.1, b, 0, by simp [St.obj, hor, look], rfl, by simp [hdr], by rw [e]; rfl, e⟩
          · simp [FR]
    · show (if 1000 + j < 1000 then _ else W (1000 + j - 1000)) = W j
      rw [if_neg (by omega), Nat.add_sub_cancel_left]
  have hfin : ∀ (σ : St) (a' : Act) (w' : World), endK C fn.results.toList pure Q σ → Ste w fp0 ok W n σ a' w' → a'.defers = [] ∧ ∃ v, (results fn a'.tmps).run C.P w' = .ok v w' ∧
      ∃ v' outs res ok' φ' fr, Ending.returned v = Ending.returned v' ∧ Q outs res ∧ Done w ok ρ fp0 (ros.map (·.1)) pure outs res v' w' ok' φ' fr := by
    intro σ a' w' hk ⟨ok', θ', ρ', φ', hs'⟩
    obtain ⟨v, h1, outs, res, ok2, φ2, fr, h2, h3⟩ := end_sound (ρ0 := ρ) (ros := ros) hT hsr hk hs' hnW hr1 hnn (fun k x hx => by
      show (match ros[k]? with | some x => ρ x.1 | none => undef) = _
      rw [hx])
    exact ⟨hs'.dfr, v, h1, v, outs, res, ok2, φ2, fr, rfl, h2, h3⟩
  refine wp_mono (awp_sound hT hz hM c 0 _ _ _ w hsm h ⟨_, _, _, _, hs⟩) fun e a' w' hc => ?_
  cases e with
  | normal =>
    obtain ⟨σ, hk, hs'⟩ := hc
    exact hfin σ a' w' hk hs'
  | ret =>
    obtain ⟨σ, hk, hs'⟩ := hc
    exact hfin σ a' w' hk hs'
  | exit id =>
    obtain ⟨σ, hk, _⟩ := hc
    exact hk.elim
  | goto l => exact hc.elim
  | panic ch => exact hc.elim
  | outgrown => exact hc.elim

end
end Go.Proofs.Ytfcgcgmleogamaa.Ab
namespace Go.Proofs.Ytfcgcgmleogamaa.Ab
open Go
set_option linter.unusedSimpArgs false
set_option linter.unusedVariables false
set_option linter.unusedSectionVars false

def ints (xs : List Int) : List D := xs.map D.int

section
variable {C : Ctx} {i : Nat} {Q : AEx → St → Prop} {σ : St}
theorem wseq {a b : Code} (h : AWp C a i (AEx.seq (AWp C b i Q) Q) σ) : AWp C (.seq a b) i Q σ := h
/-- A part of a body. -/
def walkCode : List Nat → Code → Code
  | 0 :: p, .seq a _ => walkCode p a
  | 1 :: p, .seq _ b => walkCode p b
  | 0 :: p, .cond _ a _ => walkCode p a
  | 1 :: p, .cond _ _ b => walkCode p b
  | 0 :: p, .block _ c => walkCode p c
  | 0 :: p, .loop c => walkCode p c
  | _, c => c
def codeAt (f : Func) (p : List Nat) : Code := match f.body with | some c => walkCode p c | none => .skip
theorem wcode {c c' : Code} (h : c = c') (hh : AWp C c' i Q σ) : AWp C c i Q σ := h ▸ hh
theorem wst {c : Code} {σ2 : St} (h : σ = σ2) (hh : AWp C c i Q σ2) : AWp C c i Q σ := h ▸ hh
theorem wskip (h : Q .normal σ) : AWp C .skip i Q σ := h
theorem wexit {id : Nat} (h : Q (.exit id) σ) : AWp C (.exit id) i Q σ := h
theorem wret (h : Q .ret σ) : AWp C .ret i Q σ := h
theorem wblock {id : Nat} {c : Code} (h : AWp C c id (AEx.block id Q) σ) : AWp C (.block id c) i Q σ := h
theorem wreg {id : Nat} {ops : Array Oper} (h : ∀ K : St → Prop, (∀ σ', Q .normal σ' → K σ') → AOps C ops ops.toList σ (fun σ' => K (norm C (aget [] C.kp id) σ'))) : AWp C (.region id ops false) i Q σ := h _ (fun _ h => h)
theorem wdraw {id : Nat} {ops : Array Oper} (p : Plan) (hp : p.ok C ops) (h : ∀ K : St → Prop, (∀ σ', Q .normal σ' → K σ') → ARun C ops p σ (fun σ' => K (norm C (aget [] C.kp id) σ'))) : AWp C (.region id ops true) i Q σ :=
  ⟨p, hp, h _ (fun _ h => h)⟩
theorem wcond {c : Operand} {a b : Code} (t : Bool) (hc : opv σ c = .d (.v (.bool t))) (h1 : t = true → AWp C a i Q σ) (h2 : t = false → AWp C b i Q σ) : AWp C (.cond c a b) i Q σ := ⟨t, hc, h1, h2⟩

/-- A loop whose states are told by a parameter; at its entry empty slices may be held for owned ones. -/
theorem wloopWW {c : Code} {α : Type} (S : α → St) (J : α → Prop) (μ : α → Nat) (x0 : α) (l0 : List Wk) (h0 : wkAll l0 (norm C (aget [] C.lp i) σ) = some (S x0)) (hJ : J x0)
    (h : ∀ x, J x → ∀ K : St → Prop, (∀ y, J y → μ y < μ x → K (S y)) → AWp C c i (AEx.seq (fun σ' => ∃ l σ1, wkAll l (norm C (aget [] C.lp i) σ') = some σ1 ∧ K σ1) Q) (S x)) : AWp C (.loop c) i Q σ := by
  have hex : ∀ τ : St, (∃ x, J x ∧ τ = S x) → ∃ k, (∃ x, J x ∧ τ = S x ∧ μ x = k) := fun τ ⟨x, h1, h2⟩ => ⟨_, x, h1, h2, rfl⟩
  classical
  let μ' : St → Nat := fun τ => if h : ∃ k, (∃ x, J x ∧ τ = S x ∧ μ x = k) then Classical.choose (least h) else 0
  refine ⟨fun τ => ∃ x, J x ∧ τ = S x, μ', ⟨l0, S x0, h0, x0, hJ, rfl⟩, fun τ hτ => ?_⟩
  have e1 : μ' τ = Classical.choose (least (hex τ hτ)) := dif_pos (hex τ hτ)
  obtain ⟨⟨x, h1, h2, h3⟩, _⟩ := Classical.choose_spec (least (hex τ hτ))
  have := h x h1 (fun ξ => (∃ x, J x ∧ ξ = S x) ∧ μ' ξ < μ' τ) fun y hy hlt => by
    have hy' : ∃ x, J x ∧ S y = S x := ⟨y, hy, rfl⟩
    refine ⟨hy', ?_⟩
    have e2 : μ' (S y) = Classical.choose (least (hex (S y) hy')) := dif_pos (hex (S y) hy')
    rw [e1, e2]
    have := (Classical.choose_spec (least (hex (S y) hy'))).2 (μ y) ⟨y, hy, rfl, rfl⟩
    omega
  rw [h2]
  rw [h2] at this
  exact this
theorem wloopB {c : Code} {α : Type} (S : α → St) (J : α → Prop) (μ : α → Nat) (x0 : α) (l0 : List Wk) (h0 : wkAll l0 (norm C (aget [] C.lp i) σ) = some (S x0)) (hJ : J x0)
    (h : ∀ x, J x → ∀ K : St → Prop, (∀ l τ y, wkAll l τ = some (S y) → J y → μ y < μ x → K τ) → AWp C c i (AEx.seq (fun σ' => K (norm C (aget [] C.lp i) σ')) Q) (S x)) : AWp C (.loop c) i Q σ :=
  wloopWW S J μ x0 l0 h0 hJ fun x hx K hK => h x hx (fun τ => ∃ l σ1, wkAll l τ = some σ1 ∧ K σ1) fun l τ y hl hy hlt => ⟨l, _, hl, hK y hy hlt⟩
theorem wloopW {c : Code} {α : Type} (S : α → St) (J : α → Prop) (μ : α → Nat) (x0 : α) (l0 : List Wk) (h0 : wkAll l0 (norm C (aget [] C.lp i) σ) = some (S x0)) (hJ : J x0)
    (h : ∀ x, J x → ∀ K : St → Prop, (∀ y, J y → μ y < μ x → K (S y)) → AWp C c i (AEx.seq (fun σ' => K (norm C (aget [] C.lp i) σ')) Q) (S x)) : AWp C (.loop c) i Q σ :=
  wloopB S J μ x0 l0 h0 hJ fun x hx K hK => h x hx K fun y hy hlt => hK [] _ y rfl hy hlt
theorem wloop {c : Code} {α : Type} (S : α → St) (J : α → Prop) (μ : α → Nat) (x0 : α) (h0 : norm C (aget [] C.lp i) σ = S x0) (hJ : J x0)
    (h : ∀ x, J x → ∀ K : St → Prop, (∀ y, J y → μ y < μ x → K (S y)) → AWp C c i (AEx.seq (fun σ' => K (norm C (aget [] C.lp i) σ')) Q) (S x)) : AWp C (.loop c) i Q σ :=
  wloopW S J μ x0 [] (by rw [h0]; rfl) hJ h
end

theorem ofL_nil (t : Nat) : ofL [] t = .dead := rfl
theorem ofL_cons (i : Nat) (f : FV) (r : List (Nat × FV)) (t : Nat) : ofL ((i, f) :: r) t = if i = t then f else ofL r t := rfl
theorem ofR_nil (t : Rn) : ofR [] t = none := rfl
theorem ofR_cons (i : Rn) (f : D) (r : List (Rn × D)) (t : Rn) : ofR ((i, f) :: r) t = if i = t then some f else ofR r t := rfl
theorem ofRO_nil (t : Rn) : ofRO [] t = none := rfl
theorem ofRO_cons (i : Rn) (f : Option D) (r : List (Rn × Option D)) (t : Rn) : ofRO ((i, f) :: r) t = if i = t then f else ofRO r t := rfl
theorem upd_at {α : Type} (e : Nat → α) (t : Nat) (f : α) (s : Nat) : upd e t f s = if s = t then f else e s := rfl
theorem root_env (σ : St) (r : Rn) (d : D) : (σ.root r d).env = σ.env := rfl
theorem root_rts (σ : St) (r : Rn) (d : D) (q : Rn) : (σ.root r d).rts q = if q = r then some d else σ.rts q := rfl

theorem wrapOk {x : Int} (h0 : -9223372036854775808 ≤ x) (h1 : x < 9223372036854775808) : IntKind.i64.wrap x = x := by
  rw [IntKind.wrap_i64]
  omega
theorem get_ints (xs : List Int) (i : Nat) (h : i < xs.length) : (ints xs)[i]? = some (D.int xs[i]) := by simp [ints, h]
theorem getElem_ints (xs : List Int) (i : Nat) (h : i < (ints xs).length) : (ints xs)[i] = D.int (xs[i]'(by simpa [ints] using h)) := by simp [ints]
theorem length_ints (xs : List Int) : (ints xs).length = xs.length := by simp [ints]
theorem ints_append (xs ys : List Int) : ints xs ++ ints ys = ints (xs ++ ys) := by simp [ints]
theorem ints_set (xs : List Int) (i : Nat) (x : Int) : (ints xs).set i (D.v (.int .i64 x)) = ints (xs.set i x) := by
  unfold ints
  rw [List.map_set]
theorem ints_take (xs : List Int) (i : Nat) : (ints xs).take i = ints (xs.take i) := by simp [ints, List.map_take]
theorem ints_drop (xs : List Int) (i : Nat) : (ints xs).drop i = ints (xs.drop i) := by simp [ints, List.map_drop]
theorem leafL_ints : ∀ (xs : List Int), leafL (ints xs)
  | [] => trivial
  | x :: xs => ⟨rfl, leafL_ints xs⟩
theorem noShL_ints : ∀ (xs : List Int), noShL (ints xs)
  | [] => trivial
  | x :: xs => ⟨trivial, noShL_ints xs⟩
theorem shareL_ints : ∀ (xs : List Int), shareL (ints xs) = ints xs
  | [] => rfl
  | x :: xs => by
    have := shareL_ints xs
    simp only [ints, List.map_cons, shareL, share] at this ⊢
    rw [this]
theorem zeros_ints : ∀ n : Nat, zerosD [.int .i64 0] n = ints (List.replicate n 0)
  | 0 => rfl
  | n + 1 => by
    simp only [zerosD, zeros_ints n, List.replicate_succ]
    rfl

end Go.Proofs.Ytfcgcgmleogamaa.Ab
namespace Go.Proofs.Ytfcgcgmleogamaa.Ab
open Go
set_option linter.unusedSimpArgs false
set_option linter.unusedVariables false
set_option linter.unusedSectionVars false

/-- Structs of so many cells, one behind the other. -/
def rows {α : Type} (f : α → List D) : List α → List D
  | [] => []
  | x :: xs => f x ++ rows f xs

section
variable {α : Type} {f : α → List D} {k : Nat}
theorem rows_append (xs ys : List α) : rows f (xs ++ ys) = rows f xs ++ rows f ys := by
  induction xs with
  | nil => rfl
  | cons x xs ih => simp [rows, ih]
theorem rows_length (hk : ∀ x, (f x).length = k) (xs : List α) : (rows f xs).length = k * xs.length := by
  induction xs with
  | nil => rfl
  | cons x xs ih => simp only [rows, List.length_append, hk, ih, List.length_cons, Nat.mul_add, Nat.mul_one]; omega
theorem rows_get (hk : ∀ x, (f x).length = k) : ∀ (xs : List α) (i j : Nat) (h : i < xs.length), j < k → (rows f xs)[k * i + j]? = (f xs[i])[j]?
  | [], i, j, h, _ => by simp at h
  | x :: xs, 0, j, h, hj => by
    simp only [rows, Nat.mul_zero, Nat.zero_add, List.getElem_cons_zero]
    rw [List.getElem?_append_left (by rw [hk]; exact hj)]
  | x :: xs, i + 1, j, h, hj => by
    simp only [rows, List.getElem_cons_succ]
    rw [List.getElem?_append_right (by rw [hk, Nat.mul_add]; omega), hk, show k * (i + 1) + j - k = k * i + j by rw [Nat.mul_add]; omega]
    exact rows_get hk xs i j (by simpa using h) hj
theorem rows_take (hk : ∀ x, (f x).length = k) : ∀ (xs : List α) (i : Nat), (rows f xs).take (k * i) = rows f (xs.take i)
  | [], i => by simp [rows]
  | x :: xs, 0 => by simp [rows]
  | x :: xs, i + 1 => by
    simp only [rows, List.take_succ_cons]
    rw [List.take_append, List.take_of_length_le (by rw [hk, Nat.mul_add]; omega), hk, show k * (i + 1) - k = k * i by rw [Nat.mul_add]; omega, rows_take hk xs i]
theorem shareL_append (a b : List D) : shareL (a ++ b) = shareL a ++ shareL b := by
  induction a with
  | nil => rfl
  | cons x a ih => simp [shareL, ih]
theorem rows_share (xs : List α) : shareL (rows f xs) = rows (fun x => shareL (f x)) xs := by
  induction xs with
  | nil => rfl
  | cons x xs ih => simp [rows, shareL_append, ih]
theorem noShL_append {a b : List D} (ha : noShL a) (hb : noShL b) : noShL (a ++ b) := by
  induction a with
  | nil => exact hb
  | cons x a ih => exact ⟨ha.1, ih ha.2⟩
theorem rows_noSh (hf : ∀ x, noShL (f x)) (xs : List α) : noShL (rows f xs) := by
  induction xs with
  | nil => trivial
  | cons x xs ih => exact noShL_append (hf x) ih
end

end Go.Proofs.Ytfcgcgmleogamaa.Ab
namespace Go.Proofs.Ytfcgcgmleogamaa.Ab
open Go

/-- What a call is asked for, held together. -/
def Back (σ : St) (ios : List Io) (outs : List D) (dst : Option Nat) (res : List RV) (K : St → Prop) : Prop :=
  match putOuts σ ios outs with
  | some σ1 => (match dst with
    | some d => (match unpackR d σ1 0 res with
      | some (fs, σ2, _) => K { σ2 with env := upd σ2.env d (resFV fs) }
      | none => False)
    | none => K σ1)
  | none => False
def CallsTo (P : Program) (f : Nat) (args : List FV) (lent : List Rn) (ios : List Io) (dst : Option Nat) (σ : St) (K : St → Prop) : Prop :=
  ∃ pure Q, ACalls P f args (ios.map fun io => (io.name, io.d)) pure Q ∧ (pure = true ∨ lent = []) ∧ ∀ outs res, Q outs res → Back σ ios outs dst res K
theorem callTo_eq (C : Ctx) (f : Nat) (fvs : List FV) (dst : Option Nat) (σ : St) (K : St → Prop) : callTo C f fvs dst σ K = (match passL σ 0 (aget [] C.M f) fvs with
  | some (args, lent, ios) => ((ios.map (·.r)).Nodup ∧ (ios.map (·.name)).Nodup) ∧ (∀ r ∈ ios.map (·.r), r ∉ lent) ∧ CallsTo C.P f args lent ios dst σ K
  | none => False) := rfl
theorem wcall {P : Program} {f : Nat} {args args' : List FV} {lent : List Rn} {ios : List Io} {dst : Option Nat} {σ : St} {K : St → Prop} {ros : List (Rn × D)} {pure : Bool} {Q : List D → List RV → Prop}
    (h : ACalls P f args' ros pure Q) (ha : args = args') (hr : (ios.map fun io => (io.name, io.d)) = ros) (hp : pure = true ∨ lent = []) (hk : ∀ outs res, Q outs res → Back σ ios outs dst res K) : CallsTo P f args lent ios dst σ K :=
  ⟨pure, Q, by rw [hr, ha]; exact h, hp, hk⟩
theorem wcall1 {P : Program} {f : Nat} {args args' : List FV} {lent : List Rn} {ios : List Io} {dst : Option Nat} {σ : St} {K : St → Prop} {ros : List (Rn × D)} {os : List D} {rs : List RV}
    (h : ACalls P f args' ros true (fun outs res => outs = os ∧ res = rs)) (ha : args = args') (hr : (ios.map fun io => (io.name, io.d)) = ros) (hk : Back σ ios os dst rs K) : CallsTo P f args lent ios dst σ K :=
  wcall h ha hr (.inl rfl) fun outs res ⟨h1, h2⟩ => by rw [h1, h2]; exact hk

theorem AOpG_eq (C : Ctx) (ops : Array Oper) (o : Oper) (σ : St) (K : St → Prop) : AOpG C ops o σ K ↔ (match o.guard with
  | none => AOp C o σ K
  | some (j, want) => (match (ops[j]?).bind (·.dst) with
    | some t => (match σ.env t with
      | .d (.v (.bool b)) => if b = want then AOp C o σ K else K (σ.set o.dst (.tu []))
      | .tu [] => K (σ.set o.dst (.tu []))
      | _ => False)
    | none => False)) := by
  unfold AOpG
  rcases o.guard with _ | ⟨j, want⟩
  · exact Iff.rfl
  · simp only
    rcases (ops[j]?).bind (·.dst) with _ | t
    · exact Iff.rfl
    · simp only
      generalize σ.env t = f
      split
      · rename_i b
        by_cases h : b = want <;> simp [h]
      · exact Iff.rfl
      · rename_i h h'
        split
        · exact absurd rfl (h _)
        · exact absurd rfl h'
        · exact Iff.rfl
theorem takeCells_self (k n : Nat) (cs : List D) : takeCells k n n cs = cs := if_pos rfl
attribute [simp] fbB frzB okAtom pickF
attribute [simp ↓] AFb AFz AFrz AFrS ASlice ACut
attribute [simp] leafFs shiftInt fieldV
attribute [simp ↓] AOps AOpG_eq AOp silK ABuiltin ARun ARunL callTo_eq AAlloc ABox ABuildSlice AMake AMapUpd ARange ANext AAppend ACopy ADelete AStore ANil
attribute [simp] u8s sil silCall isNilC opv constFV aget norm normWith names addNames watchers ofL_nil ofL_cons upd_at St.set FV.roots FV.rootsL FV.ren FV.renL ofRO_nil ofRO_cons lenF binF binInt bitsV
attribute [simp] indexF tsize addOff loadF pickL isAggK renR AEx.seq AEx.block cellFV argL watchL wFV ofR_nil ofR_cons endQ endK resVals FV.whole D.leaf exportN exportD pend unpend atomsL FV.atoms groupR noShR noShL noSh Value.oneCell'
attribute [simp] St.kOf St.nOf St.obj look St.storeL St.store1 St.absorb St.put putAt D.cells? D.setCells D.quiet FV.isLeaf root_env root_rts getElem_ints length_ints leafL_ints noShL_ints shareL_ints ints_set ints_append ints_take ints_drop
attribute [simp] wk1 wkAll isNil0
attribute [simp] nilIs fieldOff fieldPl sliceF boundsF isZero buildF fillF setAtoms mapIdx2 keyInts appSrc appNew takeCells_self St.take St.kill St.killBelow FV.under FV.underL FV.deep FV.deepL belowB isPre stripP Mv.place FV.move FV.moveL
attribute [simp] Back passL viewFV viewL ioAtom ioL ioFV putOuts unpackD unpackL unpackR resFV share shareL leafL solidL D.solid FV.rootIs St.dropIt St.setIt FV.notIt FV.hasIt FV.hasItL zerosD goneL
end Go.Proofs.Ytfcgcgmleogamaa.Ab
namespace Go.Proofs.Ytfcgcgmleogamaa.Ab
open Go
set_option linter.unusedSimpArgs false
set_option linter.unusedVariables false
set_option linter.unusedSectionVars false

/-! ### Operations by their numbers, part by part -/
def AOpsI (C : Ctx) (ops : Array Oper) : List Nat → St → (St → Prop) → Prop
  | [], σ, K => K σ
  | i :: r, σ, K => match ops[i]? with
    | some o => AOpG C ops o σ fun σ' => AOpsI C ops r σ' K
    | none => False
attribute [simp ↓] AOpsI
theorem AOpsI_append (C : Ctx) (ops : Array Oper) (K : St → Prop) : ∀ (is js : List Nat) (σ : St), AOpsI C ops (is ++ js) σ K = AOpsI C ops is σ fun σ' => AOpsI C ops js σ' K
  | [], js, σ => rfl
  | i :: is, js, σ => by
    simp only [List.cons_append, AOpsI]
    have : (fun σ' => AOpsI C ops (is ++ js) σ' K) = fun σ' => AOpsI C ops is σ' fun σ'' => AOpsI C ops js σ'' K := funext fun σ' => AOpsI_append C ops K is js σ'
    rw [this]
theorem AOpsI_range (C : Ctx) (ops : Array Oper) (K : St → Prop) : ∀ (m i : Nat) (σ : St), i + m = ops.size → AOpsI C ops (List.range' i m) σ K = AOps C ops (ops.toList.drop i) σ K
  | 0, i, σ, h => by
    rw [List.drop_of_length_le (by simp; omega)]
    rfl
  | m + 1, i, σ, h => by
    have hi : i < ops.toList.length := by simp; omega
    rw [List.drop_eq_getElem_cons hi, List.range'_succ]
    have : (fun σ' => AOpsI C ops (List.range' (i + 1) m) σ' K) = fun σ' => AOps C ops (ops.toList.drop (i + 1)) σ' K := funext fun σ' => AOpsI_range C ops K m (i + 1) σ' (by omega)
    have e : ops[i]? = some ops.toList[i] := by
      rw [Array.getElem?_eq_getElem (by omega)]
      simp
    show (match ops[i]? with
      | some o => AOpG C ops o σ fun σ' => AOpsI C ops (List.range' (i + 1) m) σ' K
      | none => False) = _
    rw [e, this]
    rfl
theorem opsI_seg {C : Ctx} {ops : Array Oper} {is js : List Nat} {σ : St} {K : St → Prop} (h : ∀ K1 : St → Prop, (∀ σ', AOpsI C ops js σ' K → K1 σ') → AOpsI C ops is σ K1) : AOpsI C ops (is ++ js) σ K := by
  rw [AOpsI_append]
  exact h _ fun _ h => h
theorem opsI_end {C : Ctx} {ops : Array Oper} {is : List Nat} {σ : St} {K : St → Prop} (h : ∀ K1 : St → Prop, (∀ σ', K σ' → K1 σ') → AOpsI C ops is σ K1) : AOpsI C ops is σ K := h _ fun _ h => h
def chainP : List (Bool × Nat) → Plan → Plan
  | [], p => p
  | (true, i) :: r, p => .take i (chainP r p)
  | (false, i) :: r, p => .all [(i, chainP r p)]
theorem ARun_chain (C : Ctx) (ops : Array Oper) (p : Plan) (K : St → Prop) : ∀ (l : List (Bool × Nat)) (σ : St), ARun C ops (chainP l p) σ K = AOpsI C ops (l.map (·.2)) σ fun σ' => ARun C ops p σ' K
  | [], σ => rfl
  | (true, i) :: l, σ => by
    simp only [chainP, ARun, List.map_cons, AOpsI]
    have : (fun σ' => ARun C ops (chainP l p) σ' K) = fun σ' => AOpsI C ops (l.map (·.2)) σ' fun σ'' => ARun C ops p σ'' K := funext fun σ' => ARun_chain C ops p K l σ'
    rw [this]
    rfl
  | (false, i) :: l, σ => by
    simp only [chainP, ARun, ARunL, List.map_cons, AOpsI]
    have : (fun σ' => ARun C ops (chainP l p) σ' K) = fun σ' => AOpsI C ops (l.map (·.2)) σ' fun σ'' => ARun C ops p σ'' K := funext fun σ' => ARun_chain C ops p K l σ'
    rw [this, and_true]
    rfl
section
variable {C : Ctx} {i : Nat} {Q : AEx → St → Prop} {σ : St}
theorem wregI {id : Nat} {ops : Array Oper} (is : List Nat) (he : is = List.range' 0 ops.size) (h : ∀ K : St → Prop, (∀ σ', Q .normal σ' → K σ') → AOpsI C ops is σ (fun σ' => K (norm C (aget [] C.kp id) σ'))) : AWp C (.region id ops false) i Q σ :=
  wreg fun K hK => by
    have := h K hK
    rw [he, AOpsI_range _ _ _ _ _ _ (by omega)] at this
    exact this
theorem wdrawI {id : Nat} {ops : Array Oper} (l : List (Bool × Nat)) (hp : (chainP l .done).ok C ops) (is : List Nat) (he : is = l.map (·.2)) (h : ∀ K : St → Prop, (∀ σ', Q .normal σ' → K σ') → AOpsI C ops is σ (fun σ' => K (norm C (aget [] C.kp id) σ'))) : AWp C (.region id ops true) i Q σ :=
  wdraw (chainP l .done) hp fun K hK => by
    rw [ARun_chain, ← he]
    exact h K hK
end

/-! ### Results -/
def WkD (a b : D) : Prop := a = b ∨ (isNil0 a = true ∧ ∃ k, b = .ow k 0 [])
def WkL : List D → List D → Prop
  | [], [] => True
  | a :: l, b :: r => WkD a b ∧ WkL l r
  | _, _ => False
def WkR : RV → RV → Prop
  | .one a, .one b => WkD a b
  | .ag a, .ag b => WkL a b
  | _, _ => False
def WkRs : List RV → List RV → Prop
  | [], [] => True
  | a :: l, b :: r => WkR a b ∧ WkRs l r
  | _, _ => False
section
variable {w : World} {ok : Nat → Prop}
theorem WkD.ow {a b : D} (h : WkD a b) {u : Value} {fp : List Nat} (ha : Ow w ok a u fp) : Ow w ok b u fp := by
  rcases h with rfl | ⟨h1, k, rfl⟩
  · exact ha
  · have hv := isNil0_val h1 ha
    have hf : fp = [] := by
      unfold isNil0 at h1
      split at h1
      · simp only [Ow] at ha; exact ha.1
      · simp only [Ow] at ha; exact ha.1
      · simp at h1
    subst hf
    exact ow_empty k hv
theorem WkL.ow : ∀ {a b : List D}, WkL a b → ∀ {us : List Value} {fp : List Nat}, OwVs w ok a us fp → OwVs w ok b us fp
  | [], [], _, us, fp, h => h
  | a :: l, b :: r, h, us, fp, ha => by
    obtain ⟨u, us', f1, f2, e1, e2, h1, h2⟩ := ha
    exact ⟨u, us', f1, f2, e1, e2, h.1.ow h1, WkL.ow h.2 h2⟩
  | [], b :: r, h, _, _, _ => h.elim
  | a :: l, [], h, _, _, _ => h.elim
theorem WkR.ow : ∀ {a b : RV}, WkR a b → ∀ {u : Value} {fp : List Nat}, OwRV w ok a u fp → OwRV w ok b u fp
  | .one a, .one b, h, u, fp, ha => WkD.ow h ha
  | .ag a, .ag b, h, u, fp, ha => by
    obtain ⟨vs, e, h1⟩ := ha
    exact ⟨vs, e, WkL.ow h h1⟩
  | .one a, .ag b, h, _, _, _ => h.elim
  | .ag a, .one b, h, _, _, _ => h.elim
theorem WkRs.ow : ∀ {a b : List RV}, WkRs a b → ∀ {us : List Value} {fp : List Nat}, OwRs w ok a us fp → OwRs w ok b us fp
  | [], [], _, us, fp, h => h
  | a :: l, b :: r, h, us, fp, ha => by
    obtain ⟨u, us', f1, f2, e1, e2, h1, h2⟩ := ha
    exact ⟨u, us', f1, f2, e1, e2, WkR.ow h.1 h1, WkRs.ow h.2 h2⟩
  | [], b :: r, h, _, _, _ => h.elim
  | a :: l, [], h, _, _, _ => h.elim
end

theorem ACalls.weak {P : Program} {f : Nat} {args : List FV} {ros : List (Rn × D)} {pure : Bool} {Q Q' : List D → List RV → Prop} (h : ACalls P f args ros pure Q) (hq : ∀ outs res, Q outs res → ∃ res', WkRs res res' ∧ Q' outs res') : ACalls P f args ros pure Q' := by
  refine ⟨h.1, fun w fp0 ok vs ρ φ hl hr => (h.2 w fp0 ok vs ρ φ hl hr).mono ?_⟩
  rintro e w' ⟨v, outs, res, ok', φ', fr, he, hQ, hd⟩
  obtain ⟨res', h1, h2⟩ := hq outs res hQ
  obtain ⟨vs', e1, e2⟩ := hd.res
  exact ⟨v, outs, res', ok', φ', fr, he, h2, ⟨hd.len, hd.out, hd.dis, ⟨vs', e1, h1.ow e2⟩, hd.nod, hd.bl, hd.disr, hd.frm, hd.okm, hd.okn⟩⟩

theorem ACalls.weak1 {P : Program} {f : Nat} {args : List FV} {ros : List (Rn × D)} {pure : Bool} {os : List D} {rs : List RV} (h : ACalls P f args ros pure fun outs res => outs = os ∧ WkRs res rs) : ACalls P f args ros pure fun outs res => outs = os ∧ res = rs :=
  h.weak fun outs res ⟨h1, h2⟩ => ⟨rs, h2, h1, rfl⟩
attribute [simp] WkRs WkR WkL WkD isNil0
theorem nd_t {p : Prop} [Decidable p] (h : (!decide p) = true) : ¬ p := by simpa using h
theorem nd_f {p : Prop} [Decidable p] (h : (!decide p) = false) : p := by simpa using h
theorem d_t {p : Prop} [Decidable p] (h : decide p = true) : p := by simpa using h
theorem d_f {p : Prop} [Decidable p] (h : decide p = false) : ¬ p := by simpa using h
theorem ibeq (a b : Int) : (a == b) = decide (a = b) := by
  by_cases h : a = b <;> simp [h]
theorem ibne (a b : Int) : (a != b) = !decide (a = b) := by
  by_cases h : a = b <;> simp [h]
theorem wrap_nat {j : Nat} (h : j < 4611686018427387904) : IntKind.i64.wrap (j : Int) = (j : Int) := wrapOk (by omega) (by omega)

/-! ### Arguments -/
section
variable {w : World} {ok : Nat → Prop} {σ : St} {ρ : Rn → Value}
end

end Go.Proofs.Ytfcgcgmleogamaa.Ab
namespace Go.Proofs.Ytfcgcgmleogamaa.Ab
open Go
set_option linter.unusedSimpArgs false
set_option linter.unusedVariables false
set_option linter.unusedSectionVars false

structure Trm where
  e : List Int
  c : Int
deriving DecidableEq
structure Lau where
  v : Int
  ts : List Trm
deriving DecidableEq
structure Mat where
  n : Int
  r : Int
  d : List Int
deriving DecidableEq
structure Sed where
  m : Mat
  f : List Lau
deriving DecidableEq
structure Ses where
  a : Mat
  k : List Int
  s : Sed
deriving DecidableEq

abbrev shI (l : List Int) : D := .sh 1 l.length (ints l)
abbrev owI (l : List Int) : D := .ow 1 l.length (ints l)
def tS (t : Trm) : List D := [shI t.e, D.int t.c]
def tO (t : Trm) : List D := [owI t.e, D.int t.c]
def fS (f : Lau) : List D := [D.int f.v, .sh 2 f.ts.length (rows tS f.ts)]
def fO (f : Lau) : List D := [D.int f.v, .ow 2 f.ts.length (rows tO f.ts)]
def mS (m : Mat) : List D := [D.int m.n, D.int m.r, shI m.d]
def mO (m : Mat) : List D := [D.int m.n, D.int m.r, owI m.d]
theorem tS_two (t : Trm) : (tS t).length = 2 := rfl
theorem tO_two (t : Trm) : (tO t).length = 2 := rfl
theorem fS_two (t : Lau) : (fS t).length = 2 := rfl
theorem fO_two (t : Lau) : (fO t).length = 2 := rfl
@[simp] theorem tS_length (l : List Trm) : (rows tS l).length = 2 * l.length := rows_length tS_two l
@[simp] theorem tO_length (l : List Trm) : (rows tO l).length = 2 * l.length := rows_length tO_two l
@[simp] theorem fS_length (l : List Lau) : (rows fS l).length = 2 * l.length := rows_length fS_two l
@[simp] theorem fO_length (l : List Lau) : (rows fO l).length = 2 * l.length := rows_length fO_two l
@[simp] theorem tS_share (l : List Trm) : shareL (rows tO l) = rows tS l := by
  rw [rows_share]
  congr 1
  funext t
  simp [tO, tS, shareL, share, shareL_ints]
@[simp] theorem fS_share (l : List Lau) : shareL (rows fO l) = rows fS l := by
  rw [rows_share]
  congr 1
  funext t
  simp [fO, fS, shareL, share]
@[simp] theorem tO_noSh (l : List Trm) : noShL (rows tO l) := rows_noSh (fun t => by simp [tO, noShL, noSh, noShL_ints]) l
@[simp] theorem fO_noSh (l : List Lau) : noShL (rows fO l) := rows_noSh (fun t => by simp [fO, noShL, noSh]) l

theorem twice {α : Type} {l : List α} {i : Nat} {x : α} (h : l[i]? = some x) : l[i]? = some x ∧ ∀ h' : i < l.length, l[i]'h' = x :=
  ⟨h, fun h' => by rw [List.getElem?_eq_getElem h'] at h; injection h⟩
section
variable {l : List Trm} {g : List Lau} {i : Nat}
theorem tS_0 (h : i < l.length) : (rows tS l)[2 * i]? = some (shI l[i].e) ∧ ∀ h', (rows tS l)[2 * i]'h' = shI l[i].e := twice (rows_get tS_two l i 0 h (by omega))
theorem tS_1 (h : i < l.length) : (rows tS l)[2 * i + 1]? = some (D.int l[i].c) ∧ ∀ h', (rows tS l)[2 * i + 1]'h' = D.int l[i].c := twice (rows_get tS_two l i 1 h (by omega))
end
theorem modify_const {α : Type} (l : List α) (i : Nat) (e : α) : l.modify i (fun _ => e) = l.set i e := by
  apply List.ext_getElem?
  intro j
  rw [List.getElem?_modify, List.getElem?_set]
  split
  · rename_i h
    subst h
    split
    · rename_i h
      rw [List.getElem?_eq_getElem h]
      rfl
    · rename_i h
      rw [List.getElem?_eq_none (by omega)]
      rfl
  · simp

/-! ### Marks -/
def marks (k : Int) (n : Nat) : List Int := (List.range n).map fun (i : Nat) => k + (i : Int)
@[simp] theorem marks_length (k : Int) (n : Nat) : (marks k n).length = n := by simp [marks]
section
variable {α : Type} (cnt : α → Nat) (mk : α → Int → α)
def cntL : List α → Nat
  | [] => 0
  | x :: xs => cnt x + cntL xs
def mkL : List α → Int → List α
  | [], _ => []
  | x :: xs, k => mk x k :: mkL xs (k + cnt x)
@[simp] theorem mkL_length : ∀ (l : List α) (k : Int), (mkL cnt mk l k).length = l.length
  | [], k => rfl
  | x :: xs, k => by simp [mkL, mkL_length xs]
end
def cntT (t : Trm) : Nat := t.e.length + 1
/-! ### Rows that are filled one by one -/
def tZ : Option Trm → List D
  | none => [.v (.slice none 0 0), D.int 0]
  | some t => tO t
theorem tZ_two (t : Option Trm) : (tZ t).length = 2 := by cases t <;> rfl
@[simp] theorem tZ_length (l : List (Option Trm)) : (rows tZ l).length = 2 * l.length := rows_length tZ_two l
theorem fill_step {α : Type} (xs : List α) (j : Nat) (h : j < xs.length) (z : α) : (xs.take j ++ List.replicate (xs.length - j) z).set j xs[j] = xs.take (j + 1) ++ List.replicate (xs.length - (j + 1)) z := by
  rw [List.set_append_right _ _ (by simp; omega), List.take_succ_eq_append_getElem h]
  simp only [List.length_take, Nat.min_eq_left (Nat.le_of_lt h), Nat.sub_self]
  rw [show xs.length - j = (xs.length - (j + 1)) + 1 by omega, List.replicate_succ, List.set_cons_zero, List.append_assoc]
  rfl
theorem tO_snoc (l : List Trm) (t : Trm) : rows tO l ++ [D.ow 1 t.e.length (ints t.e), D.v (.int .i64 t.c)] = rows tO (l ++ [t]) := by
  rw [rows_append]
  rfl
/-! ### Sizes -/
end Go.Proofs.Ytfcgcgmleogamaa.Ab
namespace Go.Proofs.Ytfcgcgmleogamaa.Ab
open Go Go.ChangeShapes Go.WideShapes Go.ChangeAt Go.RowKit
set_option linter.unusedSimpArgs false
set_option linter.unusedVariables false

/-- Old blocks are as they were. -/
structure Old (w w' : World) : Prop where
  os : w'.os = w.os
  out : w'.output = w.output
  size : w.heap.size ≤ w'.heap.size
  blk : ∀ b, b < w.heap.size → w'.heap[b]? = w.heap[b]?
theorem Old.kept {w w' : World} (h : Old w w') (may : MemPlace → Prop) : w.keptBut w' may := by
  refine ⟨h.os, h.out, fun i hi => ?_⟩
  rw [h.blk i hi]
  cases hh : w.heap[i]? with
  | none => rfl
  | some o =>
    cases o with
    | cells c t fr => exact ⟨rfl, rfl, rfl, fun _ _ => rfl⟩
    | map es cl => exact .inr ⟨rfl, rfl⟩
    | _ => rfl
theorem Old.froz {w w' : World} (h : Old w w') (a : Addr) (ha : a.block < w.heap.size) : w'.frozen? a = w.frozen? a := by
  unfold World.frozen?
  rw [h.blk a.block ha]
variable {H : Type} {enc : TypeId × Value → H} {P : Program}
/-- What is asked behind a law that answers, where what was read is as it was. -/
theorem post_of_old {f : Func} {s : ChangeSpec} {apart fresh handsOn again : Bool} {W W' : World} {args : Array Value} {v : Value} {ds gs : List (DataW H)} {before pa pv : List MemPlace}
    (hW : DataW.Whole enc P f.params.toList s.vars apart W args.toList ds gs before)
    (hres : ∀ (b : Nat) (sp : Nat → Bool) (hd : Bool), DataW.TrodAll enc P W' b sp hd f.resultTypes.toList (v.resultList f.resultTypes.size) (s.fn H (ds ++ gs)).results [])
    (hargs : ∀ sp : Nat → Bool, (∀ p ∈ before, sp p.block = true) → DataW.TrodAll enc P W' 0 sp true f.params.toList args.toList (s.fn H (ds ++ gs)).args pa)
    (hvars : ∀ sp : Nat → Bool, (∀ p ∈ before, sp p.block = true) → DataW.TrodVars enc P W' sp s.vars (s.fn H (ds ++ gs)).vars pv)
    (hps : before = pa ++ pv) (ho : Old W W')
    (hok : ∀ (j : Nat) (t : TypeId) (r : Value), f.resultTypes[j]? = some t → (v.resultList f.resultTypes.size)[j]? = some r → Value.okWide P W' .any 0 t r) :
    s.post enc P f apart fresh handsOn again W args v W' := by
  have hlt : ∀ p ∈ before, p.block < W.heap.size := fun p hp => hW.lt p hp
  have hsp : ∀ p ∈ before, (fun b => decide (b < W.heap.size)) p.block = true := fun p hp => decide_eq_true (hlt p hp)
  have hall : ∀ p ∈ before, (fun _ : Nat => true) p.block = true := fun _ _ => rfl
  have happ : [] ++ pa ++ pv = before := by rw [hps]; rfl
  refine ⟨ds, gs, before, [], pa, pv, hW, hres _ _ _, hargs _ hsp, hvars _ hsp, ho.kept _, fun _ => ⟨hok, _, _, [] ++ pa ++ pv, ⟨[] ++ pa, pv, trodAll_append (hargs _ hall) (hres _ _ _), hvars _ hall, rfl, ?_, ?_⟩, ?_⟩⟩
  · obtain ⟨_, _, _, _, _, hz, hn⟩ := hW
    intro b off hp
    rw [happ] at hp
    rw [ho.froz _ (hlt _ hp)]
    exact hz b off hp
  · obtain ⟨_, _, _, _, _, hz, hn⟩ := hW
    intro ha
    rw [happ]
    exact hn ha
  · intro p hp _
    rw [happ] at hp
    exact hp

end Go.Proofs.Ytfcgcgmleogamaa.Ab
namespace Go.Proofs.Ytfcgcgmleogamaa.Ab
open Go Go.ChangeShapes Go.WideShapes Go.ChangeAt Go.RowKit
set_option linter.unusedSimpArgs false
set_option linter.unusedVariables false
set_option linter.unusedSectionVars false

def oldOk (W : World) : Nat → Prop := fun b => b < W.heap.size
theorem old_of_cell {W : World} {a : Addr} {v : Value} (h : W.cell? a = some v) : oldOk W a.block := by
  unfold World.cell? at h
  split at h
  · rename_i hh
    unfold oldOk
    rcases Nat.lt_or_ge a.block W.heap.size with h1 | h1
    · exact h1
    · rw [Array.getElem?_eq_none (by omega)] at hh; simp at hh
  · simp at h
theorem ShV_ShL {w : World} {ok : Nat → Prop} {b : Nat} : ∀ {ds : List D} {us : List Value} {o : Nat}, ShV w ok ds us → (∀ (j : Nat) (v : Value), us[j]? = some v → w.cell? ⟨b, o + j, none⟩ = some v) → ShL w ok b ds o
  | [], us, o, h, _ => by simp [ShL]
  | d :: ds, us, o, h, hc => by
    simp only [ShV] at h
    obtain ⟨u, us', rfl, h1, h2⟩ := h
    simp only [ShL]
    refine ⟨⟨u, by simpa using hc 0 u rfl, h1⟩, ShV_ShL h2 fun j v hj => ?_⟩
    have := hc (j + 1) v (by simpa using hj)
    rwa [show o + 1 + j = o + (j + 1) by omega]
theorem ShL_cat {w : World} {ok : Nat → Prop} {b : Nat} : ∀ {ds es : List D} {o : Nat}, ShL w ok b ds o → ShL w ok b es (o + ds.length) → ShL w ok b (ds ++ es) o
  | [], es, o, _, k => by simpa using k
  | d :: ds, es, o, h, k => by
    simp only [ShL] at h
    simp only [List.cons_append, ShL]
    refine ⟨h.1, ShL_cat h.2 ?_⟩
    simp only [List.length_cons] at k
    rwa [show o + 1 + ds.length = o + (ds.length + 1) by omega]
theorem rows_ShL {w : World} {ok : Nat → Prop} {b k : Nat} {α : Type} {f : α → List D} (hk : ∀ x, (f x).length = k) : ∀ (l : List α) (o : Nat), (∀ i (h : i < l.length), ShL w ok b (f l[i]) (o + i * k)) → ShL w ok b (rows f l) o
  | [], o, _ => by simp [rows, ShL]
  | x :: l, o, h => by
    simp only [rows]
    refine ShL_cat (by have := h 0 (by simp); simp only [List.getElem_cons_zero, Nat.zero_mul, Nat.add_zero] at this; exact this) ?_
    rw [hk]
    refine rows_ShL hk l (o + k) fun i hi => ?_
    have := h (i + 1) (by simpa using hi)
    simp only [List.getElem_cons_succ] at this
    rwa [show o + k + i * k = o + (i + 1) * k by rw [Nat.add_mul, Nat.one_mul]; omega]

section
variable {H : Type} {enc : TypeId × Value → H} {P : Program} {W : World}
/-- Whatever reads at type t (as many bytes as there may be) is what f says of some a that is in bounds. -/
structure Opens (enc : TypeId × Value → H) (P : Program) (W : World) (t k : Nat) (α : Type) (f : α → List D) (G : α → Prop) : Prop where
  cells : P.cellsOf t = k
  len : ∀ a, (f a).length = k
  op : ∀ (fuel : Nat) (cs : List Value) (x : DataW H × List MemPlace), DataW.trod enc P W 0 (fun _ => true) true fuel t cs = some x → (∀ n ∈ x.1.weights P t, n ≤ reachBytes) → ∃ a : α, G a ∧ ShV W (oldOk W) (f a) cs
theorem Opens.to {t k : Nat} {α β : Type} {f : α → List D} {G : α → Prop} (h : Opens enc P W t k α f G) (g : α → β) {f' : β → List D} {G' : β → Prop} (hf : ∀ a, f' (g a) = f a) (hl : ∀ b, (f' b).length = k) (hG : ∀ a, G a → G' (g a)) : Opens enc P W t k β f' G' :=
  ⟨h.cells, hl, fun fuel cs x hx hw => by
    obtain ⟨a, h1, h2⟩ := h.op fuel cs x hx hw
    exact ⟨g a, hG a h1, by rw [hf]; exact h2⟩⟩
theorem Opens.byte {t : Nat} (ht : P.underlying t = some (.int .u8)) (hc : P.cellsOf t = 1) : Opens enc P W t 1 Int (fun n => [.v (.int .u8 n)]) (fun n => 0 ≤ n ∧ n ≤ 255) :=
  ⟨hc, fun _ => rfl, fun fuel cs x hx _ => by
    obtain ⟨n, rfl, rfl, hw⟩ := DataW.trod_int ht hx
    exact ⟨n, bounds_u8 hw, by simp [ShV, Sh]⟩⟩
theorem mem_weightsAll {e : Nat} : ∀ {l : List (DataW H)} {d : DataW H}, d ∈ l → ∀ n ∈ d.weights P e, n ∈ DataW.weightsAll P e l
  | x :: l, d, hd, n, hn => by
    simp only [DataW.weightsAll, List.mem_append]
    rcases List.mem_cons.1 hd with rfl | hd
    · exact .inl hn
    · exact .inr (mem_weightsAll hd n hn)
theorem cells_get {a : Addr} {k : Nat} {cs : List Value} (h : W.cells? 0 a k = some cs) : cs.length = k ∧ ∀ (j : Nat) (v : Value), cs[j]? = some v → W.cell? (a.add j) = some v := by
  unfold World.cells? at h
  rw [if_pos (Nat.zero_le _)] at h
  have hl := mapM_some_length h
  simp only [List.length_range] at hl
  refine ⟨hl, fun j v hj => ?_⟩
  have hj2 : j < k := by
    rw [← hl]
    rcases Nat.lt_or_ge j cs.length with h1 | h1
    · exact h1
    · rw [List.getElem?_eq_none h1] at hj; simp at hj
  have := mapM_some_get h j j (by simp [hj2])
  rw [this, hj]
theorem Opens.slice {t e k bs : Nat} {α : Type} {f : α → List D} {G : α → Prop} (h : Opens enc P W e k α f G) (hk0 : 0 < k) (ht : P.underlying t = some (.slice e)) (hc : P.cellsOf t = 1) (hb : P.bytesOf e = bs) :
    Opens enc P W t 1 (List α) (fun l => [.sh k l.length (rows f l)]) (fun l => (∀ x ∈ l, G x) ∧ l.length * bs ≤ 140737488351232) :=
  ⟨hc, fun _ => rfl, fun fuel cs x hx hw => by
    rcases DataW.trod_slice ht hx with ⟨rfl, rfl⟩ | ⟨a, len, cap, elems, rest, n, rfl, rfl, rfl, hb0, hlc, hcm, hel, hget, _, _⟩
    · exact ⟨[], by simp, by simp [ShV, Sh, rows]⟩
    · have hwt : (elems.length + rest.length) * bs ≤ 140737488351232 := by
        have := hw ((elems.length + rest.length) * bs) (by simp [DataW.weights, ht, hb])
        simpa [reachBytes] using this
      have hwe : ∀ y ∈ elems, ∀ n ∈ y.1.weights P e, n ≤ reachBytes := fun y hy n hn => by
        refine hw n ?_
        simp only [DataW.weights, ht, List.mem_cons, List.mem_append]
        exact .inr (.inl (mem_weightsAll (List.mem_map.2 ⟨y, hy, rfl⟩) n hn))
      have key : ∀ i : Fin len, ∃ y : α, G y ∧ ∃ cs, W.cells? 0 (a.add (i.1 * k)) k = some cs ∧ ShV W (oldOk W) (f y) cs := fun i => by
        have h1 := hget i.1 i.2
        rw [h.cells] at h1
        have h2 : i.1 < elems.length := by rw [hel]; exact i.2
        rw [List.getElem?_eq_getElem h2, Option.bind_eq_some_iff] at h1
        obtain ⟨cs, h3, h4⟩ := h1
        obtain ⟨y, h5, h6⟩ := h.op n cs _ h4 (hwe _ (List.getElem_mem h2))
        exact ⟨y, h5, cs, h3, h6⟩
      let l : List α := List.ofFn fun i : Fin len => Classical.choose (key i)
      have hll : l.length = len := by simp [l]
      have hlg : ∀ i (hi : i < l.length), G l[i] ∧ ∃ cs, W.cells? 0 (a.add (i * k)) k = some cs ∧ ShV W (oldOk W) (f l[i]) cs := fun i hi => by
        have := Classical.choose_spec (key ⟨i, by omega⟩)
        simpa [l] using this
      refine ⟨l, ⟨fun x hx => ?_, ?_⟩, ?_⟩
      · obtain ⟨i, hi, rfl⟩ := List.getElem_of_mem hx
        exact (hlg i hi).1
      · rw [hll]
        rw [hel] at hwt
        exact Nat.le_trans (Nat.mul_le_mul_right _ (by omega)) hwt
      · simp only [ShV, Sh]
        refine ⟨_, [], rfl, ⟨some a, cap, by rw [hll], by omega, rows_length h.len l, ?_⟩, rfl⟩
        rcases Nat.eq_zero_or_pos l.length with hz | hp
        · left
          rw [List.eq_nil_of_length_eq_zero hz]
          rfl
        · right
          obtain ⟨_, cs0, hc0, _⟩ := hlg 0 hp
          obtain ⟨hl0, hg0⟩ := cells_get hc0
          have h00 : cs0[0]? = some (cs0[0]'(by omega)) := List.getElem?_eq_getElem _
          have hfirst := hg0 0 _ h00
          have hspot : a.spot = none := by
            have := World.cell?_spot hfirst
            simpa [Addr.add] using this
          have hold := old_of_cell hfirst
          obtain ⟨b, off, spot⟩ := a
          simp only at hspot
          subst hspot
          refine ⟨b, off, rfl, by simpa [Addr.add] using hold, rows_ShL h.len l off fun i hi => ?_⟩
          obtain ⟨_, csi, hci, hsi⟩ := hlg i hi
          refine ShV_ShL hsi fun j v hj => ?_
          have := (cells_get hci).2 j v hj
          rwa [Go.WideShapes.add_plain, Go.WideShapes.add_plain] at this⟩
/-! ### Arguments -/
/-- An argument of type t reads as the frame's value F a. -/
structure Arg (enc : TypeId × Value → H) (P : Program) (W : World) (t : Nat) (α : Type) (F : α → FV) (G : α → Prop) : Prop where
  rec_ : P.readableRec t = true
  row : t < P.types.size
  op : ∀ (base : Nat) (v : Value) (d : DataW H) (p : List MemPlace), Value.okWide P W .any base t v → DataW.Trod enc P W 0 (fun _ => true) true t v d p → (∀ n ∈ d.weights P t, n ≤ reachBytes) → ∃ a : α, G a ∧ ∀ (σ : St) (ρ : Rn → Value), FR W (oldOk W) σ ρ (F a) v
def plainT (P : Program) (t : TypeId) : Bool :=
  match P.underlying t with
  | some (.int _) => true
  | some .bool => true
  | some .string => true
  | some (.slice _) => true
  | _ => false
theorem plain_cells {t : TypeId} {base : Nat} {v : Value} (h : plainT P t = true) (hv : Value.okWide P W .any base t v) : v.cells = #[v] := by
  unfold plainT at h
  unfold Value.okWide Cell.okWide Cell.ok at hv
  cases v <;> first | rfl | (split at h <;> simp_all)
theorem Arg.one {t : Nat} {α : Type} {f : α → D} {G : α → Prop} (h : Opens enc P W t 1 α (fun a => [f a]) G) (hr : P.readableRec t = true) (hrow : t < P.types.size) (hp : plainT P t = true) : Arg enc P W t α (fun a => .d (f a)) G :=
  ⟨hr, hrow, fun base' v d p ho hd hw => by
    obtain ⟨fuel, hx⟩ := hd
    obtain ⟨a, h1, h2⟩ := h.op fuel _ _ hx hw
    refine ⟨a, h1, fun σ ρ => ?_⟩
    rw [plain_cells hp ho] at h2
    simp only [ShV, List.cons.injEq] at h2
    obtain ⟨u, us, ⟨rfl, rfl⟩, h3, _⟩ := h2
    simpa only [FR] using h3⟩
/-! ### From a law's contract to its row -/
theorem lawW {f : Nat} {args : List FV} (h : ACalls P f args [] true (fun outs res => outs = [] ∧ res = [.one (D.bool true)])) {vs : List Value} (hv : ∀ (σ : St) (ρ : Rn → Value), FRL W (oldOk W) σ ρ args vs) :
    Calls P f vs.toArray W fun e w' => e = .returned (.bool true) ∧ Below W.heap.size W w' := by
  have hlen : ∀ {σ : St} {ρ : Rn → Value} {aas : List FV} {us : List Value}, FRL W (oldOk W) σ ρ aas us → us.length = aas.length ∧ ∀ t, FR W (oldOk W) σ ρ (argEnv aas t) (us.getD t undef) := by
    intro σ ρ aas
    induction aas with
    | nil =>
      intro us h
      simp only [FRL] at h
      subst h
      exact ⟨rfl, fun t => by simp [argEnv, FR]⟩
    | cons a aas ih =>
      intro us h
      simp only [FRL] at h
      obtain ⟨u, vs, rfl, h1, h2⟩ := h
      obtain ⟨h3, h4⟩ := ih h2
      refine ⟨by simp [h3], fun t => ?_⟩
      cases t with
      | zero => simpa [argEnv] using h1
      | succ t => simpa [argEnv] using h4 t
  have := h.2 W [] (oldOk W) vs (fun _ => undef) (fun _ => []) (hlen (hv ⟨fun _ => .dead, fun _ => none⟩ (fun _ => undef))).1 ⟨fun r d hd => by simp [ofR] at hd, fun r r' d d' _ hd => by simp [ofR] at hd, (hlen (hv _ _)).2, fun b hb => hb, Keeps.refl W []⟩
  refine Calls.mono this ?_
  rintro e w' ⟨v, outs, res, ok', φ', fr, rfl, ⟨rfl, rfl⟩, hd⟩
  obtain ⟨vs, e1, e2⟩ := hd.res
  simp only [OwRs, OwRV, if_true] at e2
  obtain ⟨u, us, f1, f2, rfl, _, h1, h2, _⟩ := e2
  subst h2
  simp only [Ow] at h1
  refine ⟨?_, hd.frm.os, hd.frm.tape, hd.frm.out, hd.frm.size, fun b hb => hd.frm.old b hb (by simp)⟩
  rw [e1, h1.2]
  rfl
theorem trodAll_stays (hl : laidOutB P = true) {W' : World} (hb : Below W.heap.size W W') {sp : Nat → Bool} : ∀ {ts : List TypeId} {vs : List Value} {ds : List (DataW H)} {p : List MemPlace}, (∀ t ∈ ts, P.readableRec t = true ∧ t < P.types.size) →
    DataW.TrodAll enc P W 0 (fun _ => true) true ts vs ds p → (∀ x ∈ p, x.block < W.heap.size) → (∀ x ∈ p, sp x.block = true) → DataW.TrodAll enc P W' 0 sp true ts vs ds p
  | [], [], [], p, _, h, _, _ => h
  | t :: ts, v :: vs, d :: ds, p, ht, h, h1, h2 => by
    obtain ⟨p1, p2, h3, h4, rfl⟩ := h
    have h5 := ht t (by simp)
    refine ⟨p1, p2, WideElems.Trod_stays hl h5.1 h5.2 h3 (fun x hx => hb.same (h1 x (by simp [hx]))) (fun x hx => h2 x (by simp [hx])), trodAll_stays hl hb (fun t ht' => ht t (by simp [ht'])) h4 (fun x hx => h1 x (by simp [hx])) (fun x hx => h2 x (by simp [hx])), rfl⟩
  | [], _ :: _, _, _, _, h, _, _ => h.elim
  | [], [], _ :: _, _, _, h, _, _ => h.elim
  | _ :: _, [], _, _, _, h, _, _ => h.elim
  | _ :: _, _ :: _, [], _, _, h, _, _ => h.elim
/-- **What is asked behind a law that answers true and writes nothing that was there.** -/
theorem post_of_below (hl : laidOutB P = true) {f : Func} {s : ChangeSpec} {apart fresh handsOn again : Bool} {W' : World} {args : Array Value} {ds gs : List (DataW H)} {before : List MemPlace}
    (hW : DataW.Whole enc P f.params.toList s.vars apart W args.toList ds gs before) (hv0 : s.vars = []) (hts : ∀ t ∈ f.params.toList, P.readableRec t = true ∧ t < P.types.size)
    (hfn : s.fn H ds = { results := [.lit (.bool true)], args := ds }) {tb : TypeId} (hres : f.resultTypes = #[tb]) (htb : P.underlying tb = some .bool) (hb : Below W.heap.size W W') (hok : ∀ W' : World, Value.okWide P W' .any 0 tb (.bool true)) :
    s.post enc P f apart fresh handsOn again W args (.bool true) W' := by
  have hlt : ∀ p ∈ before, p.block < W.heap.size := fun p hp => hW.lt p hp
  have hW0 := hW
  obtain ⟨p, q, hA, hV, rfl, hz, hn⟩ := hW
  rw [hv0] at hV
  obtain ⟨rfl, rfl⟩ := trodVars_none hV
  simp only [List.append_nil] at hlt hz hn
  have hfn2 : s.fn H (ds ++ []) = { results := [.lit (.bool true)], args := ds } := by rw [List.append_nil]; exact hfn
  have hvar : ∀ sp : Nat → Bool, DataW.TrodVars enc P W' sp s.vars [] [] := fun sp => by rw [hv0]; rfl
  have hr : ∀ (b : Nat) (sp : Nat → Bool) (hd : Bool), DataW.TrodAll enc P W' b sp hd f.resultTypes.toList ((Value.bool true).resultList f.resultTypes.size) [.lit (.bool true)] [] := fun b sp hd => by
    rw [hres]
    exact trodAll_cons_mk (p := []) (p' := []) (shut_bool htb _) trodAll_mk0
  have ha : ∀ sp : Nat → Bool, (∀ x ∈ p, sp x.block = true) → DataW.TrodAll enc P W' 0 sp true f.params.toList args.toList ds p := fun sp hs => trodAll_stays hl hb hts hA hlt hs
  exact post_of_old (pa := p) (pv := []) hW0 (fun b sp hd => by rw [hfn2]; exact hr b sp hd) (fun sp hs => by rw [hfn2]; exact ha sp fun x hx => hs x (by simp [hx])) (fun sp _ => by rw [hfn2]; exact hvar sp) rfl ⟨hb.os, hb.output, hb.size, hb.block⟩ (ok_one hres rfl (hok W'))
end
end Go.Proofs.Ytfcgcgmleogamaa.Ab
namespace Go.Proofs.Ytfcgcgmleogamaa.Ab
open Go Go.ChangeShapes Go.WideShapes Go.ChangeAt Go.RowKit
set_option linter.unusedSimpArgs false
set_option linter.unusedVariables false
set_option maxRecDepth 100000
section
variable {H : Type} {enc : TypeId × Value → H} {W : World}
theorem laidOut : laidOutB Try.prog = true := by kernel_rfl
theorem okBool (W' : World) : Value.okWide Try.prog W' .any 0 4 (.bool true) := okWide_bool_mk Try.underlying4 _
end
end Go.Proofs.Ytfcgcgmleogamaa.Ab
namespace Go.Proofs.Ytfcgcgmleogamaa.Ab
open Go
set_option linter.unusedSimpArgs false
set_option linter.unusedVariables false
set_option linter.unusedSectionVars false

section
variable {K : Type} [DecidableEq K]

/-- What belongs to a key. -/
def co (k : K) : List (K × Int) → Int
  | [] => 0
  | x :: l => (if x.1 = k then x.2 else 0) + co k l
theorem co_append (k : K) : ∀ (l r : List (K × Int)), co k (l ++ r) = co k l + co k r
  | [], r => by simp [co]
  | x :: l, r => by simp [co, co_append k l r, Int.add_assoc]
theorem co_none (k : K) : ∀ (l : List (K × Int)), (∀ x ∈ l, x.1 ≠ k) → co k l = 0
  | [], _ => rfl
  | x :: l, h => by
    simp only [co]
    rw [if_neg (h x (by simp)), co_none k l fun y hy => h y (by simp [hy])]
    rfl
theorem co_perm (k : K) {l r : List (K × Int)} (h : l.Perm r) : co k l = co k r := by
  induction h with
  | nil => rfl
  | cons x _ ih => simp [co, ih]
  | swap x y l => simp only [co]; omega
  | trans _ _ ih1 ih2 => rw [ih1, ih2]
theorem co_mem {k : K} : ∀ {l : List (K × Int)}, co k l ≠ 0 → ∃ x ∈ l, x.1 = k
  | [], h => absurd rfl h
  | x :: l, h => by
    simp only [co] at h
    by_cases e : x.1 = k
    · exact ⟨x, by simp, e⟩
    · rw [if_neg e] at h
      obtain ⟨y, hy, e2⟩ := co_mem (k := k) (l := l) (by omega)
      exact ⟨y, by simp [hy], e2⟩

/-- A strict order. -/
structure Ord (lt : K → K → Bool) : Prop where
  irr : ∀ a, lt a a = false
  tr : ∀ a b c, lt a b = true → lt b c = true → lt a c = true
  tot : ∀ a b, lt a b = true ∨ a = b ∨ lt b a = true

variable {lt : K → K → Bool}
def Desc (lt : K → K → Bool) (l : List (K × Int)) : Prop := l.Pairwise fun a b => lt b.1 a.1 = true
def Nz (l : List (K × Int)) : Prop := ∀ x ∈ l, x.2 ≠ 0

theorem desc_tail_ne (ho : Ord lt) {x : K × Int} {l : List (K × Int)} (h : Desc lt (x :: l)) : ∀ y ∈ l, y.1 ≠ x.1 := by
  intro y hy e
  have := (List.pairwise_cons.1 h).1 y hy
  rw [e, ho.irr] at this
  simp at this
theorem desc_above (ho : Ord lt) {x : K × Int} {l : List (K × Int)} (h : Desc lt (x :: l)) {k : K} (hk : lt x.1 k = true) : ∀ y ∈ x :: l, y.1 ≠ k := by
  intro y hy e
  rcases List.mem_cons.1 hy with rfl | hy
  · rw [e, ho.irr] at hk
    simp at hk
  · have := ho.tr _ _ _ ((List.pairwise_cons.1 h).1 y hy) hk
    rw [e, ho.irr] at this
    simp at this

/-- **Descending sums are told by what belongs to each key.** -/
theorem desc_unique (ho : Ord lt) : ∀ (l r : List (K × Int)), Desc lt l → Desc lt r → Nz l → Nz r → (∀ k, co k l = co k r) → l = r
  | [], [], _, _, _, _, _ => rfl
  | [], y :: r, _, h2, _, z2, h => by
    have := h y.1
    simp only [co, if_true] at this
    rw [co_none y.1 r (desc_tail_ne ho h2)] at this
    exact absurd (by omega) (z2 y (by simp))
  | x :: l, [], h1, _, z1, _, h => by
    have := h x.1
    simp only [co, if_true] at this
    rw [co_none x.1 l (desc_tail_ne ho h1)] at this
    exact absurd (by omega) (z1 x (by simp))
  | x :: l, y :: r, h1, h2, z1, z2, h => by
    rcases ho.tot x.1 y.1 with e | e | e
    · have := h y.1
      rw [co_none y.1 _ (desc_above ho h1 e)] at this
      simp only [co, if_true] at this
      rw [co_none y.1 r (desc_tail_ne ho h2)] at this
      exact absurd (by omega) (z2 y (by simp))
    · have e2 : x.2 = y.2 := by
        have := h x.1
        simp only [co, if_true] at this
        rw [if_pos e.symm, co_none x.1 l (desc_tail_ne ho h1), e, co_none y.1 r (desc_tail_ne ho h2)] at this
        omega
      have exy : x = y := Prod.ext e e2
      subst exy
      congr 1
      refine desc_unique ho l r (List.pairwise_cons.1 h1).2 (List.pairwise_cons.1 h2).2 (fun z hz => z1 z (by simp [hz])) (fun z hz => z2 z (by simp [hz])) fun k => ?_
      have := h k
      simp only [co] at this
      omega
    · have := h x.1
      rw [co_none x.1 (y :: r) (desc_above ho h2 e)] at this
      simp only [co, if_true] at this
      rw [co_none x.1 l (desc_tail_ne ho h1)] at this
      exact absurd (by omega) (z1 x (by simp))

/-! ### The descending list of a sum -/
def insK (lt : K → K → Bool) (k : K) (c : Int) : List (K × Int) → List (K × Int)
  | [] => if c = 0 then [] else [(k, c)]
  | x :: l => if x.1 = k then (if x.2 + c = 0 then l else (k, x.2 + c) :: l) else if lt x.1 k then (if c = 0 then x :: l else (k, c) :: x :: l) else x :: insK lt k c l
def nf (lt : K → K → Bool) : List (K × Int) → List (K × Int)
  | [] => []
  | x :: l => insK lt x.1 x.2 (nf lt l)

theorem insK_mem {k : K} {c : Int} : ∀ {l : List (K × Int)} {y : K × Int}, y ∈ insK lt k c l → y.1 = k ∨ y ∈ l
  | [], y, h => by
    simp only [insK] at h
    split at h
    · simp at h
    · simp only [List.mem_singleton] at h
      subst h
      exact .inl rfl
  | x :: l, y, h => by
    simp only [insK] at h
    split at h
    · split at h
      · exact .inr (by simp [h])
      · rcases List.mem_cons.1 h with rfl | h
        · exact .inl rfl
        · exact .inr (by simp [h])
    · split at h
      · split at h
        · exact .inr h
        · rcases List.mem_cons.1 h with rfl | h
          · exact .inl rfl
          · exact .inr h
      · rcases List.mem_cons.1 h with rfl | h
        · exact .inr (by simp)
        · rcases insK_mem h with h | h
          · exact .inl h
          · exact .inr (by simp [h])
theorem insK_desc (ho : Ord lt) (k : K) (c : Int) : ∀ (l : List (K × Int)), Desc lt l → Desc lt (insK lt k c l)
  | [], _ => by
    simp only [insK]
    split
    · exact List.Pairwise.nil
    · exact List.pairwise_singleton _ _
  | x :: l, h => by
    have h1 := List.pairwise_cons.1 h
    simp only [insK]
    split
    · rename_i e
      split
      · exact h1.2
      · exact List.pairwise_cons.2 ⟨fun y hy => by rw [← e]; exact h1.1 y hy, h1.2⟩
    · rename_i e
      split
      · rename_i e2
        split
        · exact h
        · refine List.pairwise_cons.2 ⟨fun y hy => ?_, h⟩
          rcases List.mem_cons.1 hy with rfl | hy
          · exact e2
          · exact ho.tr _ _ _ (h1.1 y hy) e2
      · rename_i e2
        refine List.pairwise_cons.2 ⟨fun y hy => ?_, insK_desc ho k c l h1.2⟩
        rcases insK_mem hy with hy | hy
        · rw [hy]
          rcases ho.tot k x.1 with q | q | q
          · exact q
          · exact absurd q.symm e
          · exact absurd q e2
        · exact h1.1 y hy
theorem insK_nz (k : K) (c : Int) : ∀ (l : List (K × Int)), Nz l → Nz (insK lt k c l)
  | [], _ => by
    simp only [insK]
    split
    · intro y hy; simp at hy
    · rename_i hc
      intro y hy
      simp only [List.mem_singleton] at hy
      subst hy
      exact hc
  | x :: l, h => by
    have h1 : Nz l := fun z hz => h z (by simp [hz])
    simp only [insK]
    split
    · split
      · exact h1
      · rename_i hc
        intro y hy
        rcases List.mem_cons.1 hy with rfl | hy
        · exact hc
        · exact h1 y hy
    · split
      · split
        · exact h
        · rename_i hc
          intro y hy
          rcases List.mem_cons.1 hy with rfl | hy
          · exact hc
          · exact h y hy
      · intro y hy
        rcases List.mem_cons.1 hy with rfl | hy
        · exact h y (by simp)
        · exact insK_nz k c l h1 y hy
theorem insK_co (k : K) (c : Int) (q : K) : ∀ (l : List (K × Int)), co q (insK lt k c l) = (if k = q then c else 0) + co q l
  | [] => by
    simp only [insK]
    split
    · rename_i e
      subst e
      simp [co]
    · simp [co]
  | x :: l => by
    simp only [insK]
    split
    · rename_i e
      split
      · rename_i e2
        simp only [co, e]
        split <;> omega
      · simp only [co, e]
        split <;> omega
    · split
      · split
        · rename_i e
          subst e
          simp
        · simp only [co]
      · simp only [co, insK_co k c q l]
        omega
theorem nf_desc (ho : Ord lt) : ∀ (l : List (K × Int)), Desc lt (nf lt l)
  | [] => List.Pairwise.nil
  | x :: l => insK_desc ho _ _ _ (nf_desc ho l)
theorem nf_nz : ∀ (l : List (K × Int)), Nz (nf lt l)
  | [] => by intro y hy; simp [nf] at hy
  | x :: l => insK_nz _ _ _ (nf_nz l)
theorem nf_co (q : K) : ∀ (l : List (K × Int)), co q (nf lt l) = co q l
  | [] => rfl
  | x :: l => by
    simp only [nf, insK_co, nf_co q l, co]
theorem nf_mem : ∀ {l : List (K × Int)} {y : K × Int}, y ∈ nf lt l → ∃ x ∈ l, x.1 = y.1
  | [], y, h => by simp [nf] at h
  | x :: l, y, h => by
    rcases insK_mem h with h | h
    · exact ⟨x, by simp, h.symm⟩
    · obtain ⟨z, hz, e⟩ := nf_mem h
      exact ⟨z, by simp [hz], e⟩
/-- **The descending list with these sums is the normal form.** -/
theorem nf_unique (ho : Ord lt) {t l : List (K × Int)} (h1 : Desc lt t) (h2 : Nz t) (h3 : ∀ k, co k t = co k l) : t = nf lt l :=
  desc_unique ho t (nf lt l) h1 (nf_desc ho l) h2 (nf_nz l) fun k => by rw [h3 k, nf_co]
end

/-! ### Lists of numbers in the order of words -/
def lexlt : List Int → List Int → Bool
  | [], [] => false
  | [], _ :: _ => true
  | _ :: _, [] => false
  | a :: x, b :: y => if a = b then lexlt x y else decide (a < b)
theorem lexlt_irr : ∀ a, lexlt a a = false
  | [] => rfl
  | a :: x => by simp [lexlt, lexlt_irr x]
theorem lexlt_tr : ∀ a b c, lexlt a b = true → lexlt b c = true → lexlt a c = true
  | [], [], _, h, _ => by simp [lexlt] at h
  | [], _ :: _, [], _, h => by simp [lexlt] at h
  | [], _ :: _, _ :: _, _, _ => rfl
  | _ :: _, [], _, h, _ => by simp [lexlt] at h
  | _ :: _, _ :: _, [], _, h => by simp [lexlt] at h
  | a :: x, b :: y, c :: z, h1, h2 => by
    simp only [lexlt] at h1 h2 ⊢
    by_cases e1 : a = b
    · subst e1
      rw [if_pos rfl] at h1
      by_cases e2 : a = c
      · subst e2
        rw [if_pos rfl] at h2 ⊢
        exact lexlt_tr x y z h1 h2
      · rw [if_neg e2] at h2 ⊢
        exact h2
    · rw [if_neg e1] at h1
      by_cases e2 : b = c
      · subst e2
        rw [if_neg e1]
        exact h1
      · rw [if_neg e2] at h2
        simp only [decide_eq_true_eq] at h1 h2
        rw [if_neg (by omega)]
        simp only [decide_eq_true_eq]
        omega
theorem lexlt_tot : ∀ a b, lexlt a b = true ∨ a = b ∨ lexlt b a = true
  | [], [] => .inr (.inl rfl)
  | [], _ :: _ => .inl rfl
  | _ :: _, [] => .inr (.inr rfl)
  | a :: x, b :: y => by
    simp only [lexlt]
    by_cases e : a = b
    · subst e
      simp only [if_true]
      rcases lexlt_tot x y with h | h | h
      · exact .inl h
      · exact .inr (.inl (by rw [h]))
      · exact .inr (.inr h)
    · rw [if_neg e, if_neg (Ne.symm e)]
      simp only [decide_eq_true_eq]
      omega
theorem lexOrd : Ord lexlt := ⟨lexlt_irr, lexlt_tr, lexlt_tot⟩
/-- The order of quantum terms: exponents first, then the power. -/
def qlt (a b : List Int × Int) : Bool := if a.1 = b.1 then decide (a.2 < b.2) else lexlt a.1 b.1
end Go.Proofs.Ytfcgcgmleogamaa.Ab
namespace Go.Proofs.Ytfcgcgmleogamaa.Ab
open Go
set_option linter.unusedSimpArgs false
set_option linter.unusedVariables false
set_option linter.unusedSectionVars false

section
variable {K : Type} [DecidableEq K]
structure Act (lt : K → K → Bool) (mul dv : K → K → K) (D : K → Prop) : Prop where
  mul_dv : ∀ a b, D a → D b → mul (dv a b) b = a
  dv_lt : ∀ x y b, D x → D y → D b → lt x y = true → lt (dv x b) (dv y b) = true
  mul_lt : ∀ e x y, D e → D x → D y → lt x y = true → lt (mul e x) (mul e y) = true
  dmul : ∀ a b, D a → D b → D (mul a b)
  ddv : ∀ a b, D a → D b → D (dv a b)
/-- A term times a sum. -/
def mulT (mul : K → K → K) (e : K) (q : Int) (g : List (K × Int)) : List (K × Int) := g.map fun y => (mul e y.1, q * y.2)
def prodK (mul : K → K → K) (a g : List (K × Int)) : List (K × Int) := a.flatMap fun x => mulT mul x.1 x.2 g
def divGo (lt : K → K → Bool) (mul dv : K → K → K) (chk : K → Int → Bool) (g : List (K × Int)) (b : K) (d : Int) : Nat → List (K × Int) → Option (List (K × Int))
  | _, [] => some []
  | 0, _ :: _ => none
  | k + 1, x :: R => if x.2.tmod d = 0 ∧ chk (dv x.1 b) (x.2.tdiv d) = true then
      (divGo lt mul dv chk g b d k (nf lt (x :: R ++ mulT mul (dv x.1 b) (-(x.2.tdiv d)) g))).map ((dv x.1 b, x.2.tdiv d) :: ·) else none

variable {lt : K → K → Bool} {mul dv : K → K → K} {D : K → Prop} {chk chk' : K → Int → Bool} {g : List (K × Int)} {b : K} {d : Int}
theorem co_mulT_neg (mul : K → K → K) (k e : K) (q : Int) : ∀ g : List (K × Int), co k (mulT mul e (-q) g) = -co k (mulT mul e q g)
  | [] => rfl
  | y :: g => by
    simp only [mulT, List.map_cons, co]
    have := co_mulT_neg mul k e q g
    simp only [mulT] at this
    rw [this]
    split
    · rw [Int.neg_mul]; omega
    · omega
/-- What is found, times the divisor, is what was divided. -/
theorem divGo_exact : ∀ (k : Nat) (R O : List (K × Int)), divGo lt mul dv chk g b d k R = some O → ∀ q, co q R = co q (prodK mul O g)
  | k, [], O, h, q => by
    cases k <;> simp [divGo] at h <;> subst h <;> rfl
  | 0, x :: R, O, h, _ => by simp [divGo] at h
  | k + 1, x :: R, O, h, q => by
    simp only [divGo] at h
    split at h
    · obtain ⟨O', h2, h3⟩ := Option.map_eq_some_iff.1 h
      subst h3
      have h4 := divGo_exact k _ O' h2 q
      rw [nf_co, co_append, co_mulT_neg] at h4
      simp only [prodK, List.flatMap_cons, co_append]
      simp only [prodK] at h4
      omega
    · simp at h
theorem tmod_tdiv {a d : Int} (h : a.tmod d = 0) : a.tdiv d * d = a := by
  have := Int.mul_tdiv_add_tmod a d
  rw [h, Int.mul_comm] at this
  omega
/-- Behind a step all keys are less. -/
theorem step_less (ho : Ord lt) (ha : Act lt mul dv D) {x : K × Int} {R : List (K × Int)} {G : List (K × Int)} (hR : Desc lt (x :: R)) (hRD : ∀ y ∈ x :: R, D y.1) (hg : Desc lt ((b, d) :: G)) (hgD : ∀ y ∈ (b, d) :: G, D y.1) (hm : x.2.tmod d = 0) :
    (∀ y ∈ nf lt (x :: R ++ mulT mul (dv x.1 b) (-(x.2.tdiv d)) ((b, d) :: G)), lt y.1 x.1 = true ∧ D y.1) := by
  intro y hy
  have hb := hgD (b, d) (by simp)
  have hx := hRD x (by simp)
  have hdv := ha.ddv x.1 b hx hb
  have key : D y.1 ∧ (y.1 = x.1 ∨ lt y.1 x.1 = true) := by
    obtain ⟨z, hz, e⟩ := nf_mem hy
    rw [← e]
    rcases List.mem_append.1 hz with hz | hz
    · refine ⟨hRD z hz, ?_⟩
      rcases List.mem_cons.1 hz with rfl | hz
      · exact .inl rfl
      · exact .inr (List.rel_of_pairwise_cons hR hz)
    · obtain ⟨u, hu, rfl⟩ := List.mem_map.1 hz
      refine ⟨ha.dmul _ _ hdv (hgD u hu), ?_⟩
      rcases List.mem_cons.1 hu with rfl | hu2
      · exact .inl (ha.mul_dv _ _ hx hb)
      · right
        have := ha.mul_lt (dv x.1 b) u.1 b hdv (hgD u hu) hb (List.rel_of_pairwise_cons hg hu2)
        rwa [ha.mul_dv _ _ hx hb] at this
  refine ⟨?_, key.1⟩
  rcases key.2 with e | h
  · exfalso
    have hz := nf_nz _ y hy
    have h1 : co y.1 (nf lt (x :: R ++ mulT mul (dv x.1 b) (-(x.2.tdiv d)) ((b, d) :: G))) = y.2 := by
      have hd := nf_desc ho (x :: R ++ mulT mul (dv x.1 b) (-(x.2.tdiv d)) ((b, d) :: G))
      generalize nf lt (x :: R ++ mulT mul (dv x.1 b) (-(x.2.tdiv d)) ((b, d) :: G)) = N at hy hd
      clear hz e key
      induction N with
      | nil => simp at hy
      | cons z N ih =>
        simp only [co]
        rcases List.mem_cons.1 hy with rfl | hy2
        · rw [if_pos rfl, co_none _ _ (desc_tail_ne ho hd)]
          omega
        · rw [if_neg (fun e => desc_tail_ne ho hd y hy2 e.symm), ih hy2 (List.Pairwise.of_cons hd)]
          omega
    rw [nf_co, co_append, co_mulT_neg, e] at h1
    simp only [co, if_pos, mulT, List.map_cons, ha.mul_dv _ _ hx hb] at h1
    rw [co_none _ R (desc_tail_ne ho hR), co_none x.1 _ (fun z hz => ?_), tmod_tdiv hm] at h1
    · exact hz (by omega)
    · obtain ⟨u, hu, rfl⟩ := List.mem_map.1 hz
      have h2 := ha.mul_lt (dv x.1 b) u.1 b hdv (hgD u (by simp [hu])) hb (List.rel_of_pairwise_cons hg hu)
      rw [ha.mul_dv _ _ hx hb] at h2
      intro e3
      simp only at e3
      rw [e3, ho.irr] at h2
      simp at h2
  · exact h
theorem co_single (ho : Ord lt) : ∀ {l : List (K × Int)} {x : K × Int}, Desc lt l → x ∈ l → co x.1 l = x.2
  | [], x, _, h => by simp at h
  | z :: l, x, hd, h => by
    simp only [co]
    rcases List.mem_cons.1 h with rfl | h2
    · rw [if_pos rfl, co_none _ _ (desc_tail_ne ho hd)]
      omega
    · rw [if_neg (fun e => desc_tail_ne ho hd x h2 e.symm), co_single ho (List.Pairwise.of_cons hd) h2]
      omega
/-! ### How great numbers become -/
def absK (l : List (K × Int)) : Nat := (l.map fun x => x.2.natAbs).sum
theorem absK_append (l r : List (K × Int)) : absK (l ++ r) = absK l + absK r := by simp [absK]
theorem insK_abs (k : K) (c : Int) : ∀ l : List (K × Int), absK (insK lt k c l) ≤ c.natAbs + absK l ∧ (insK lt k c l).length ≤ l.length + 1
  | [] => by
    simp only [insK]
    split <;> simp [absK]
  | x :: l => by
    have ih := insK_abs k c l
    simp only [insK]
    split
    · split
      · simp [absK]; omega
      · simp [absK]; omega
    · split
      · split
        · simp [absK]
        · simp [absK]
      · simp only [absK, List.map_cons, List.sum_cons, List.length_cons] at ih ⊢
        omega
theorem nf_abs : ∀ l : List (K × Int), absK (nf lt l) ≤ absK l ∧ (nf lt l).length ≤ l.length
  | [] => by simp [nf, absK]
  | x :: l => by
    have ih := nf_abs l
    have h := insK_abs (lt := lt) x.1 x.2 (nf lt l)
    simp only [nf]
    simp only [absK, List.map_cons, List.sum_cons, List.length_cons] at ih h ⊢
    omega
theorem mulT_abs (e : K) (q : Int) : ∀ g : List (K × Int), absK (mulT mul e q g) = q.natAbs * absK g
  | [] => rfl
  | y :: g => by
    have := mulT_abs e q g
    simp only [absK, mulT, List.map_cons, List.sum_cons, List.map_map] at this ⊢
    rw [Int.natAbs_mul, Nat.mul_add]
    omega
@[simp] theorem mulT_length (e : K) (q : Int) (g : List (K × Int)) : (mulT mul e q g).length = g.length := by simp [mulT]
end
end Go.Proofs.Ytfcgcgmleogamaa.Ab
namespace Go.Proofs.Ytfcgcgmleogamaa.Ab
open Go
set_option linter.unusedSimpArgs false
set_option linter.unusedVariables false
section
variable {K : Type} [DecidableEq K] {lt : K → K → Bool} {mul : K → K → K}
def vl (φ : K → Int) : List (K × Int) → Int
  | [] => 0
  | x :: l => x.2 * φ x.1 + vl φ l
omit [DecidableEq K] in
theorem vl_app (φ : K → Int) : ∀ l r : List (K × Int), vl φ (l ++ r) = vl φ l + vl φ r
  | [], r => by simp [vl]
  | x :: l, r => by simp only [List.cons_append, vl, vl_app φ l r]; omega
theorem vl_insK (φ : K → Int) (k : K) (c : Int) : ∀ l : List (K × Int), vl φ (insK lt k c l) = c * φ k + vl φ l
  | [] => by
    simp only [insK]
    split
    · rename_i h; simp [vl, h]
    · simp [vl]
  | x :: l => by
    simp only [insK]
    split
    · rename_i h
      subst h
      split
      · rename_i h2
        have : c = -x.2 := by omega
        subst this
        simp only [vl, Int.neg_mul]
        omega
      · simp only [vl, Int.add_mul]
        omega
    · split
      · split
        · rename_i h; simp [vl, h]
        · simp only [vl]
      · simp only [vl, vl_insK φ k c l]
        omega
theorem vl_nf (φ : K → Int) : ∀ l : List (K × Int), vl φ (nf lt l) = vl φ l
  | [] => rfl
  | x :: l => by simp only [nf, vl_insK, vl_nf φ l, vl]
theorem co_vl (k : K) : ∀ l : List (K × Int), co k l = vl (fun e => if e = k then 1 else 0) l
  | [] => rfl
  | x :: l => by
    simp only [co, vl, co_vl k l]
    split <;> simp
theorem nf_vl (ho : Ord lt) {l r : List (K × Int)} (h : ∀ φ, vl φ l = vl φ r) : nf lt l = nf lt r :=
  nf_unique ho (nf_desc ho _) (nf_nz _) fun k => by rw [nf_co, co_vl, co_vl, h]
omit [DecidableEq K] in
theorem vl_congr {φ ψ : K → Int} : ∀ {l : List (K × Int)}, (∀ x ∈ l, φ x.1 = ψ x.1) → vl φ l = vl ψ l
  | [], _ => rfl
  | x :: l, h => by
    simp only [vl, h x (by simp), vl_congr (l := l) fun y hy => h y (by simp [hy])]
omit [DecidableEq K] in
theorem vl_add (φ ψ : K → Int) : ∀ l : List (K × Int), vl (fun e => φ e + ψ e) l = vl φ l + vl ψ l
  | [] => rfl
  | x :: l => by
    simp only [vl, vl_add φ ψ l, Int.mul_add]
    omega
omit [DecidableEq K] in
theorem vl_mul (c : Int) (φ : K → Int) : ∀ l : List (K × Int), vl (fun e => c * φ e) l = c * vl φ l
  | [] => by simp [vl]
  | x :: l => by
    simp only [vl, vl_mul c φ l, Int.mul_add]
    rw [Int.mul_left_comm]
omit [DecidableEq K] in
theorem vl_zero : ∀ l : List (K × Int), vl (fun _ => 0) l = 0
  | [] => rfl
  | x :: l => by simp [vl, vl_zero l]
omit [DecidableEq K] in
theorem vl_fub {J : Type} (φ : K → J → Int) (b : List (J × Int)) : ∀ a : List (K × Int), vl (fun e => vl (fun e' => φ e e') b) a = vl (fun e' => vl (fun e => φ e e') a) b
  | [] => by
    simp only [vl]
    rw [vl_zero]
  | x :: a => by
    simp only [vl]
    rw [vl_add, vl_mul, vl_fub φ b a]
omit [DecidableEq K] in
theorem vl_map (g : K → K) (q : Int) (φ : K → Int) : ∀ l : List (K × Int), vl φ (l.map fun y => (g y.1, q * y.2)) = q * vl (fun e => φ (g e)) l
  | [] => by simp [vl]
  | x :: l => by
    simp only [List.map_cons, vl, vl_map g q φ l, Int.mul_add, Int.mul_assoc]
omit [DecidableEq K] in
theorem vl_prodK (φ : K → Int) (g : List (K × Int)) : ∀ a : List (K × Int), vl φ (prodK mul a g) = vl (fun e => vl (fun e' => φ (mul e e')) g) a
  | [] => rfl
  | x :: a => by
    have := vl_prodK φ g a
    unfold prodK at this ⊢
    simp only [List.flatMap_cons, vl_app, vl, this]
    unfold mulT
    rw [vl_map]
omit [DecidableEq K] in
theorem vl_prod_com {D : K → Prop} (hc : ∀ a b, D a → D b → mul a b = mul b a) (φ : K → Int) {a b : List (K × Int)} (ha : ∀ x ∈ a, D x.1) (hb : ∀ x ∈ b, D x.1) : vl φ (prodK mul a b) = vl φ (prodK mul b a) := by
  rw [vl_prodK, vl_prodK, vl_fub]
  exact vl_congr fun x hx => vl_congr fun y hy => by rw [hc _ _ (ha y hy) (hb x hx)]
omit [DecidableEq K] in
omit [DecidableEq K] in
end
end Go.Proofs.Ytfcgcgmleogamaa.Ab
namespace Go.Proofs.Ytfcgcgmleogamaa.Ab
open Go
set_option linter.unusedSimpArgs false
set_option linter.unusedVariables false
set_option linter.unusedSectionVars false

def keyA (k : Int) : List Int → Int
  | [] => k
  | x :: l => keyA (k * 128 + x + 64) l
def Dig (l : List Int) : Prop := ∀ x ∈ l, -64 ≤ x ∧ x ≤ 63
theorem Dig.tail {x : Int} {l : List Int} (h : Dig (x :: l)) : Dig l := fun y hy => h y (by simp [hy])
theorem Dig.head {x : Int} {l : List Int} (h : Dig (x :: l)) : -64 ≤ x ∧ x ≤ 63 := h x (by simp)
theorem keyA_lt : ∀ (a b : List Int) (p q : Int), a.length = b.length → Dig a → Dig b → p < q → keyA p a < keyA q b
  | [], [], p, q, _, _, _, h => h
  | x :: a, y :: b, p, q, hl, ha, hb, h => by
    have h1 := ha.head
    have h2 := hb.head
    exact keyA_lt a b _ _ (by simpa using hl) ha.tail hb.tail (by omega)
  | [], _ :: _, _, _, h, _, _, _ => by simp at h
  | _ :: _, [], _, _, h, _, _, _ => by simp at h
theorem keyA_lex : ∀ (a b : List Int) (p : Int), a.length = b.length → Dig a → Dig b → lexlt a b = true → keyA p a < keyA p b
  | [], [], p, _, _, _, h => by simp [lexlt] at h
  | x :: a, y :: b, p, hl, ha, hb, h => by
    simp only [lexlt] at h
    have h1 := ha.head
    have h2 := hb.head
    split at h
    · rename_i e
      subst e
      exact keyA_lex a b _ (by simpa using hl) ha.tail hb.tail h
    · simp only [decide_eq_true_eq] at h
      exact keyA_lt a b _ _ (by simpa using hl) ha.tail hb.tail (by omega)
  | [], _ :: _, _, h, _, _, _ => by simp at h
  | _ :: _, [], _, h, _, _, _ => by simp at h
theorem keyA_nonneg : ∀ (a : List Int) (p : Int), Dig a → 0 ≤ p → 0 ≤ keyA p a
  | [], p, _, h => h
  | x :: a, p, ha, h => keyA_nonneg a _ ha.tail (by have := ha.head; omega)
/-- Sums of exponents, the second ones taken k times. -/
def addE (k : Int) : List Int → List Int → List Int
  | x :: a, y :: b => (x + k * y) :: addE k a b
  | a, [] => a
  | [], _ => []
theorem addE_length (k : Int) : ∀ (a b : List Int), a.length = b.length → (addE k a b).length = a.length
  | [], [], _ => rfl
  | x :: a, y :: b, h => by simp [addE, addE_length k a b (by simpa using h)]
  | [], _ :: _, h => by simp at h
  | _ :: _, [], h => by simp at h
theorem addE_snoc (t x y : Int) : ∀ (a b : List Int), a.length = b.length → addE t (a ++ [x]) (b ++ [y]) = addE t a b ++ [x + t * y]
  | [], [], _ => rfl
  | u :: a, v :: b, h => by simp [addE, addE_snoc t x y a b (by simpa using h)]
  | [], _ :: _, h => by simp at h
  | _ :: _, [], h => by simp at h
theorem addE_get {t : Int} {aas bs : List Int} {i : Nat} (h : i < aas.length) (hl : aas.length = bs.length) : (addE t (aas.take i) (bs.take i) ++ aas.drop i)[i]? = some aas[i] := by
  have h1 : (addE t (aas.take i) (bs.take i)).length = i := by
    rw [addE_length _ _ _ (by simp; omega)]
    simp
    omega
  rw [List.getElem?_append_right (by omega), h1, Nat.sub_self, List.drop_eq_getElem_cons h]
  rfl
theorem addE_step {t : Int} {aas bs : List Int} {i : Nat} (h : i < aas.length) (hl : aas.length = bs.length) : (addE t (aas.take i) (bs.take i) ++ aas.drop i).set i (aas[i] + t * bs[i]) = addE t (aas.take (i + 1)) (bs.take (i + 1)) ++ aas.drop (i + 1) := by
  have h1 : (addE t (aas.take i) (bs.take i)).length = i := by
    rw [addE_length _ _ _ (by simp; omega)]
    simp
    omega
  rw [List.set_append_right _ _ (by omega), h1, Nat.sub_self, List.drop_eq_getElem_cons h, List.set_cons_zero, List.take_succ_eq_append_getElem h, List.take_succ_eq_append_getElem (show i < bs.length by omega), addE_snoc _ _ _ _ _ (by simp; omega), List.append_assoc]
  rfl
theorem keyA_add : ∀ (a b : List Int) (p q s : Int), a.length = b.length → keyA (p + q - s) (addE 1 a b) = keyA p a + keyA q b - keyA s (List.replicate a.length 0)
  | [], [], p, q, s, _ => rfl
  | x :: a, y :: b, p, q, s, h => by
    simp only [addE, keyA, List.length_cons, List.replicate_succ]
    rw [← keyA_add a b _ _ _ (by simpa using h)]
    congr 1
    omega
  | [], _ :: _, _, _, _, h => by simp at h
  | _ :: _, [], _, _, _, h => by simp at h
end Go.Proofs.Ytfcgcgmleogamaa.Ab
namespace Go.Proofs.Ytfcgcgmleogamaa.Ab
open Go
set_option linter.unusedSimpArgs false
set_option linter.unusedVariables false
set_option linter.unusedSectionVars false

def Good (v : Int) (t : Trm) : Prop := (t.e.length : Int) = v ∧ t.c ≠ 0 ∧ (-1000000 ≤ t.c ∧ t.c ≤ 1000000) ∧ ∀ x ∈ t.e, -20 ≤ x ∧ x ≤ 20
def DescT (ts : List Trm) : Prop := ts.Pairwise fun a b => lexlt b.e a.e = true
def Right (f : Lau) : Prop := (1 ≤ f.v ∧ f.v ≤ 8) ∧ f.ts.length ≤ 600 ∧ (∀ t ∈ f.ts, Good f.v t) ∧ DescT f.ts
noncomputable instance (f : Lau) : Decidable (Right f) := Classical.propDecidable _
def zeroF : Lau := ⟨0, []⟩

theorem descT_snoc {ts : List Trm} {t : Trm} (h : DescT ts) (hl : ∀ x, ts.getLast? = some x → lexlt t.e x.e = true) : DescT (ts ++ [t]) := by
  unfold DescT at *
  rw [List.pairwise_append]
  refine ⟨h, List.pairwise_singleton _ _, fun a ha b hb => ?_⟩
  simp only [List.mem_singleton] at hb
  subst hb
  rcases List.eq_nil_or_concat ts with rfl | ⟨l, x, rfl⟩
  · simp at ha
  · have hx := hl x (by simp)
    simp only [List.concat_eq_append, List.mem_append, List.mem_singleton] at ha
    rcases ha with ha | rfl
    · simp only [List.concat_eq_append] at h
      rw [List.pairwise_append] at h
      exact lexlt_tr _ _ _ hx (h.2.2 a ha x (by simp))
    · exact hx
theorem descT_step {ts : List Trm} {j : Nat} (h1 : j < ts.length) (h : DescT (ts.take j)) (hl : j = 0 ∨ lexlt ts[j].e ts[j - 1].e = true) : DescT (ts.take (j + 1)) := by
  rw [List.take_succ_eq_append_getElem h1]
  refine descT_snoc h fun x hx => ?_
  rcases hl with rfl | hl
  · simp at hx
  · rcases Nat.eq_zero_or_pos j with rfl | hj
    · simp at hx
    · have : (ts.take j).getLast? = some ts[j - 1] := by
        rw [List.getLast?_eq_getElem?, List.length_take, Nat.min_eq_left (Nat.le_of_lt h1), List.getElem?_take_of_lt (by omega), List.getElem?_eq_getElem (by omega)]
      rw [this] at hx
      injection hx with hx
      subst hx
      exact hl
theorem descT_next {ts : List Trm} {j : Nat} (h1 : j < ts.length) (h : DescT ts) : j = 0 ∨ lexlt ts[j].e ts[j - 1].e = true := by
  rcases Nat.eq_zero_or_pos j with rfl | hj
  · exact .inl rfl
  · right
    exact List.pairwise_iff_getElem.1 h (j - 1) j (by omega) h1 (by omega)

/-! ### Coded terms -/
def gM (x : Int × Int) : List D := [D.int x.1, D.int x.2]
theorem gM_two (x : Int × Int) : (gM x).length = 2 := rfl
@[simp] theorem gM_length (l : List (Int × Int)) : (rows gM l).length = 2 * l.length := rows_length gM_two l
theorem gM_leaf : ∀ l : List (Int × Int), leafL (rows gM l)
  | [] => trivial
  | x :: l => ⟨rfl, rfl, gM_leaf l⟩
theorem gM_noSh (l : List (Int × Int)) : noShL (rows gM l) := rows_noSh (fun t => by simp [gM, noShL, noSh]) l
theorem gM_share : ∀ l : List (Int × Int), shareL (rows gM l) = rows gM l
  | [] => rfl
  | x :: l => by simp [rows, gM, shareL, share, gM_share l]
attribute [simp] gM_leaf gM_noSh gM_share
theorem gM_snoc (l : List (Int × Int)) (k c : Int) : rows gM l ++ [D.v (.int .i64 k), D.v (.int .i64 c)] = rows gM (l ++ [(k, c)]) := by
  rw [rows_append]
  rfl
section
variable {l : List (Int × Int)} {i : Nat}
theorem gM_0 (h : i < l.length) : (rows gM l)[2 * i]? = some (D.int l[i].1) ∧ ∀ h', (rows gM l)[2 * i]'h' = D.int l[i].1 := twice (rows_get gM_two l i 0 h (by omega))
theorem gM_1 (h : i < l.length) : (rows gM l)[2 * i + 1]? = some (D.int l[i].2) ∧ ∀ h', (rows gM l)[2 * i + 1]'h' = D.int l[i].2 := twice (rows_get gM_two l i 1 h (by omega))
end
/-- Exponents of a length, of few digits. -/
def Exps (n : Nat) (l : List (List Int × Int)) : Prop := ∀ x ∈ l, x.1.length = n ∧ Dig x.1
def tm (x : List Int × Int) : Trm := ⟨x.1, x.2⟩
def pr (t : Trm) : List Int × Int := (t.e, t.c)
theorem nf_exps {n : Nat} {l : List (List Int × Int)} (h : Exps n l) : Exps n (nf lexlt l) := fun y hy => by
  obtain ⟨x, hx, e⟩ := nf_mem hy
  rw [← e]
  exact h x hx
/-- What gathered terms come to: the sum, if it is right. -/
noncomputable def shutF (v : Int) (l : List (List Int × Int)) : Lau × Bool := if Right ⟨v, (nf lexlt l).map tm⟩ then (⟨v, (nf lexlt l).map tm⟩, true) else (zeroF, false)
def prodL (a b : List (List Int × Int)) : List (List Int × Int) := a.flatMap fun x => b.map fun y => (addE 1 x.1 y.1, x.2 * y.2)
noncomputable def mulF (f g : Lau) : Lau × Bool := if Right f ∧ Right g ∧ f.v = g.v then shutF f.v (prodL (f.ts.map pr) (g.ts.map pr)) else (zeroF, false)
end Go.Proofs.Ytfcgcgmleogamaa.Ab
namespace Go.Proofs.Ytfcgcgmleogamaa.Ab
open Go
set_option linter.unusedSimpArgs false
set_option linter.unusedVariables false
abbrev LS := List (List Int × Int)
def phT (T : Nat) (e : List Int) : Int := (T : Int) ^ (keyA 0 e).toNat
def bsN (n : Nat) : Nat := (keyA 0 (List.replicate n 0)).toNat
def eT (T : Nat) (l : LS) : Int := vl (phT T) l
theorem eT_app (T : Nat) (l r : LS) : eT T (l ++ r) = eT T l + eT T r := vl_app _ l r
theorem eT_nf (T : Nat) (l : LS) : eT T (nf lexlt l) = eT T l := vl_nf _ l
theorem phT_pos {T : Nat} (hT : 1 ≤ T) (e : List Int) : 0 < phT T e := Int.pow_pos (by omega)
theorem dig_rep (n : Nat) : Dig (List.replicate n 0) := fun x hx => by
  have := List.eq_of_mem_replicate hx
  omega
theorem phT_mul (T : Nat) {n : Nat} {a b : List Int} (ha : a.length = n) (hb : b.length = n) (da : Dig a) (db : Dig b) (dab : Dig (addE 1 a b)) : phT T (addE 1 a b) * (T : Int) ^ bsN n = phT T a * phT T b := by
  unfold phT bsN
  rw [← Int.pow_add, ← Int.pow_add]
  congr 1
  have h1 := keyA_add a b 0 0 0 (by omega)
  rw [ha, show (0 : Int) + 0 - 0 = 0 from rfl] at h1
  have h2 := keyA_nonneg _ 0 da (by omega)
  have h3 := keyA_nonneg _ 0 db (by omega)
  have h4 := keyA_nonneg _ 0 dab (by omega)
  have h5 := keyA_nonneg _ 0 (dig_rep n) (by omega)
  omega
/-- Exponents of one length in narrow bounds. -/
def ExB (n E : Nat) (l : LS) : Prop := ∀ x ∈ l, x.1.length = n ∧ ∀ y ∈ x.1, -(E : Int) ≤ y ∧ y ≤ E
theorem ExB.dig {n E : Nat} {l : LS} (h : ExB n E l) (hE : E ≤ 63) : Exps n l := fun x hx => ⟨(h x hx).1, fun y hy => by have := (h x hx).2 y hy; omega⟩
theorem addE_bnd : ∀ {a b : List Int} {E F : Nat}, a.length = b.length → (∀ y ∈ a, -(E : Int) ≤ y ∧ y ≤ E) → (∀ y ∈ b, -(F : Int) ≤ y ∧ y ≤ F) → ∀ y ∈ addE 1 a b, -((E + F : Nat) : Int) ≤ y ∧ y ≤ (E + F : Nat)
  | [], [], E, F, _, _, _, y, hy => by simp [addE] at hy
  | a :: aa, b :: bs, E, F, hl, ha, hb, y, hy => by
    simp only [addE, List.mem_cons] at hy
    rcases hy with rfl | hy
    · have := ha a (by simp)
      have := hb b (by simp)
      omega
    · exact addE_bnd (by simpa using hl) (fun y hy => ha y (by simp [hy])) (fun y hy => hb y (by simp [hy])) y hy
theorem ExB.prod {n E F : Nat} {a b : LS} (ha : ExB n E a) (hb : ExB n F b) : ExB n (E + F) (prodL a b) := fun x hx => by
  simp only [prodL, List.mem_flatMap, List.mem_map] at hx
  obtain ⟨p, hp, q, hq, rfl⟩ := hx
  have h1 := ha p hp
  have h2 := hb q hq
  exact ⟨by rw [addE_length _ _ _ (by omega)]; exact h1.1, addE_bnd (by omega) h1.2 h2.2⟩
theorem ExB.app {n E : Nat} {a b : LS} (ha : ExB n E a) (hb : ExB n E b) : ExB n E (a ++ b) := fun x hx => (List.mem_append.1 hx).elim (ha x) (hb x)
theorem ExB.nf {n E : Nat} {a : LS} (ha : ExB n E a) : ExB n E (nf lexlt a) := fun x hx => by
  obtain ⟨z, h1, h2⟩ := nf_mem hx
  have := ha z h1
  rwa [h2] at this
theorem ExB.mono {n E F : Nat} {a : LS} (ha : ExB n E a) (h : E ≤ F) : ExB n F a := fun x hx => ⟨(ha x hx).1, fun y hy => by have := (ha x hx).2 y hy; omega⟩
theorem eT_prod (T : Nat) {n E F : Nat} {a b : LS} (ha : ExB n E a) (hb : ExB n F b) (hEF : E + F ≤ 63) : eT T (prodL a b) * (T : Int) ^ bsN n = eT T a * eT T b := by
  have h1 : ∀ (a : LS), ExB n E a → eT T (prodL a b) * (T : Int) ^ bsN n = eT T a * eT T b := fun a => by
    induction a with
    | nil => intro _; simp [prodL, eT, vl]
    | cons x a ih =>
      intro hx
      have h2 := ih fun y hy => hx y (by simp [hy])
      have h3 : prodL (x :: a) b = (b.map fun y => (addE 1 x.1 y.1, x.2 * y.2)) ++ prodL a b := rfl
      have h4 : ∀ b : LS, ExB n F b → eT T (b.map fun y => (addE 1 x.1 y.1, x.2 * y.2)) * (T : Int) ^ bsN n = x.2 * phT T x.1 * eT T b := fun b => by
        induction b with
        | nil => intro _; simp [eT, vl]
        | cons y b ih2 =>
          intro hy
          have h5 := ih2 fun z hz => hy z (by simp [hz])
          have q1 := hx x (by simp)
          have q2 := hy y (by simp)
          have h6 := phT_mul T q1.1 q2.1 (fun z hz => by have := q1.2 z hz; omega) (fun z hz => by have := q2.2 z hz; omega) (fun z hz => by have := addE_bnd (by omega) q1.2 q2.2 z hz; omega)
          simp only [List.map_cons, eT, vl] at h5 ⊢
          rw [Int.add_mul, h5, Int.mul_add, Int.mul_assoc, h6]
          generalize vl (phT T) b = B
          grind
      rw [h3, eT_app, Int.add_mul, h2, h4 b hb]
      simp only [eT, vl]
      rw [Int.add_mul]
  exact h1 a ha
theorem eT_scale (T : Nat) (k : Int) (l : LS) : eT T (l.map fun y => (y.1, k * y.2)) = k * eT T l := by
  have := vl_map (fun e : List Int => e) k (phT T) l
  exact this
/-- A sum with a first term: at a great number it is not zero. -/
theorem eT_bound {T : Nat} (hT : 1 ≤ T) {m : Nat} : ∀ {l : LS}, (∀ x ∈ l, (keyA 0 x.1).toNat ≤ m) → (eT T l).natAbs ≤ absK l * T ^ m
  | [], _ => by simp [eT, vl]
  | x :: l, h => by
    have h1 := eT_bound hT (l := l) fun y hy => h y (by simp [hy])
    have h2 := h x (by simp)
    have h3 : (phT T x.1).natAbs ≤ T ^ m := by
      unfold phT
      rw [Int.natAbs_pow, Int.natAbs_natCast]
      exact Nat.pow_le_pow_right hT h2
    have h4 : eT T (x :: l) = x.2 * phT T x.1 + eT T l := rfl
    have h5 : absK (x :: l) = x.2.natAbs + absK l := by simp [absK]
    rw [h4, h5, Nat.add_mul]
    refine Nat.le_trans (Int.natAbs_add_le _ _) (Nat.add_le_add ?_ h1)
    rw [Int.natAbs_mul]
    exact Nat.mul_le_mul_left _ h3
theorem eT_ne {n : Nat} {x : List Int × Int} {l : LS} (hd : Desc lexlt (x :: l)) (hx : x.2 ≠ 0) (he : Exps n (x :: l)) : ∃ T, 2 ≤ T ∧ eT T (x :: l) ≠ 0 := by
  refine ⟨absK l + 2, by omega, fun h0 => ?_⟩
  have h4 : eT (absK l + 2) (x :: l) = x.2 * phT (absK l + 2) x.1 + eT (absK l + 2) l := rfl
  have ex := he x (by simp)
  have kx := keyA_nonneg _ 0 ex.2 (by omega)
  have hlt : ∀ y ∈ l, (keyA 0 y.1).toNat + 1 ≤ (keyA 0 x.1).toNat := fun y hy => by
    have ey := he y (by simp [hy])
    have ky := keyA_nonneg _ 0 ey.2 (by omega)
    have := keyA_lex y.1 x.1 0 (ey.1.trans ex.1.symm) ey.2 ex.2 ((List.pairwise_cons.1 hd).1 y hy)
    omega
  cases l with
  | nil =>
    rw [h4] at h0
    have hp := phT_pos (T := absK ([] : LS) + 2) (by omega) x.1
    simp only [eT, vl, Int.add_zero] at h0
    rcases Int.mul_eq_zero.1 h0 with h | h
    · exact hx h
    · omega
  | cons y l =>
    have hy1 := hlt y (by simp)
    obtain ⟨m, hm⟩ : ∃ m, (keyA 0 x.1).toNat = m + 1 := ⟨(keyA 0 x.1).toNat - 1, by omega⟩
    obtain ⟨T, hTe⟩ : ∃ T, T = absK (y :: l) + 2 := ⟨_, rfl⟩
    rw [← hTe] at h0 h4
    have hb := eT_bound (T := T) (by omega) (m := m) (l := y :: l) fun z hz => by have := hlt z hz; omega
    have h6 : (phT T x.1).natAbs = T ^ m * T := by
      unfold phT
      rw [Int.natAbs_pow, Int.natAbs_natCast, hm, Nat.pow_succ]
    have h7 : (x.2 * phT T x.1).natAbs = (eT T (y :: l)).natAbs := by
      rw [h4] at h0
      omega
    rw [Int.natAbs_mul, h6] at h7
    have h8 : 1 ≤ x.2.natAbs := by omega
    have h9 : 1 ≤ T ^ m := Nat.pow_pos (by omega)
    have h10 : T ^ m * T ≤ x.2.natAbs * (T ^ m * T) := Nat.le_mul_of_pos_left _ h8
    have h11 : T ^ m * T ≤ absK (y :: l) * T ^ m := by omega
    rw [Nat.mul_comm] at h11
    have := Nat.le_of_mul_le_mul_right h11 (by omega)
    omega
theorem eT_sep {n : Nat} {l r : LS} (hl : Exps n l) (hr : Exps n r) (h : ∀ T, 2 ≤ T → eT T l = eT T r) : nf lexlt l = nf lexlt r := by
  obtain ⟨d, hd⟩ : ∃ d, d = nf lexlt (l ++ r.map fun y => (y.1, -1 * y.2)) := ⟨_, rfl⟩
  have hz : ∀ T, 2 ≤ T → eT T d = 0 := fun T hT => by
    rw [hd, eT_nf, eT_app, eT_scale, h T hT]
    omega
  have hde : Exps n d := by
    rw [hd]
    refine nf_exps fun x hx => ?_
    rcases List.mem_append.1 hx with hx | hx
    · exact hl x hx
    · obtain ⟨y, hy, rfl⟩ := List.mem_map.1 hx
      exact hr y hy
  have hdd : Desc lexlt d := by rw [hd]; exact nf_desc lexOrd _
  have hdn : Nz d := by rw [hd]; exact nf_nz _
  have hnil : d = [] := by
    cases d with
    | nil => rfl
    | cons x t =>
      obtain ⟨T, hT, hne⟩ := eT_ne hdd (hdn x (by simp)) hde
      exact absurd (hz T hT) hne
  refine nf_vl lexOrd fun φ => ?_
  have h1 : vl φ d = 0 := by rw [hnil]; rfl
  rw [hd, vl_nf, vl_app] at h1
  have h2 := vl_map (fun e : List Int => e) (-1) φ r
  have h3 : vl φ (r.map fun y => (y.1, -1 * y.2)) = -1 * vl φ r := h2
  rw [h3] at h1
  omega
/-- The value of a sum: a rational number. -/
def vT (T n : Nat) (l : LS) : Rat := (eT T l : Rat) / ((T : Rat) ^ bsN n)
theorem powR_ne {T m : Nat} (hT : 2 ≤ T) : ((T : Rat) ^ m) ≠ 0 := by
  have h : (0 : Rat) < (T : Rat) := by
    have : ((0 : Nat) : Rat) < (T : Rat) := by exact_mod_cast (show 0 < T by omega)
    simpa using this
  exact Rat.ne_of_gt (Rat.pow_pos h)
theorem vT_app (T n : Nat) (l r : LS) : vT T n (l ++ r) = vT T n l + vT T n r := by
  unfold vT
  rw [eT_app, Rat.intCast_add]
  grind
theorem vT_nf (T n : Nat) (l : LS) : vT T n (nf lexlt l) = vT T n l := by
  unfold vT
  rw [eT_nf]
theorem vT_prod {T n E F : Nat} (hT : 2 ≤ T) {a b : LS} (ha : ExB n E a) (hb : ExB n F b) (hEF : E + F ≤ 63) : vT T n (prodL a b) = vT T n a * vT T n b := by
  have h := eT_prod T ha hb hEF
  have hp := powR_ne (m := bsN n) hT
  have h2 : ((eT T (prodL a b) : Int) : Rat) * ((T : Rat) ^ bsN n) = (eT T a : Rat) * (eT T b : Rat) := by
    have := congrArg (fun z : Int => (z : Rat)) h
    simp only [Rat.intCast_mul, Rat.intCast_pow, Rat.intCast_natCast] at this
    exact this
  unfold vT
  generalize (T : Rat) ^ bsN n = P at *
  generalize ((eT T (prodL a b) : Int) : Rat) = X at *
  grind
theorem vT_sep {n : Nat} {l r : LS} (hl : Exps n l) (hr : Exps n r) (h : ∀ T, 2 ≤ T → vT T n l = vT T n r) : nf lexlt l = nf lexlt r := by
  refine eT_sep hl hr fun T hT => ?_
  have h1 := h T hT
  unfold vT at h1
  have hp := powR_ne (m := bsN n) hT
  generalize (T : Rat) ^ bsN n = P at *
  have : ((eT T l : Int) : Rat) = ((eT T r : Int) : Rat) := by grind
  exact_mod_cast this
end Go.Proofs.Ytfcgcgmleogamaa.Ab
namespace Go.Proofs.Ytfcgcgmleogamaa.Ab
open Go
set_option linter.unusedSimpArgs false
set_option linter.unusedVariables false
set_option maxRecDepth 100000
abbrev Dg := Nat × Nat
def crs (d e : Dg) : Bool := (Nat.blt d.1 e.1 && (Nat.blt e.1 d.2 && Nat.blt d.2 e.2)) || (Nat.blt e.1 d.1 && (Nat.blt d.1 e.2 && Nat.blt e.2 d.2))
def allD (v : Nat) : List Dg := (List.range v).flatMap fun a => ((List.range v).filter fun b => Nat.ble (a + 2) b && (Nat.blt 0 a || Nat.blt b (v - 1))).map fun b => (a, b)
def enumC (P : List Dg → Bool) : List Dg → List Dg → Nat → Bool
  | _, F, 0 => P F
  | [], _, _ + 1 => true
  | d :: ds, F, r + 1 => enumC P ds F (r + 1) && (if F.all (fun e => !crs e d) then enumC P ds (d :: F) r else true)
def srt (a b : Nat) : Dg := if Nat.ble a b then (a, b) else (b, a)
def dgq (d e : Dg) : Bool := Nat.beq d.1 e.1 && Nat.beq d.2 e.2
def sd (v : Nat) (d : Dg) : Bool := Nat.beq (d.1 + 1) d.2 || (Nat.beq d.1 0 && Nat.beq (d.2 + 1) v)
def knD (v : Nat) (F : List Dg) (d : Dg) : Bool := sd v d || F.any (dgq d)
def kn (v : Nat) (F : List Dg) (a b : Nat) : Bool := knD v F (srt a b)
def cntD (F : List Dg) (a c : Nat) : Nat := F.countP (crs (srt a c))
def bimp (a b : Bool) : Bool := !a || b
def good (v : Nat) (F : List Dg) (a c : Nat) (e : Dg) : Bool := crs (srt a c) e && (kn v F a e.1 && kn v F a e.2)
def chk1 (v : Nat) (F : List Dg) : Bool :=
  (List.range v).all fun a => (List.range v).all fun c => Nat.beq a c || (kn v F a c || (F.any (good v F a c) && F.all fun e => bimp (good v F a c e) ((Nat.beq (cntD F a e.1) 0 && Nat.beq (cntD F a e.2) 0) && (Nat.blt (cntD F c e.1) (cntD F a c) && Nat.blt (cntD F c e.2) (cntD F a c)))))
def tris (v : Nat) (F : List Dg) : List (Nat × Nat × Nat) :=
  (List.range v).flatMap fun a => (List.range v).flatMap fun b => ((List.range v).filter fun c => Nat.blt a b && (Nat.blt b c && (knD v F (a, b) && (knD v F (b, c) && knD v F (a, c))))).map fun c => (a, b, c)
def att (k : List Bool × List (Nat × Nat × Nat)) (s p q : Nat) : List Bool × List (Nat × Nat × Nat) :=
  match !k.1.getD s false && (k.1.getD p false && k.1.getD q false) with
  | true => (k.1.set s true, k.2 ++ [(s, p, q)])
  | false => k
def run1 (k : List Bool × List (Nat × Nat × Nat)) : List (Nat × Nat × Nat) → List Bool × List (Nat × Nat × Nat)
  | [] => k
  | t :: ts => run1 (att (att (att k t.1 t.2.1 t.2.2) t.2.1 t.2.2 t.1) t.2.2 t.1 t.2.1) ts
def runN (T : List (Nat × Nat × Nat)) : Nat → List Bool × List (Nat × Nat × Nat) → List Bool × List (Nat × Nat × Nat)
  | 0, k => k
  | n + 1, k => runN T n (run1 k T)
def made : List (Nat × Nat × Nat) → List Dg → Option (List Dg)
  | [], M => some M
  | t :: ts, M => if M.any (dgq (srt t.2.1 t.2.2)) then made ts (srt t.1 t.2.1 :: srt t.1 t.2.2 :: M) else none
def kn0 (v : Nat) (t : Nat × Nat × Nat) : List Bool := ((List.replicate v false).set t.1 true).set t.2.1 true
def chk2 (v : Nat) (F : List Dg) : Bool :=
  match tris v F with
  | [] => false
  | t :: ts =>
    let r := runN (t :: ts) v (kn0 v t, [])
    Nat.blt t.1 t.2.1 && ((r.1.all id && Nat.beq r.1.length v) && match made r.2 [(t.1, t.2.1)] with
      | none => false
      | some M => F.all (fun e => M.any (dgq e)) && (List.range v).all fun a => M.any (dgq (srt a (if Nat.beq (a + 1) v then 0 else a + 1))))
def chkB (v : Nat) (F : List Dg) : Bool := chk1 v F && chk2 v F
theorem chk_4 : enumC (chkB 4) (allD 4) [] 1 = true := by decide +kernel
theorem chk_5 : enumC (chkB 5) (allD 5) [] 2 = true := by decide +kernel
theorem chk_6 : enumC (chkB 6) (allD 6) [] 3 = true := by decide +kernel
theorem chk_7 : enumC (chkB 7) (allD 7) [] 4 = true := by decide +kernel
theorem chk_8 : enumC (chkB 8) (allD 8) [] 5 = true := by decide +kernel
theorem chk_all {v : Nat} (h : 4 ≤ v ∧ v ≤ 8) : enumC (chkB v) (allD v) [] (v - 3) = true := by
  obtain rfl | rfl | rfl | rfl | rfl : v = 4 ∨ v = 5 ∨ v = 6 ∨ v = 7 ∨ v = 8 := by omega
  · exact chk_4
  · exact chk_5
  · exact chk_6
  · exact chk_7
  · exact chk_8
theorem crs_sym (d e : Dg) : crs d e = crs e d := by
  unfold crs
  rw [Bool.or_comm]
theorem enumC_ok (P : List Dg → Bool) : ∀ (ds F S : List Dg) (r : Nat), enumC P ds F r = true → S.Sublist ds → S.length = r → (S.Pairwise fun d e => crs d e = false) → (∀ d ∈ S, ∀ e ∈ F, crs e d = false) → P (S.reverse ++ F) = true
  | ds, F, S, 0, h, hs, hl, hp, hf => by
    have : S = [] := List.length_eq_zero_iff.1 hl
    subst this
    cases ds <;> simpa [enumC] using h
  | [], F, S, r + 1, h, hs, hl, hp, hf => by
    have := List.eq_nil_of_sublist_nil hs
    subst this
    simp at hl
  | d :: ds, F, S, r + 1, h, hs, hl, hp, hf => by
    simp only [enumC, Bool.and_eq_true] at h
    obtain ⟨h1, h2⟩ := h
    cases hs with
    | cons _ hs => exact enumC_ok P ds F S (r + 1) h1 hs hl hp hf
    | cons_cons _ hs =>
      rename_i S
      have hall : F.all (fun e => !crs e d) = true := List.all_eq_true.2 fun e he => by
        rw [hf d (by simp) e he]
        rfl
      rw [if_pos hall] at h2
      obtain ⟨hp1, hp2⟩ := List.pairwise_cons.1 hp
      have := enumC_ok P ds (d :: F) S r h2 hs (by simpa using hl) hp2 fun x hx e he => by
        rcases List.mem_cons.1 he with rfl | he
        · exact hp1 x hx
        · exact hf x (by simp [hx]) e he
      simpa using this
structure Tri (v : Nat) (l : List Dg) : Prop where
  vb : 4 ≤ v ∧ v ≤ 8
  len : l.length = v - 3
  mem : ∀ d ∈ l, d ∈ allD v
  apart : l.Pairwise fun d e => d ≠ e ∧ crs d e = false
theorem allD_nodup {v : Nat} (h : v ≤ 8) : (allD v).Nodup := by
  obtain rfl | rfl | rfl | rfl | rfl | rfl | rfl | rfl | rfl : v = 0 ∨ v = 1 ∨ v = 2 ∨ v = 3 ∨ v = 4 ∨ v = 5 ∨ v = 6 ∨ v = 7 ∨ v = 8 := by omega
  all_goals decide +kernel
theorem Tri.nodup {v : Nat} {l : List Dg} (h : Tri v l) : l.Nodup := h.apart.imp fun h => h.1
theorem Tri.perm {v : Nat} {l l' : List Dg} (h : Tri v l) (hp : l'.Perm l) : Tri v l' := ⟨h.vb, hp.length_eq.trans h.len, fun d hd => h.mem d (hp.subset hd), (hp.pairwise_iff fun hh => ⟨hh.1.symm, by rw [crs_sym]; exact hh.2⟩).2 h.apart⟩
theorem tri_chk {v : Nat} {l : List Dg} (h : Tri v l) : ∃ F, F.Perm l ∧ chkB v F = true := by
  have hn := allD_nodup h.vb.2
  obtain ⟨S, hS⟩ : ∃ S, S = (allD v).filter fun d => l.contains d := ⟨_, rfl⟩
  have hsub : S.Sublist (allD v) := by rw [hS]; exact List.filter_sublist
  have hp : S.Perm l := (List.perm_ext_iff_of_nodup (hsub.nodup hn) h.nodup).2 fun d => by
    rw [hS, List.mem_filter]
    simp only [List.contains_eq_mem, decide_eq_true_eq]
    exact ⟨fun h => h.2, fun hd => ⟨h.mem d hd, hd⟩⟩
  have hT := h.perm hp
  have := enumC_ok (chkB v) (allD v) [] S (v - 3) (chk_all h.vb) hsub hT.len (hT.apart.imp fun h => h.2) (by simp)
  rw [List.append_nil] at this
  exact ⟨S.reverse, (List.reverse_perm S).trans hp, this⟩
theorem any_perm {α : Type} {p : α → Bool} {l r : List α} (h : l.Perm r) : l.any p = r.any p := by
  rw [Bool.eq_iff_iff, List.any_eq_true, List.any_eq_true]
  exact ⟨fun ⟨x, hx, hp⟩ => ⟨x, h.mem_iff.1 hx, hp⟩, fun ⟨x, hx, hp⟩ => ⟨x, h.mem_iff.2 hx, hp⟩⟩
theorem all_perm {α : Type} {p : α → Bool} {l r : List α} (h : l.Perm r) : l.all p = r.all p := by
  rw [Bool.eq_iff_iff, List.all_eq_true, List.all_eq_true]
  exact ⟨fun q x hx => q x (h.mem_iff.2 hx), fun q x hx => q x (h.mem_iff.1 hx)⟩
theorem knD_perm {v : Nat} {l r : List Dg} (h : l.Perm r) : knD v l = knD v r := by
  funext d
  unfold knD
  rw [any_perm h]
theorem kn_perm {v : Nat} {l r : List Dg} (h : l.Perm r) : kn v l = kn v r := by
  funext a b
  unfold kn
  rw [knD_perm h]
theorem cntD_perm {l r : List Dg} (h : l.Perm r) : cntD l = cntD r := by
  funext a b
  exact h.countP_eq _
theorem good_perm {v : Nat} {l r : List Dg} (h : l.Perm r) : good v l = good v r := by
  funext a c e
  unfold good
  rw [kn_perm h]
theorem chk1_perm {v : Nat} {l r : List Dg} (h : l.Perm r) : chk1 v l = chk1 v r := by
  unfold chk1
  rw [kn_perm h, cntD_perm h, good_perm h]
  simp only [any_perm h, all_perm h]
theorem tris_perm {v : Nat} {l r : List Dg} (h : l.Perm r) : tris v l = tris v r := by
  unfold tris
  rw [knD_perm h]
theorem chk2_perm {v : Nat} {l r : List Dg} (h : l.Perm r) : chk2 v l = chk2 v r := by
  unfold chk2
  rw [tris_perm h]
  simp only [all_perm h]
theorem tri_1 {v : Nat} {l : List Dg} (h : Tri v l) : chk1 v l = true := by
  obtain ⟨F, h1, h2⟩ := tri_chk h
  rw [← chk1_perm h1]
  simp only [chkB, Bool.and_eq_true] at h2
  exact h2.1
theorem tri_2 {v : Nat} {l : List Dg} (h : Tri v l) : chk2 v l = true := by
  obtain ⟨F, h1, h2⟩ := tri_chk h
  rw [← chk2_perm h1]
  simp only [chkB, Bool.and_eq_true] at h2
  exact h2.2
theorem dgq_eq {d e : Dg} : dgq d e = true ↔ d = e := by
  obtain ⟨a, b⟩ := d
  obtain ⟨c, g⟩ := e
  simp [dgq]
theorem bimp_eq {a b : Bool} : bimp a b = true ↔ (a = true → b = true) := by cases a <;> cases b <;> simp [bimp]
/-- Vertices that are not joined: there is a triangle at the first one that the way goes through. -/
theorem tri_good {v : Nat} {l : List Dg} (h : Tri v l) {a c : Nat} (ha : a < v) (hc : c < v) (hac : a ≠ c) (hk : kn v l a c = false) : (∃ e ∈ l, good v l a c e = true) ∧ ∀ e ∈ l, good v l a c e = true → (cntD l a e.1 = 0 ∧ cntD l a e.2 = 0) ∧ cntD l c e.1 < cntD l a c ∧ cntD l c e.2 < cntD l a c := by
  have := tri_1 h
  unfold chk1 at this
  rw [List.all_eq_true] at this
  have := this a (List.mem_range.2 ha)
  rw [List.all_eq_true] at this
  have := this c (List.mem_range.2 hc)
  rw [hk, show Nat.beq a c = false from Bool.eq_false_iff.2 fun e => hac (Nat.eq_of_beq_eq_true e)] at this
  simp only [Bool.false_or, Bool.and_eq_true, List.any_eq_true, List.all_eq_true, bimp_eq] at this
  refine ⟨this.1, fun e he hg => ?_⟩
  have := this.2 e he hg
  simpa using this
/-- What the vectors of a triangulation are made in: each vertex behind two that are joined. -/
theorem tri_made {v : Nat} {l : List Dg} (h : Tri v l) : ∃ t ts M, tris v l = t :: ts ∧ t.1 < t.2.1 ∧ (∀ x ∈ (runN (t :: ts) v (kn0 v t, [])).1, x = true) ∧ (runN (t :: ts) v (kn0 v t, [])).1.length = v ∧ made (runN (t :: ts) v (kn0 v t, [])).2 [(t.1, t.2.1)] = some M ∧ (∀ e ∈ l, e ∈ M) ∧ ∀ a, a < v → srt a (if a + 1 = v then 0 else a + 1) ∈ M := by
  have := tri_2 h
  unfold chk2 at this
  split at this
  · simp at this
  · rename_i t ts ht
    dsimp only at this
    simp only [Bool.and_eq_true] at this
    obtain ⟨h1, ⟨h2, h3⟩, h4⟩ := this
    split at h4
    · simp at h4
    · rename_i M hM
      simp only [Bool.and_eq_true, List.all_eq_true, List.any_eq_true, List.mem_range] at h4
      refine ⟨t, ts, M, ht, by simpa using h1, ?_, by simpa using h3, hM, fun e he => ?_, fun a ha => ?_⟩
      · simpa [List.all_eq_true] using h2
      · obtain ⟨x, hx, hq⟩ := h4.1 e he
        rw [dgq_eq] at hq
        rw [hq]
        exact hx
      · obtain ⟨x, hx, hq⟩ := h4.2 a ha
        rw [dgq_eq] at hq
        rw [← hq] at hx
        by_cases hv : a + 1 = v
        · rw [if_pos hv]
          rw [show Nat.beq (a + 1) v = true from Nat.beq_eq ▸ (by simpa using hv)] at hx
          exact hx
        · rw [if_neg hv]
          rw [show Nat.beq (a + 1) v = false from Bool.eq_false_iff.2 fun e => hv (Nat.eq_of_beq_eq_true e)] at hx
          exact hx
end Go.Proofs.Ytfcgcgmleogamaa.Ab
namespace Go.Proofs.Ytfcgcgmleogamaa.Ab
open Go
set_option linter.unusedSimpArgs false
set_option linter.unusedVariables false
abbrev N3 := Nat × Nat × Nat
def gatt {σ : Type} (upd : σ → N3 → σ) (k : List Bool × σ) (s p q : Nat) : List Bool × σ :=
  match !k.1.getD s false && (k.1.getD p false && k.1.getD q false) with
  | true => (k.1.set s true, upd k.2 (s, p, q))
  | false => k
def grun1 {σ : Type} (upd : σ → N3 → σ) (k : List Bool × σ) : List N3 → List Bool × σ
  | [] => k
  | t :: ts => grun1 upd (gatt upd (gatt upd (gatt upd k t.1 t.2.1 t.2.2) t.2.1 t.2.2 t.1) t.2.2 t.1 t.2.1) ts
def grunN {σ : Type} (upd : σ → N3 → σ) (T : List N3) : Nat → List Bool × σ → List Bool × σ
  | 0, k => k
  | n + 1, k => grunN upd T n (grun1 upd k T)
/-- Vertices that become known one behind the other. -/
inductive OkA : List Bool → List N3 → List Bool → Prop
  | nil (k : List Bool) : OkA k [] k
  | cons {k k' : List Bool} {s p q : Nat} {A : List N3} (h1 : k.getD s false = false) (h2 : k.getD p false = true) (h3 : k.getD q false = true) (h : OkA (k.set s true) A k') : OkA k ((s, p, q) :: A) k'
theorem OkA.app {k1 k2 k3 : List Bool} {A B : List N3} (h1 : OkA k1 A k2) (h2 : OkA k2 B k3) : OkA k1 (A ++ B) k3 := by
  induction h1 with
  | nil => exact h2
  | cons a b c d ih => exact .cons a b c (ih h2)
/-- What one part of the way does: the same vertices, whatever is kept beside. -/
def Same {σ : Type} (upd : σ → N3 → σ) (f : List Bool × σ → List Bool × σ) (g : List Bool × List N3 → List Bool × List N3) : Prop :=
  ∀ (k : List Bool) (x : σ) (A0 : List N3), ∃ (k' : List Bool) (A : List N3), g (k, A0) = (k', A0 ++ A) ∧ f (k, x) = (k', A.foldl upd x) ∧ OkA k A k'
theorem same_id {σ : Type} (upd : σ → N3 → σ) : Same upd id id := fun k x A0 => ⟨k, [], by simp, rfl, .nil k⟩
theorem same_comp {σ : Type} {upd : σ → N3 → σ} {f f' : List Bool × σ → List Bool × σ} {g g' : List Bool × List N3 → List Bool × List N3} (h : Same upd f g) (h' : Same upd f' g') : Same upd (fun k => f' (f k)) (fun k => g' (g k)) := fun k x A0 => by
  obtain ⟨k1, A1, a1, a2, a3⟩ := h k x A0
  obtain ⟨k2, A2, b1, b2, b3⟩ := h' k1 (A1.foldl upd x) (A0 ++ A1)
  refine ⟨k2, A1 ++ A2, by simp only [a1, b1, List.append_assoc], by simp only [a2, b2, List.foldl_append], a3.app b3⟩
theorem same_att {σ : Type} (upd : σ → N3 → σ) (s p q : Nat) : Same upd (fun k => gatt upd k s p q) (fun k => att k s p q) := fun k x A0 => by
  cases hc : (!k.getD s false && (k.getD p false && k.getD q false)) with
  | false => exact ⟨k, [], by simp only [att, hc, List.append_nil], by simp only [gatt, hc, List.foldl_nil], .nil k⟩
  | true =>
    refine ⟨k.set s true, [(s, p, q)], by simp only [att, hc], by simp only [gatt, hc, List.foldl_cons, List.foldl_nil], ?_⟩
    simp only [Bool.and_eq_true, Bool.not_eq_true'] at hc
    exact .cons hc.1 hc.2.1 hc.2.2 (.nil _)
theorem same_run1 {σ : Type} (upd : σ → N3 → σ) : ∀ T : List N3, Same upd (fun k => grun1 upd k T) (fun k => run1 k T)
  | [] => same_id upd
  | t :: ts => same_comp (same_comp (same_comp (same_att upd t.1 t.2.1 t.2.2) (same_att upd t.2.1 t.2.2 t.1)) (same_att upd t.2.2 t.1 t.2.1)) (same_run1 upd ts)
theorem same_runN {σ : Type} (upd : σ → N3 → σ) (T : List N3) : ∀ n : Nat, Same upd (grunN upd T n) (runN T n)
  | 0 => same_id upd
  | n + 1 => by
    show Same upd (fun k => grunN upd T n (grun1 upd k T)) (fun k => runN T n (run1 k T))
    exact same_comp (same_run1 upd T) (same_runN upd T n)
abbrev V2 := Rat × Rat
def detV (X : Nat → V2) (i j : Nat) : Rat := (X i).1 * (X j).2 - (X i).2 * (X j).1
def updV (ln : Dg → Rat) (X : Nat → V2) (t : N3) : Nat → V2 :=
  let d := srt t.2.1 t.2.2
  let a := ln (srt d.2 t.1) / ln d * (if d.2 < t.1 then -1 else 1)
  let b := ln (srt d.1 t.1) / ln d * (if t.1 < d.1 then -1 else 1)
  fun i => if i = t.1 then (a * (X d.1).1 + b * (X d.2).1, a * (X d.1).2 + b * (X d.2).2) else X i
def VInv (ln : Dg → Rat) (k : List Bool) (X : Nat → V2) (M : List Dg) : Prop := ∀ d ∈ M, detV X d.1 d.2 = ln d ∧ k.getD d.1 false = true ∧ k.getD d.2 false = true ∧ d.1 < d.2
theorem srt_lt {a b : Nat} (h : a < b) : srt a b = (a, b) := by
  unfold srt
  rw [if_pos (by simp; omega)]
theorem srt_gt {a b : Nat} (h : b < a) : srt a b = (b, a) := by
  unfold srt
  rw [if_neg (by simp; omega)]
theorem srt_com (a b : Nat) : srt a b = srt b a := by
  rcases Nat.lt_trichotomy a b with h | h | h
  · rw [srt_lt h, srt_gt h]
  · rw [h]
  · rw [srt_lt h, srt_gt h]
theorem getD_setT {k : List Bool} {s i : Nat} (h : k.getD i false = true) : (k.set s true).getD i false = true := by
  simp only [List.getD_eq_getElem?_getD, List.getElem?_set] at h ⊢
  split
  · split <;> simp_all
  · exact h
theorem getD_setS {k : List Bool} {s : Nat} (h : s < k.length) : (k.set s true).getD s false = true := by
  simp [List.getD_eq_getElem?_getD, List.getElem?_set, h]
theorem vinv_step {ln : Dg → Rat} (hln : ∀ d, ln d ≠ 0) {k : List Bool} {X : Nat → V2} {M : List Dg} (h : VInv ln k X M) {s p q : Nat} (hs : s < k.length) (h1 : k.getD s false = false) (hM : srt p q ∈ M) :
    VInv ln (k.set s true) (updV ln X (s, p, q)) (srt s p :: srt s q :: M) := by
  obtain ⟨d, hd⟩ : ∃ d, d = srt p q := ⟨_, rfl⟩
  rw [← hd] at hM
  obtain ⟨m1, m2, m3, m4⟩ := h d hM
  have n1 : s ≠ d.1 := fun e => by rw [← e, h1] at m2; exact absurd m2 (by simp)
  have n2 : s ≠ d.2 := fun e => by rw [← e, h1] at m3; exact absurd m3 (by simp)
  have hpq : (srt s p = srt d.1 s ∧ srt s q = srt d.2 s) ∨ (srt s p = srt d.2 s ∧ srt s q = srt d.1 s) := by
    rcases Nat.lt_trichotomy p q with h | h | h
    · rw [srt_lt h] at hd
      rw [hd]
      exact .inl ⟨srt_com _ _, srt_com _ _⟩
    · exfalso
      rw [h] at hd
      rw [hd] at m4
      unfold srt at m4
      simp at m4
    · rw [srt_gt h] at hd
      rw [hd]
      exact .inr ⟨srt_com _ _, srt_com _ _⟩
  have old : ∀ i, i ≠ s → updV ln X (s, p, q) i = X i := fun i hi => by simp only [updV, if_neg hi]
  have new : updV ln X (s, p, q) s = (ln (srt d.2 s) / ln d * (if d.2 < s then -1 else 1) * (X d.1).1 + ln (srt d.1 s) / ln d * (if s < d.1 then -1 else 1) * (X d.2).1, ln (srt d.2 s) / ln d * (if d.2 < s then -1 else 1) * (X d.1).2 + ln (srt d.1 s) / ln d * (if s < d.1 then -1 else 1) * (X d.2).2) := by
    simp only [updV, if_pos, ← hd]
  have hl := hln d
  have hA : ∀ e, e = srt d.1 s → detV (updV ln X (s, p, q)) e.1 e.2 = ln e ∧ (k.set s true).getD e.1 false = true ∧ (k.set s true).getD e.2 false = true ∧ e.1 < e.2 := fun e he => by
    rcases Nat.lt_or_gt_of_ne n1 with g | g
    · rw [srt_gt g] at he
      subst he
      refine ⟨?_, getD_setS hs, getD_setT m2, g⟩
      have e1 : detV (updV ln X (s, p, q)) s d.1 = -(ln (srt d.1 s) / ln d * (if s < d.1 then -1 else 1) * detV X d.1 d.2) := by
        unfold detV
        rw [new, old _ (Ne.symm n1)]
        dsimp only
        generalize ln (srt d.2 s) / ln d * (if d.2 < s then -1 else 1) = aa
        generalize ln (srt d.1 s) / ln d * (if s < d.1 then -1 else 1) = bb
        grind
      rw [e1, m1, if_pos g, srt_gt g]
      grind
    · rw [srt_lt g] at he
      subst he
      refine ⟨?_, getD_setT m2, getD_setS hs, g⟩
      have e1 : detV (updV ln X (s, p, q)) d.1 s = ln (srt d.1 s) / ln d * (if s < d.1 then -1 else 1) * detV X d.1 d.2 := by
        unfold detV
        rw [new, old _ (Ne.symm n1)]
        dsimp only
        generalize ln (srt d.2 s) / ln d * (if d.2 < s then -1 else 1) = aa
        generalize ln (srt d.1 s) / ln d * (if s < d.1 then -1 else 1) = bb
        grind
      rw [e1, m1, if_neg (by omega), srt_lt g]
      grind
  have hB : ∀ e, e = srt d.2 s → detV (updV ln X (s, p, q)) e.1 e.2 = ln e ∧ (k.set s true).getD e.1 false = true ∧ (k.set s true).getD e.2 false = true ∧ e.1 < e.2 := fun e he => by
    rcases Nat.lt_or_gt_of_ne n2 with g | g
    · rw [srt_gt g] at he
      subst he
      refine ⟨?_, getD_setS hs, getD_setT m3, g⟩
      have e1 : detV (updV ln X (s, p, q)) s d.2 = ln (srt d.2 s) / ln d * (if d.2 < s then -1 else 1) * detV X d.1 d.2 := by
        unfold detV
        rw [new, old _ (Ne.symm n2)]
        dsimp only
        generalize ln (srt d.2 s) / ln d * (if d.2 < s then -1 else 1) = aa
        generalize ln (srt d.1 s) / ln d * (if s < d.1 then -1 else 1) = bb
        grind
      rw [e1, m1, if_neg (by omega), srt_gt g]
      grind
    · rw [srt_lt g] at he
      subst he
      refine ⟨?_, getD_setT m3, getD_setS hs, g⟩
      have e1 : detV (updV ln X (s, p, q)) d.2 s = -(ln (srt d.2 s) / ln d * (if d.2 < s then -1 else 1) * detV X d.1 d.2) := by
        unfold detV
        rw [new, old _ (Ne.symm n2)]
        dsimp only
        generalize ln (srt d.2 s) / ln d * (if d.2 < s then -1 else 1) = aa
        generalize ln (srt d.1 s) / ln d * (if s < d.1 then -1 else 1) = bb
        grind
      rw [e1, m1, if_pos g, srt_lt g]
      grind
  intro e he
  rcases List.mem_cons.1 he with he | he
  · rcases hpq with ⟨a, b⟩ | ⟨a, b⟩
    · exact hA e (he.trans a)
    · exact hB e (he.trans a)
  · rcases List.mem_cons.1 he with he | he
    · rcases hpq with ⟨a, b⟩ | ⟨a, b⟩
      · exact hB e (he.trans b)
      · exact hA e (he.trans b)
    · obtain ⟨q1, q2, q3, q4⟩ := h e he
      refine ⟨?_, getD_setT q2, getD_setT q3, q4⟩
      rw [← q1]
      unfold detV
      rw [old, old]
      · exact fun e' => by rw [e', h1] at q3; exact absurd q3 (by simp)
      · exact fun e' => by rw [e', h1] at q2; exact absurd q2 (by simp)
theorem vinv_fold {ln : Dg → Rat} (hln : ∀ d, ln d ≠ 0) : ∀ {A : List N3} {k k' : List Bool} {X : Nat → V2} {M M' : List Dg}, OkA k A k' → (∀ t ∈ A, t.1 < k.length) → made A M = some M' → VInv ln k X M → VInv ln k' (A.foldl (updV ln) X) M'
  | [], k, k', X, M, M', h, _, hm, hv => by
    cases h
    simp only [made, Option.some.injEq] at hm
    subst hm
    exact hv
  | (s, p, q) :: A, k, k', X, M, M', h, hl, hm, hv => by
    cases h with
    | cons h1 h2 h3 h =>
      simp only [made] at hm
      split at hm
      · rename_i hmm
        rw [List.any_eq_true] at hmm
        obtain ⟨e, he, hee⟩ := hmm
        rw [dgq_eq] at hee
        subst hee
        exact vinv_fold (A := A) (M := srt s p :: srt s q :: M) hln h (fun t ht => by rw [List.length_set]; exact hl t (List.mem_cons_of_mem _ ht)) hm (vinv_step hln hv (hl (s, p, q) (by simp)) h1 he)
      · cases hm
def initV (ln : Dg → Rat) (t : N3) : Nat → V2 := fun i => if i = t.2.1 then (0, ln (t.1, t.2.1)) else if i = t.1 then (1, 0) else (0, 0)
def vecV (v : Nat) (l : List Dg) (ln : Dg → Rat) : Nat → V2 := match tris v l with
  | [] => fun _ => (0, 0)
  | t :: ts => (grunN (updV ln) (t :: ts) v (kn0 v t, initV ln t)).2
theorem tris_bd {v : Nat} {l : List Dg} {t : N3} (h : t ∈ tris v l) : t.1 < t.2.1 ∧ t.2.1 < t.2.2 ∧ t.2.2 < v ∧ knD v l (t.1, t.2.1) = true ∧ knD v l (t.2.1, t.2.2) = true ∧ knD v l (t.1, t.2.2) = true := by
  simp only [tris, List.mem_flatMap, List.mem_range, List.mem_map, List.mem_filter, Bool.and_eq_true] at h
  obtain ⟨a, ha, b, hb, c, ⟨hc, h1, h2, h3, h4, h5⟩, rfl⟩ := h
  exact ⟨by simpa using h1, by simpa using h2, hc, h3, h4, h5⟩
/-- Steps of the way are at triangles. -/
theorem run1_mem : ∀ (T : List N3) (k : List Bool) (A : List N3), (∀ x ∈ A, ∃ t ∈ T, x = (t.1, t.2.1, t.2.2) ∨ x = (t.2.1, t.2.2, t.1) ∨ x = (t.2.2, t.1, t.2.1)) → ∀ T', (∀ t ∈ T', t ∈ T) → ∀ x ∈ (run1 (k, A) T').2, ∃ t ∈ T, x = (t.1, t.2.1, t.2.2) ∨ x = (t.2.1, t.2.2, t.1) ∨ x = (t.2.2, t.1, t.2.1) := by
  intro T k A hA T'
  induction T' generalizing k A with
  | nil => exact fun _ => hA
  | cons t ts ih =>
    intro hT
    have one : ∀ (k : List Bool × List N3) (s p q : Nat), (∀ x ∈ k.2, ∃ t ∈ T, x = (t.1, t.2.1, t.2.2) ∨ x = (t.2.1, t.2.2, t.1) ∨ x = (t.2.2, t.1, t.2.1)) → (∃ t ∈ T, (s, p, q) = (t.1, t.2.1, t.2.2) ∨ (s, p, q) = (t.2.1, t.2.2, t.1) ∨ (s, p, q) = (t.2.2, t.1, t.2.1)) → ∀ x ∈ (att k s p q).2, ∃ t ∈ T, x = (t.1, t.2.1, t.2.2) ∨ x = (t.2.1, t.2.2, t.1) ∨ x = (t.2.2, t.1, t.2.1) := fun k s p q h1 h2 x hx => by
      unfold att at hx
      split at hx
      · rcases List.mem_append.1 hx with hx | hx
        · exact h1 x hx
        · rw [List.mem_singleton] at hx
          subst hx
          exact h2
      · exact h1 x hx
    have ht := hT t (by simp)
    have h3 := one _ t.2.2 t.1 t.2.1 (one _ t.2.1 t.2.2 t.1 (one (k, A) t.1 t.2.1 t.2.2 hA ⟨t, ht, .inl rfl⟩) ⟨t, ht, .inr (.inl rfl)⟩) ⟨t, ht, .inr (.inr rfl)⟩
    exact ih _ _ h3 fun x hx => hT x (by simp [hx])
theorem runN_mem (T : List N3) : ∀ (n : Nat) (k : List Bool) (A : List N3), (∀ x ∈ A, ∃ t ∈ T, x = (t.1, t.2.1, t.2.2) ∨ x = (t.2.1, t.2.2, t.1) ∨ x = (t.2.2, t.1, t.2.1)) → ∀ x ∈ (runN T n (k, A)).2, ∃ t ∈ T, x = (t.1, t.2.1, t.2.2) ∨ x = (t.2.1, t.2.2, t.1) ∨ x = (t.2.2, t.1, t.2.1)
  | 0, k, A, h => h
  | n + 1, k, A, h => runN_mem T n _ _ (run1_mem T k A h T fun t ht => ht)
theorem kn0_at {v : Nat} {t : N3} (h1 : t.1 < v) (h2 : t.2.1 < v) : (kn0 v t).getD t.1 false = true ∧ (kn0 v t).getD t.2.1 false = true := by
  unfold kn0
  exact ⟨getD_setT (getD_setS (by simpa using h1)), getD_setS (by simpa using h2)⟩
/-- The vectors of a triangulation: of joined vertices the determinant is the length. -/
theorem vec_known {v : Nat} {l : List Dg} (h : Tri v l) {ln : Dg → Rat} (hln : ∀ d, ln d ≠ 0) {a c : Nat} (hac : a < c) (hc : c < v) (hk : knD v l (a, c) = true) : detV (vecV v l ln) a c = ln (a, c) := by
  obtain ⟨t, ts, M, h1, h2, h3, h4, h5, h6, h7⟩ := tri_made h
  obtain ⟨b1, b2, b3, -⟩ := tris_bd (v := v) (l := l) (t := t) (by rw [h1]; simp)
  obtain ⟨k', A, e1, e2, e3⟩ := same_runN (updV ln) (t :: ts) v (kn0 v t) (initV ln t) []
  have hmem := runN_mem (t :: ts) v (kn0 v t) [] (by simp)
  rw [e1] at h5 hmem
  simp only [List.nil_append] at h5 hmem
  have hlen : (kn0 v t).length = v := by simp [kn0]
  have hv0 : VInv ln (kn0 v t) (initV ln t) [(t.1, t.2.1)] := by
    intro d hd
    rw [List.mem_singleton] at hd
    subst hd
    refine ⟨?_, (kn0_at (by omega) (by omega)).1, (kn0_at (t := t) (by omega) (by omega)).2, h2⟩
    simp only [detV, initV, if_pos, if_neg (show ¬ t.1 = t.2.1 by omega)]
    grind
  have hfin := vinv_fold hln e3 (fun x hx => by
    obtain ⟨u, hu, hx⟩ := hmem x hx
    have := tris_bd (v := v) (l := l) (t := u) (by rw [h1]; exact hu)
    rw [hlen]
    rcases hx with rfl | rfl | rfl <;> dsimp only <;> omega) h5 hv0
  have hvec : vecV v l ln = A.foldl (updV ln) (initV ln t) := by
    unfold vecV
    rw [h1]
    show (grunN (updV ln) (t :: ts) v (kn0 v t, initV ln t)).2 = _
    rw [e2]
  have hin : (a, c) ∈ M := by
    unfold knD at hk
    rw [Bool.or_eq_true] at hk
    rcases hk with hk | hk
    · unfold sd at hk
      simp only [Bool.or_eq_true, Bool.and_eq_true] at hk
      rcases hk with hk | ⟨hk1, hk2⟩
      · have hk := Nat.eq_of_beq_eq_true hk
        have := h7 a (by omega)
        rw [if_neg (by omega), srt_lt (by omega), hk] at this
        exact this
      · have hk1 := Nat.eq_of_beq_eq_true hk1
        have hk2 := Nat.eq_of_beq_eq_true hk2
        have := h7 c hc
        rw [if_pos hk2, srt_gt (by omega)] at this
        rw [hk1]
        exact this
    · rw [List.any_eq_true] at hk
      obtain ⟨e, he, hee⟩ := hk
      rw [dgq_eq] at hee
      rw [hee]
      exact h6 e he
  have := (hfin _ hin).1
  rw [← hvec] at this
  exact this
theorem ptolemy (X : Nat → V2) (a b c d : Nat) : detV X a c * detV X b d = detV X a b * detV X c d + detV X a d * detV X b c := by
  unfold detV
  grind
/-- The length between two vertices, from the lower one to the higher one. -/
def lenV (X : Nat → V2) (a c : Nat) : Rat := detV X (srt a c).1 (srt a c).2
theorem lenV_com (X : Nat → V2) (a c : Nat) : lenV X a c = lenV X c a := by unfold lenV; rw [srt_com]
theorem lenV_lt (X : Nat → V2) {a c : Nat} (h : a < c) : lenV X a c = detV X a c := by unfold lenV; rw [srt_lt h]
theorem lenV_cross (X : Nat → V2) {a c : Nat} {e : Dg} (h : crs (srt a c) e = true) : lenV X a c * lenV X e.1 e.2 = lenV X a e.1 * lenV X c e.2 + lenV X a e.2 * lenV X c e.1 := by
  obtain ⟨p, q⟩ := e
  have hne : a ≠ c := by
    rintro rfl
    rw [show srt a a = (a, a) by unfold srt; split <;> rfl] at h
    simp only [crs, Nat.blt_eq, Bool.or_eq_true, Bool.and_eq_true] at h
    omega
  rcases Nat.lt_or_gt_of_ne hne with g | g
  · rw [srt_lt g] at h
    simp only [crs, Bool.or_eq_true, Bool.and_eq_true, Nat.blt_eq] at h
    dsimp only
    rcases h with ⟨h1, h2, h3⟩ | ⟨h1, h2, h3⟩
    · have := ptolemy X a p c q
      rw [lenV_lt X g, lenV_lt X (show p < q by omega), lenV_lt X h1, lenV_lt X h3, lenV_lt X (show a < q by omega), lenV_com X c p, lenV_lt X h2]
      exact this
    · have := ptolemy X p a q c
      rw [lenV_lt X g, lenV_lt X (show p < q by omega), lenV_com X a p, lenV_lt X h1, lenV_com X c q, lenV_lt X h3, lenV_lt X h2, lenV_com X c p, lenV_lt X (show p < c by omega)]
      grind
  · rw [srt_gt g] at h
    simp only [crs, Bool.or_eq_true, Bool.and_eq_true, Nat.blt_eq] at h
    dsimp only
    rcases h with ⟨h1, h2, h3⟩ | ⟨h1, h2, h3⟩
    · have := ptolemy X c p a q
      rw [lenV_com X a c, lenV_lt X g, lenV_lt X (show p < q by omega), lenV_com X a p, lenV_lt X h2, lenV_lt X (show c < q by omega), lenV_lt X h3, lenV_lt X h1]
      grind
    · have := ptolemy X p c q a
      rw [lenV_com X a c, lenV_lt X g, lenV_lt X (show p < q by omega), lenV_com X a p, lenV_lt X (show p < a by omega), lenV_lt X h2, lenV_com X a q, lenV_lt X h3, lenV_com X c p, lenV_lt X h1]
      grind
end Go.Proofs.Ytfcgcgmleogamaa.Ab
namespace Go.Proofs.Ytfcgcgmleogamaa.Ab
open Go
set_option linter.unusedSimpArgs false
set_option linter.unusedVariables false
set_option linter.unusedSectionVars false
section
variable {K : Type} [DecidableEq K] {lt : K → K → Bool} {mul dv : K → K → K} {D : K → Prop} {chk : K → Int → Bool}
theorem insK_top {k : K} {c : Int} (ho : Ord lt) (hc : c ≠ 0) : ∀ (l : List (K × Int)), (∀ x ∈ l, lt x.1 k = true) → insK lt k c l = (k, c) :: l
  | [], _ => by simp [insK, hc]
  | x :: l, h => by
    have hx := h x (by simp)
    have hne : ¬ x.1 = k := fun e => by rw [e, ho.irr] at hx; simp at hx
    simp only [insK]
    rw [if_neg hne, if_pos hx, if_neg hc]
theorem co_prodK_cons (q : K) (x : K × Int) (a g : List (K × Int)) : co q (prodK mul (x :: a) g) = co q (mulT mul x.1 x.2 g) + co q (prodK mul a g) := by
  unfold prodK
  rw [List.flatMap_cons, co_append]
theorem prodK_mem {a g : List (K × Int)} {y : K × Int} (h : y ∈ prodK mul a g) : ∃ x ∈ a, ∃ z ∈ g, y = (mul x.1 z.1, x.2 * z.2) := by
  unfold prodK at h
  obtain ⟨x, hx, h⟩ := List.mem_flatMap.1 h
  obtain ⟨z, hz, h⟩ := List.mem_map.1 h
  exact ⟨x, hx, z, hz, h.symm⟩
/-- Division of a product by a factor. -/
theorem divGo_prod (ho : Ord lt) (ha : Act lt mul dv D) (hdm : ∀ a b, D a → D b → dv (mul a b) b = a) (hml : ∀ x y b, D x → D y → D b → lt x y = true → lt (mul x b) (mul y b) = true)
    {b : K} {d : Int} {gt : List (K × Int)} (hgd : Desc lt ((b, d) :: gt)) (hg0 : d ≠ 0) (hgD : ∀ x ∈ (b, d) :: gt, D x.1) :
    ∀ (k : Nat) (fs : List (K × Int)), Desc lt fs → Nz fs → (∀ x ∈ fs, D x.1 ∧ chk x.1 x.2 = true) → fs.length ≤ k → divGo lt mul dv chk ((b, d) :: gt) b d k (nf lt (prodK mul fs ((b, d) :: gt))) = some fs
  | k, [], _, _, _, _ => by cases k <;> rfl
  | 0, x :: fs, _, _, _, h => by simp at h
  | k + 1, x :: fs, hd, hz, hc, hk => by
    obtain ⟨hd1, hd2⟩ := List.pairwise_cons.1 hd
    have hxz := hz x (by simp)
    have hxD := (hc x (by simp)).1
    have hbD := hgD (b, d) (by simp)
    have hc0 : x.2 * d ≠ 0 := Int.mul_ne_zero hxz hg0
    have hgt := (List.pairwise_cons.1 hgd).1
    -- the greatest term
    have hrest : ∀ y ∈ mulT mul x.1 x.2 gt ++ prodK mul fs ((b, d) :: gt), lt y.1 (mul x.1 b) = true := fun y hy => by
      rcases List.mem_append.1 hy with hy | hy
      · obtain ⟨z, hzg, rfl⟩ := List.mem_map.1 hy
        exact ha.mul_lt _ _ _ hxD (hgD z (by simp [hzg])) hbD (hgt z hzg)
      · obtain ⟨u, hu, z, hzg, rfl⟩ := prodK_mem hy
        have huD := (hc u (by simp [hu])).1
        have h1 := hml _ _ b huD hxD hbD (hd1 u hu)
        rcases List.mem_cons.1 hzg with rfl | hzg
        · exact h1
        · exact ho.tr _ _ _ (ha.mul_lt _ _ _ huD (hgD z (by simp [hzg])) hbD (hgt z hzg)) h1
    have hR : nf lt (prodK mul (x :: fs) ((b, d) :: gt)) = (mul x.1 b, x.2 * d) :: nf lt (mulT mul x.1 x.2 gt ++ prodK mul fs ((b, d) :: gt)) := by
      have e : prodK mul (x :: fs) ((b, d) :: gt) = (mul x.1 b, x.2 * d) :: (mulT mul x.1 x.2 gt ++ prodK mul fs ((b, d) :: gt)) := rfl
      rw [e]
      show insK lt (mul x.1 b) (x.2 * d) (nf lt _) = _
      refine insK_top ho hc0 _ fun y hy => ?_
      obtain ⟨z, hzz, e2⟩ := nf_mem hy
      rw [← e2]
      exact hrest z hzz
    rw [hR]
    simp only [divGo]
    have h1 : (x.2 * d).tmod d = 0 := Int.mul_tmod_left _ _
    have h2 : (x.2 * d).tdiv d = x.2 := Int.mul_tdiv_cancel _ hg0
    rw [hdm _ _ hxD hbD, h1, h2, if_pos ⟨rfl, (hc x (by simp)).2⟩]
    have hnf : nf lt ((mul x.1 b, x.2 * d) :: nf lt (mulT mul x.1 x.2 gt ++ prodK mul fs ((b, d) :: gt)) ++ mulT mul x.1 (-x.2) ((b, d) :: gt)) = nf lt (prodK mul fs ((b, d) :: gt)) := by
      refine nf_unique ho (nf_desc ho _) (nf_nz _) fun q => ?_
      rw [nf_co, ← hR, co_append, nf_co, co_prodK_cons, co_mulT_neg]
      omega
    rw [hnf, divGo_prod ho ha hdm hml hgd hg0 hgD k fs hd2 (fun y hy => hz y (by simp [hy])) (fun y hy => hc y (by simp [hy])) (by simpa using hk)]
    rfl
end
end Go.Proofs.Ytfcgcgmleogamaa.Ab
namespace Go.Proofs.Ytfcgcgmleogamaa.Ab
open Go

def TTab : TT := [
  (2, ⟨.int .i64, 1, 8, [.int .i64 0]⟩),
  (3, ⟨.int .i64, 1, 8, [.int .i64 0]⟩),
  (4, ⟨.bool, 1, 1, [.bool false]⟩),
  (5, ⟨.int .u8, 1, 1, [.int .u8 0]⟩),
  (6, ⟨.int .u8, 1, 1, [.int .u8 0]⟩),
  (9, ⟨.str, 1, 16, [.string .empty]⟩),
  (22, ⟨.sl 5, 1, 24, [.slice none 0 0]⟩),
  (24, ⟨.sl 3, 1, 24, [.slice none 0 0]⟩),
  (26, ⟨.st [(0, 3), (1, 3), (2, 24)], 3, 40, [.int .i64 0, .int .i64 0, .slice none 0 0]⟩),
  (29, ⟨.sl 24, 1, 24, [.slice none 0 0]⟩),
  (42, ⟨.sl 44, 1, 24, [.slice none 0 0]⟩),
  (44, ⟨.st [(0, 3), (1, 3)], 2, 16, [.int .i64 0, .int .i64 0]⟩),
  (47, ⟨.sl 112, 1, 24, [.slice none 0 0]⟩),
  (49, ⟨.st [(0, 3), (1, 47)], 2, 32, [.int .i64 0, .slice none 0 0]⟩),
  (70, ⟨.sl 49, 1, 24, [.slice none 0 0]⟩),
  (72, ⟨.st [(0, 26), (3, 70)], 4, 64, [.int .i64 0, .int .i64 0, .slice none 0 0, .slice none 0 0]⟩),
  (77, ⟨.sl 78, 1, 24, [.slice none 0 0]⟩),
  (78, ⟨.st [(0, 3), (1, 3)], 2, 16, [.int .i64 0, .int .i64 0]⟩),
  (86, ⟨.other, 1, 8, [.pointer none]⟩),
  (89, ⟨.sl 29, 1, 24, [.slice none 0 0]⟩),
  (90, ⟨.sl 26, 1, 24, [.slice none 0 0]⟩),
  (112, ⟨.st [(0, 24), (1, 3)], 2, 32, [.slice none 0 0, .int .i64 0]⟩),
  (116, ⟨.st [(0, 3), (1, 42)], 2, 32, [.int .i64 0, .slice none 0 0]⟩),
  (123, ⟨.sl 42, 1, 24, [.slice none 0 0]⟩),
  (135, ⟨.sl 172, 1, 24, [.slice none 0 0]⟩),
  (141, ⟨.st [(0, 22), (1, 3), (2, 3)], 3, 40, [.slice none 0 0, .int .i64 0, .int .i64 0]⟩),
  (151, ⟨.other, 1, 8, [.pointer none]⟩),
  (155, ⟨.arr 8 3, 8, 64, [.int .i64 0, .int .i64 0, .int .i64 0, .int .i64 0, .int .i64 0, .int .i64 0, .int .i64 0, .int .i64 0]⟩),
  (169, ⟨.arr 2 49, 4, 64, [.int .i64 0, .slice none 0 0, .int .i64 0, .slice none 0 0]⟩),
  (172, ⟨.st [(0, 3), (1, 3)], 2, 16, [.int .i64 0, .int .i64 0]⟩),
  (173, ⟨.sl 135, 1, 24, [.slice none 0 0]⟩),
  (174, ⟨.sl 4, 1, 24, [.slice none 0 0]⟩),
  (184, ⟨.map 155 3, 1, 8, [.map none]⟩),
  (186, ⟨.st [(0, 3), (1, 184)], 2, 16, [.int .i64 0, .map none]⟩),
  (199, ⟨.sl 9, 1, 24, [.slice none 0 0]⟩),
  (201, ⟨.int .u64, 1, 8, [.int .u64 0]⟩)]
theorem tt2 : tget TTab 2 = some ⟨.int .i64, 1, 8, [.int .i64 0]⟩ := rfl
theorem tt3 : tget TTab 3 = some ⟨.int .i64, 1, 8, [.int .i64 0]⟩ := rfl
theorem tt4 : tget TTab 4 = some ⟨.bool, 1, 1, [.bool false]⟩ := rfl
theorem tt5 : tget TTab 5 = some ⟨.int .u8, 1, 1, [.int .u8 0]⟩ := rfl
theorem tt6 : tget TTab 6 = some ⟨.int .u8, 1, 1, [.int .u8 0]⟩ := rfl
theorem tt9 : tget TTab 9 = some ⟨.str, 1, 16, [.string .empty]⟩ := rfl
theorem tt22 : tget TTab 22 = some ⟨.sl 5, 1, 24, [.slice none 0 0]⟩ := rfl
theorem tt24 : tget TTab 24 = some ⟨.sl 3, 1, 24, [.slice none 0 0]⟩ := rfl
theorem tt26 : tget TTab 26 = some ⟨.st [(0, 3), (1, 3), (2, 24)], 3, 40, [.int .i64 0, .int .i64 0, .slice none 0 0]⟩ := rfl
theorem tt29 : tget TTab 29 = some ⟨.sl 24, 1, 24, [.slice none 0 0]⟩ := rfl
theorem tt42 : tget TTab 42 = some ⟨.sl 44, 1, 24, [.slice none 0 0]⟩ := rfl
theorem tt44 : tget TTab 44 = some ⟨.st [(0, 3), (1, 3)], 2, 16, [.int .i64 0, .int .i64 0]⟩ := rfl
theorem tt47 : tget TTab 47 = some ⟨.sl 112, 1, 24, [.slice none 0 0]⟩ := rfl
theorem tt49 : tget TTab 49 = some ⟨.st [(0, 3), (1, 47)], 2, 32, [.int .i64 0, .slice none 0 0]⟩ := rfl
theorem tt70 : tget TTab 70 = some ⟨.sl 49, 1, 24, [.slice none 0 0]⟩ := rfl
theorem tt72 : tget TTab 72 = some ⟨.st [(0, 26), (3, 70)], 4, 64, [.int .i64 0, .int .i64 0, .slice none 0 0, .slice none 0 0]⟩ := rfl
theorem tt77 : tget TTab 77 = some ⟨.sl 78, 1, 24, [.slice none 0 0]⟩ := rfl
theorem tt78 : tget TTab 78 = some ⟨.st [(0, 3), (1, 3)], 2, 16, [.int .i64 0, .int .i64 0]⟩ := rfl
theorem tt86 : tget TTab 86 = some ⟨.other, 1, 8, [.pointer none]⟩ := rfl
theorem tt89 : tget TTab 89 = some ⟨.sl 29, 1, 24, [.slice none 0 0]⟩ := rfl
theorem tt90 : tget TTab 90 = some ⟨.sl 26, 1, 24, [.slice none 0 0]⟩ := rfl
theorem tt112 : tget TTab 112 = some ⟨.st [(0, 24), (1, 3)], 2, 32, [.slice none 0 0, .int .i64 0]⟩ := rfl
theorem tt116 : tget TTab 116 = some ⟨.st [(0, 3), (1, 42)], 2, 32, [.int .i64 0, .slice none 0 0]⟩ := rfl
theorem tt123 : tget TTab 123 = some ⟨.sl 42, 1, 24, [.slice none 0 0]⟩ := rfl
theorem tt135 : tget TTab 135 = some ⟨.sl 172, 1, 24, [.slice none 0 0]⟩ := rfl
theorem tt141 : tget TTab 141 = some ⟨.st [(0, 22), (1, 3), (2, 3)], 3, 40, [.slice none 0 0, .int .i64 0, .int .i64 0]⟩ := rfl
theorem tt151 : tget TTab 151 = some ⟨.other, 1, 8, [.pointer none]⟩ := rfl
theorem tt155 : tget TTab 155 = some ⟨.arr 8 3, 8, 64, [.int .i64 0, .int .i64 0, .int .i64 0, .int .i64 0, .int .i64 0, .int .i64 0, .int .i64 0, .int .i64 0]⟩ := rfl
theorem tt169 : tget TTab 169 = some ⟨.arr 2 49, 4, 64, [.int .i64 0, .slice none 0 0, .int .i64 0, .slice none 0 0]⟩ := rfl
theorem tt172 : tget TTab 172 = some ⟨.st [(0, 3), (1, 3)], 2, 16, [.int .i64 0, .int .i64 0]⟩ := rfl
theorem tt173 : tget TTab 173 = some ⟨.sl 135, 1, 24, [.slice none 0 0]⟩ := rfl
theorem tt174 : tget TTab 174 = some ⟨.sl 4, 1, 24, [.slice none 0 0]⟩ := rfl
theorem tt184 : tget TTab 184 = some ⟨.map 155 3, 1, 8, [.map none]⟩ := rfl
theorem tt186 : tget TTab 186 = some ⟨.st [(0, 3), (1, 184)], 2, 16, [.int .i64 0, .map none]⟩ := rfl
theorem tt199 : tget TTab 199 = some ⟨.sl 9, 1, 24, [.slice none 0 0]⟩ := rfl
theorem tt201 : tget TTab 201 = some ⟨.int .u64, 1, 8, [.int .u64 0]⟩ := rfl
attribute [simp] tt2 tt3 tt4 tt5 tt6 tt9 tt22 tt24 tt26 tt29 tt42 tt44 tt47 tt49 tt70 tt72 tt77 tt78 tt86 tt89 tt90 tt112 tt116 tt123 tt135 tt141 tt151 tt155 tt169 tt172 tt173 tt174 tt184 tt186 tt199 tt201
def MM : List (Nat × List Bool) := [(50, [true, false]), (51, [true, false]), (54, [true]), (71, [true, false]), (72, [true, false, false]), (73, [true, false]), (108, [true, false]), (110, [true, false]), (124, [true, false]), (126, [true, false]), (130, [true, false, false]), (133, [true]), (163, [true, false]), (165, [true, false]), (166, [true, true]), (172, [true]), (173, [false, false, false, true, true]), (174, [true, false]), (187, [true, true, false, false, false, false]), (195, [true, false])]
theorem mm0 : aget [] MM 0 = [] := rfl
theorem mm1 : aget [] MM 1 = [] := rfl
theorem mm2 : aget [] MM 2 = [] := rfl
theorem mm3 : aget [] MM 3 = [] := rfl
theorem mm4 : aget [] MM 4 = [] := rfl
theorem mm5 : aget [] MM 5 = [] := rfl
theorem mm6 : aget [] MM 6 = [] := rfl
theorem mm7 : aget [] MM 7 = [] := rfl
theorem mm8 : aget [] MM 8 = [] := rfl
theorem mm9 : aget [] MM 9 = [] := rfl
theorem mm10 : aget [] MM 10 = [] := rfl
theorem mm11 : aget [] MM 11 = [] := rfl
theorem mm12 : aget [] MM 12 = [] := rfl
theorem mm13 : aget [] MM 13 = [] := rfl
theorem mm14 : aget [] MM 14 = [] := rfl
theorem mm15 : aget [] MM 15 = [] := rfl
theorem mm16 : aget [] MM 16 = [] := rfl
theorem mm17 : aget [] MM 17 = [] := rfl
theorem mm18 : aget [] MM 18 = [] := rfl
theorem mm19 : aget [] MM 19 = [] := rfl
theorem mm20 : aget [] MM 20 = [] := rfl
theorem mm21 : aget [] MM 21 = [] := rfl
theorem mm22 : aget [] MM 22 = [] := rfl
theorem mm23 : aget [] MM 23 = [] := rfl
theorem mm24 : aget [] MM 24 = [] := rfl
theorem mm25 : aget [] MM 25 = [] := rfl
theorem mm26 : aget [] MM 26 = [] := rfl
theorem mm27 : aget [] MM 27 = [] := rfl
theorem mm28 : aget [] MM 28 = [] := rfl
theorem mm29 : aget [] MM 29 = [] := rfl
theorem mm30 : aget [] MM 30 = [] := rfl
theorem mm31 : aget [] MM 31 = [] := rfl
theorem mm32 : aget [] MM 32 = [] := rfl
theorem mm33 : aget [] MM 33 = [] := rfl
theorem mm34 : aget [] MM 34 = [] := rfl
theorem mm35 : aget [] MM 35 = [] := rfl
theorem mm36 : aget [] MM 36 = [] := rfl
theorem mm37 : aget [] MM 37 = [] := rfl
theorem mm38 : aget [] MM 38 = [] := rfl
theorem mm39 : aget [] MM 39 = [] := rfl
theorem mm40 : aget [] MM 40 = [] := rfl
theorem mm41 : aget [] MM 41 = [] := rfl
theorem mm42 : aget [] MM 42 = [] := rfl
theorem mm43 : aget [] MM 43 = [] := rfl
theorem mm44 : aget [] MM 44 = [] := rfl
theorem mm45 : aget [] MM 45 = [] := rfl
theorem mm46 : aget [] MM 46 = [] := rfl
theorem mm47 : aget [] MM 47 = [] := rfl
theorem mm48 : aget [] MM 48 = [] := rfl
theorem mm49 : aget [] MM 49 = [] := rfl
theorem mm50 : aget [] MM 50 = [true, false] := rfl
theorem mm51 : aget [] MM 51 = [true, false] := rfl
theorem mm52 : aget [] MM 52 = [] := rfl
theorem mm53 : aget [] MM 53 = [] := rfl
theorem mm54 : aget [] MM 54 = [true] := rfl
theorem mm55 : aget [] MM 55 = [] := rfl
theorem mm56 : aget [] MM 56 = [] := rfl
theorem mm57 : aget [] MM 57 = [] := rfl
theorem mm58 : aget [] MM 58 = [] := rfl
theorem mm59 : aget [] MM 59 = [] := rfl
theorem mm60 : aget [] MM 60 = [] := rfl
theorem mm61 : aget [] MM 61 = [] := rfl
theorem mm62 : aget [] MM 62 = [] := rfl
theorem mm63 : aget [] MM 63 = [] := rfl
theorem mm64 : aget [] MM 64 = [] := rfl
theorem mm65 : aget [] MM 65 = [] := rfl
theorem mm66 : aget [] MM 66 = [] := rfl
theorem mm67 : aget [] MM 67 = [] := rfl
theorem mm68 : aget [] MM 68 = [] := rfl
theorem mm69 : aget [] MM 69 = [] := rfl
theorem mm70 : aget [] MM 70 = [] := rfl
theorem mm71 : aget [] MM 71 = [true, false] := rfl
theorem mm72 : aget [] MM 72 = [true, false, false] := rfl
theorem mm73 : aget [] MM 73 = [true, false] := rfl
theorem mm74 : aget [] MM 74 = [] := rfl
theorem mm75 : aget [] MM 75 = [] := rfl
theorem mm76 : aget [] MM 76 = [] := rfl
theorem mm77 : aget [] MM 77 = [] := rfl
theorem mm78 : aget [] MM 78 = [] := rfl
theorem mm79 : aget [] MM 79 = [] := rfl
theorem mm80 : aget [] MM 80 = [] := rfl
theorem mm81 : aget [] MM 81 = [] := rfl
theorem mm82 : aget [] MM 82 = [] := rfl
theorem mm83 : aget [] MM 83 = [] := rfl
theorem mm84 : aget [] MM 84 = [] := rfl
theorem mm85 : aget [] MM 85 = [] := rfl
theorem mm86 : aget [] MM 86 = [] := rfl
theorem mm87 : aget [] MM 87 = [] := rfl
theorem mm88 : aget [] MM 88 = [] := rfl
theorem mm89 : aget [] MM 89 = [] := rfl
theorem mm90 : aget [] MM 90 = [] := rfl
theorem mm91 : aget [] MM 91 = [] := rfl
theorem mm92 : aget [] MM 92 = [] := rfl
theorem mm93 : aget [] MM 93 = [] := rfl
theorem mm94 : aget [] MM 94 = [] := rfl
theorem mm95 : aget [] MM 95 = [] := rfl
theorem mm96 : aget [] MM 96 = [] := rfl
theorem mm97 : aget [] MM 97 = [] := rfl
theorem mm98 : aget [] MM 98 = [] := rfl
theorem mm99 : aget [] MM 99 = [] := rfl
theorem mm100 : aget [] MM 100 = [] := rfl
theorem mm101 : aget [] MM 101 = [] := rfl
theorem mm102 : aget [] MM 102 = [] := rfl
theorem mm103 : aget [] MM 103 = [] := rfl
theorem mm104 : aget [] MM 104 = [] := rfl
theorem mm105 : aget [] MM 105 = [] := rfl
theorem mm106 : aget [] MM 106 = [] := rfl
theorem mm107 : aget [] MM 107 = [] := rfl
theorem mm108 : aget [] MM 108 = [true, false] := rfl
theorem mm109 : aget [] MM 109 = [] := rfl
theorem mm110 : aget [] MM 110 = [true, false] := rfl
theorem mm111 : aget [] MM 111 = [] := rfl
theorem mm112 : aget [] MM 112 = [] := rfl
theorem mm113 : aget [] MM 113 = [] := rfl
theorem mm114 : aget [] MM 114 = [] := rfl
theorem mm115 : aget [] MM 115 = [] := rfl
theorem mm116 : aget [] MM 116 = [] := rfl
theorem mm117 : aget [] MM 117 = [] := rfl
theorem mm118 : aget [] MM 118 = [] := rfl
theorem mm119 : aget [] MM 119 = [] := rfl
theorem mm120 : aget [] MM 120 = [] := rfl
theorem mm121 : aget [] MM 121 = [] := rfl
theorem mm122 : aget [] MM 122 = [] := rfl
theorem mm123 : aget [] MM 123 = [] := rfl
theorem mm124 : aget [] MM 124 = [true, false] := rfl
theorem mm125 : aget [] MM 125 = [] := rfl
theorem mm126 : aget [] MM 126 = [true, false] := rfl
theorem mm127 : aget [] MM 127 = [] := rfl
theorem mm128 : aget [] MM 128 = [] := rfl
theorem mm129 : aget [] MM 129 = [] := rfl
theorem mm130 : aget [] MM 130 = [true, false, false] := rfl
theorem mm131 : aget [] MM 131 = [] := rfl
theorem mm132 : aget [] MM 132 = [] := rfl
theorem mm133 : aget [] MM 133 = [true] := rfl
theorem mm134 : aget [] MM 134 = [] := rfl
theorem mm135 : aget [] MM 135 = [] := rfl
theorem mm136 : aget [] MM 136 = [] := rfl
theorem mm137 : aget [] MM 137 = [] := rfl
theorem mm138 : aget [] MM 138 = [] := rfl
theorem mm139 : aget [] MM 139 = [] := rfl
theorem mm140 : aget [] MM 140 = [] := rfl
theorem mm141 : aget [] MM 141 = [] := rfl
theorem mm142 : aget [] MM 142 = [] := rfl
theorem mm143 : aget [] MM 143 = [] := rfl
theorem mm144 : aget [] MM 144 = [] := rfl
theorem mm145 : aget [] MM 145 = [] := rfl
theorem mm146 : aget [] MM 146 = [] := rfl
theorem mm147 : aget [] MM 147 = [] := rfl
theorem mm148 : aget [] MM 148 = [] := rfl
theorem mm149 : aget [] MM 149 = [] := rfl
theorem mm150 : aget [] MM 150 = [] := rfl
theorem mm151 : aget [] MM 151 = [] := rfl
theorem mm152 : aget [] MM 152 = [] := rfl
theorem mm153 : aget [] MM 153 = [] := rfl
theorem mm154 : aget [] MM 154 = [] := rfl
theorem mm155 : aget [] MM 155 = [] := rfl
theorem mm156 : aget [] MM 156 = [] := rfl
theorem mm157 : aget [] MM 157 = [] := rfl
theorem mm158 : aget [] MM 158 = [] := rfl
theorem mm159 : aget [] MM 159 = [] := rfl
theorem mm160 : aget [] MM 160 = [] := rfl
theorem mm161 : aget [] MM 161 = [] := rfl
theorem mm162 : aget [] MM 162 = [] := rfl
theorem mm163 : aget [] MM 163 = [true, false] := rfl
theorem mm164 : aget [] MM 164 = [] := rfl
theorem mm165 : aget [] MM 165 = [true, false] := rfl
theorem mm166 : aget [] MM 166 = [true, true] := rfl
theorem mm167 : aget [] MM 167 = [] := rfl
theorem mm168 : aget [] MM 168 = [] := rfl
theorem mm169 : aget [] MM 169 = [] := rfl
theorem mm170 : aget [] MM 170 = [] := rfl
theorem mm171 : aget [] MM 171 = [] := rfl
theorem mm172 : aget [] MM 172 = [true] := rfl
theorem mm173 : aget [] MM 173 = [false, false, false, true, true] := rfl
theorem mm174 : aget [] MM 174 = [true, false] := rfl
theorem mm175 : aget [] MM 175 = [] := rfl
theorem mm176 : aget [] MM 176 = [] := rfl
theorem mm177 : aget [] MM 177 = [] := rfl
theorem mm178 : aget [] MM 178 = [] := rfl
theorem mm179 : aget [] MM 179 = [] := rfl
theorem mm180 : aget [] MM 180 = [] := rfl
theorem mm181 : aget [] MM 181 = [] := rfl
theorem mm182 : aget [] MM 182 = [] := rfl
theorem mm183 : aget [] MM 183 = [] := rfl
theorem mm184 : aget [] MM 184 = [] := rfl
theorem mm185 : aget [] MM 185 = [] := rfl
theorem mm186 : aget [] MM 186 = [] := rfl
theorem mm187 : aget [] MM 187 = [true, true, false, false, false, false] := rfl
theorem mm188 : aget [] MM 188 = [] := rfl
theorem mm189 : aget [] MM 189 = [] := rfl
theorem mm190 : aget [] MM 190 = [] := rfl
theorem mm191 : aget [] MM 191 = [] := rfl
theorem mm192 : aget [] MM 192 = [] := rfl
theorem mm193 : aget [] MM 193 = [] := rfl
theorem mm194 : aget [] MM 194 = [] := rfl
theorem mm195 : aget [] MM 195 = [true, false] := rfl
theorem mm196 : aget [] MM 196 = [] := rfl
theorem mm197 : aget [] MM 197 = [] := rfl
theorem mm198 : aget [] MM 198 = [] := rfl
theorem mm199 : aget [] MM 199 = [] := rfl
theorem mm200 : aget [] MM 200 = [] := rfl
theorem mm201 : aget [] MM 201 = [] := rfl
theorem mm202 : aget [] MM 202 = [] := rfl
theorem mm203 : aget [] MM 203 = [] := rfl
theorem mm204 : aget [] MM 204 = [] := rfl
theorem mm205 : aget [] MM 205 = [] := rfl
theorem mm206 : aget [] MM 206 = [] := rfl
theorem mm207 : aget [] MM 207 = [] := rfl
theorem mm208 : aget [] MM 208 = [] := rfl
theorem mm209 : aget [] MM 209 = [] := rfl
theorem mm210 : aget [] MM 210 = [] := rfl
theorem mm211 : aget [] MM 211 = [] := rfl
theorem mm212 : aget [] MM 212 = [] := rfl
theorem mm213 : aget [] MM 213 = [] := rfl
theorem mm214 : aget [] MM 214 = [] := rfl
theorem mm215 : aget [] MM 215 = [] := rfl
theorem mm216 : aget [] MM 216 = [] := rfl
theorem mm217 : aget [] MM 217 = [] := rfl
theorem mm218 : aget [] MM 218 = [] := rfl
theorem mm219 : aget [] MM 219 = [] := rfl
theorem mm220 : aget [] MM 220 = [] := rfl
theorem mm221 : aget [] MM 221 = [] := rfl
theorem mm222 : aget [] MM 222 = [] := rfl
theorem mm223 : aget [] MM 223 = [] := rfl
theorem mm224 : aget [] MM 224 = [] := rfl
theorem mm225 : aget [] MM 225 = [] := rfl
theorem mm226 : aget [] MM 226 = [] := rfl
theorem mm227 : aget [] MM 227 = [] := rfl
attribute [simp] mm0 mm1 mm2 mm3 mm4 mm5 mm6 mm7 mm8 mm9 mm10 mm11 mm12 mm13 mm14 mm15 mm16 mm17 mm18 mm19 mm20 mm21 mm22 mm23 mm24 mm25 mm26 mm27 mm28 mm29 mm30 mm31 mm32 mm33 mm34 mm35 mm36 mm37 mm38 mm39 mm40 mm41 mm42 mm43 mm44 mm45 mm46 mm47 mm48 mm49 mm50 mm51 mm52 mm53 mm54 mm55 mm56 mm57 mm58 mm59 mm60 mm61 mm62 mm63 mm64 mm65 mm66 mm67 mm68 mm69 mm70 mm71 mm72 mm73 mm74 mm75 mm76 mm77 mm78 mm79 mm80 mm81 mm82 mm83 mm84 mm85 mm86 mm87 mm88 mm89 mm90 mm91 mm92 mm93 mm94 mm95 mm96 mm97 mm98 mm99 mm100 mm101 mm102 mm103 mm104 mm105 mm106 mm107 mm108 mm109 mm110 mm111 mm112 mm113 mm114 mm115 mm116 mm117 mm118 mm119 mm120 mm121 mm122 mm123 mm124 mm125 mm126 mm127 mm128 mm129 mm130 mm131 mm132 mm133 mm134 mm135 mm136 mm137 mm138 mm139 mm140 mm141 mm142 mm143 mm144 mm145 mm146 mm147 mm148 mm149 mm150 mm151 mm152 mm153 mm154 mm155 mm156 mm157 mm158 mm159 mm160 mm161 mm162 mm163 mm164 mm165 mm166 mm167 mm168 mm169 mm170 mm171 mm172 mm173 mm174 mm175 mm176 mm177 mm178 mm179 mm180 mm181 mm182 mm183 mm184 mm185 mm186 mm187 mm188 mm189 mm190 mm191 mm192 mm193 mm194 mm195 mm196 mm197 mm198 mm199 mm200 mm201 mm202 mm203 mm204 mm205 mm206 mm207 mm208 mm209 mm210 mm211 mm212 mm213 mm214 mm215 mm216 mm217 mm218 mm219 mm220 mm221 mm222 mm223 mm224 mm225 mm226 mm227
namespace F
abbrev laws_FnCrossings : Nat := 5
abbrev laws_big : Nat := 9
abbrev spec_DrawFlips : Nat := 23
abbrev laws_laurents : Nat := 27
abbrev impl_ArcLaurent : Nat := 28
abbrev impl_CrossingsOf : Nat := 29
abbrev impl_IsPositive : Nat := 30
abbrev impl_DiagonalsCross : Nat := 31
abbrev spec_MonomialLaurent : Nat := 32
abbrev laws_ints : Nat := 33
abbrev impl_DenominatorOf : Nat := 34
abbrev spec_l1New : Nat := 53
abbrev slices_Clone_int_int : Nat := 57
abbrev impl_within : Nat := 60
abbrev impl_unit : Nat := 63
abbrev spec_l1In : Nat := 69
abbrev spec_dTriangulation : Nat := 71
abbrev spec_dSteps : Nat := 72
abbrev spec_dDiagonal : Nat := 73
abbrev impl_MulLaurents : Nat := 74
abbrev impl_AddLaurents : Nat := 76
abbrev impl_IsTriangulation : Nat := 77
abbrev impl_IsDiagonal : Nat := 78
abbrev impl_lengths_of : Nat := 79
abbrev impl_LaurentOk : Nat := 80
abbrev slices_ContainsFunc_impl_Term_impl_Term : Nat := 81
abbrev impl_IsPositive_1 : Nat := 82
abbrev spec_l1Ints : Nat := 83
abbrev spec_l2Right : Nat := 84
abbrev slices_ContainsFunc_int_int : Nat := 90
abbrev slices_Index_impl_Diagonal_impl_Diagonal : Nat := 95
abbrev impl_MonomialLaurent : Nat := 96
abbrev spec_l1Below : Nat := 124
abbrev spec_TriangulationsOf : Nat := 125
abbrev spec_dNames : Nat := 126
abbrev spec_l5All : Nat := 127
abbrev impl_bothOk : Nat := 128
abbrev impl_newBuilding : Nat := 129
abbrev impl_building_add : Nat := 130
abbrev impl_plusExp : Nat := 131
abbrev impl_keyOf : Nat := 132
abbrev impl_building_done : Nat := 133
abbrev impl_polygonOk : Nat := 134
abbrev impl_apart : Nat := 135
abbrev impl_beside : Nat := 136
abbrev impl_ConstantLaurent : Nat := 137
abbrev impl_lengths_known : Nat := 138
abbrev impl_DivideLaurents : Nat := 139
abbrev impl_expOk : Nat := 140
abbrev impl_coefOk : Nat := 141
abbrev slices_Compare_int_int : Nat := 142
abbrev slices_IndexFunc_impl_Term_impl_Term : Nat := 143
abbrev spec_l1Less : Nat := 144
abbrev slices_Contains_impl_Diagonal_impl_Diagonal : Nat := 146
abbrev slices_IndexFunc_int_int : Nat := 150
abbrev spec_l5Polygon : Nat := 154
abbrev spec_l5Cross : Nat := 155
abbrev spec_l1Byte : Nat := 172
abbrev spec_l5Choose : Nat := 173
abbrev slices_SortFunc_impl_Term_impl_Term : Nat := 174
abbrev impl_building_done_1 : Nat := 175
abbrev slices_ContainsFunc_impl_Diagonal_impl_Diagonal : Nat := 176
abbrev impl_apart_1 : Nat := 177
abbrev impl_expOk_1 : Nat := 178
abbrev cmp_Compare_int : Nat := 179
abbrev slices_IndexFunc_impl_Diagonal_impl_Diagonal : Nat := 193
abbrev cmp_isNaN_int : Nat := 194
end F
namespace C
noncomputable def spec_l1Ints : Ctx := { P := Try.prog, T := TTab, M := MM, nW := 0, kp := [(0, [0]), (1, [2])], lp := [], pl := [] }
noncomputable def spec_l1In : Ctx := { P := Try.prog, T := TTab, M := MM, nW := 0, kp := [(0, [0, 1, 2]), (1, [6])], lp := [], pl := [] }
noncomputable def spec_l1Less : Ctx := { P := Try.prog, T := TTab, M := MM, nW := 0, kp := [(0, [0, 1]), (1, [0, 1, 5]), (2, [0, 1, 5, 15]), (3, [0, 1, 5]), (4, [0, 1, 5, 26]), (5, [4]), (6, [4])], lp := [(0, [0, 1, 5])], pl := [(4, .take 0 (.take 1 (.take 2 (.take 3 (.take 4 (.take 5 (.take 6 (.take 7 (.take 8 (.done)))))))))), (5, .take 0 (.take 1 (.take 2 (.take 3 (.take 4 (.take 5 (.take 6 (.take 7 (.take 8 (.take 9 (.done)))))))))))] }
noncomputable def spec_l2Right : Ctx := { P := Try.prog, T := TTab, M := MM, nW := 0, kp := [(0, [1]), (1, [1, 15]), (2, [2]), (3, [1, 3]), (4, [1, 3, 20]), (5, [1, 3]), (6, [1, 3, 4]), (7, [1, 3, 4, 61]), (8, [2]), (9, [1, 3, 4, 5]), (10, [1, 3, 4, 5, 65]), (11, [1, 3, 4, 5]), (12, [1, 3, 4, 5, 74]), (13, [2]), (14, [2])], lp := [(0, [1, 3]), (2, [1, 3, 4, 5])], pl := [(7, .take 0 (.take 1 (.take 2 (.take 3 (.take 4 (.take 5 (.take 6 (.take 7 (.take 8 (.take 9 (.take 10 (.take 11 (.take 12 (.take 13 (.all [(14, .take 15 (.take 16 (.take 17 (.take 18 (.take 19 (.take 20 (.take 21 (.take 22 (.take 23 (.take 24 (.take 25 (.take 26 (.take 27 (.take 28 (.take 29 (.all [(30, .take 31 (.take 32 (.take 33 (.done))))]))))))))))))))))])))))))))))))))] }
noncomputable def spec_MonomialLaurent : Ctx := { P := Try.prog, T := TTab, M := MM, nW := 0, kp := [(0, [0, 2]), (1, [2, 3]), (2, [2, 3, 13]), (3, [2]), (4, [2])], lp := [], pl := [] }
noncomputable def impl_within : Ctx := { P := Try.prog, T := TTab, M := MM, nW := 0, kp := [(0, [0, 1, 2]), (1, [6])], lp := [], pl := [] }
noncomputable def slices_IndexFunc_int_int : Ctx := { P := Try.prog, T := TTab, M := MM, nW := 0, kp := [(0, [0, 1]), (1, [0, 1, 7, 8]), (2, [0, 1, 7, 8, 9]), (3, [0, 1, 5, 7, 8]), (4, [0, 1, 5, 7, 8, 16]), (5, [4]), (6, [0, 1, 7, 8]), (7, [4])], lp := [(0, [0, 1, 7, 8])], pl := [] }
noncomputable def slices_ContainsFunc_int_int : Ctx := { P := Try.prog, T := TTab, M := MM, nW := 0, kp := [(0, [0, 1]), (1, [4])], lp := [], pl := [] }
noncomputable def slices_Clone_int_int : Ctx := { P := Try.prog, T := TTab, M := MM, nW := 0, kp := [(0, [0]), (1, [0, 4]), (2, [2]), (3, [2])], lp := [], pl := [] }
noncomputable def impl_unit : Ctx := { P := Try.prog, T := TTab, M := MM, nW := 0, kp := [(0, [0, 1]), (1, [1, 5]), (2, [5]), (3, [4])], lp := [], pl := [] }
noncomputable def impl_expOk_1 : Ctx := { P := Try.prog, T := TTab, M := MM, nW := 0, kp := [(0, [0]), (1, [2])], lp := [], pl := [] }
noncomputable def impl_expOk : Ctx := { P := Try.prog, T := TTab, M := MM, nW := 0, kp := [(0, [0, 1]), (1, [4])], lp := [], pl := [] }
noncomputable def impl_MonomialLaurent : Ctx := { P := Try.prog, T := TTab, M := MM, nW := 0, kp := [(0, [0, 2]), (1, [0, 2, 13]), (2, [2]), (3, [2])], lp := [], pl := [] }
noncomputable def cmp_isNaN_int : Ctx := { P := Try.prog, T := TTab, M := MM, nW := 0, kp := [(0, [0]), (1, [2])], lp := [], pl := [] }
noncomputable def cmp_Compare_int : Ctx := { P := Try.prog, T := TTab, M := MM, nW := 0, kp := [(0, [0, 1]), (1, [0, 1, 5]), (2, [0, 1, 5, 6]), (3, [0, 1, 6, 11]), (4, [12]), (5, [4]), (6, [4]), (7, [0, 1, 13]), (8, [4]), (9, [0, 1, 16]), (10, [4]), (11, [19]), (12, [4]), (13, [4])], lp := [], pl := [] }
noncomputable def slices_Compare_int_int : Ctx := { P := Try.prog, T := TTab, M := MM, nW := 0, kp := [(0, [0, 1]), (1, [0, 1, 9, 10, 11]), (2, [0, 1, 9, 10, 11, 12]), (3, [0, 1, 5, 6, 9, 10, 11]), (4, [0, 1, 5, 6, 9, 10, 11, 19]), (5, [4]), (6, [0, 1, 6, 7, 9, 10, 11]), (7, [0, 1, 8, 9, 10, 11]), (8, [0, 1, 8, 9, 10, 11, 28]), (9, [4]), (10, [0, 1, 9, 10, 11]), (11, [35]), (12, [4]), (13, [4])], lp := [(0, [0, 1, 9, 10, 11])], pl := [] }
noncomputable def impl_coefOk : Ctx := { P := Try.prog, T := TTab, M := MM, nW := 0, kp := [(0, [0]), (1, [2])], lp := [], pl := [] }
noncomputable def impl_LaurentOk : Ctx := { P := Try.prog, T := TTab, M := MM, nW := 0, kp := [(0, [1]), (1, [1, 14]), (2, [2]), (3, [1, 16, 17, 18]), (4, [1, 16, 17, 18, 19]), (5, [1, 3, 4, 16, 17, 18]), (6, [1, 16, 17, 18, 51]), (7, [2]), (8, [1, 16, 17, 18]), (9, [2])], lp := [(0, [1, 16, 17, 18])], pl := [(6, .take 0 (.take 1 (.take 2 (.take 3 (.all [(4, .take 5 (.take 6 (.take 7 (.take 8 (.all [(9, .take 10 (.take 11 (.take 12 (.take 13 (.take 14 (.take 15 (.take 16 (.take 17 (.take 18 (.take 19 (.take 20 (.take 21 (.take 22 (.take 23 (.take 24 (.all [(25, .take 26 (.take 27 (.take 28 (.done))))]))))))))))))))))])))))])))))] }
noncomputable def impl_bothOk : Ctx := { P := Try.prog, T := TTab, M := MM, nW := 0, kp := [(0, [2, 3]), (1, [4])], lp := [], pl := [] }
noncomputable def impl_newBuilding : Ctx := { P := Try.prog, T := TTab, M := MM, nW := 0, kp := [(0, [0]), (1, [2])], lp := [], pl := [] }
noncomputable def impl_building_add : Ctx := { P := Try.prog, T := TTab, M := MM, nW := 1, kp := [(0, [0, 2, 4]), (1, [0, 2, 4]), (2, [0, 2, 4, 15]), (3, []), (4, [])], lp := [], pl := [(1, .take 0 (.take 1 (.take 2 (.take 3 (.take 4 (.take 5 (.take 6 (.take 7 (.take 8 (.done)))))))))), (3, .take 0 (.take 1 (.take 2 (.take 3 (.take 4 (.all [(5, .done)])))))), (4, .take 0 (.take 1 (.take 2 (.take 3 (.take 4 (.take 5 (.all [(6, .done)])))))))] }
noncomputable def impl_plusExp : Ctx := { P := Try.prog, T := TTab, M := MM, nW := 0, kp := [(0, [1, 3, 5, 6]), (1, [1, 3, 5, 6, 8]), (2, [1, 3, 5, 6, 8, 9]), (3, [1, 3, 5, 6, 7, 8]), (4, [1, 3, 5, 6, 8]), (5, [1, 3, 5, 6, 8]), (6, [6])], lp := [(0, [1, 3, 5, 6, 8])], pl := [(4, .take 0 (.take 1 (.take 2 (.take 3 (.take 4 (.take 5 (.take 6 (.take 7 (.take 8 (.take 9 (.all [(10, .done)])))))))))))] }
noncomputable def impl_keyOf : Ctx := { P := Try.prog, T := TTab, M := MM, nW := 0, kp := [(0, [0, 2]), (1, [0, 2, 3]), (2, [2, 3]), (3, [2])], lp := [], pl := [] }
noncomputable def slices_SortFunc_impl_Term_impl_Term : Ctx := { P := Try.prog, T := TTab, M := MM, nW := 0, kp := [(0, [0, 1, 4]), (1, [])], lp := [], pl := [] }
noncomputable def impl_building_done_1 : Ctx := { P := Try.prog, T := TTab, M := MM, nW := 0, kp := [(0, [2, 3]), (1, [4])], lp := [], pl := [] }
noncomputable def impl_building_done : Ctx := { P := Try.prog, T := TTab, M := MM, nW := 1, kp := [(0, [0, 2]), (1, [0, 2, 4]), (2, [0, 2, 4, 17]), (3, [2, 3]), (4, [0, 2, 4, 23]), (5, [0, 2, 4, 23, 25]), (6, [0, 2, 4, 5, 6, 23]), (7, [0, 2, 4, 23]), (8, [2, 4]), (9, [2, 4, 47]), (10, [2, 3]), (11, [2, 3])], lp := [(0, [0, 2, 4, 23])], pl := [(7, .take 0 (.take 1 (.take 2 (.take 3 (.take 4 (.take 5 (.take 6 (.take 8 (.all [(7, .take 9 (.all [(10, .all [(11, .take 12 (.all [(13, .done)]))])]))])))))))))] }
noncomputable def impl_MulLaurents : Ctx := { P := Try.prog, T := TTab, M := MM, nW := 0, kp := [(0, [2, 3, 4]), (1, [2, 3, 4, 14]), (2, [4, 5]), (3, [2, 3, 4, 6]), (4, [3, 4, 6, 20, 21, 22]), (5, [3, 4, 6, 20, 21, 22, 23]), (6, [3, 4, 6, 8, 20, 21, 22]), (7, [3, 4, 6, 8, 20, 21, 22, 27, 28, 29]), (8, [3, 4, 6, 8, 20, 21, 22, 27, 28, 29, 30]), (9, [3, 4, 6, 8, 10, 20, 21, 22, 27, 28, 29]), (10, [3, 4, 6, 8, 20, 21, 22, 27, 28, 29]), (11, [3, 4, 6, 8, 20, 21, 22, 27, 28, 29]), (12, [3, 4, 6, 20, 21, 22]), (13, [4, 5])], lp := [(0, [3, 4, 6, 20, 21, 22]), (2, [3, 4, 6, 8, 20, 21, 22, 27, 28, 29])], pl := [(10, .take 0 (.take 1 (.take 2 (.take 4 (.take 5 (.take 8 (.take 9 (.take 10 (.take 11 (.take 12 (.all [(3, .all [(6, .all [(7, .all [(13, .done)])])])])))))))))))] }
noncomputable def impl_DenominatorOf : Ctx := { P := Try.prog, T := TTab, M := MM, nW := 0, kp := [(0, [1]), (1, [1, 16]), (2, [2]), (3, [1, 3]), (4, [1, 3, 21, 22]), (5, [1, 3, 21, 22, 23]), (6, [1, 3, 4, 21, 22]), (7, [1, 3, 4, 5, 21, 22]), (8, [1, 3, 4, 5, 21, 22, 26, 27, 28]), (9, [1, 3, 4, 5, 21, 22, 26, 27, 28, 29]), (10, [1, 3, 4, 5, 7, 21, 22, 26, 27, 28]), (11, [1, 3, 4, 5, 21, 22, 26, 27, 28]), (12, [1, 3, 4, 5, 21, 22, 26, 27, 28]), (13, [1, 3, 21, 22]), (14, [1, 3, 21, 22]), (15, [2])], lp := [(0, [1, 3, 21, 22]), (2, [1, 3, 4, 5, 21, 22, 26, 27, 28])], pl := [] }
noncomputable def impl_ConstantLaurent : Ctx := { P := Try.prog, T := TTab, M := MM, nW := 0, kp := [(0, [0, 1, 4]), (1, [0, 1, 4, 12]), (2, [4]), (3, [0, 1, 4, 15]), (4, [4]), (5, [4])], lp := [], pl := [] }
noncomputable def impl_DivideLaurents : Ctx := { P := Try.prog, T := TTab, M := MM, nW := 0, kp := [(0, [2, 3, 4]), (1, [2, 3, 4, 28]), (2, [4, 5]), (3, [2, 3, 4, 6]), (4, [2, 3, 4, 6, 34, 35, 36]), (5, [2, 3, 4, 6, 34, 35, 36, 37]), (6, [2, 3, 4, 6, 8, 34, 35, 36]), (7, [2, 3, 4, 6, 34, 35, 36]), (8, [2, 3, 4, 6, 34, 35, 36]), (9, [2, 3, 4, 6, 9]), (10, [2, 3, 4, 6, 9, 10]), (11, [2, 3, 4, 6, 9, 10, 60]), (12, [2, 3, 4, 6, 9, 10, 11]), (13, [2, 3, 4, 6, 9, 10, 11, 12]), (14, [2, 3, 4, 6, 9, 10, 11, 12, 65]), (15, [2, 3, 4, 6, 9, 10, 11, 12, 65, 67]), (16, [2, 3, 4, 6, 9, 10, 11, 12, 13, 65]), (17, [2, 3, 4, 6, 9, 10, 11, 12, 13, 65, 76]), (18, [2, 3, 4, 6, 9, 10, 11, 12, 65]), (19, [2, 3, 4, 6, 9, 10, 11, 14]), (20, [2, 3, 4, 6, 9, 10, 14, 15]), (21, [2, 3, 4, 6, 9, 10, 14, 15, 16]), (22, [2, 3, 4, 6, 9, 10, 15, 16, 119]), (23, [4, 5]), (24, [2, 3, 4, 6, 9, 10, 15, 16]), (25, [2, 3, 4, 6, 9, 10, 15, 16, 126, 127, 128]), (26, [2, 3, 4, 6, 9, 10, 15, 16, 126, 127, 128, 129]), (27, [2, 3, 4, 6, 9, 10, 15, 16, 18, 126, 127, 128]), (28, [2, 3, 4, 6, 9, 10, 15, 16, 126, 127, 128]), (29, [2, 3, 4, 6, 9, 10, 15, 16, 126, 127, 128]), (30, [4, 5])], lp := [(0, [2, 3, 4, 6, 34, 35, 36]), (2, [2, 3, 4, 6, 9, 10]), (4, [2, 3, 4, 6, 9, 10, 11, 12, 65]), (6, [2, 3, 4, 6, 9, 10, 15, 16, 126, 127, 128])], pl := [(7, .take 0 (.take 1 (.take 2 (.take 4 (.take 5 (.all [(3, .all [(6, .done)])])))))), (17, .take 0 (.take 1 (.take 2 (.take 3 (.all [(4, .take 5 (.take 6 (.done)))]))))), (19, .take 0 (.take 1 (.take 2 (.take 3 (.take 4 (.take 5 (.take 6 (.done)))))))), (20, .take 0 (.take 1 (.take 2 (.all [(3, .all [(4, .all [(5, .all [(6, .done)])]), (5, .all [(4, .all [(6, .done)])])]), (5, .all [(3, .all [(4, .all [(6, .done)])])])])))), (22, .take 0 (.take 1 (.take 2 (.take 3 (.take 4 (.take 5 (.take 6 (.take 7 (.take 8 (.take 9 (.take 10 (.all [(11, .take 12 (.take 13 (.take 14 (.take 15 (.all [(16, .take 17 (.take 18 (.take 19 (.take 20 (.take 21 (.take 22 (.take 23 (.take 24 (.take 25 (.take 26 (.done)))))))))))])))))])))))))))))), (28, .take 0 (.take 1 (.take 2 (.take 3 (.take 6 (.take 7 (.take 8 (.take 9 (.take 10 (.all [(4, .all [(5, .all [(11, .done)])])]))))))))))] }
noncomputable def impl_AddLaurents : Ctx := { P := Try.prog, T := TTab, M := MM, nW := 0, kp := [(0, [1, 3, 5, 6]), (1, [1, 3, 5, 6, 21]), (2, [6, 7]), (3, [1, 3, 5, 6, 8]), (4, [1, 5, 6, 8, 27, 28, 29]), (5, [1, 5, 6, 8, 27, 28, 29, 30]), (6, [1, 5, 6, 8, 10, 27, 28, 29]), (7, [1, 5, 6, 8, 27, 28, 29]), (8, [1, 5, 6, 8, 27, 28, 29]), (9, [1, 6, 8, 42, 43, 44]), (10, [1, 6, 8, 42, 43, 44, 45]), (11, [1, 6, 8, 12, 42, 43, 44]), (12, [1, 6, 8, 42, 43, 44]), (13, [1, 6, 8, 42, 43, 44]), (14, [6, 7])], lp := [(0, [1, 5, 6, 8, 27, 28, 29]), (2, [1, 6, 8, 42, 43, 44])], pl := [(7, .take 0 (.take 1 (.take 2 (.take 4 (.take 5 (.all [(3, .all [(6, .done)])])))))), (12, .take 0 (.take 1 (.take 2 (.take 4 (.take 5 (.take 6 (.take 7 (.all [(3, .all [(8, .done)])]))))))))] }
noncomputable def laws_big : Ctx := { P := Try.prog, T := TTab, M := MM, nW := 0, kp := [(0, [0]), (1, [2])], lp := [], pl := [] }
noncomputable def spec_l1New : Ctx := { P := Try.prog, T := TTab, M := MM, nW := 0, kp := [(0, [0]), (1, [0, 3]), (2, [0, 3, 4]), (3, [0, 3, 4, 15]), (4, [0, 3, 4]), (5, [0, 3, 4]), (6, [2])], lp := [(0, [0, 3, 4])], pl := [] }
noncomputable def spec_l1Byte : Ctx := { P := Try.prog, T := TTab, M := MM, nW := 1, kp := [(0, [0]), (1, [0]), (2, [0, 3]), (3, [0, 3, 34]), (4, [0, 3]), (5, [3]), (6, [2])], lp := [], pl := [(2, .take 0 (.take 1 (.take 2 (.take 3 (.take 4 (.take 5 (.take 6 (.take 7 (.take 8 (.take 9 (.take 10 (.take 11 (.take 12 (.done)))))))))))))), (3, .take 0 (.take 1 (.take 2 (.take 3 (.take 4 (.take 5 (.take 6 (.take 7 (.take 8 (.take 9 (.done))))))))))), (4, .take 0 (.take 1 (.take 2 (.take 3 (.take 4 (.take 5 (.take 6 (.take 7 (.take 8 (.take 9 (.take 10 (.take 11 (.take 12 (.take 13 (.take 14 (.done))))))))))))))))] }
noncomputable def spec_l1Below : Ctx := { P := Try.prog, T := TTab, M := MM, nW := 1, kp := [(0, [0, 1]), (1, [0, 1, 10]), (2, [4]), (3, [0, 1, 12]), (4, [4]), (5, [0, 1, 5]), (6, [0, 1, 5, 6]), (7, [0, 1, 5, 6, 7]), (8, [1, 5, 6, 7, 8]), (9, [4])], lp := [], pl := [] }
noncomputable def laws_ints : Ctx := { P := Try.prog, T := TTab, M := MM, nW := 0, kp := [(0, [0, 1]), (1, [0, 1, 10]), (2, [4]), (3, [0, 1, 5]), (4, [0, 1, 5, 14]), (5, [0, 1, 5]), (6, [0, 1, 5, 25]), (7, [4]), (8, [4])], lp := [(0, [0, 1, 5])], pl := [(6, .take 0 (.take 1 (.take 2 (.take 3 (.take 4 (.take 5 (.take 6 (.take 7 (.take 8 (.done))))))))))] }
noncomputable def laws_laurents : Ctx := { P := Try.prog, T := TTab, M := MM, nW := 0, kp := [(0, [2, 3]), (1, [2, 3, 19]), (2, [4]), (3, [2, 3, 5]), (4, [2, 3, 5, 24]), (5, [2, 3, 5]), (6, [2, 3, 5, 55]), (7, [4]), (8, [4])], lp := [(0, [2, 3, 5])], pl := [(6, .take 0 (.take 1 (.take 2 (.take 3 (.take 4 (.take 5 (.take 6 (.take 7 (.take 8 (.take 9 (.take 10 (.take 11 (.take 12 (.take 13 (.take 14 (.take 15 (.take 16 (.take 17 (.take 18 (.take 19 (.take 20 (.take 21 (.take 22 (.take 23 (.take 24 (.take 25 (.all [(26, .take 27 (.take 28 (.done)))])))))))))))))))))))))))))))] }
noncomputable def impl_IsPositive : Ctx := { P := Try.prog, T := TTab, M := MM, nW := 0, kp := [(0, [1]), (1, [2])], lp := [], pl := [] }
noncomputable def impl_IsPositive_1 : Ctx := { P := Try.prog, T := TTab, M := MM, nW := 0, kp := [(0, [1]), (1, [2])], lp := [], pl := [] }
noncomputable def slices_IndexFunc_impl_Term_impl_Term : Ctx := { P := Try.prog, T := TTab, M := MM, nW := 0, kp := [(0, [0, 1]), (1, [0, 1, 7, 8]), (2, [0, 1, 7, 8, 9]), (3, [0, 1, 5, 7, 8]), (4, [0, 1, 5, 7, 8, 16]), (5, [4]), (6, [0, 1, 7, 8]), (7, [4])], lp := [(0, [0, 1, 7, 8])], pl := [] }
noncomputable def slices_ContainsFunc_impl_Term_impl_Term : Ctx := { P := Try.prog, T := TTab, M := MM, nW := 0, kp := [(0, [0, 1]), (1, [4])], lp := [], pl := [] }
noncomputable def spec_dNames : Ctx := { P := Try.prog, T := TTab, M := MM, nW := 1, kp := [(0, [0, 1]), (1, [0, 1, 5]), (2, [0, 1, 5, 6]), (3, [0, 1, 5, 6, 11]), (4, [0, 1, 5, 6]), (5, [0, 1, 5, 6, 7]), (6, [0, 1, 5, 6]), (7, [4])], lp := [(0, [0, 1, 5, 6])], pl := [(6, .take 1 (.take 2 (.take 3 (.take 5 (.take 8 (.take 9 (.take 10 (.all [(0, .all [(4, .all [(6, .all [(7, .all [(11, .take 12 (.done))])])]), (6, .all [(4, .all [(7, .all [(11, .take 12 (.done))])])])]), (6, .all [(0, .all [(4, .all [(7, .all [(11, .take 12 (.done))])])])])]))))))))] }
noncomputable def spec_dSteps : Ctx := { P := Try.prog, T := TTab, M := MM, nW := 1, kp := [(0, [0, 1, 2]), (1, [0, 1, 2, 7]), (2, [0, 1, 7, 8]), (3, [0, 1, 7, 8, 9]), (4, [0, 1, 7, 8, 9, 17]), (5, [0, 1, 7, 8, 9]), (6, [0, 1, 7, 8, 9]), (7, [6])], lp := [(0, [0, 1, 7, 8, 9])], pl := [] }
noncomputable def impl_polygonOk : Ctx := { P := Try.prog, T := TTab, M := MM, nW := 0, kp := [(0, [0]), (1, [2])], lp := [], pl := [] }
noncomputable def impl_beside : Ctx := { P := Try.prog, T := TTab, M := MM, nW := 0, kp := [(0, [0, 1, 2]), (1, [6])], lp := [], pl := [] }
noncomputable def impl_IsDiagonal : Ctx := { P := Try.prog, T := TTab, M := MM, nW := 0, kp := [(0, [0, 3]), (1, [4])], lp := [], pl := [] }
noncomputable def impl_DiagonalsCross : Ctx := { P := Try.prog, T := TTab, M := MM, nW := 0, kp := [(0, [0, 4, 5]), (1, [4, 5, 44]), (2, [6]), (3, [6])], lp := [], pl := [(3, .take 0 (.take 1 (.take 2 (.take 3 (.take 4 (.take 5 (.take 7 (.take 8 (.take 9 (.take 10 (.take 11 (.take 12 (.all [(6, .all [(13, .take 14 (.take 15 (.done)))])])))))))))))))] }
noncomputable def slices_IndexFunc_impl_Diagonal_impl_Diagonal : Ctx := { P := Try.prog, T := TTab, M := MM, nW := 0, kp := [(0, [0, 1]), (1, [0, 1, 7, 8]), (2, [0, 1, 7, 8, 9]), (3, [0, 1, 5, 7, 8]), (4, [0, 1, 5, 7, 8, 16]), (5, [4]), (6, [0, 1, 7, 8]), (7, [4])], lp := [(0, [0, 1, 7, 8])], pl := [] }
noncomputable def slices_ContainsFunc_impl_Diagonal_impl_Diagonal : Ctx := { P := Try.prog, T := TTab, M := MM, nW := 0, kp := [(0, [0, 1]), (1, [4])], lp := [], pl := [] }
noncomputable def slices_Index_impl_Diagonal_impl_Diagonal : Ctx := { P := Try.prog, T := TTab, M := MM, nW := 0, kp := [(0, [0, 3]), (1, [0, 3, 7, 8]), (2, [0, 3, 7, 8, 9]), (3, [0, 3, 5, 7, 8]), (4, [0, 3, 5, 7, 8, 16]), (5, [4]), (6, [0, 3, 7, 8]), (7, [4])], lp := [(0, [0, 3, 7, 8])], pl := [(4, .take 0 (.take 1 (.take 2 (.take 3 (.take 4 (.take 5 (.done)))))))] }
noncomputable def slices_Contains_impl_Diagonal_impl_Diagonal : Ctx := { P := Try.prog, T := TTab, M := MM, nW := 0, kp := [(0, [0, 3]), (1, [4])], lp := [], pl := [] }
noncomputable def impl_apart_1 : Ctx := { P := Try.prog, T := TTab, M := MM, nW := 0, kp := [(0, [1, 2, 3]), (1, [4])], lp := [], pl := [] }
noncomputable def impl_apart : Ctx := { P := Try.prog, T := TTab, M := MM, nW := 0, kp := [(0, [1, 3, 5]), (1, [6])], lp := [], pl := [] }
noncomputable def impl_IsTriangulation : Ctx := { P := Try.prog, T := TTab, M := MM, nW := 0, kp := [(0, [0, 1]), (1, [0, 1, 16]), (2, [4]), (3, [0, 1, 17, 18, 19]), (4, [0, 1, 17, 18, 19, 20]), (5, [0, 1, 5, 6, 17, 18, 19]), (6, [0, 1, 17, 18, 19, 36]), (7, [4]), (8, [0, 1, 17, 18, 19]), (9, [4])], lp := [(0, [0, 1, 17, 18, 19])], pl := [(6, .take 0 (.take 1 (.all [(2, .take 3 (.take 4 (.take 5 (.take 6 (.take 7 (.take 8 (.take 9 (.all [(10, .take 11 (.take 12 (.done)))]))))))))])))] }
noncomputable def impl_lengths_of : Ctx := { P := Try.prog, T := TTab, M := MM, nW := 0, kp := [(0, [1, 2, 3, 6]), (1, [1, 2, 3, 6, 8]), (2, [1, 2, 3, 6, 8, 37]), (3, [6, 7]), (4, [1, 2, 3, 6, 8, 9]), (5, [1, 2, 3, 6, 8, 9, 47]), (6, [6, 7]), (7, [1, 2, 3, 6, 8, 55, 56, 57]), (8, [1, 2, 3, 6, 8, 55, 56, 57, 58]), (9, [1, 2, 3, 6, 8, 10, 11, 55, 56, 57]), (10, [1, 2, 3, 6, 8, 10, 11, 55, 56, 57, 83]), (11, [1, 2, 3, 6, 10, 11, 12, 13]), (12, [1, 2, 3, 6, 10, 11, 12, 13, 14, 15]), (13, [2, 3, 6, 10, 11, 12, 13, 14, 15, 16, 17]), (14, [3, 6, 10, 12, 13, 14, 15, 16, 17, 18, 19]), (15, [3, 6, 10, 13, 15, 16, 17, 18, 19, 20, 21]), (16, [3, 6, 10, 13, 15, 17, 19, 20, 21, 22, 23]), (17, [3, 6, 10, 13, 15, 17, 19, 21, 23, 24, 25]), (18, [3, 6, 10, 24, 159]), (19, [6, 7]), (20, [6, 7]), (21, [1, 2, 3, 6, 8, 55, 56, 57]), (22, [6, 7])], lp := [(0, [1, 2, 3, 6, 8, 55, 56, 57])], pl := [(20, .take 0 (.take 1 (.take 2 (.take 3 (.take 4 (.all [(5, .all [(6, .all [(7, .take 8 (.take 9 (.all [(10, .take 11 (.done))])))])])]))))))] }
noncomputable def impl_lengths_known : Ctx := { P := Try.prog, T := TTab, M := MM, nW := 0, kp := [(0, [1, 2, 3]), (1, [6])], lp := [], pl := [] }
noncomputable def impl_ArcLaurent : Ctx := { P := Try.prog, T := TTab, M := MM, nW := 0, kp := [(0, [0, 1, 5, 6]), (1, [0, 1, 5, 6, 17]), (2, [6, 7]), (3, [6, 7])], lp := [], pl := [] }
noncomputable def spec_l5Polygon : Ctx := { P := Try.prog, T := TTab, M := MM, nW := 0, kp := [(0, [0]), (1, [2])], lp := [], pl := [] }
noncomputable def spec_l5Cross : Ctx := { P := Try.prog, T := TTab, M := MM, nW := 0, kp := [(0, [2, 3]), (1, [4])], lp := [], pl := [] }
noncomputable def spec_l5All : Ctx := { P := Try.prog, T := TTab, M := MM, nW := 0, kp := [(0, [0]), (1, [0, 3]), (2, [0, 3, 4]), (3, [0, 3, 4, 9]), (4, [0, 3, 4]), (5, [0, 3, 4, 5]), (6, [0, 3, 4, 5, 16]), (7, [0, 3, 4, 5]), (8, [0, 3, 4, 5, 26]), (9, [0, 3, 4, 5]), (10, [2])], lp := [(0, [0, 3, 4]), (2, [0, 3, 4, 5])], pl := [] }
noncomputable def spec_l5Choose : Ctx := { P := Try.prog, T := TTab, M := MM, nW := 2, kp := [(0, [0, 1, 2, 3, 4]), (1, [0, 1, 2, 3, 4, 18]), (2, [10]), (3, [0, 1, 3, 4, 11]), (4, [0, 1, 3, 4, 11, 27]), (5, [0, 1, 3, 4, 11]), (6, [0, 1, 3, 4, 11, 12]), (7, [0, 1, 3, 4, 11, 12, 13]), (8, [0, 1, 3, 4, 11, 12, 13, 33]), (9, [0, 1, 3, 4, 11, 12, 13]), (10, [0, 1, 3, 4, 11, 12, 13]), (11, [0, 1, 3, 4, 11, 49]), (12, [0, 1, 3, 4, 11]), (13, [10])], lp := [(0, [0, 1, 3, 4, 11]), (2, [0, 1, 3, 4, 11, 12, 13])], pl := [(10, .take 0 (.take 1 (.take 2 (.take 3 (.take 4 (.take 5 (.take 6 (.take 7 (.take 8 (.take 9 (.all [(10, .take 11 (.take 12 (.take 13 (.done))))]))))))))))), (12, .take 0 (.take 1 (.take 2 (.take 3 (.take 5 (.take 7 (.take 8 (.take 9 (.take 13 (.all [(4, .all [(6, .take 10 (.all [(11, .all [(12, .all [(14, .take 15 (.done))])])])), (10, .all [(6, .all [(11, .all [(12, .all [(14, .take 15 (.done))])])]), (11, .all [(6, .all [(12, .all [(14, .take 15 (.done))])])])])]), (10, .all [(4, .all [(6, .all [(11, .all [(12, .all [(14, .take 15 (.done))])])]), (11, .all [(6, .all [(12, .all [(14, .take 15 (.done))])])])]), (11, .all [(4, .all [(6, .all [(12, .all [(14, .take 15 (.done))])])])])])]))))))))))] }
noncomputable def spec_TriangulationsOf : Ctx := { P := Try.prog, T := TTab, M := MM, nW := 0, kp := [(0, [0]), (1, [0, 5]), (2, [2]), (3, [2])], lp := [], pl := [] }
noncomputable def spec_dTriangulation : Ctx := { P := Try.prog, T := TTab, M := MM, nW := 1, kp := [(0, [0, 1]), (1, [0, 6]), (2, [0, 6, 7]), (3, [0, 6, 8]), (4, [0, 6, 8, 9]), (5, [6, 8, 9, 10]), (6, [6, 8, 9, 10, 11]), (7, [6, 8, 9, 10, 11, 34]), (8, [6, 8, 9, 10, 11]), (9, [6, 8, 9, 10, 11]), (10, [4, 5])], lp := [(0, [6, 8, 9, 10, 11])], pl := [] }
noncomputable def spec_dDiagonal : Ctx := { P := Try.prog, T := TTab, M := MM, nW := 1, kp := [(0, [0, 1, 4]), (1, [0, 4, 5]), (2, [4])], lp := [], pl := [] }
noncomputable def spec_DrawFlips : Ctx := { P := Try.prog, T := TTab, M := MM, nW := 0, kp := [(0, [0, 5]), (1, [5, 6]), (2, [5, 6, 7, 8]), (3, [2, 3, 4, 5])], lp := [], pl := [] }
noncomputable def laws_FnCrossings : Ctx := { P := Try.prog, T := TTab, M := MM, nW := 0, kp := [(0, [0]), (1, [0, 14]), (2, [2]), (3, [3, 4, 6]), (4, [3, 4, 6, 7, 8]), (5, [3, 4, 6, 7, 8, 9]), (6, [3, 4, 6, 7, 9, 46]), (7, [2]), (8, [3, 4, 6, 7, 9, 10]), (9, [3, 4, 6, 7, 9, 10, 11]), (10, [3, 4, 6, 7, 9, 10, 11, 50]), (11, [3, 4, 6, 7, 9, 10, 11]), (12, [3, 4, 6, 7, 9, 10, 11]), (13, [3, 4, 6, 7, 9, 10, 11, 71]), (14, [2]), (15, [3, 4, 6, 7, 9, 10, 11, 77]), (16, [7, 10, 11, 12]), (17, [7, 10, 12]), (18, [2]), (19, [2])], lp := [(0, [3, 4, 6, 7, 9, 10, 11])], pl := [(13, .take 0 (.take 1 (.take 2 (.take 3 (.take 4 (.take 5 (.take 6 (.take 7 (.take 8 (.take 9 (.take 10 (.all [(11, .take 12 (.done))])))))))))))), (15, .take 0 (.take 1 (.take 2 (.take 3 (.take 4 (.take 5 (.done))))))), (18, .take 0 (.take 1 (.all [(2, .all [(3, .take 4 (.take 5 (.take 6 (.take 7 (.take 8 (.done))))))])])))] }
noncomputable def impl_CrossingsOf : Ctx := { P := Try.prog, T := TTab, M := MM, nW := 0, kp := [(0, [0, 1, 5]), (1, [0, 1, 5, 19]), (2, [6]), (3, [0, 1, 5, 7]), (4, [0, 5, 7, 20, 21, 22]), (5, [0, 5, 7, 20, 21, 22, 23]), (6, [0, 5, 7, 9, 20, 21, 22]), (7, [0, 5, 7, 20, 21, 22, 29]), (8, [0, 5, 7, 20, 21, 22]), (9, [0, 5, 7, 20, 21, 22]), (10, [0, 5, 7, 20, 21, 22]), (11, [6])], lp := [(0, [0, 5, 7, 20, 21, 22])], pl := [] }
end C
end Go.Proofs.Ytfcgcgmleogamaa.Ab
