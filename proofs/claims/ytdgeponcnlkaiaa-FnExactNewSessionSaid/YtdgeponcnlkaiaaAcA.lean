/- All operations, guarded ones, and regions in the order of the text. No condition. -/
import Derived.Test.YtdgeponcnlkaiaaAbZ
namespace Go.Proofs.Ytdgeponcnlkaiaa.Ab
open Go
set_option linter.unusedSimpArgs false
set_option linter.unusedVariables false
set_option linter.unusedSectionVars false

section
variable {w0 w : World} {fp0 : List Nat} {ok0 ok : Nat → Prop} {W : Nat → Value} {n : Nat} {σ : St} {θ : Nat → Value} {ρ : Rn → Value} {φ : Rn → List Nat} {a : Act}

theorem FRL_append : ∀ {fs gs : List FV} {us vs : List Value}, FRL w ok σ ρ fs us → FRL w ok σ ρ gs vs → FRL w ok σ ρ (fs ++ gs) (us ++ vs)
  | [], gs, us, vs, h, k => by
    simp only [FRL] at h
    subst h
    simpa using k
  | f :: fs, gs, us, vs, h, k => by
    simp only [FRL] at h
    obtain ⟨u, us', rfl, h1, h2⟩ := h
    simp only [List.cons_append, FRL]
    exact ⟨u, us' ++ vs, rfl, h1, FRL_append h2 k⟩
theorem FRL_map : ∀ {xs : List Operand}, (∀ x ∈ xs, FR w ok σ ρ (opv σ x) (a.eval x)) → FRL w ok σ ρ (xs.map (opv σ)) (xs.map a.eval)
  | [], _ => by simp [FRL]
  | x :: xs, h => by
    simp only [List.map_cons, FRL]
    exact ⟨_, _, rfl, h x (List.mem_cons_self ..), FRL_map fun y hy => h y (List.mem_cons_of_mem _ hy)⟩
theorem FRL_sh : ∀ {caps : List D} {vs : List Value}, ShV w ok caps vs → FRL w ok σ ρ (caps.map .d) vs
  | [], vs, h => by
    simp only [ShV] at h
    simp [FRL, h]
  | c :: caps, vs, h => by
    simp only [ShV] at h
    obtain ⟨u, us, rfl, h1, h2⟩ := h
    simp only [List.map_cons, FRL, FR]
    exact ⟨u, us, rfl, h1, FRL_sh h2⟩

theorem run_call_func {C : Ctx} {o : Oper} {c : Call} {f : Operand} {g : Nat} {captured : Array Value} (hop : o.op = .call c) (hcb : c.callee = .value f) (hf : a.eval f = .func (.func g) #[] captured) (h : Callable C.P g) :
    (execOp a.eval o).run C.P w = .ok (.enter g (c.args.map a.eval ++ captured)) w := by
  obtain ⟨fn, cd, h1, h2, h3⟩ := h
  have h4 : ¬ fn.name = "runtime.NumGoroutine" := by simpa using h3
  simp [execOp, hop, resolve, hcb, hf, Deferred.ofValue, invoke, callFunc, h1, h2, h4]

theorem op_sound {C : Ctx} (hT : tabB C.P C.T = true) (hz : C.nW = 0 → fp0 = []) {o : Oper} (ho : smallO n o = true) {K : St → Prop} (hk : AOp C o σ K) (h : Stx w0 fp0 ok0 W n σ a w ok θ ρ φ) : Ends C.P o a w K (fun σ' a' w' => Ste w0 fp0 ok0 W n σ' a' w' ∧ (keepsB C.M o.op = true → Later w w')) := by
  have later : ∀ {S : St → Act → World → Prop}, Ends C.P o a w K (fun σ' a' w' => S σ' a' w' ∧ Later w w') → Ends C.P o a w K (fun σ' a' w' => S σ' a' w' ∧ (keepsB C.M o.op = true → Later w w')) := fun h => h.mono fun _ _ _ hh => ⟨hh.1, fun _ => hh.2⟩
  have never : ∀ {S : St → Act → World → Prop}, keepsB C.M o.op = false → Ends C.P o a w K S → Ends C.P o a w K (fun σ' a' w' => S σ' a' w' ∧ (keepsB C.M o.op = true → Later w w')) := fun hn h => h.mono fun _ _ _ hh => ⟨hh, fun h1 => by rw [hn] at h1; simp at h1⟩
  unfold AOp at hk
  split at hk
  case h_15 op t x y t' hop =>
    split at hk
    · rename_i hy
      exact never (by rw [hop]; simp [keepsB, silB, hy]) (nil_sound hT ho hop hy hk h)
    · exact later (silK_sound hT ho hk h)
  case h_16 t hop => exact later (alloc_sound hT ho hop hk h)
  case h_17 t x hop =>
    split at hk
    · exact later (fb_sound ho hop hk h)
    · exact later (box_sound hT ho hop hk h)
  case h_18 t len parts hop => exact later (buildSlice_sound hT ho hop hk h)
  case h_19 t l c hop => exact later (make_sound hT ho hop hk h)
  case h_20 t r hop =>
    split at hk
    · rename_i d hd
      exact later (makeMap_sound ho hop hd hk.1 hk.2 h)
    · exact hk.elim
  case h_21 t x y hop =>
    split at hk
    · rename_i d hd
      have hx : x = .tmp d := by
        unfold frzB at hd
        split at hd
        · rename_i d'
          split at hd
          · injection hd with hd
            rw [hd]
          · simp at hd
        · simp at hd
      exact never (by rw [hop]; rfl) (frz_sound hT hz ho hop hx hk h)
    · exact never (by rw [hop]; rfl) (store_sound hT ho hop hk h)
  case h_22 t m k x hop => exact never (by rw [hop]; rfl) (mapUpd_sound hT ho hop hk h)
  case h_23 t m hop => exact never (by rw [hop]; rfl) (range_sound hT ho hop hk h)
  case h_24 x s hop => exact never (by rw [hop]; rfl) (next_sound ho hop hk h)
  case h_25 c hop =>
    split at hk
    · rename_i b hb
      unfold ABuiltin at hk
      split at hk
      · exact later (silK_sound hT ho hk h)
      · exact later (silK_sound hT ho hk h)
      · exact later (silK_sound hT ho hk h)
      · split at hk
        · rename_i s x t t' ha ht
          exact never (by rw [hop]; simp [keepsB, hb]) (append_sound hT ho hop hb ha ht hk h)
        · exact hk.elim
      · split at hk
        · rename_i s x t t' ha ht
          exact never (by rw [hop]; simp [keepsB, hb]) (copy_sound hT ho hop hb ha ht hk h)
        · exact hk.elim
      · split at hk
        · rename_i s x t t' ha ht
          exact never (by rw [hop]; simp [keepsB, hb]) (delete_sound hT ho hop hb ha ht hk h)
        · exact hk.elim
      · exact hk.elim
    · rename_i f hf
      have calls : ∀ (_ : o.op = .call c) (_ : c.callee = .value f) (g : Nat) (_ : FV), (∀ g', f = .func g' → g' = g) → Ends C.P o a w K (fun σ' a' w' => Ste w0 fp0 ok0 W n σ' a' w' ∧ ((aget [] C.M g).any id = false → Later w w')) →
          Ends C.P o a w K (fun σ' a' w' => Ste w0 fp0 ok0 W n σ' a' w' ∧ (keepsB C.M o.op = true → Later w w')) := fun hop hf g _ hg h => h.mono fun _ _ _ hh => ⟨hh.1, fun hkb => hh.2 (by
        rw [hop] at hkb
        simp only [keepsB, hf] at hkb
        split at hkb
        · rename_i g' _
          rw [hg g' rfl] at hkb
          simpa using hkb
        · simp at hkb)⟩
      have hops : ∀ x ∈ c.args.toList, FR w ok σ ρ (opv σ x) (a.eval x) := fun x hx => h.ops ho x (by
        rw [hop]
        simp only [Op.operands, Call.operands, hf, Array.toList_append, List.mem_append]
        exact .inr hx)
      have hfv : FR w ok σ ρ (opv σ f) (a.eval f) := h.ops ho f (by rw [hop]; simp [Op.operands, Call.operands, hf])
      split at hk
      · rename_i g caps hg
        rw [hg] at hfv
        simp only [FR, Sh] at hfv
        obtain ⟨vs, e, h3⟩ := hfv
        refine calls hop hf g .dead (fun g' hg' => by subst hg'; simp [opv] at hg; exact hg.1) (call_sound ho (fun hc => run_call_func hop hf e hc) hk h ?_)
        rw [Array.toList_append, Array.toList_map]
        exact FRL_append (FRL_map hops) (FRL_sh h3)
      · rename_i g caps hg
        rw [hg] at hfv
        simp only [FR] at hfv
        obtain ⟨vs, e, h3⟩ := hfv
        refine calls hop hf g .dead (fun g' hg' => by subst hg'; simp [opv] at hg) (call_sound ho (fun hc => run_call_func hop hf e hc) hk h ?_)
        rw [Array.toList_append, Array.toList_map]
        exact FRL_append (FRL_map hops) h3
      · exact hk.elim
    · exact hk.elim
  case h_26 => exact hk.elim
  all_goals exact later (silK_sound hT ho hk h)

/-! ### Guards -/
def smallOps (n : Nat) (ops : Array Oper) : Bool := ops.toList.all (smallO n)
theorem small_get {ops : Array Oper} {i : Nat} {o : Oper} (h : smallOps n ops = true) (hi : ops[i]? = some o) : smallO n o = true := by
  simp only [smallOps, List.all_eq_true] at h
  exact h o (by simpa using Array.mem_of_getElem? hi)

/-- The step of one number of a region. -/
theorem FR_skip : FR w ok σ ρ (.tu []) undef := by
  simp only [FR, FRL]
  exact ⟨#[], rfl, rfl⟩
theorem unwanted_skip (h : Stx w0 fp0 ok0 W n σ a w ok θ ρ φ) {ops : Array Oper} {o : Oper} {t j : Nat} {want : Bool} (htn : t < n) (hb : σ.env t = .tu []) (hg : o.guard = some (j, want)) (ht : (ops[j]?).bind (·.dst) = some t) : Region.wanted o (yielded ops a.tmps) = false := by
  have hev : a.eval (.tmp t) = undef := by
    have h1 := h.opv (x := .tmp t) (by simpa [smallX] using htn)
    have h2 : opv σ (.tmp t) = .tu [] := hb
    rw [h2] at h1
    simp only [FR, FRL] at h1
    obtain ⟨vs, e1, e2⟩ := h1
    rw [e1]
    have : vs = #[] := by
      apply Array.ext'
      simpa using e2
    rw [this]
    rfl
  have hy : yielded ops a.tmps j = none := by
    have hlt : t < a.tmps.size := by rw [h.sz]; exact htn
    have h1 : a.tmps[t]? = some undef := by
      have : a.tmps.getD t undef = undef := hev
      rw [Array.getD_eq_getD_getElem?, Array.getElem?_eq_getElem hlt] at this
      rw [Array.getElem?_eq_getElem hlt]
      simpa using this
    unfold yielded
    rw [ht]
    simp [h1, undef]
  simp [Region.wanted, hg, hy]
theorem opG_sound {C : Ctx} (hT : tabB C.P C.T = true) (hz : C.nW = 0 → fp0 = []) {ops : Array Oper} (hsm : smallOps n ops = true) {i : Nat} {o : Oper} (hi : ops[i]? = some o) {K : St → Prop} (hk : AOpG C ops o σ K) (h : Stx w0 fp0 ok0 W n σ a w ok θ ρ φ)
    (Kc : Act → World → Prop) (Q : Exit → Act → World → Prop) (hK : ∀ σ' a' w', K σ' → Ste w0 fp0 ok0 W n σ' a' w' → (keepsB C.M o.op = true → Later w w') → Kc a' w') : wpOp C.P ops Q i Kc a w := by
  have hK' : ∀ σ' a' w', K σ' → (Ste w0 fp0 ok0 W n σ' a' w' ∧ (keepsB C.M o.op = true → Later w w')) → Kc a' w' := fun σ' a' w' h1 h2 => hK σ' a' w' h1 h2.1 h2.2
  have ho := small_get hsm hi
  unfold wpOp
  simp only [hi]
  unfold AOpG at hk
  split at hk
  · rename_i hg
    have hw : Region.wanted o (yielded ops a.tmps) = true := by simp [Region.wanted, hg]
    rw [if_pos hw]
    exact .inl (op_sound hT hz ho hk h Kc Q hK')
  · rename_i j want hg
    split at hk
    · rename_i t ht
      split at hk
      · rename_i b hb
        have htn : t < n := by
          cases hj : ops[j]? with
          | none => simp [hj] at ht
          | some oj =>
            simp only [hj, Option.bind_some] at ht
            exact small_dst (small_get hsm hj) t ht
        have hev : a.eval (.tmp t) = .bool b := by
          have h1 := h.opv (x := .tmp t) (by simpa [smallX] using htn)
          have h2 : opv σ (.tmp t) = .d (.v (.bool b)) := hb
          rw [h2] at h1
          exact FR_v h1
        have hy : yielded ops a.tmps j = some b := by
          have hlt : t < a.tmps.size := by rw [h.sz]; exact htn
          have h1 : a.tmps[t]? = some (.bool b) := by
            have : a.tmps.getD t undef = .bool b := hev
            rw [Array.getD_eq_getD_getElem?, Array.getElem?_eq_getElem hlt] at this
            rw [Array.getElem?_eq_getElem hlt]
            simpa using this
          unfold yielded
          rw [ht]
          simp [h1]
        have hwant : Region.wanted o (yielded ops a.tmps) = (b == want) := by
          simp [Region.wanted, hg, hy]
        rw [hwant]
        by_cases hbw : b = want
        · subst hbw
          simp only [beq_self_eq_true, if_true]
          exact .inl (op_sound hT hz ho (hk.1 rfl) h Kc Q hK')
        · have : (b == want) = false := by simpa using hbw
          rw [this]
          simp only [Bool.false_eq_true, if_false]
          obtain ⟨θ', h3⟩ := h.put (dst := o.dst) (small_dst ho) (f := .tu []) (v := undef) (FR_skip)
          exact hK _ _ _ (hk.2 hbw) ⟨_, _, _, _, h3⟩ (fun _ => Later.refl w)
      · rename_i hb
        have htn : t < n := by
          cases hj : ops[j]? with
          | none => simp [hj] at ht
          | some oj =>
            simp only [hj, Option.bind_some] at ht
            exact small_dst (small_get hsm hj) t ht
        rw [unwanted_skip h htn hb hg ht]
        simp only [Bool.false_eq_true, if_false]
        obtain ⟨θ', h3⟩ := h.put (dst := o.dst) (small_dst ho) (f := .tu []) (v := undef) (FR_skip)
        exact hK _ _ _ hk ⟨_, _, _, _, h3⟩ (fun _ => Later.refl w)
      · exact hk.elim
    · exact hk.elim

end
end Go.Proofs.Ytdgeponcnlkaiaa.Ab
