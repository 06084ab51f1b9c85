/- Regions: in the order of the text, and in any order. No condition. -/
import Derived.Test.YtdgeponcnlkaiaaAcA
namespace Go.Proofs.Ytdgeponcnlkaiaa.Ab
open Go
set_option linter.unusedSimpArgs false
set_option linter.unusedVariables false
set_option linter.unusedSectionVars false

section
variable {w0 w : World} {fp0 : List Nat} {ok0 ok : Nat → Prop} {W : Nat → Value} {n : Nat} {σ : St} {θ : Nat → Value} {ρ : Rn → Value} {φ : Rn → List Nat} {a : Act} {P : Program} {ops : Array Oper} {Q : Exit → Act → World → Prop}

/-! ### In the order of the text -/
theorem ops_sound {C : Ctx} (hT : tabB C.P C.T = true) (hz : C.nW = 0 → fp0 = []) (hsm : smallOps n ops = true) : ∀ (m i : Nat) (σ : St) (a : Act) (w : World) (K : St → Prop), i + m = ops.size → AOps C ops (ops.toList.drop i) σ K → Ste w0 fp0 ok0 W n σ a w →
    (∀ σ' a' w', K σ' → Ste w0 fp0 ok0 W n σ' a' w' → Q .normal a' w') → wpOps C.P ops Q (List.range' i m) a w
  | 0, i, σ, a, w, K, hi, hk, hs, hK => by
    rw [List.drop_eq_nil_of_le (by simp; omega)] at hk
    exact hK σ a w hk hs
  | m + 1, i, σ, a, w, K, hi, hk, hs, hK => by
    have hlt : i < ops.toList.length := by simp; omega
    have ho : ops[i]? = some ops.toList[i] := by simp [hlt]
    rw [List.drop_eq_getElem_cons hlt] at hk
    simp only [AOps] at hk
    obtain ⟨ok, θ, ρ, φ, hs⟩ := hs
    rw [List.range'_succ, wpOps_cons]
    refine opG_sound hT hz hsm ho hk hs _ _ fun σ' a' w' hk' hs' _ => ?_
    exact ops_sound hT hz hsm m (i + 1) σ' a' w' K (by omega) hk' hs' hK

/-! ### In any order -/
def wpAnyK (P : Program) (M : List (Nat × List Bool)) (ops : Array Oper) (Q : Exit → Act → World → Prop) : Nat → Array Bool → Act → World → Prop
  | 0, listed, a, w => Region.ready .any ops listed = [] ∧ Q .normal a w
  | fuel + 1, listed, a, w => (Region.ready .any ops listed = [] → Q .normal a w) ∧
    ∀ i ∈ Region.ready .any ops listed, ∀ o, ops[i]? = some o → wpOp P ops Q i (fun a' w' => (keepsB M o.op = true → Later w w') ∧ wpAnyK P M ops Q fuel (listed.setIfInBounds i true) a' w') a w

theorem wpAnyK_any {M : List (Nat × List Bool)} : ∀ (fuel : Nat) (listed : Array Bool) (a : Act) (w : World), wpAnyK P M ops Q fuel listed a w → wpAny P .any ops Q fuel listed a w
  | 0, _, _, _, h => h
  | fuel + 1, listed, a, w, h => ⟨h.1, fun i hi => by
      obtain ⟨_, o, ho, _⟩ := mem_ready.1 hi
      exact wpOp_mono (fun a' w' h' => wpAnyK_any fuel _ a' w' h'.2) (h.2 i hi o ho)⟩

def YieldsL (P : Program) (ops : Array Oper) (o : Oper) (v : Value) (rd : Bool) (a : Act) (w : World) : Prop :=
  (Region.wanted o (yielded ops a.tmps) = true ∧ ∀ w', (rd = true → Later w w') → (execOp a.eval o).run P w' = .ok (.value v) w') ∨
  (Region.wanted o (yielded ops a.tmps) = false ∧ v = undef)
theorem YieldsL.wpOp {i : Nat} {o : Oper} {v : Value} {rd : Bool} (hi : ops[i]? = some o) (hy : YieldsL P ops o v rd a w) {K : Act → World → Prop} (h : K (a.put o.dst v) w) : wpOp P ops Q i K a w := by
  unfold Go.wpOp
  simp only [hi]
  rcases hy with ⟨hw, hv⟩ | ⟨hw, rfl⟩
  · simp only [hw, if_true, Oper.wp, hv w (fun _ => Later.refl w), Oper.upon]; exact .inl h
  · simp only [hw, Bool.false_eq_true, if_false]; exact h
theorem YieldsL.of_same {o : Oper} {v : Value} {rd : Bool} {a a' : Act} {w w' : World} (hy : YieldsL P ops o v rd a w) (he : execOp a'.eval o = execOp a.eval o)
    (hw : Region.wanted o (yielded ops a'.tmps) = Region.wanted o (yielded ops a.tmps)) (hl : rd = true → Later w w') : YieldsL P ops o v rd a' w' := by
  unfold YieldsL at *
  rw [he, hw]
  exact hy.imp (fun h => ⟨h.1, fun w2 h2 => h.2 w2 fun hr => (hl hr).trans (h2 hr)⟩) id

theorem wpOp_putK {M : List (Nat × List Bool)} {j : Nat} {oi oj : Oper} {v : Value} {rd : Bool} (hj : ops[j]? = some oj) (hap : oi.apart ops oj = true) (hkp : rd = true → keepsB M oj.op = true)
    (hsi : ∀ cs b, oi.op ≠ .select cs b) (hsj : ∀ cs b, oj.op ≠ .select cs b)
    (hQ : ∀ c a w, Q (.panic c) (a.put oi.dst v) w → Q (.panic c) a w) {K : Act → World → Prop} {a : Act} {w : World}
    (hy : YieldsL P ops oi v rd a w) (h : wpOp P ops Q j (fun a' w' => (keepsB M oj.op = true → Later w w') ∧ K a' w') (a.put oi.dst v) w) :
    wpOp P ops Q j (fun a' w' => (keepsB M oj.op = true → Later w w') ∧ YieldsL P ops oi v rd a' w' ∧ K (a'.put oi.dst v) w') a w := by
  obtain ⟨h1, h2, h3⟩ := Oper.apart_spec hap
  have keep : ∀ (a : Act) (w' : World), YieldsL P ops oi v rd a w → (keepsB M oj.op = true → Later w w') → ∀ u, YieldsL P ops oi v rd (a.put oj.dst u) w' := fun a w' hy hl u =>
    hy.of_same (execOp_put oi hsi a oj.dst u h3) (wanted_put oi a oj.dst u h3) fun hr => hl (hkp hr)
  have keepD : ∀ d, YieldsL P ops oi v rd { a with defers := d :: a.defers } w := fun d => hy.of_same rfl rfl fun _ => Later.refl w
  unfold wpOp at *
  simp only [hj] at *
  rw [wanted_put oj a oi.dst v h1] at h
  split
  · rename_i hw
    simp only [hw, if_true] at h
    rcases h with h | ⟨hasks, hlets⟩
    case inr => exact .inr ⟨by unfold Oper.asks at *; rw [execOp_put oj hsj a oi.dst v h1] at hasks; exact hasks, hlets⟩
    refine .inl ?_
    unfold Oper.wp at *
    rw [execOp_put oj hsj a oi.dst v h1] at h
    generalize (execOp a.eval oj).run P w = r at *
    cases r with
    | ok n w' =>
      cases n <;> simp only [Oper.upon] at h ⊢
      case value u => exact ⟨h.1, keep a w' hy h.1 u, by rw [← Act.put_comm a v u h2]; exact h.2⟩
      case skip => exact ⟨h.1, keep a w' hy h.1 _, by rw [← Act.put_comm a v undef h2]; exact h.2⟩
      case defer d =>
        refine ⟨h.1, keep _ w' (keepD d) h.1 _, ?_⟩
        rw [← Act.put_comm _ v undef h2, ← Act.put_defers]
        exact h.2
      case enter f args =>
        refine Calls.mono h fun e w'' he => ?_
        cases e with
        | returned u => exact ⟨he.1, keep a w'' hy he.1 u, by rw [← Act.put_comm a v u h2]; exact he.2⟩
        | panicked c => exact hQ _ _ _ he
        | outgrown => exact he
      case row row args => exact Rows.mono h fun u w'' he => ⟨he.1, keep a w'' hy he.1 u, by rw [← Act.put_comm a v u h2]; exact he.2⟩
    | halt x w' =>
      cases x <;> simp only [Oper.upon] at h ⊢
      case panic u => exact hQ _ _ _ h
  · rename_i hw
    simp only [hw] at h
    exact ⟨h.1, keep a w hy h.1 _, by rw [← Act.put_comm a v undef h2]; exact h.2⟩

/-- What is listed has all it waits for listed. -/
def Closed (ops : Array Oper) (listed : Array Bool) : Prop := ∀ k o, ops[k]? = some o → listed.getD k false = true → ∀ e ∈ o.after, bindsB e = true → listed.getD e.on false = true
theorem getD_lt {listed : Array Bool} {k : Nat} (h : listed.getD k false = true) : k < listed.size := by
  rcases Nat.lt_or_ge k listed.size with h' | h'
  · exact h'
  · simp [Array.getElem?_eq_none h'] at h
theorem closed_set {listed : Array Bool} {i : Nat} (h : Closed ops listed) (hr : i ∈ Region.ready .any ops listed) : Closed ops (listed.setIfInBounds i true) := by
  intro k o hk hl e he hb
  by_cases hki : i = k
  · subst hki
    obtain ⟨_, o', ho', hall⟩ := mem_ready.1 hr
    rw [hk] at ho'
    injection ho' with ho'
    subst ho'
    exact getD_set_true (hall e he hb)
  · rw [getD_set_ne false hki] at hl
    exact getD_set_true (h k o hk hl e he hb)
theorem not_waits {listed : Array Bool} {i : Nat} (h : Closed ops listed) (hi : listed.getD i true = false) : ∀ (m k : Nat), (∀ o, ops[k]? = some o → ∀ e ∈ o.after, bindsB e = true → listed.getD e.on false = true) → waitsB ops i m k = false
  | 0, k, _ => rfl
  | m + 1, k, hk => by
    unfold waitsB
    split
    · rename_i oj hoj
      rw [Bool.eq_false_iff]
      intro hany
      rw [Bool.or_eq_true] at hany
      rcases hany with hany | hany
      · obtain ⟨e, he, hb⟩ := Array.any_eq_true'.1 hany
        simp only [Bool.and_eq_true, beq_iff_eq] at hb
        have hle := hk oj hoj e he hb.1
        rw [hb.2] at hle
        have := getD_lt hle
        simp [this] at hi hle
        rw [hi] at hle
        simp at hle
      · obtain ⟨e, he, hb⟩ := Array.any_eq_true'.1 hany
        simp only [Bool.and_eq_true] at hb
        have hle := hk oj hoj e he hb.1
        have h2 := hb.2.2
        rw [not_waits h hi m e.on (fun o ho e' he' hb' => h e.on o ho hle e' he' hb')] at h2
        simp at h2
    · rfl

theorem wpAnyK_first {M : List (Nat × List Bool)} {i : Nat} {oi : Oper} {v : Value} {rd : Bool} (hi : ops[i]? = some oi) (hsel : ∀ (j : Nat) (o : Oper) cs b, ops[j]? = some o → o.op ≠ .select cs b)
    (hQ : ∀ c a w, Q (.panic c) (a.put oi.dst v) w → Q (.panic c) a w) :
    ∀ (fuel : Nat) (listed : Array Bool) (a : Act) (w : World), Closed ops listed →
      (∀ j oj, ops[j]? = some oj → j ≠ i → listed.getD j true = false → waitsB ops i ops.size j = false → oi.apart ops oj = true ∧ (rd = true → keepsB M oj.op = true)) →
      i ∈ Region.ready .any ops listed → YieldsL P ops oi v rd a w →
      wpAnyK P M ops Q fuel (listed.setIfInBounds i true) (a.put oi.dst v) w → wpAnyK P M ops Q (fuel + 1) listed a w := by
  intro fuel
  induction fuel with
  | zero =>
    intro listed a w _ _ hr hy H
    refine ⟨fun h => (by rw [h] at hr; cases hr), fun j hj o ho => ?_⟩
    by_cases hji : j = i
    · subst hji
      exact hy.wpOp hi ⟨fun _ => Later.refl w, H⟩
    · have := ready_mono hj hji
      rw [H.1] at this
      cases this
  | succ fuel ih =>
    intro listed a w hcl hfree hr hy H
    refine ⟨fun h => (by rw [h] at hr; cases hr), fun j hj o ho => ?_⟩
    by_cases hji : j = i
    · subst hji
      exact hy.wpOp hi ⟨fun _ => Later.refl w, H⟩
    · have h1 := H.2 j (ready_mono hj hji) o ho
      obtain ⟨hjun, oj, hoj, hall⟩ := mem_ready.1 hj
      rw [ho] at hoj
      injection hoj with hoj
      subst hoj
      have hiun := (mem_ready.1 hr).1
      have hnw : waitsB ops i ops.size j = false := not_waits hcl hiun _ _ fun o' ho' e he hb => by
        rw [ho] at ho'
        injection ho' with ho'
        subst ho'
        exact hall e he hb
      obtain ⟨f1, f2⟩ := hfree j o ho hji hjun hnw
      have h2 := wpOp_putK (M := M) ho f1 f2 (fun cs b => hsel i oi cs b hi) (fun cs b => hsel j o cs b ho) hQ hy h1
      refine wpOp_mono (fun a' w' h3 => ⟨h3.1, ih (listed.setIfInBounds j true) a' w' (closed_set hcl hj) (fun k ok hk hki hun hno => hfree k ok hk hki ?_ hno) (ready_mono hr (Ne.symm hji)) h3.2.1 ?_⟩) h2
      · by_cases hjk : j = k
        · subst hjk; exact hjun
        · rw [getD_set_ne true hjk] at hun; exact hun
      · rw [Array.setIfInBounds_comm _ _ hji]
        exact h3.2.2

theorem AOp_sil {C : Ctx} {o : Oper} {K : St → Prop} (hs : silB o.op = true) (hk : AOp C o σ K) : silK C o σ K := by
  unfold AOp at hk
  split at hk <;> rename_i hop <;> first
    | exact hk
    | (rw [hop] at hs; simp [silB] at hs; done)
    | skip
  · rw [hop] at hs
    simp only [silB, Bool.not_eq_true'] at hs
    rw [hs] at hk
    simpa using hk
  · rw [hop] at hs
    simp only [silB] at hs
    split at hs
    · rename_i b hb
      rw [hb] at hk
      simp only at hk
      unfold ABuiltin at hk
      split at hs <;> first | exact hk | (simp at hs; done)
    · simp at hs
  · exact hk.elim

theorem silG_sound {C : Ctx} (hT : tabB C.P C.T = true) (hsm : smallOps n ops = true) {i : Nat} {o : Oper} (hi : ops[i]? = some o) {K : St → Prop} (hs : silB o.op = true) (hk : AOpG C ops o σ K) (h : Stx w0 fp0 ok0 W n σ a w ok θ ρ φ) :
    ∃ v σ', K σ' ∧ Ste w0 fp0 ok0 W n σ' (a.put o.dst v) w ∧ YieldsL C.P ops o v (readsB o.op) a w := by
  have ho := small_get hsm hi
  have main : ∀ K', AOp C o σ K' → Region.wanted o (yielded ops a.tmps) = true → ∃ v σ', K' σ' ∧ Ste w0 fp0 ok0 W n σ' (a.put o.dst v) w ∧ YieldsL C.P ops o v (readsB o.op) a w := by
    intro K' hk' hw
    have := AOp_sil hs hk'
    unfold silK at this
    split at this
    · rename_i c f hsil
      obtain ⟨v, h1, h2⟩ := sil_sound hT h.rel a o hsil this.1 (h.ops ho)
      obtain ⟨θ', h3⟩ := h.put (dst := o.dst) (small_dst ho) h1
      exact ⟨v, _, this.2, ⟨_, _, _, _, h3⟩, .inl ⟨hw, h2⟩⟩
    · exact this.elim
  unfold AOpG at hk
  split at hk
  · rename_i hg
    exact main K hk (by simp [Region.wanted, hg])
  · rename_i j want hg
    split at hk
    · rename_i t ht
      split at hk
      · rename_i b hb
        have htn : t < n := by
          cases hj : ops[j]? with
          | none => simp [hj] at ht
          | some oj =>
            simp only [hj, Option.bind_some] at ht
            exact small_dst (small_get hsm hj) t ht
        have hev : a.eval (.tmp t) = .bool b := by
          have h1 := h.opv (x := .tmp t) (by simpa [smallX] using htn)
          have h2 : opv σ (.tmp t) = .d (.v (.bool b)) := hb
          rw [h2] at h1
          exact FR_v h1
        have hy : yielded ops a.tmps j = some b := by
          have hlt : t < a.tmps.size := by rw [h.sz]; exact htn
          have h1 : a.tmps[t]? = some (.bool b) := by
            have : a.tmps.getD t undef = .bool b := hev
            rw [Array.getD_eq_getD_getElem?, Array.getElem?_eq_getElem hlt] at this
            rw [Array.getElem?_eq_getElem hlt]
            simpa using this
          unfold yielded
          rw [ht]
          simp [h1]
        have hwant : Region.wanted o (yielded ops a.tmps) = (b == want) := by
          simp [Region.wanted, hg, hy]
        by_cases hbw : b = want
        · exact main K (hk.1 hbw) (by rw [hwant]; simpa using hbw)
        · obtain ⟨θ', h3⟩ := h.put (dst := o.dst) (small_dst ho) (f := .tu []) (v := undef) (FR_skip)
          exact ⟨undef, _, hk.2 hbw, ⟨_, _, _, _, h3⟩, .inr ⟨by rw [hwant]; simpa using hbw, rfl⟩⟩
      · rename_i hb
        have htn : t < n := by
          cases hj : ops[j]? with
          | none => simp [hj] at ht
          | some oj =>
            simp only [hj, Option.bind_some] at ht
            exact small_dst (small_get hsm hj) t ht
        obtain ⟨θ', h3⟩ := h.put (dst := o.dst) (small_dst ho) (f := .tu []) (v := undef) (FR_skip)
        exact ⟨undef, _, hk, ⟨_, _, _, _, h3⟩, .inr ⟨unwanted_skip h htn hb hg ht, rfl⟩⟩
      · exact hk.elim
    · exact hk.elim

def unl (listed : Array Bool) : Nat := listed.toList.count false
theorem count_set : ∀ (l : List Bool) (i : Nat), l[i]? = some false → (l.set i true).count false + 1 = l.count false
  | [], i, h => by simp at h
  | x :: l, 0, h => by
    simp only [List.getElem?_cons_zero, Option.some.injEq] at h
    subst h
    simp
  | x :: l, i + 1, h => by
    simp only [List.getElem?_cons_succ] at h
    have := count_set l i h
    simp only [List.set_cons_succ, List.count_cons]
    omega
theorem unl_set {listed : Array Bool} {i : Nat} (hi : listed.getD i true = false) : unl (listed.setIfInBounds i true) + 1 = unl listed := by
  unfold unl
  rw [Array.toList_setIfInBounds]
  refine count_set _ _ ?_
  rcases Nat.lt_or_ge i listed.size with h' | h'
  · simp [h'] at hi
    simp [h', hi]
  · simp [Array.getElem?_eq_none h'] at hi

mutual
theorem run_sound {C : Ctx} (hT : tabB C.P C.T = true) (hz : C.nW = 0 → fp0 = []) (hsm : smallOps n ops = true) (hns : Region.noSelect ops = true) (hQ : ∀ c a w, ¬ Q (.panic c) a w) : ∀ (p : Plan) (listed : Array Bool) (σ : St) (a : Act) (w : World) (K : St → Prop), planB C.M ops p listed = true → Closed ops listed →
    ARun C ops p σ K → Ste w0 fp0 ok0 W n σ a w → (∀ σ' a' w', K σ' → Ste w0 fp0 ok0 W n σ' a' w' → Q .normal a' w') → ∀ fuel, unl listed ≤ fuel → wpAnyK C.P C.M ops Q fuel listed a w
  | .done, listed, σ, a, w, K, hp, hc, hk, hs, hK, fuel, hf => by
    have hr : Region.ready .any ops listed = [] := by simpa [planB] using hp
    have hq := hK σ a w (by simpa only [ARun] using hk) hs
    cases fuel with
    | zero => exact ⟨hr, hq⟩
    | succ fuel => exact ⟨fun _ => hq, by rw [hr]; simp⟩
  | .take i p, listed, σ, a, w, K, hp, hc, hk, hs, hK, fuel, hf => by
    simp only [planB, Bool.and_eq_true] at hp
    obtain ⟨⟨hr, hfr⟩, hp⟩ := hp
    have hr' : i ∈ Region.ready .any ops listed := by simpa using hr
    have hun := (mem_ready.1 hr').1
    have hu := unl_set hun
    cases fuel with
    | zero => omega
    | succ fuel =>
      simp only [ARun] at hk
      split at hk
      · rename_i o ho
        obtain ⟨ok, θ, ρ, φ, hs⟩ := hs
        unfold freeB at hfr
        rw [ho] at hfr
        simp only [Bool.and_eq_true, List.all_eq_true, List.mem_range] at hfr
        obtain ⟨v, σ', k1, k2, k3⟩ := silG_sound hT hsm ho hfr.1 hk hs
        refine wpAnyK_first ho (Region.noSelect_spec hns) (fun c a w h => absurd h (hQ c _ w)) fuel listed a w hc (fun j oj hj hji hjun hnw => ?_) hr' k3
          (run_sound hT hz hsm hns hQ p _ σ' _ w K hp (closed_set hc hr') k1 k2 hK fuel (by omega))
        have h1 := hfr.2 j (Array.getElem?_eq_some_iff.1 hj).1
        simp only [hj, Bool.or_eq_true, beq_iff_eq, hji, false_or, hjun, Bool.false_eq_true, hnw, Bool.and_eq_true, Bool.not_eq_true'] at h1
        have h2 : Oper.apart ops o oj = true ∧ (readsB o.op = false ∨ keepsB C.M oj.op = true) := by simpa using h1
        exact ⟨h2.1, fun hrd => h2.2.resolve_left (by rw [hrd]; simp)⟩
      · exact hk.elim
  | .all ps, listed, σ, a, w, K, hp, hc, hk, hs, hK, fuel, hf => by
    simp only [planB, Bool.and_eq_true, beq_iff_eq] at hp
    obtain ⟨⟨hr, hne⟩, hp⟩ := hp
    have hun : ∀ i ∈ Region.ready .any ops listed, listed.getD i true = false := fun i hi => (mem_ready.1 hi).1
    have hnil : Region.ready .any ops listed ≠ [] := by
      rw [hr]
      cases ps <;> simp_all
    cases fuel with
    | zero =>
      cases hrr : Region.ready .any ops listed with
      | nil => exact absurd hrr hnil
      | cons i l =>
        have := unl_set (hun i (by rw [hrr]; simp))
        omega
    | succ fuel =>
      refine ⟨fun h => absurd h hnil, fun i hi o ho => ?_⟩
      have hu := unl_set (hun i hi)
      have hmem : i ∈ ps.map (·.1) := by rw [← hr]; exact hi
      obtain ⟨⟨i', p⟩, hip, e⟩ := List.mem_map.1 hmem
      simp only at e
      subst e
      exact runL_sound hT hz hsm hns hQ ps listed σ a w K hp hc (by simpa only [ARun] using hk) hs hK fuel i' p hip hi o ho (by omega)
theorem runL_sound {C : Ctx} (hT : tabB C.P C.T = true) (hz : C.nW = 0 → fp0 = []) (hsm : smallOps n ops = true) (hns : Region.noSelect ops = true) (hQ : ∀ c a w, ¬ Q (.panic c) a w) : ∀ (ps : List (Nat × Plan)) (listed : Array Bool) (σ : St) (a : Act) (w : World) (K : St → Prop), planBL C.M ops ps listed = true → Closed ops listed →
    ARunL C ops ps σ K → Ste w0 fp0 ok0 W n σ a w → (∀ σ' a' w', K σ' → Ste w0 fp0 ok0 W n σ' a' w' → Q .normal a' w') → ∀ fuel i p, (i, p) ∈ ps → i ∈ Region.ready .any ops listed → ∀ o, ops[i]? = some o → unl (listed.setIfInBounds i true) ≤ fuel →
    wpOp C.P ops Q i (fun a' w' => (keepsB C.M o.op = true → Later w w') ∧ wpAnyK C.P C.M ops Q fuel (listed.setIfInBounds i true) a' w') a w
  | [], listed, σ, a, w, K, hp, hc, hk, hs, hK, fuel, i, p, hip, hi, o, ho, hf => by simp at hip
  | (i0, p0) :: ps, listed, σ, a, w, K, hp, hc, hk, hs, hK, fuel, i, p, hip, hi, o, ho, hf => by
    simp only [planBL, Bool.and_eq_true] at hp
    simp only [ARunL] at hk
    rcases List.mem_cons.1 hip with e | hip
    · injection e with e1 e2
      subst e1; subst e2
      have hk1 := hk.1
      rw [ho] at hk1
      simp only at hk1
      obtain ⟨ok, θ, ρ, φ, hs⟩ := hs
      exact opG_sound hT hz hsm ho hk1 hs _ _ fun σ' a' w' h1 h2 h3 => ⟨h3, run_sound hT hz hsm hns hQ p _ σ' a' w' K hp.1 (closed_set hc hi) h1 h2 hK fuel hf⟩
    · exact runL_sound hT hz hsm hns hQ ps listed σ a w K hp.2 hc hk.2 hs hK fuel i p hip hi o ho hf
end

end
end Go.Proofs.Ytdgeponcnlkaiaa.Ab
