/- Normal states, and code: sound. What a body's end hands out; a call's promise from the body. A call's promise from the body. Steps for proofs of single functions. Rows of cells: lists of structs as trees. What the simplifier may unfold where a function is evaluated. A promise made weaker: empty slices among results and arguments. Matrices, sums, seeds and sessions as trees; numbers written into them one behind the other. From a call's promise to a row: what was there is as it was. Arguments that are read as data: numbers, texts, slices and structs as trees over old blocks. Arguments of this program's laws, read as trees. slices.Grow of the nil slice in the calculus. Printed by wip/tools/lay.py: the contracts of slices.Grow laid at this seat. Printed by wip/tools/lay.py: the contracts of slices.SortFunc laid at this seat. slices.SortFunc in the calculus: from a contract over worlds to a contract over trees. Printed by wip/tools/gen.py: the numbers of functions and types, and what lives where. Small functions on numbers and lists of numbers: what they answer. Sums: their size, copies, what is equal, marks. Quantum sums as trees. Quantum sums: their size, copies, what is equal, marks. Sums as lists of keys with numbers: the descending list without zeros is told by the sum that belongs to each key. Exponents as one number: the code is one to one, keeps the order, and goes with sums. No condition. -/
import Derived.Test.YtdgeponcnlkaiaaKSb
import Derived.WalkKit
import Derived.ProofKit
import Derived.OpenShut
import Derived.Test.YtdgeponcnlkaiaaProg
import Derived.Shelf.Spec.SlicesGrow
import Derived.Shelf.Lays8
import Derived.Shelf.SlLaysF0
import Derived.Shelf.SlSortCmp.InsertionK
import Derived.Shelf.SlSortFuncK.ComposeK
import Derived.Test.YtdgeponcnlkaiaaKSa
set_option linter.unusedVariables false
set_option linter.unusedSimpArgs false
namespace Go.Proofs.Ytdgeponcnlkaiaa.Ab
open Go
set_option linter.unusedSimpArgs false
set_option linter.unusedVariables false
set_option linter.unusedSectionVars false

section
variable {w0 w : World} {fp0 : List Nat} {ok0 ok : Nat → Prop} {W : Nat → Value} {n : Nat} {σ : St} {θ : Nat → Value} {ρ : Rn → Value} {φ : Rn → List Nat} {a : Act}

/-! ### Names -/
structure NInv (e : Nat → FV) (seen : List Nat) (m : List (Rn × Rn)) : Prop where
  old : (m.map (·.1)).Nodup
  new : (m.map (·.2)).Nodup
  own : ∀ x ∈ m, x.2.1 ∈ seen
  all : ∀ t ∈ seen, ∀ r ∈ (e t).roots, r ∈ m.map (·.1)

theorem any_mem {m : List (Rn × Rn)} {r : Rn} : m.any (fun x => x.1 == r) = true ↔ r ∈ m.map (·.1) := by
  rw [List.any_eq_true, List.mem_map]
  refine ⟨fun ⟨x, hx, e⟩ => ⟨x, hx, by simpa using e⟩, fun ⟨x, hx, e⟩ => ⟨x, hx, by simpa using e⟩⟩

theorem addNames_spec (t : Nat) : ∀ (rs : List Rn) (j : Nat) (m : List (Rn × Rn)), (m.map (·.1)).Nodup → (m.map (·.2)).Nodup → (∀ x ∈ m, x.2.1 = t → x.2.2 < j) →
    ((addNames t j rs m).map (·.1)).Nodup ∧ ((addNames t j rs m).map (·.2)).Nodup ∧ (∀ x ∈ addNames t j rs m, x ∈ m ∨ x.2.1 = t) ∧ (∀ x ∈ m, x ∈ addNames t j rs m) ∧ (∀ r ∈ rs, r ∈ (addNames t j rs m).map (·.1)) ∧
      ((∀ r ∈ rs, r ∈ m.map (·.1)) → addNames t j rs m = m)
  | [], j, m, h1, h2, h3 => ⟨h1, h2, fun x hx => .inl hx, fun x hx => hx, by simp, fun _ => rfl⟩
  | r :: rs, j, m, h1, h2, h3 => by
    simp only [addNames]
    by_cases hr : r ∈ m.map (·.1)
    · rw [if_pos (any_mem.2 hr)]
      obtain ⟨a1, a2, a3, a4, a5, a6⟩ := addNames_spec t rs j m h1 h2 h3
      refine ⟨a1, a2, a3, a4, fun q hq => ?_, fun h => a6 fun q hq => h q (List.mem_cons_of_mem _ hq)⟩
      rcases List.mem_cons.1 hq with rfl | hq
      · obtain ⟨x, hx, e⟩ := List.mem_map.1 hr
        exact List.mem_map.2 ⟨x, a4 x hx, e⟩
      · exact a5 q hq
    · rw [if_neg (fun h => hr (any_mem.1 h))]
      have g1 : ((m ++ [(r, (t, j))]).map (·.1)).Nodup := by
        rw [List.map_append, List.nodup_append]
        refine ⟨h1, by simp, fun x hx y hy => ?_⟩
        simp only [List.map_cons, List.map_nil, List.mem_singleton] at hy
        subst hy
        exact fun e => hr (e ▸ hx)
      have g2 : ((m ++ [(r, (t, j))]).map (·.2)).Nodup := by
        rw [List.map_append, List.nodup_append]
        refine ⟨h2, by simp, fun x hx y hy => ?_⟩
        simp only [List.map_cons, List.map_nil, List.mem_singleton] at hy
        subst hy
        obtain ⟨z, hz, e⟩ := List.mem_map.1 hx
        intro e2
        have := h3 z hz (by rw [e, e2])
        rw [e, e2] at this
        simp at this
      have g3 : ∀ x ∈ m ++ [(r, (t, j))], x.2.1 = t → x.2.2 < j + 1 := fun x hx hxt => by
        rcases List.mem_append.1 hx with hx | hx
        · have := h3 x hx hxt; omega
        · simp only [List.mem_singleton] at hx
          subst hx
          simp
      obtain ⟨a1, a2, a3, a4, a5, a6⟩ := addNames_spec t rs (j + 1) _ g1 g2 g3
      refine ⟨a1, a2, fun x hx => ?_, fun x hx => a4 x (by simp [hx]), fun q hq => ?_, fun h => absurd (h r (by simp)) hr⟩
      · rcases a3 x hx with h | h
        · rcases List.mem_append.1 h with h | h
          · exact .inl h
          · simp only [List.mem_singleton] at h
            subst h
            exact .inr rfl
        · exact .inr h
      · rcases List.mem_cons.1 hq with rfl | hq
        · exact List.mem_map.2 ⟨(q, (t, j)), a4 _ (by simp), rfl⟩
        · exact a5 q hq

theorem names_spec (e : Nat → FV) : ∀ (ks seen : List Nat) (m : List (Rn × Rn)), NInv e seen m → ∃ seen', NInv e seen' (names e ks m)
  | [], seen, m, h => ⟨seen, h⟩
  | t :: ks, seen, m, h => by
    simp only [names]
    by_cases ht : t ∈ seen
    · have hno : addNames t 0 (e t).roots m = m := by
        have : ∀ (rs : List Rn) (j : Nat), (∀ r ∈ rs, r ∈ m.map (·.1)) → addNames t j rs m = m := by
          intro rs
          induction rs with
          | nil => intro j _; rfl
          | cons r rs ih =>
            intro j hr
            simp only [addNames]
            rw [if_pos (any_mem.2 (hr r (by simp)))]
            exact ih j fun q hq => hr q (by simp [hq])
        exact this _ _ (h.all t ht)
      rw [hno]
      exact names_spec e ks seen m h
    · obtain ⟨a1, a2, a3, a4, a5, a6⟩ := addNames_spec t (e t).roots 0 m h.old h.new (fun x hx hxt => absurd (hxt ▸ h.own x hx) ht)
      refine names_spec e ks (t :: seen) _ ⟨a1, a2, fun x hx => ?_, fun s hs r hr => ?_⟩
      · rcases a3 x hx with h1 | h1
        · exact List.mem_cons_of_mem _ (h.own x h1)
        · rw [h1]; simp
      · rcases List.mem_cons.1 hs with rfl | hs
        · exact a5 r hr
        · obtain ⟨x, hx, e2⟩ := List.mem_map.1 (h.all s hs r hr)
          exact List.mem_map.2 ⟨x, a4 x hx, e2⟩

def invR (m : List (Rn × Rn)) (q : Rn) : Option Rn :=
  match m with
  | [] => none
  | (o, x) :: l => if x = q then some o else invR l q
theorem invR_ofRO (g : Rn → Option D) : ∀ (m : List (Rn × Rn)) (q : Rn), ofRO (m.map fun x => (x.2, g x.1)) q = (match invR m q with | some o => g o | none => none)
  | [], q => rfl
  | (o, x) :: l, q => by
    simp only [List.map_cons, ofRO, invR]
    split
    · rfl
    · exact invR_ofRO g l q
theorem renR_mem : ∀ {m : List (Rn × Rn)} {r q : Rn}, renR m r = some q → (r, q) ∈ m
  | [], r, q, h => by simp [renR] at h
  | (o, x) :: l, r, q, h => by
    simp only [renR] at h
    split at h
    · rename_i e
      subst e
      injection h with h
      subst h
      simp
    · exact List.mem_cons_of_mem _ (renR_mem h)
theorem invR_mem : ∀ {m : List (Rn × Rn)} {r q : Rn}, invR m q = some r → (r, q) ∈ m
  | [], r, q, h => by simp [invR] at h
  | (o, x) :: l, r, q, h => by
    simp only [invR] at h
    split at h
    · rename_i e
      subst e
      injection h with h
      subst h
      simp
    · exact List.mem_cons_of_mem _ (invR_mem h)
theorem invR_of : ∀ {m : List (Rn × Rn)} {r q : Rn}, (m.map (·.2)).Nodup → (r, q) ∈ m → invR m q = some r
  | [], r, q, _, h => by simp at h
  | (o, x) :: l, r, q, hn, h => by
    simp only [List.map_cons, List.nodup_cons] at hn
    rcases List.mem_cons.1 h with e | h
    · injection e with e1 e2
      subst e1; subst e2
      simp [invR]
    · have hne : x ≠ q := fun e => hn.1 (e ▸ List.mem_map.2 ⟨(r, q), h, rfl⟩)
      simp only [invR, if_neg hne]
      exact invR_of hn.2 h
theorem fst_inj : ∀ {m : List (Rn × Rn)} {r q q' : Rn}, (m.map (·.1)).Nodup → (r, q) ∈ m → (r, q') ∈ m → q = q'
  | [], r, q, q', _, h, _ => by simp at h
  | (o, x) :: l, r, q, q', hn, h, h' => by
    simp only [List.map_cons, List.nodup_cons] at hn
    rcases List.mem_cons.1 h with e | h1 <;> rcases List.mem_cons.1 h' with e' | h2
    · injection e with e1 e2
      injection e' with e3 e4
      exact e2.trans e4.symm
    · injection e with e1 e2
      subst e1
      exact absurd (List.mem_map.2 ⟨(r, q'), h2, rfl⟩) hn.1
    · injection e' with e1 e2
      subst e1
      exact absurd (List.mem_map.2 ⟨(r, q), h1, rfl⟩) hn.1
    · exact fst_inj hn.2 h1 h2

def reR (m : List (Rn × Rn)) (ρ : Rn → Value) (q : Rn) : Value := match invR m q with | some o => ρ o | none => undef
def reF (m : List (Rn × Rn)) (φ : Rn → List Nat) (q : Rn) : List Nat := match invR m q with | some o => φ o | none => []
theorem reR_some {m : List (Rn × Rn)} {q o : Rn} (h : invR m q = some o) : reR m ρ q = ρ o := by simp [reR, h]
theorem reF_some {m : List (Rn × Rn)} {q o : Rn} (h : invR m q = some o) : reF m φ q = φ o := by simp [reF, h]
mutual
theorem FR_ren {m : List (Rn × Rn)} {σ' : St} {ρ' : Rn → Value} (hσ : ∀ r q, renR m r = some q → σ'.rts q = σ.rts r ∧ ρ' q = ρ r) : ∀ (f : FV) (u : Value), FR w ok σ ρ f u → FR w ok σ' ρ' (f.ren m) u
  | .d x, u, h => by simpa only [FR, FV.ren] using h
  | .sp cs o, u, h => by simpa only [FR, FV.ren] using h
  | .dead, u, h => by simp [FR, FV.ren]
  | .al r p lo n, u, h => by
    simp only [FV.ren]
    split
    · rename_i q hq
      obtain ⟨h1, h2⟩ := hσ r q hq
      simpa only [FR, St.obj, h1, h2] using h
    · simp [FR]
  | .cu r p n, u, h => by
    simp only [FV.ren]
    split
    · rename_i q hq
      obtain ⟨h1, h2⟩ := hσ r q hq
      simpa only [FR, St.obj, h1, h2] using h
    · simp [FR]
  | .pt r p o, u, h => by
    simp only [FV.ren]
    split
    · rename_i q hq
      obtain ⟨h1, h2⟩ := hσ r q hq
      simpa only [FR, St.obj, h1, h2] using h
    · simp [FR]
  | .ar r p o n, u, h => by
    simp only [FV.ren]
    split
    · rename_i q hq
      obtain ⟨h1, h2⟩ := hσ r q hq
      simpa only [FR, St.obj, h1, h2] using h
    · simp [FR]
  | .mr r p, u, h => by
    simp only [FV.ren]
    split
    · rename_i q hq
      obtain ⟨h1, h2⟩ := hσ r q hq
      simpa only [FR, St.obj, h1, h2] using h
    · simp [FR]
  | .it r s p l c, u, h => by
    simp only [FV.ren]
    split
    · rename_i q x hq hx
      obtain ⟨h1, h2⟩ := hσ r q hq
      obtain ⟨h3, h4⟩ := hσ s x hx
      simpa only [FR, St.obj, h1, h2, h3, h4] using h
    · simp [FR]
  | .ag fs, u, h => by
    simp only [FR, FV.ren] at h ⊢
    obtain ⟨vs, e, h⟩ := h
    exact ⟨vs, e, FRL_ren hσ fs vs.toList h⟩
  | .tu fs, u, h => by
    simp only [FR, FV.ren] at h ⊢
    obtain ⟨vs, e, h⟩ := h
    exact ⟨vs, e, FRL_ren hσ fs vs.toList h⟩
  | .cl f fs, u, h => by
    simp only [FR, FV.ren] at h ⊢
    obtain ⟨vs, e, h⟩ := h
    exact ⟨vs, e, FRL_ren hσ fs vs.toList h⟩
  | .fb fs off, u, h => by
    simp only [FR, FV.ren] at h ⊢
    obtain ⟨b, vs, e, hb, hc, h⟩ := h
    exact ⟨b, vs, e, hb, hc, FRL_ren hσ fs vs h⟩
theorem FRL_ren {m : List (Rn × Rn)} {σ' : St} {ρ' : Rn → Value} (hσ : ∀ r q, renR m r = some q → σ'.rts q = σ.rts r ∧ ρ' q = ρ r) : ∀ (fs : List FV) (us : List Value), FRL w ok σ ρ fs us → FRL w ok σ' ρ' (FV.renL m fs) us
  | [], us, h => by simpa only [FRL, FV.renL] using h
  | f :: fs, us, h => by
    simp only [FRL, FV.renL] at h ⊢
    obtain ⟨u, vs, e, h1, h2⟩ := h
    exact ⟨u, vs, e, FR_ren hσ f u h1, FRL_ren hσ fs vs h2⟩
end

theorem ofL_map (g : Nat → FV) : ∀ (ks : List Nat) (t : Nat), ofL (ks.map fun t => (t, g t)) t = g t ∨ ofL (ks.map fun t => (t, g t)) t = .dead
  | [], t => .inr rfl
  | k :: ks, t => by
    simp only [List.map_cons, ofL]
    split
    · rename_i e
      subst e
      exact .inl rfl
    · exact ofL_map g ks t

theorem norm_sound {C : Ctx} {ks : List Nat} (h : Ste w0 fp0 ok0 W n σ a w) : Ste w0 fp0 ok0 W n (norm C ks σ) a w := by
  obtain ⟨ok, θ, ρ, φ, h⟩ := h
  unfold norm normWith
  obtain ⟨seen, hN⟩ := names_spec σ.env (ks ++ watchers C.nW) [] [] ⟨by simp, by simp, by simp, by simp⟩
  generalize names σ.env (ks ++ watchers C.nW) [] = m at hN
  refine ⟨ok, θ, reR m ρ, reF m φ, ?_, h.th, h.oks, h.okn, h.dfr, h.sz⟩
  refine ⟨fun q d hd => ?_, fun q q' d d' hne hd hd' => ?_, fun t => ?_, h.rel.okb, h.rel.frm⟩
  · simp only [invR_ofRO] at hd
    split at hd
    · rename_i o ho
      rw [reR_some ho, reF_some ho]
      exact h.rel.own o d hd
    · simp at hd
  · simp only [invR_ofRO] at hd hd'
    split at hd
    · rename_i o ho
      split at hd'
      · rename_i o' ho'
        rw [reF_some ho, reF_some ho']
        refine h.rel.dis o o' d d' (fun e => ?_) hd hd'
        subst e
        exact hne (fst_inj hN.old (invR_mem ho) (invR_mem ho'))
      · simp at hd'
    · simp at hd
  · have key : ∀ (g : FV), g = (σ.env t).ren m → FR w ok ⟨ofL ((ks ++ watchers C.nW).map fun t => (t, (σ.env t).ren m)), ofRO (m.map fun x => (x.2, σ.rts x.1))⟩ (reR m ρ) g (θ t) := by
      intro g e
      subst e
      refine FR_ren (fun r q hq => ?_) _ _ (h.rel.env t)
      have := invR_of hN.new (renR_mem hq)
      exact ⟨by simp only [invR_ofRO, this], reR_some this⟩
    show FR w ok _ _ (ofL ((ks ++ watchers C.nW).map fun t => (t, (σ.env t).ren m)) t) (θ t)
    rcases ofL_map (fun t => (σ.env t).ren m) (ks ++ watchers C.nW) t with e | e
    · exact key _ e
    · rw [e]
      simp [FR]

/-! ### Code -/
theorem least {p : Nat → Prop} (h : ∃ k, p k) : ∃ k, p k ∧ ∀ j, p j → k ≤ j := by
  obtain ⟨k, hk⟩ := h
  induction k using Nat.strongRecOn with
  | _ k ih =>
    by_cases hl : ∃ j, j < k ∧ p j
    · obtain ⟨j, h1, h2⟩ := hl
      exact ih j h1 h2
    · refine ⟨k, hk, fun j hj => ?_⟩
      rcases Nat.lt_or_ge j k with h | h
      · exact absurd ⟨j, h, hj⟩ hl
      · exact h
def smallC (n : Nat) : Code → Bool
  | .skip => true
  | .region _ ops _ => smallOps n ops
  | .seq a b => smallC n a && smallC n b
  | .cond c a b => smallX n c && smallC n a && smallC n b
  | .block _ c => smallC n c
  | .loop c => smallC n c
  | .exit _ => true
  | .ret => true
  | _ => false

theorem isNil0_val {x : D} {u : Value} {fp : List Nat} (hx : isNil0 x = true) (h : Ow w ok x u fp) : ∃ a, u = .slice a 0 0 := by
  unfold isNil0 at hx
  split at hx
  · simp only [Ow] at h
    exact ⟨none, h.2⟩
  · simp only [Ow, Sh] at h
    exact h.2
  · simp at hx
theorem isNil0_sh {x : D} {u : Value} (hx : isNil0 x = true) (h : Sh w ok x u) : ∃ a, u = .slice a 0 0 := by
  unfold isNil0 at hx
  split at hx
  · simp only [Sh] at h
    exact ⟨none, h⟩
  · simpa only [Sh] using h
  · simp at hx
theorem ow_empty (k : Nat) {u : Value} (h : ∃ a, u = .slice a 0 0) : Ow w ok (.ow k 0 []) u [] := by
  simp only [Ow]
  exact .inl ⟨trivial, trivial, trivial, h⟩
theorem al_empty {r : Rn} {k : Nat} {u : Value} (h : ∃ a, u = .slice a 0 0) : FR w ok (σ.root r (.ow k 0 [])) (upR ρ r u) (.al r [] 0 0) u := by
  obtain ⟨a, h⟩ := h
  simp only [FR]
  exact ⟨k, 0, [], u, by simp [St.obj, St.root, look], by simp [hdr, upR], by omega, .inl ⟨rfl, a, 0, 0, h, h⟩⟩

theorem store1_empty {σ1 : St} {r : Rn} {p : List Nat} {i k : Nat} {o x : D} {cs : List D} (ho : σ.obj r p = some o) (hc : o.cells? = some cs) (hx : cs[i]? = some x) (hn : isNil0 x = true) (h9 : σ.rts (9999, 0) = none)
    (hs : (σ.root (9999, 0) (.ow k 0 [])).store1 r p i (.al (9999, 0) [] 0 0) = some σ1) :
    ∃ d, σ.rts r = some d ∧ look d p = some o ∧ ∀ q, σ1.rts q = if q = r then some (putAt d p (o.setCells (cs.set i (.ow k 0 [])))) else σ.rts q := by
  have hr : r ≠ (9999, 0) := by
    rintro rfl
    simp [St.obj, h9] at ho
  have hq : x.quiet = true := by
    unfold isNil0 at hn
    split at hn <;> first | rfl | simp at hn
  have ho2 : (σ.root (9999, 0) (.ow k 0 [])).obj r p = some o := by simpa [St.obj, St.root, hr] using ho
  have ho3 : (σ.root (9999, 0) (.ow k 0 [])).obj (9999, 0) [] = some (.ow k 0 []) := by simp [St.obj, St.root, look]
  simp only [St.obj] at ho
  split at ho
  case h_2 => simp at ho
  rename_i d hd
  refine ⟨d, hd, ho, fun q => ?_⟩
  simp only [St.store1, ho2, hc, hx, hq, if_true, St.absorb, ho3, and_self, St.take] at hs
  have ho4 : St.obj { (σ.root (9999, 0) (.ow k 0 [])) with env := fun t => ((σ.root (9999, 0) (.ow k 0 [])).env t).move ⟨(9999, 0), [], r, p ++ [i]⟩, rts := fun q => if q = (9999, 0) then none else (σ.root (9999, 0) (.ow k 0 [])).rts q } r p = some o := by
    simp [St.obj, St.root, hr, hd, ho]
  simp only [ho4, hc, Option.some.injEq] at hs
  subst hs
  simp only [St.put, St.root, if_neg hr, hd]
  by_cases e : q = r
  · simp [e]
  · simp only [if_neg e]
    split
    · rename_i e2
      rw [e2, h9]
    · rfl

theorem wk1_sound {x : Wk} {σ' : St} (h : Rel w0 fp0 ok σ θ w ρ φ) (hs : wk1 σ x = some σ') : ∃ ρ' φ', Rel w0 fp0 ok σ' θ w ρ' φ' := by
  cases x with
  | tmp t k =>
    simp only [wk1] at hs
    split at hs
    · rename_i x hx
      split at hs
      · rename_i hc
        injection hs with hs
        subst hs
        have he := h.env t
        rw [hx] at he
        simp only [FR] at he
        have hv := isNil0_sh hc.1 he
        have h2 := h.root (r := (t, 0)) (d := .ow k 0 []) (u := θ t) (fp := []) (by simpa using hc.2) (ow_empty k hv) List.nodup_nil (by simp)
        have h3 := h2.upd (t := t) (al_empty (σ := σ) (ρ := ρ) (r := (t, 0)) (k := k) hv)
        refine ⟨_, _, h3.own, h3.dis, fun s => ?_, h3.okb, h3.frm⟩
        have h5 := h3.env s
        by_cases e : s = t
        · subst e
          simp only [Ab.upd, if_true] at h5 ⊢
          exact FR_st rfl _ _ h5
        · simp only [Ab.upd, if_neg e] at h5 ⊢
          exact FR_st rfl _ _ h5
      · simp at hs
    · simp at hs
  | cell r p i k =>
    simp only [wk1] at hs
    split at hs
    · rename_i o ho
      split at hs
      · rename_i cs hc
        split at hs
        · rename_i x hx
          split at hs
          · rename_i hcc
            obtain ⟨hv, fo, hat⟩ := h.rts_.at_ (r := r) (p := p) (o := o) ho
            have hne : cs ≠ [] := by rintro rfl; simp at hx
            obtain ⟨b, q, fp', e1, e2, e3, _, _⟩ := Ow_cells hat.own hc hne
            obtain ⟨v, f1, fx, f2, g1, g2, g3, _⟩ := OwL_split e3 hx
            have hv0 := isNil0_val hcc.1 g3
            have h2 := h.root (r := (9999, 0)) (d := .ow k 0 []) (u := v) (fp := []) (by simpa using hcc.2) (ow_empty k hv0) List.nodup_nil (by simp)
            split at hs
            case h_2 => simp at hs
            rename_i σ1 hs1
            simp only [Option.some.injEq] at hs
            subst hs
            obtain ⟨hv', b', q', k1, k2, k3, k4, ⟨φ', k5⟩, k6, k7, k8, k9⟩ := store1_sound h2 hs1 (al_empty (σ := σ) (ρ := ρ) (r := (9999, 0)) (k := k) hv0)
            have hr : r ≠ (9999, 0) := by
              rintro rfl
              simp only [Option.isNone_iff_eq_none] at hcc
              simp [St.obj, hcc.2] at ho
            have e9 : hv' = hv := by
              have := hat.hdr
              simp only [upR, if_neg hr] at k1
              rw [k1] at this
              injection this
            subst e9
            rw [e1] at k2
            injection k2 with k2
            injection k2 with k2 k2'
            subst k2; subst k2'
            rw [setCell_same g2] at k5
            have h9 : σ.rts (9999, 0) = none := by simpa using hcc.2
            obtain ⟨d, hd, hld, hrts⟩ := store1_empty ho hc hx hcc.1 h9 hs1
            refine ⟨_, _, k5.own, k5.dis, fun t => ?_, k5.okb, k5.frm⟩
            have hobj : ∀ q s x2, σ.obj q s = some x2 → isObj x2 → ∃ o', St.obj { σ1 with env := σ.env } q s = some o' ∧ sameKind x2 o' := fun q s x2 hx2 hio => by
              by_cases e : q = r
              · subst e
                have hds : look d s = some x2 := by simpa [St.obj, hd] using hx2
                have hgo : ∀ (e2 : D) (t2 : List Nat), St.obj { σ1 with env := σ.env } q t2 = look (putAt d p (o.setCells (cs.set i (.ow k 0 [])))) t2 := fun _ t2 => by simp [St.obj, hrts]
                rw [hgo (.gone) s]
                by_cases hp : isPre p s = true
                · obtain ⟨t2, rfl⟩ := isPre_iff hp
                  rw [look_putAt p d o _ t2 hld]
                  rw [look_append, hld] at hds
                  simp only [Option.bind_some] at hds
                  cases t2 with
                  | nil =>
                    simp only [look, Option.some.injEq] at hds ⊢
                    subst hds
                    refine ⟨_, rfl, ?_⟩
                    cases o <;> simp [D.cells?] at hc <;> subst hc <;> simp [D.setCells, sameKind]
                  | cons j t2 =>
                    simp only [look, hc, cells_setCells hc] at hds ⊢
                    by_cases hj : j = i
                    · subst hj
                      rw [hx] at hds
                      exfalso
                      have hn := hcc.1
                      unfold isNil0 at hn
                      split at hn
                      · cases t2 <;> simp [look, D.cells?] at hds
                        subst hds
                        rcases hio with hio | ⟨es, hio⟩ <;> simp [D.cells?] at hio
                      · cases t2 <;> simp [look, D.cells?] at hds
                        subst hds
                        rcases hio with hio | ⟨es, hio⟩ <;> simp [D.cells?] at hio
                      · simp at hn
                    · rw [List.getElem?_set_ne (Ne.symm hj)]
                      exact ⟨x2, hds, sameKind_refl _⟩
                · obtain ⟨x', a1, a2⟩ := look_putAt_other p d o (o.setCells (cs.set i (.ow k 0 []))) s x2 hld hds (by simpa using hp)
                  exact ⟨x', a1, a2⟩
              · exact ⟨x2, by simpa [St.obj, hrts, e] using hx2, sameKind_refl _⟩
            have hup : ∀ q, σ.rts q ≠ none → upR ρ (9999, 0) v q = ρ q := fun q hq => by
              unfold upR
              rw [if_neg]
              rintro rfl
              exact hq h9
            have hne9 : ∀ q s x2, σ.obj q s = some x2 → σ.rts q ≠ none := fun q s x2 h3 h4 => by simp [St.obj, h4] at h3
            refine FR_same (G := fun r p => ∃ o, σ.obj r p = some o ∧ isObj o) (I := fun r m p => σ.rts r = some .itr ∧ ∃ es, σ.obj m p = some (.mp es)) ⟨fun b hb => ⟨hb, rfl⟩, fun q s x2 hg hx2 => ?_⟩ ⟨fun q m s b mb es hI h1 h2 h3 h4 => ?_⟩ _ _ (FR_ats _ _ (h.env t)) (h.env t)
            · obtain ⟨x3, hx3, hi3⟩ := hg
              rw [hx2] at hx3
              cases hx3
              obtain ⟨o', a1, a2⟩ := hobj q s x2 hx2 hi3
              exact ⟨o', a1, .inl a2, by rw [hup q (hne9 q s x2 hx2)]⟩
            · obtain ⟨o', a1, a2⟩ := hobj m s _ h3 (.inr ⟨es, rfl⟩)
              have ex : o' = .mp es := by cases o' <;> simp [sameKind] at a2; rw [a2]
              subst ex
              have hqr : q ≠ r := by
                rintro rfl
                rw [hd] at h1
                cases h1
                cases p with
                | nil => simp [look] at hld; subst hld; simp [D.cells?] at hc
                | cons j p => simp [look, D.cells?] at hld
              exact ⟨by simpa [hrts, hqr] using h1, hup q (by rw [h1]; simp), rfl, a1, by rw [hup m (hne9 m s _ h3)]; exact h4, rfl⟩
          · simp at hs
        · simp at hs
      · simp at hs
    · simp at hs
theorem wkAll_sound : ∀ {l : List Wk} {σ σ' : St}, Ste w0 fp0 ok0 W n σ a w → wkAll l σ = some σ' → Ste w0 fp0 ok0 W n σ' a w
  | [], σ, σ', h, hs => by
    simp only [wkAll, Option.some.injEq] at hs
    subst hs
    exact h
  | x :: l, σ, σ', h, hs => by
    simp only [wkAll] at hs
    split at hs
    · rename_i σ1 h1
      obtain ⟨ok, θ, ρ, φ, h⟩ := h
      obtain ⟨ρ', φ', g⟩ := wk1_sound h.rel h1
      exact wkAll_sound ⟨ok, θ, ρ', φ', g, h.th, h.oks, h.okn, h.dfr, h.sz⟩ hs
    · simp at hs

def conc (S : St → Act → World → Prop) (Q : AEx → St → Prop) : Exit → Act → World → Prop
  | .normal, a, w => ∃ σ, Q .normal σ ∧ S σ a w
  | .exit id, a, w => ∃ σ, Q (.exit id) σ ∧ S σ a w
  | .ret, a, w => ∃ σ, Q .ret σ ∧ S σ a w
  | _, _, _ => False

theorem Ste.drew (h : Ste w0 fp0 ok0 W n σ a w) : Ste w0 fp0 ok0 W n σ a w.drew := by
  obtain ⟨ok, θ, ρ, φ, h⟩ := h
  exact ⟨ok, θ, ρ, φ, h.rel.drew, h.th, h.oks, h.okn, h.dfr, h.sz⟩

theorem awp_sound {C : Ctx} (hT : tabB C.P C.T = true) (hz : C.nW = 0 → fp0 = []) (hM : C.P.follows .mixedOrders = true) : ∀ (c : Code) (i : Nat) (Q : AEx → St → Prop) (σ : St) (a : Act) (w : World), smallC n c = true → AWp C c i Q σ → Ste w0 fp0 ok0 W n σ a w →
    c.wp C.P (conc (Ste w0 fp0 ok0 W n) Q) a w := by
  intro c
  induction c with
  | skip =>
    intro i Q σ a w _ hk hs
    exact wp_skip ⟨σ, hk, hs⟩
  | region id ops draw =>
    intro i Q σ a w hsm hk hs
    simp only [smallC] at hsm
    simp only [AWp] at hk
    cases draw with
    | false =>
      simp only [Bool.false_eq_true, if_false] at hk
      refine wp_region ?_
      rw [List.range_eq_range']
      exact ops_sound hT hz hsm ops.size 0 σ a w _ (by omega) (by simpa using hk) hs fun σ' a' w' h1 h2 => ⟨_, h1, norm_sound h2⟩
    | true =>
      simp only [if_true] at hk
      obtain ⟨p, hp, hk⟩ := hk
      refine wp_region_any hM (wpAnyK_any (M := C.M) _ _ _ _ ?_)
      refine run_sound hT hz hsm hp.2 (fun c a w h => h) p _ σ a w.drew _ hp.1 (fun k o _ hl => ?_) hk hs.drew (fun σ' a' w' h1 h2 => ⟨_, h1, norm_sound h2⟩) _ ?_
      · have := getD_lt hl
        simp only [Array.size_replicate] at this
        simp [this] at hl
      · unfold unl
        simp
  | seq x y ihx ihy =>
    intro i Q σ a w hsm hk hs
    simp only [smallC, Bool.and_eq_true] at hsm
    simp only [AWp] at hk
    refine wp_seq (wp_mono (ihx i _ σ a w hsm.1 hk hs) fun e a' w' h => ?_)
    cases e with
    | normal =>
      obtain ⟨σ', h1, h2⟩ := h
      exact ihy i Q σ' a' w' hsm.2 h1 h2
    | exit id => exact h
    | ret => exact h
    | goto l => exact h
    | panic ch => exact h
    | outgrown => exact h
  | cond c x y ihx ihy =>
    intro i Q σ a w hsm hk hs
    simp only [smallC, Bool.and_eq_true] at hsm
    simp only [AWp] at hk
    obtain ⟨t, ht, hx, hy⟩ := hk
    have hc : a.eval c = .bool t := by
      obtain ⟨ok, θ, ρ, φ, hs⟩ := hs
      have := hs.opv hsm.1.1
      rw [ht] at this
      exact FR_v this
    exact wp_cond_split hc (fun h => ihx i Q σ a w hsm.1.2 (hx h) hs) (fun h => ihy i Q σ a w hsm.2 (hy h) hs)
  | block id c ih =>
    intro i Q σ a w hsm hk hs
    simp only [smallC] at hsm
    simp only [AWp] at hk
    refine wp_block (wp_mono (ih id _ σ a w hsm hk hs) fun e a' w' h => ?_)
    cases e with
    | normal => exact h
    | exit id' =>
      obtain ⟨σ', h1, h2⟩ := h
      simp only [Exit.inBlock, AEx.block] at h1 ⊢
      split at h1
      · rename_i e
        rw [if_pos e]
        exact ⟨σ', h1, h2⟩
      · rename_i e
        rw [if_neg e]
        exact ⟨σ', h1, h2⟩
    | ret => exact h
    | goto l => exact h
    | panic ch => exact h
    | outgrown => exact h
  | loop c ih =>
    intro i Q σ a w hsm hk hs
    simp only [smallC] at hsm
    simp only [AWp] at hk
    obtain ⟨I, μ, h0, hround⟩ := hk
    have hleast : ∀ (a : Act) (w : World), (∃ σ, I σ ∧ Ste w0 fp0 ok0 W n σ a w) → ∃ k, (∃ σ, I σ ∧ Ste w0 fp0 ok0 W n σ a w ∧ μ σ = k) := fun a w ⟨σ, h1, h2⟩ => ⟨_, σ, h1, h2, rfl⟩
    classical
    let μ' : Act → World → Nat := fun a w => if h : ∃ k, (∃ σ, I σ ∧ Ste w0 fp0 ok0 W n σ a w ∧ μ σ = k) then Classical.choose (least h) else 0
    refine wp_loop (fun a w => ∃ σ, I σ ∧ Ste w0 fp0 ok0 W n σ a w) μ' (by obtain ⟨l, σ0, q1, q2⟩ := h0; exact ⟨σ0, q2, wkAll_sound (norm_sound hs) q1⟩) fun a w hI => ?_
    have hex := hleast a w hI
    have hμ : μ' a w = Classical.choose (least hex) := dif_pos hex
    obtain ⟨⟨σ1, h1, h2, h3⟩, _⟩ := Classical.choose_spec (least hex)
    refine wp_mono (ih i _ σ1 a w hsm (hround σ1 h1) h2) fun e a' w' h => ?_
    cases e with
    | normal =>
      obtain ⟨σ', ⟨l, σ2, g0, g1, g2⟩, g3⟩ := h
      have g4 := wkAll_sound (norm_sound g3) g0
      have hI' : ∃ σ, I σ ∧ Ste w0 fp0 ok0 W n σ a' w' := ⟨_, g1, g4⟩
      refine ⟨hI', ?_⟩
      have hex' := hleast a' w' hI'
      have hμ' : μ' a' w' = Classical.choose (least hex') := dif_pos hex'
      rw [hμ, hμ']
      refine Nat.lt_of_le_of_lt ((Classical.choose_spec (least hex')).2 _ ⟨_, g1, g4, rfl⟩) ?_
      rw [← h3]
      exact g2
    | exit id => exact h
    | ret => exact h
    | goto l => exact h
    | panic ch => exact h
    | outgrown => exact h
  | exit id =>
    intro i Q σ a w _ hk hs
    exact wp_exit ⟨σ, hk, hs⟩
  | ret =>
    intro i Q σ a w _ hk hs
    exact wp_ret ⟨σ, hk, hs⟩
  | _ => intro i Q σ a w hsm; simp [smallC] at hsm

end
end Go.Proofs.Ytdgeponcnlkaiaa.Ab
namespace Go.Proofs.Ytdgeponcnlkaiaa.Ab
open Go
set_option linter.unusedSimpArgs false
set_option linter.unusedVariables false
set_option linter.unusedSectionVars false

/-! ### Results are taken out of the store -/
/-- One value that leaves: its tree, the store without it. -/
def exportD (σ : St) (f : FV) : Option (D × St) :=
  match f with
  | .d x => if x.leaf then some (x, σ) else none
  | .al r p lo n => (match σ.obj r p with | some (.ow k N cs) => if lo = 0 then some (.ow k n (takeCells k n N cs), (σ.take r p).kill r p) else none | _ => none)
  | .pt r p o => (match σ.obj r p with | some (.bx cs) => if o = 0 then some (.bx cs, (σ.take r p).kill r p) else none | _ => none)
  | .mr r p => (match σ.obj r p with | some (.mp es) => some (.mp es, (σ.take r p).kill r p) | _ => none)
  | .dead => some (.gone, σ)
  | _ => none
def exportN : St → Nat → Nat → Option (List D × St)
  | σ, _, 0 => some ([], σ)
  | σ, t, n + 1 => match exportD σ (σ.env t) with
    | some (d, σ1) => (match exportN σ1 (t + 1) n with | some (ds, σ2) => some (d :: ds, σ2) | none => none)
    | none => none
/-- Atoms of all results; how they go together again. -/
def atomsL : List FV → List FV
  | [] => []
  | f :: r => f.atoms ++ atomsL r
def groupR : List FV → List D → Option (List RV)
  | [], [] => some []
  | .ag gs :: r, ds => (match groupR r (ds.drop gs.length) with | some l => some (.ag (ds.take gs.length) :: l) | none => none)
  | _ :: r, d :: ds => (match groupR r ds with | some l => some (.one d :: l) | none => none)
  | _, _ => none
def resVals (T : TT) (σ : St) : List ResultVar → Option (List FV)
  | [] => some []
  | .tmp t :: r => (match resVals T σ r with | some l => some (σ.env t :: l) | none => none)
  | .cell a t :: r => (match loadF T σ t (σ.env a), resVals T σ r with | some f, some l => some (f :: l) | _, _ => none)
/-- What is asked where a body ends: the results are taken out, then what was lent for writing. -/
def endK (C : Ctx) (rs : List ResultVar) (pure : Bool) (Q : List D → List RV → Prop) (σ : St) : Prop :=
  match resVals C.T σ rs with
  | some fs => (∀ f ∈ fs, f.whole = true) ∧ (match exportN { σ with env := pend (atomsL fs) 3000 σ.env } 3000 (atomsL fs).length with
    | some (ds, σ1) => (match groupR fs ds, exportN σ1 1000 C.nW with
      | some res, some (outs, _) => (pure = true → noShR res ∧ noShL outs) ∧ Q outs res
      | _, _ => False)
    | none => False)
  | none => False
def endQ (C : Ctx) (rs : List ResultVar) (pure : Bool) (Q : List D → List RV → Prop) : AEx → St → Prop
  | .normal, σ => endK C rs pure Q σ
  | .ret, σ => endK C rs pure Q σ
  | .exit _, _ => False

section
variable {w0 w : World} {fp0 : List Nat} {ok0 ok : Nat → Prop} {W : Nat → Value} {n : Nat} {σ : St} {θ : Nat → Value} {ρ : Rn → Value} {φ : Rn → List Nat} {a : Act} {P : Program} {T : TT}

structure Taken (w0 w : World) (fp0 : List Nat) (ok : Nat → Prop) (σ σ1 : St) (φ φ1 : Rn → List Nat) (fx : List Nat) : Prop where
  nod : fx.Nodup
  bl : ∀ b ∈ fx, Bnd w0 fp0 ok w.heap.size b ∧ ∀ q e, σ1.rts q = some e → b ∉ φ1 q
  sub : ∀ q e, σ1.rts q = some e → ∃ e', σ.rts q = some e' ∧ ∀ b ∈ φ1 q, b ∈ φ q
  from_ : ∀ b ∈ fx, ∃ q e, σ.rts q = some e ∧ b ∈ φ q

theorem takeKill_taken (h : Rel w0 fp0 ok σ θ w ρ φ) {r : Rn} {p : List Nat} {o : D} (ho : σ.obj r p = some o) : ∃ hv fo φ1, hdr w (ρ r) p = some hv ∧ Ow w ok o hv fo ∧ Rel w0 fp0 ok ((σ.take r p).kill r p) θ w ρ φ1 ∧ Taken w0 w fp0 ok σ ((σ.take r p).kill r p) φ φ1 fo := by
  obtain ⟨hv, fo, φ1, h1, h2, h3, h4, h5, h6, h7⟩ := h.takeKill ho
  refine ⟨hv, fo, φ1, h1, h2, h5, h3, fun b hb => ⟨h4 b hb, fun q e he hbq => h6 q e he b hbq hb⟩, h7, fun b hb => ?_⟩
  obtain ⟨hv', fo', hat⟩ := h.rts_.at_ (r := r) (p := p) ho
  have e : hv' = hv := by have := hat.hdr; rw [h1] at this; injection this with this; exact this.symm
  subst e
  have e2 := Ow_unique _ _ _ _ hat.own h2
  subst e2
  obtain ⟨d, hd, _⟩ := obj_root ho
  exact ⟨r, d, hd, hat.sub b hb⟩

theorem exportD_sound (h : Rel w0 fp0 ok σ θ w ρ φ) {f : FV} {d : D} {σ1 : St} {u : Value} (hs : exportD σ f = some (d, σ1)) (hu : FR w ok σ ρ f u) :
    ∃ φ1 fx, Rel w0 fp0 ok σ1 θ w ρ φ1 ∧ Ow w ok d u fx ∧ Taken w0 w fp0 ok σ σ1 φ φ1 fx := by
  unfold exportD at hs
  split at hs
  · rename_i x
    split at hs
    · rename_i hl
      injection hs with hs
      injection hs with h1 h2
      subst h1; subst h2
      simp only [FR] at hu
      exact ⟨φ, [], h, Ow_leaf hl hu, by simp, by simp, fun q e he => ⟨e, he, fun _ h => h⟩, by simp⟩
    · simp at hs
  · rename_i r p lo n'
    split at hs
    · rename_i k N cs ho
      split at hs
      · rename_i hlo
        subst hlo
        injection hs with hs
        injection hs with h1 h2
        subst h1; subst h2
        obtain ⟨hv, fo, φ1, g1, g2, g3, g4⟩ := takeKill_taken h ho
        simp only [FR] at hu
        obtain ⟨k', N', cs', hv', q1, q2, q3, q4⟩ := hu
        rw [ho] at q1
        cases q1
        rw [g1] at q2
        injection q2 with q2
        subst q2
        rcases q4 with ⟨_, a', N2, c', e4, e5⟩ | ⟨hlo, _⟩
        · have hcl := ow_len h ho
          have hcs : takeCells k n' N cs = cs.take (k * n') := by
            unfold takeCells
            split
            · rename_i hN
              subst hN
              rw [List.take_of_length_le (by rw [hcl]; exact Nat.le_refl _)]
            · rfl
          rw [hcs]
          simp only [Ow] at g2
          rcases g2 with ⟨rfl, rfl, rfl, a0, e6⟩ | ⟨b, o, c, arr, T, fp', e6, rfl, h5, h6, h7, h8, h9⟩
          · rw [e6] at e4
            cases e4
            have hn : n' = 0 := by omega
            subst hn
            refine ⟨φ1, [], g3, ?_, by simp, by simp, g4.sub, by simp⟩
            simp only [Ow]
            exact .inl ⟨trivial, by simp, trivial, _, e5⟩
          · rw [e6] at e4
            cases e4
            obtain ⟨us, u1, u2, u3⟩ := OwL_read h9
            obtain ⟨f1, f2, rfl, u4⟩ := OwVs_take (k * n') u3
            have hnod := g4.nod
            simp only [List.nodup_cons, List.mem_append, not_or] at hnod
            have hle : k * n' ≤ cs.length := by rw [h8]; exact Nat.mul_le_mul_left _ (by omega)
            refine ⟨φ1, b :: f1, g3, ?_, List.nodup_cons.2 ⟨hnod.1.1, (List.nodup_append.1 hnod.2).1⟩, fun x hx => g4.bl x ?_, g4.sub, fun x hx => g4.from_ x ?_⟩
            · simp only [Ow]
              refine .inr ⟨b, o, _, arr, T, f1, e5, rfl, h5, ⟨by omega, h6.2⟩, h7, by rw [List.length_take, Nat.min_eq_left hle], OwL_lay (fun _ _ => rfl) u4 (fun j v hj => u2 j v ?_) (fun _ _ => rfl)⟩
              rw [List.getElem?_take] at hj
              split at hj
              · exact hj
              · simp at hj
            · rcases List.mem_cons.1 hx with rfl | hx <;> simp [*]
            · rcases List.mem_cons.1 hx with rfl | hx <;> simp [*]
        · omega
      · simp at hs
    · simp at hs
  · rename_i r p o
    split at hs
    · rename_i cs ho
      split at hs
      · rename_i hlo
        subst hlo
        injection hs with hs
        injection hs with h1 h2
        subst h1; subst h2
        obtain ⟨hv, fo, φ1, g1, g2, g3, g4⟩ := takeKill_taken h ho
        simp only [FR] at hu
        obtain ⟨o', cs', hv', b, q, q1, q2, q3, q4, q5⟩ := hu
        rw [ho] at q1
        cases q1
        rw [g1] at q3
        injection q3 with q3
        subst q3
        have hu2 : u = hv := by
          simp only [Ow] at g2
          obtain ⟨b', arr, T, fp', e, _⟩ := g2
          rw [e] at q4
          injection q4 with q4
          injection q4 with q4 q4'
          subst q4; subst q4'
          rw [q5, e]
        rw [hu2]
        exact ⟨φ1, fo, g3, g2, g4⟩
      · simp at hs
    · simp at hs
  · rename_i r p
    split at hs
    · rename_i es ho
      injection hs with hs
      injection hs with h1 h2
      subst h1; subst h2
      obtain ⟨hv, fo, φ1, g1, g2, g3, g4⟩ := takeKill_taken h ho
      simp only [FR] at hu
      obtain ⟨es', hv', q1, q2, q3⟩ := hu
      rw [g1] at q2
      injection q2 with q2
      subst q2
      rw [q3]
      exact ⟨φ1, fo, g3, g2, g4⟩
    · simp at hs
  · injection hs with hs
    injection hs with h1 h2
    subst h1; subst h2
    exact ⟨φ, [], h, rfl, by simp, by simp, fun q e he => ⟨e, he, fun _ h => h⟩, by simp⟩
  · simp at hs

theorem Taken.trans {σ1 σ2 : St} {φ1 φ2 : Rn → List Nat} {f1 f2 : List Nat} (h : Taken w0 w fp0 ok σ σ1 φ φ1 f1) (k : Taken w0 w fp0 ok σ1 σ2 φ1 φ2 f2) : Taken w0 w fp0 ok σ σ2 φ φ2 (f1 ++ f2) := by
  refine ⟨?_, fun b hb => ?_, fun q e he => ?_, fun b hb => ?_⟩
  · rw [List.nodup_append]
    refine ⟨h.nod, k.nod, fun x hx y hy hxy => ?_⟩
    subst hxy
    obtain ⟨q, e, he, hq⟩ := k.from_ x hy
    exact (h.bl x hx).2 q e he hq
  · rcases List.mem_append.1 hb with hb | hb
    · refine ⟨(h.bl b hb).1, fun q e he hq => ?_⟩
      obtain ⟨e', he', hs⟩ := k.sub q e he
      exact (h.bl b hb).2 q e' he' (hs b hq)
    · exact k.bl b hb
  · obtain ⟨e1, he1, hs1⟩ := k.sub q e he
    obtain ⟨e2, he2, hs2⟩ := h.sub q e1 he1
    exact ⟨e2, he2, fun b hb => hs2 b (hs1 b hb)⟩
  · rcases List.mem_append.1 hb with hb | hb
    · exact h.from_ b hb
    · obtain ⟨q, e, he, hq⟩ := k.from_ b hb
      obtain ⟨e', he', hs⟩ := h.sub q e he
      exact ⟨q, e', he', hs b hq⟩

theorem exportN_sound : ∀ (m t : Nat) (σ σ1 : St) (φ : Rn → List Nat) (ds : List D), Rel w0 fp0 ok σ θ w ρ φ → exportN σ t m = some (ds, σ1) →
    ∃ φ1 fx, Rel w0 fp0 ok σ1 θ w ρ φ1 ∧ OwVs w ok ds ((List.range' t m).map θ) fx ∧ Taken w0 w fp0 ok σ σ1 φ φ1 fx
  | 0, t, σ, σ1, φ, ds, h, hs => by
    simp only [exportN, Option.some.injEq, Prod.mk.injEq] at hs
    obtain ⟨h1, h2⟩ := hs
    subst h1; subst h2
    exact ⟨φ, [], h, by simp [OwVs], by simp, by simp, fun q e he => ⟨e, he, fun _ h => h⟩, by simp⟩
  | m + 1, t, σ, σ2, φ, ds, h, hs => by
    simp only [exportN] at hs
    split at hs
    · rename_i d σ1 h1
      split at hs
      · rename_i ds' σ2' h2
        injection hs with hs
        injection hs with e1 e2
        subst e1; subst e2
        obtain ⟨φ1, f1, a1, a2, a3⟩ := exportD_sound h h1 (h.env t)
        obtain ⟨φ2, f2, b1, b2, b3⟩ := exportN_sound m (t + 1) σ1 σ2' φ1 ds' a1 h2
        refine ⟨φ2, f1 ++ f2, b1, ?_, a3.trans b3⟩
        simp only [List.range'_succ, List.map_cons, OwVs]
        exact ⟨θ t, _, f1, f2, rfl, rfl, a2, b2⟩
      · simp at hs
    · simp at hs

theorem OwVs_split : ∀ {ds : List D} {us : List Value} {fx : List Nat} (j : Nat), OwVs w ok ds us fx → ∃ f1 f2, fx = f1 ++ f2 ∧ OwVs w ok (ds.take j) (us.take j) f1 ∧ OwVs w ok (ds.drop j) (us.drop j) f2
  | ds, us, fx, 0, h => ⟨[], fx, rfl, by simp [OwVs], by simpa using h⟩
  | [], us, fx, j + 1, h => by
    simp only [OwVs] at h
    obtain ⟨rfl, rfl⟩ := h
    exact ⟨[], [], rfl, by simp [OwVs], by simp [OwVs]⟩
  | d :: ds, us, fx, j + 1, h => by
    simp only [OwVs] at h
    obtain ⟨u, vs, g1, g2, rfl, rfl, h1, h2⟩ := h
    obtain ⟨f1, f2, rfl, h3, h4⟩ := OwVs_split j h2
    refine ⟨g1 ++ f1, f2, by simp, ?_, by simpa using h4⟩
    simp only [List.take_succ_cons, OwVs]
    exact ⟨u, vs.take j, g1, f1, rfl, rfl, h1, h3⟩

theorem atoms_val (h : Rel w0 fp0 ok σ θ w ρ φ) : ∀ {fs : List FV} {us : List Value}, (∀ f ∈ fs, f.whole = true) → FRL w ok σ ρ fs us → ∃ vs : List Value, FRL w ok σ ρ (atomsL fs) vs ∧ vs = us.flatMap (fun u => u.cells.toList)
  | [], us, hw, hu => by
    simp only [FRL] at hu
    subst hu
    exact ⟨[], by simp [atomsL, FRL], rfl⟩
  | f :: fs, us, hw, hu => by
    simp only [FRL] at hu
    obtain ⟨u, us', rfl, h1, h2⟩ := hu
    obtain ⟨vs, h3, h4⟩ := atoms_val h (fun g hg => hw g (List.mem_cons_of_mem _ hg)) h2
    have hc := whole_cells h (hw f (List.mem_cons_self ..)) h1
    exact ⟨_, FRL_append hc h3, by simp [h4]⟩

theorem whole_one (hR : Rel w0 fp0 ok σ θ w ρ φ) {f : FV} {v : Value} (hne : ∀ gs, f ≠ .ag gs) (hw : f.whole = true) (h : FR w ok σ ρ f v) : v.cells = #[v] := by
  have fin : (∀ cs, v ≠ .agg cs) → v.cells = #[v] := fun hv => by
    unfold Value.cells
    split
    · rename_i cs
      exact absurd rfl (hv cs)
    · rfl
  cases f with
  | d x =>
    refine fin fun cs e => ?_
    simp only [FR] at h
    have := leaf_one (by simpa [FV.whole] using hw) h
    subst e
    simp [Value.oneCell'] at this
  | al r p lo n =>
    refine fin fun cs e => ?_
    simp only [FR] at h
    obtain ⟨k, N, cs, hv, _, _, _, g4⟩ := h
    subst e
    rcases g4 with ⟨_, a', N', c', _, e5⟩ | ⟨_, b', o', N', c', _, _, ⟨_, e5⟩ | ⟨_, _, _, e5⟩⟩ <;> simp at e5
  | cu r p n =>
    refine fin fun cs e => ?_
    simp only [FR] at h
    obtain ⟨k, N, cs, hv, a, M, c, _, _, _, _, e5⟩ := h
    subst e
    simp at e5
  | pt r p off =>
    refine fin fun cs e => ?_
    simp only [FR] at h
    obtain ⟨o, cs, hv, b, q, _, _, _, _, e5⟩ := h
    subst e
    simp at e5
  | ar r p off n =>
    refine fin fun cs e => ?_
    simp only [FR] at h
    obtain ⟨o, cs, hv, b, q, c, _, _, _, _, _, _, e5 | ⟨_, _, e5⟩⟩ := h <;> (subst e; simp at e5)
  | mr r p =>
    refine fin fun cs e => ?_
    simp only [FR] at h
    obtain ⟨es, hv, g1, g2, e5⟩ := h
    subst e
    obtain ⟨hv', fo, hat⟩ := hR.rts_.at_ (r := r) (p := p) g1
    have e6 : hv' = hv := by have := hat.hdr; rw [g2] at this; injection this with this; exact this.symm
    subst e6
    have := hat.own
    simp only [Ow] at this
    obtain ⟨m, en, cl, e7, _⟩ := this
    rw [← e5] at e7
    simp at e7
  | fb fs off => simp [FV.whole] at hw
  | sp cs off =>
    refine fin fun cs e => ?_
    simp only [FR] at h
    obtain ⟨b, o, e5, _⟩ := h
    subst e
    simp at e5
  | cl f fs =>
    refine fin fun cs e => ?_
    simp only [FR] at h
    obtain ⟨vs, e5, _⟩ := h
    subst e
    simp at e5
  | ag fs => exact absurd rfl (hne fs)
  | it => simp [FV.whole] at hw
  | tu => simp [FV.whole] at hw
  | dead => simp [FV.whole] at hw

theorem groupR_one {f : FV} {r : List FV} {d : D} {ds : List D} (hne : ∀ gs, f ≠ .ag gs) : groupR (f :: r) (d :: ds) = (match groupR r ds with | some l => some (.one d :: l) | none => none) := by
  cases f <;> first | rfl | exact absurd rfl (hne _)
theorem groupR_none {f : FV} {r : List FV} (hne : ∀ gs, f ≠ .ag gs) : groupR (f :: r) [] = none := by
  cases f <;> first | rfl | exact absurd rfl (hne _)
theorem groupR_ag {gs : List FV} {r : List FV} {ds : List D} : groupR (.ag gs :: r) ds = (match groupR r (ds.drop gs.length) with | some l => some (.ag (ds.take gs.length) :: l) | none => none) := by
  cases ds <;> rfl

theorem group_sound (h : Rel w0 fp0 ok σ θ w ρ φ) : ∀ {fs : List FV} {us : List Value} {ds : List D} {res : List RV} {fx : List Nat}, (∀ f ∈ fs, f.whole = true) → FRL w ok σ ρ fs us → groupR fs ds = some res → OwVs w ok ds (us.flatMap fun u => u.cells.toList) fx → OwRs w ok res us fx
  | [], us, ds, res, fx, hw, hu, hg, ho => by
    simp only [FRL] at hu
    subst hu
    cases ds with
    | nil =>
      simp only [groupR, Option.some.injEq] at hg
      subst hg
      simp only [List.flatMap_nil, OwVs] at ho
      simp [OwRs, ho.2]
    | cons d ds => simp [groupR] at hg
  | f :: fs, us, ds, res, fx, hw, hu, hg, ho => by
    simp only [FRL] at hu
    obtain ⟨u, us', rfl, h1, h2⟩ := hu
    have hwf := hw f (List.mem_cons_self ..)
    have hw' : ∀ g ∈ fs, g.whole = true := fun g hg => hw g (List.mem_cons_of_mem _ hg)
    rw [List.flatMap_cons] at ho
    by_cases hag : ∃ gs, f = .ag gs
    · obtain ⟨gs, rfl⟩ := hag
      rw [groupR_ag] at hg
      split at hg
      · rename_i l hl
        injection hg with hg
        subst hg
        simp only [FR] at h1
        obtain ⟨vs, rfl, h3⟩ := h1
        have hlen : vs.toList.length = gs.length := FRL_length h3
        obtain ⟨f1, f2, rfl, o1, o2⟩ := OwVs_split gs.length ho
        have ec : (Value.agg vs).cells = vs := rfl
        rw [ec] at o1 o2
        rw [List.take_append_of_le_length (Nat.le_of_eq hlen.symm), List.take_of_length_le (Nat.le_of_eq hlen)] at o1
        rw [List.drop_append_of_le_length (Nat.le_of_eq hlen.symm), List.drop_of_length_le (Nat.le_of_eq hlen), List.nil_append] at o2
        simp only [OwRs, OwRV]
        exact ⟨.agg vs, us', f1, f2, rfl, rfl, ⟨vs, rfl, o1⟩, group_sound h hw' h2 hl o2⟩
      · simp at hg
    · have hne : ∀ gs, f ≠ .ag gs := fun gs e => hag ⟨gs, e⟩
      cases ds with
      | nil => rw [groupR_none hne] at hg; simp at hg
      | cons d ds =>
        rw [groupR_one hne] at hg
        split at hg
        · rename_i l hl
          injection hg with hg
          subst hg
          rw [whole_one h hne hwf h1] at ho
          simp only [List.singleton_append, OwVs] at ho
          obtain ⟨v, vs, f1, f2, e4, rfl, o1, o2⟩ := ho
          injection e4 with e4 e5
          subst e4; subst e5
          simp only [OwRs, OwRV]
          exact ⟨u, us', f1, f2, rfl, rfl, o1, group_sound h hw' h2 hl o2⟩
        · simp at hg

end
end Go.Proofs.Ytdgeponcnlkaiaa.Ab
namespace Go.Proofs.Ytdgeponcnlkaiaa.Ab
open Go
set_option linter.unusedSimpArgs false
set_option linter.unusedVariables false
set_option linter.unusedSectionVars false

def argL : Nat → List FV → List (Nat × FV)
  | _, [] => []
  | i, f :: r => (i, f) :: argL (i + 1) r
def wFV (r : Rn) : D → FV
  | .ow _ n _ => .al r [] 0 n
  | .bx _ => .pt r [] 0
  | _ => .dead
def watchL : Nat → List (Rn × D) → List (Nat × FV)
  | _, [] => []
  | j, x :: r => (1000 + j, wFV x.1 x.2) :: watchL (j + 1) r
def smallR (n : Nat) : List ResultVar → Bool
  | [] => true
  | .tmp t :: r => decide (t < n) && smallR n r
  | .cell a _ :: r => decide (a < n) && smallR n r

section
variable {w0 w : World} {fp0 : List Nat} {ok0 ok : Nat → Prop} {W : Nat → Value} {n : Nat} {σ : St} {θ : Nat → Value} {ρ : Rn → Value} {φ : Rn → List Nat} {a : Act} {P : Program} {T : TT}

def oneRes (tmps : Array Value) : ResultVar → Sem Value
  | .tmp t => Pure.pure (tmps.getD t undef)
  | .cell x t => do loadVar t (← asAddr (tmps.getD x undef))
theorem resVals_sound (hT : tabB P T = true) (h : Stx w0 fp0 ok0 W n σ a w ok θ ρ φ) : ∀ (rs : List ResultVar) (fs : List FV), smallR n rs = true → resVals T σ rs = some fs → ∃ us, FRL w ok σ ρ fs us ∧
    (rs.mapM (oneRes a.tmps)).run P w = .ok us w
  | [], fs, _, hs => by
    simp only [resVals, Option.some.injEq] at hs
    subst hs
    exact ⟨[], by simp [FRL], by simp⟩
  | .tmp t :: rs, fs, hsm, hs => by
    simp only [smallR, Bool.and_eq_true, decide_eq_true_eq] at hsm
    simp only [resVals] at hs
    split at hs
    · rename_i l hl
      injection hs with hs
      subst hs
      obtain ⟨us, h1, h2⟩ := resVals_sound hT h rs l hsm.2 hl
      have h3 := h.opv (x := .tmp t) (by simpa [smallX] using hsm.1)
      refine ⟨a.tmps.getD t undef :: us, ?_, ?_⟩
      · simp only [FRL]
        exact ⟨_, us, rfl, h3, h1⟩
      · rw [List.mapM_cons]
        simp only [Sem.run_bind, oneRes, Sem.run_pure, Result.andThen_ok]
        rw [h2]
        rfl
    · simp at hs
  | .cell x t :: rs, fs, hsm, hs => by
    simp only [smallR, Bool.and_eq_true, decide_eq_true_eq] at hsm
    simp only [resVals] at hs
    split at hs
    · rename_i f l hf hl
      injection hs with hs
      subst hs
      obtain ⟨us, h1, h2⟩ := resVals_sound hT h rs l hsm.2 hl
      have h3 := h.opv (x := .tmp x) (by simpa [smallX] using hsm.1)
      obtain ⟨v, h4, h5⟩ := load_sound hT h.rel hf h3
      have h6 := h5 w (Later.refl w)
      have e : a.eval (.tmp x) = a.tmps.getD x undef := rfl
      rw [e] at h6
      have hptr : ∃ b, a.tmps.getD x undef = .pointer (some b) := by
        cases hv : a.tmps.getD x undef with
        | pointer b =>
          cases b with
          | some b => exact ⟨b, rfl⟩
          | none => rw [hv] at h6; simp [Instr.loadAt, Instr.sureAddr] at h6
        | _ => rw [hv] at h6; simp [Instr.loadAt, Instr.sureAddr] at h6
      obtain ⟨b, hb⟩ := hptr
      rw [hb] at h6
      simp only [Instr.loadAt, Instr.sureAddr, Sem.run_bind, Sem.run_pure, Result.andThen_ok] at h6
      refine ⟨v :: us, ?_, ?_⟩
      · simp only [FRL]
        exact ⟨_, us, rfl, h4, h1⟩
      · rw [List.mapM_cons]
        have h7 : (oneRes a.tmps (.cell x t)).run P w = .ok v w := by
          simp only [oneRes, Sem.run_bind, hb, asAddr, Sem.run_pure, Result.andThen_ok, h6]
        simp only [Sem.run_bind, h7, Result.andThen_ok, h2, Sem.run_pure]
    · simp at hs

theorem results_run {fn : Func} {us : List Value} (h : (fn.results.toList.mapM (oneRes a.tmps)).run P w = .ok us w) : (results fn a.tmps).run P w = .ok (resultOf us) w := by
  have e : results fn a.tmps = (do let vs ← fn.results.mapM (oneRes a.tmps); pure (if h : vs.size = 1 then vs[0] else .tuple vs)) := by
    unfold results
    congr
  have hm : (fn.results.mapM (oneRes a.tmps)).run P w = .ok us.toArray w := by
    rw [Array.mapM_eq_mapM_toList, Sem.run_map, h]
    rfl
  rw [e, Sem.run_bind, hm]
  simp only [Result.andThen_ok, Sem.run_pure]
  congr 1
  match us with
  | [] => rfl
  | [v] => rfl
  | v :: u :: r =>
    rw [dif_neg (by simp)]
    rfl

theorem OwVs_nosh {ok' : Nat → Prop} : ∀ {ds : List D} {us : List Value} {fp : List Nat}, noShL ds → OwVs w ok ds us fp → OwVs w ok' ds us fp
  | [], us, fp, _, h => by simpa only [OwVs] using h
  | d :: ds, us, fp, hn, h => by
    simp only [OwVs] at h ⊢
    obtain ⟨u, vs, f1, f2, e1, e2, h1, h2⟩ := h
    exact ⟨u, vs, f1, f2, e1, e2, Ow_nosh d u f1 hn.1 h1, OwVs_nosh hn.2 h2⟩
theorem OwRs_nosh {ok' : Nat → Prop} : ∀ {ds : List RV} {us : List Value} {fp : List Nat}, noShR ds → OwRs w ok ds us fp → OwRs w ok' ds us fp
  | [], us, fp, _, h => by simpa only [OwRs] using h
  | .one d :: ds, us, fp, hn, h => by
    simp only [OwRs, OwRV] at h ⊢
    obtain ⟨u, vs, f1, f2, e1, e2, h1, h2⟩ := h
    exact ⟨u, vs, f1, f2, e1, e2, Ow_nosh d u f1 hn.1 h1, OwRs_nosh hn.2 h2⟩
  | .ag xs :: ds, us, fp, hn, h => by
    simp only [OwRs, OwRV] at h ⊢
    obtain ⟨u, vs, f1, f2, e1, e2, ⟨vv, e3, h1⟩, h2⟩ := h
    exact ⟨u, vs, f1, f2, e1, e2, ⟨vv, e3, OwVs_nosh hn.1 h1⟩, OwRs_nosh hn.2 h2⟩

theorem OwVs_len : ∀ {ds : List D} {us : List Value} {fx : List Nat}, OwVs w ok ds us fx → ds.length = us.length
  | [], us, fx, h => by
    simp only [OwVs] at h
    rw [h.1]
    rfl
  | d :: ds, us, fx, h => by
    simp only [OwVs] at h
    obtain ⟨u, vs, g1, g2, rfl, rfl, h1, h2⟩ := h
    simp [OwVs_len h2]
theorem OwVs_names : ∀ (names : List Rn) (outs : List D) (us : List Value) (fo : List Nat), names.length = outs.length → names.Nodup → fo.Nodup → OwVs w ok outs us fo →
    ∃ φ' : Rn → List Nat, (∀ nm d, ofR (names.zip outs) nm = some d → ∃ (k : Nat) (u : Value), names[k]? = some nm ∧ us[k]? = some u ∧ outs[k]? = some d ∧ Ow w ok d u (φ' nm)) ∧
      (∀ nm d, ofR (names.zip outs) nm = some d → (φ' nm).Nodup ∧ ∀ b ∈ φ' nm, b ∈ fo) ∧
      (∀ nm nm' d d', nm ≠ nm' → ofR (names.zip outs) nm = some d → ofR (names.zip outs) nm' = some d' → ∀ b ∈ φ' nm, b ∉ φ' nm')
  | [], outs, us, fo, _, _, _, _ => ⟨fun _ => [], by simp [ofR], by simp [ofR], by simp [ofR]⟩
  | n :: names, [], us, fo, h, _, _, _ => by simp at h
  | n :: names, d :: outs, us, fo, hl, hn, hf, ho => by
    simp only [OwVs] at ho
    obtain ⟨u, vs, f1, f2, rfl, rfl, h1, h2⟩ := ho
    rw [List.nodup_append] at hf
    rw [List.nodup_cons] at hn
    obtain ⟨φ', k1, k2, k3⟩ := OwVs_names names outs vs f2 (by simpa using hl) hn.2 hf.2.1 h2
    refine ⟨fun q => if q = n then f1 else φ' q, fun nm x hx => ?_, fun nm x hx => ?_, fun nm nm' x x' hne hx hx' b hb => ?_⟩
    · simp only [List.zip_cons_cons, ofR] at hx
      by_cases e : n = nm
      · subst e
        rw [if_pos rfl] at hx
        injection hx with hx
        subst hx
        exact ⟨0, u, rfl, rfl, rfl, by simpa using h1⟩
      · rw [if_neg e] at hx
        obtain ⟨k, v, q1, q2, q3, q4⟩ := k1 nm x hx
        exact ⟨k + 1, v, by simpa using q1, by simpa using q2, by simpa using q3, by simpa only [if_neg (Ne.symm e)] using q4⟩
    · simp only [List.zip_cons_cons, ofR] at hx
      by_cases e : n = nm
      · subst e
        simp only [if_true]
        exact ⟨hf.1, fun b hb => List.mem_append_left _ hb⟩
      · rw [if_neg e] at hx
        simp only [if_neg (Ne.symm e)]
        exact ⟨(k2 nm x hx).1, fun b hb => List.mem_append_right _ ((k2 nm x hx).2 b hb)⟩
    · simp only [List.zip_cons_cons, ofR] at hx hx'
      by_cases e : n = nm
      · subst e
        simp only [if_true] at hb
        rw [if_neg hne] at hx'
        simp only [if_neg (Ne.symm hne)]
        exact fun hb' => hf.2.2 b hb b ((k2 nm' x' hx').2 b hb') rfl
      · rw [if_neg e] at hx
        simp only [if_neg (Ne.symm e)] at hb
        by_cases e' : n = nm'
        · subst e'
          simp only [if_true]
          exact fun hb' => hf.2.2 b hb' b ((k2 nm x hx).2 b hb) rfl
        · rw [if_neg e'] at hx'
          simp only [if_neg (Ne.symm e')]
          exact k3 nm nm' x x' hne hx hx' b hb

theorem noShL_get : ∀ {l : List D} {k : Nat} {d : D}, noShL l → l[k]? = some d → noSh d
  | [], k, d, _, h => by simp at h
  | x :: l, 0, d, hn, h => by
    simp only [List.getElem?_cons_zero, Option.some.injEq] at h
    subst h
    exact hn.1
  | x :: l, k + 1, d, hn, h => by
    simp only [List.getElem?_cons_succ] at h
    exact noShL_get hn.2 h

theorem end_sound {C : Ctx} {fn : Func} {pure : Bool} {Q : List D → List RV → Prop} (hT : tabB C.P C.T = true) (hsr : smallR n fn.results.toList = true) (hk : endK C fn.results.toList pure Q σ) (h : Stx w0 fp0 ok0 W n σ a w ok θ ρ φ)
    {ρ0 : Rn → Value} {ros : List (Rn × D)} (hnW : C.nW = ros.length) (hr1 : ros.length ≤ 100) (hnn : (ros.map (·.1)).Nodup) (hW : ∀ (k : Nat) (x : Rn × D), ros[k]? = some x → W k = ρ0 x.1) :
    ∃ v, (results fn a.tmps).run C.P w = .ok v w ∧ ∃ outs res ok' φ' fr, Q outs res ∧ Done w0 ok0 ρ0 fp0 (ros.map (·.1)) pure outs res v w ok' φ' fr := by
  unfold endK at hk
  split at hk
  · rename_i fs hfs
    obtain ⟨hwh, hk⟩ := hk
    obtain ⟨us, h1, h2⟩ := resVals_sound hT h fn.results.toList fs hsr hfs
    obtain ⟨avs, h3, h4⟩ := atoms_val h.rel hwh h1
    have hpend : Rel w0 fp0 ok { σ with env := pend (atomsL fs) 3000 σ.env } (pendT avs 3000 θ) w ρ φ :=
      ⟨h.rel.own, h.rel.dis, fun t => FR_env _ _ (pend_env (atomsL fs) avs 3000 _ _ h3 h.rel.env t), h.rel.okb, h.rel.frm⟩
    split at hk
    · rename_i ds σ1 hex
      split at hk
      · rename_i res outs σ2 hgr hou
        obtain ⟨hpure, hQ⟩ := hk
        obtain ⟨φ1, fr, g1, g2, g3⟩ := exportN_sound (atomsL fs).length 3000 _ σ1 φ ds hpend hex
        obtain ⟨φ2, fo, k1, k2, k3⟩ := exportN_sound C.nW 1000 σ1 σ2 φ1 outs g1 hou
        have hav : (List.range' 3000 (atomsL fs).length).map (pendT avs 3000 θ) = avs := by
          have hl := FRL_length h3
          apply List.ext_getElem?
          intro j
          rw [List.getElem?_map]
          rcases Nat.lt_or_ge j avs.length with hj | hj
          · rw [List.getElem?_range' (by rw [← hl]; exact hj)]
            simp only [Option.map_some, Nat.one_mul]
            rw [pendT_get avs 3000 θ j avs[j] (List.getElem?_eq_getElem hj), List.getElem?_eq_getElem hj]
          · rw [List.getElem?_eq_none (l := List.range' 3000 (atomsL fs).length) (by rw [List.length_range', ← hl]; exact hj), List.getElem?_eq_none hj]
            rfl
        rw [hav, h4] at g2
        have hres := group_sound h.rel hwh h1 hgr g2
        have hol : outs.length = C.nW := by rw [OwVs_len k2]; simp
        obtain ⟨φ', o1, o2, o3⟩ := OwVs_names (ros.map (·.1)) outs _ fo (by rw [List.length_map, hol, hnW]) hnn k3.nod k2
        refine ⟨resultOf us, results_run h2, outs, res, ok, φ', fr, hQ, ?_⟩
        have hres' : OwRs w (if pure then fun _ => False else ok) res us fr := by
          cases pure with
          | true => exact OwRs_nosh (hpure rfl).1 hres
          | false => exact hres
        have okn : ∀ b, ok b → (ok0 b ∨ w0.heap.size ≤ b) ∧ b < w.heap.size := fun b hb => ⟨h.okn b hb, h.rel.okb b hb⟩
        refine ⟨by simp [hol, hnW], fun nm d hd => ?_, o3, ⟨us, rfl, hres'⟩, g3.nod, fun b hb => ⟨(g3.bl b hb).1.1, (g3.bl b hb).1.2.1, (g3.bl b hb).1.2.2⟩, fun nm d hd b hb hbf => ?_, h.rel.frm, h.oks, okn⟩
        · obtain ⟨k, u, q1, q2, q3, q4⟩ := o1 nm d hd
          obtain ⟨p1, p2⟩ := o2 nm d hd
          refine ⟨?_, p1, fun b hb => ⟨(k3.bl b (p2 b hb)).1.1, (k3.bl b (p2 b hb)).1.2.1, (k3.bl b (p2 b hb)).1.2.2⟩⟩
          have hk : k < ros.length := by
            have := (List.getElem?_eq_some_iff.1 q1).1
            simpa using this
          have hu : u = ρ0 nm := by
            rw [List.getElem?_map, List.getElem?_range' (by omega)] at q2
            simp only [Option.map_some, Nat.one_mul, Option.some.injEq] at q2
            rw [pendT_lt avs 3000 θ _ (by omega), h.th.2.1 k (by omega)] at q2
            rw [List.getElem?_map] at q1
            cases hx : ros[k]? with
            | none => rw [hx] at q1; simp at q1
            | some x =>
              rw [hx] at q1
              simp only [Option.map_some, Option.some.injEq] at q1
              rw [hW k x hx, q1] at q2
              exact q2.symm
          rw [← hu]
          cases pure with
          | true => exact Ow_nosh d _ _ (noShL_get (hpure rfl).2 q3) q4
          | false => exact q4
        · obtain ⟨q, e, he, hq⟩ := k3.from_ b ((o2 nm d hd).2 b hb)
          exact (g3.bl b hbf).2 q e he hq
      · exact hk.elim
    · exact hk.elim
  · exact hk.elim

theorem ofL_argL : ∀ (args : List FV) (i t : Nat) (r : List (Nat × FV)), ofL (argL i args ++ r) t = if i ≤ t ∧ t < i + args.length then args.getD (t - i) .dead else ofL r t
  | [], i, t, r => by
    rw [if_neg (by simp)]
    rfl
  | f :: args, i, t, r => by
    simp only [argL, List.cons_append, ofL, List.length_cons]
    by_cases h : i = t
    · subst h
      simp
    · rw [if_neg h, ofL_argL args (i + 1) t r]
      by_cases h2 : i + 1 ≤ t ∧ t < i + 1 + args.length
      · rw [if_pos h2, if_pos (by omega), show t - i = (t - (i + 1)) + 1 by omega]
        rfl
      · rw [if_neg h2, if_neg (by omega)]

theorem ofL_watchL : ∀ (ros : List (Rn × D)) (j t : Nat), ofL (watchL j ros) t = .dead ∨ ∃ k x, ros[k]? = some x ∧ t = 1000 + (j + k) ∧ ofL (watchL j ros) t = wFV x.1 x.2
  | [], j, t => .inl rfl
  | x :: ros, j, t => by
    simp only [watchL, ofL]
    split
    · rename_i e
      exact .inr ⟨0, x, rfl, e.symm, rfl⟩
    · rcases ofL_watchL ros (j + 1) t with h | ⟨k, y, h1, h2, h3⟩
      · exact .inl h
      · exact .inr ⟨k + 1, y, by simpa using h1, by omega, h3⟩
theorem ofR_get : ∀ {ros : List (Rn × D)} {k : Nat} {x : Rn × D}, (ros.map (·.1)).Nodup → ros[k]? = some x → ofR ros x.1 = some x.2
  | [], k, x, _, h => by simp at h
  | y :: ros, 0, x, _, h => by
    simp only [List.getElem?_cons_zero, Option.some.injEq] at h
    subst h
    obtain ⟨a, b⟩ := y
    simp [ofR]
  | y :: ros, k + 1, x, hn, h => by
    simp only [List.getElem?_cons_succ] at h
    simp only [List.map_cons, List.nodup_cons] at hn
    have hne : y.1 ≠ x.1 := fun e => hn.1 (by rw [e]; exact List.mem_map.2 ⟨x, List.mem_of_getElem? h, rfl⟩)
    obtain ⟨a, b⟩ := y
    simp only [ofR]
    rw [if_neg hne]
    exact ofR_get hn.2 h

theorem Done.wider {w : World} {ok : Nat → Prop} {ρ : Rn → Value} {fp0 fp1 : List Nat} {names : List Rn} {pure : Bool} {outs : List D} {res : List RV} {v : Value} {w' : World} {ok' : Nat → Prop} {φ : Rn → List Nat} {fr : List Nat}
    (h : Done w ok ρ fp0 names pure outs res v w' ok' φ fr) (hs : ∀ b ∈ fp0, b ∈ fp1) : Done w ok ρ fp1 names pure outs res v w' ok' φ fr :=
  ⟨h.len, fun r d hd => ⟨(h.out r d hd).1, (h.out r d hd).2.1, fun b hb => ⟨((h.out r d hd).2.2 b hb).1, ((h.out r d hd).2.2 b hb).2.1.imp (hs b) id, ((h.out r d hd).2.2 b hb).2.2⟩⟩, h.dis, h.res, h.nod,
    fun b hb => ⟨(h.bl b hb).1, (h.bl b hb).2.1.imp (hs b) id, (h.bl b hb).2.2⟩, h.disr, ⟨h.frm.os, h.frm.out, h.frm.tape, h.frm.drawn, h.frm.size, fun b hb hn => h.frm.old b hb fun hh => hn (hs b hh)⟩, h.okm, h.okn⟩
/-- **A call's promise, from the body.** -/
theorem ACalls.of_body {C : Ctx} {f : Nat} {fn : Func} {c : Code} {args : List FV} {ros : List (Rn × D)} {pure : Bool} {Q : List D → List RV → Prop} (hT : tabB C.P C.T = true) (hM : C.P.follows .mixedOrders = true)
    (hf : C.P.funcs[f]? = some fn) (hb : fn.body = some c) (hname : (fn.name == "runtime.NumGoroutine") = false) (hn : fn.ntmps = n) (hla : args.length ≤ n) (hn2 : n ≤ 1000) (hsm : smallC n c = true) (hsr : smallR n fn.results.toList = true)
    (hnW : C.nW = ros.length) (hr1 : ros.length ≤ 100) (hnn : (ros.map (·.1)).Nodup) (h : AWp C c 0 (endQ C fn.results.toList pure Q) ⟨ofL (argL 0 args ++ watchL 0 ros), ofR ros⟩) : ACalls C.P f args ros pure Q := by
  refine ⟨⟨fn, c, hf, hb, hname⟩, fun w fp1 ok vs ρ φ hlen hrel1 => ?_⟩
  -- where nothing is lent for writing, nothing old may be written
  obtain ⟨fp0, hz, hsub, hrel⟩ : ∃ fp0 : List Nat, (C.nW = 0 → fp0 = []) ∧ (∀ b ∈ fp0, b ∈ fp1) ∧ Rel w fp0 ok ⟨argEnv args, ofR ros⟩ (fun t => vs.getD t undef) w ρ φ := by
    by_cases h0 : C.nW = 0
    · have hros : ros = [] := List.eq_nil_of_length_eq_zero (by rw [← hnW]; exact h0)
      subst hros
      refine ⟨[], fun _ => rfl, by simp, ⟨fun r d hd => by simp [ofR] at hd, fun r r' d d' _ hd => by simp [ofR] at hd, hrel1.env, hrel1.okb, Keeps.refl w []⟩⟩
    · exact ⟨fp1, fun h => absurd h h0, fun _ h => h, hrel1⟩
  refine Calls.mono (R := fun e w' => ∃ v outs res ok' φ' fr, e = .returned v ∧ Q outs res ∧ Done w ok ρ fp0 (ros.map (·.1)) pure outs res v w' ok' φ' fr) ?_ (fun e w' ⟨v, outs, res, ok', φ', fr, he, hQ, hd⟩ => ⟨v, outs, res, ok', φ', fr, he, hQ, hd.wider hsub⟩)
  refine calls_of_wp hf hb ?_
  have hsz : (vs.toArray ++ Array.replicate (fn.ntmps - vs.toArray.size) undef).size = n := by
    simp only [Array.size_append, List.size_toArray, Array.size_replicate]
    omega
  let W : Nat → Value := fun j => match ros[j]? with | some x => ρ x.1 | none => undef
  let θ : Nat → Value := fun t => if t < 1000 then (vs.toArray ++ Array.replicate (fn.ntmps - vs.toArray.size) undef).getD t undef else W (t - 1000)
  have hs : Stx w fp0 ok W n ⟨ofL (argL 0 args ++ watchL 0 ros), ofR ros⟩ { tmps := vs.toArray ++ Array.replicate (fn.ntmps - vs.toArray.size) undef, defers := [] } w ok θ ρ φ := by
    refine ⟨⟨hrel.own, hrel.dis, fun t => ?_, hrel.okb, hrel.frm⟩, ⟨fun t ht => if_pos ht, fun j hj => ?_, by rw [hsz]; exact hn2⟩, fun _ h => h, fun b hb => .inl hb, rfl, hsz⟩
    · show FR w ok _ ρ (ofL (argL 0 args ++ watchL 0 ros) t) (θ t)
      rw [ofL_argL]
      by_cases ht : t < args.length
      · rw [if_pos (by omega)]
        have h1 : FR w ok ⟨argEnv args, ofR ros⟩ ρ (args.getD t .dead) (vs.getD t undef) := hrel.env t
        have h2 : θ t = vs.getD t undef := by
          show (if t < 1000 then _ else _) = _
          rw [if_pos (by omega)]
          have hlt : t < vs.length := by omega
          simp only [Array.getD_eq_getD_getElem?, List.getD_eq_getElem?_getD]
          rw [Array.getElem?_append_left (by simpa using hlt)]
          simp
        rw [h2, Nat.sub_zero]
        exact FR_st (σ1 := ⟨argEnv args, ofR ros⟩) (σ2 := ⟨ofL (argL 0 args ++ watchL 0 ros), ofR ros⟩) rfl _ _ h1
      · rw [if_neg (by omega)]
        rcases ofL_watchL ros 0 t with e | ⟨k, x, hkx, rfl, e⟩
        · rw [e]
          simp [FR]
        · rw [e]
          have h2 : θ (1000 + (0 + k)) = ρ x.1 := by
            show (if 1000 + (0 + k) < 1000 then _ else W (1000 + (0 + k) - 1000)) = _
            rw [if_neg (by omega), show 1000 + (0 + k) - 1000 = k by omega]
            show (match ros[k]? with | some x => ρ x.1 | none => undef) = _
            rw [hkx]
          rw [h2]
          have hor : ofR ros x.1 = some x.2 := ofR_get hnn hkx
          have hx := (hrel.own x.1 x.2 hor).1
          unfold wFV
          split
          · rename_i k N cs hd
            rw [hd] at hx hor
            simp only [FR]
            refine ⟨k, N, cs, ρ x.1, by simp [St.obj, hor, look], by simp [hdr], by omega, .inl ⟨rfl, ?_⟩⟩
            simp only [Ow] at hx
            rcases hx with ⟨rfl, _, _, a0, e⟩ | ⟨b, o, cp, arr, T, fp', e, _⟩
            · exact ⟨a0, 0, 0, e, e⟩
            · exact ⟨_, N, cp, e, e⟩
          · rename_i cs hd
            rw [hd] at hx hor
            simp only [FR]
            simp only [Ow] at hx
            obtain ⟨b, arr, T, fp', e, _⟩ := hx
            exact ⟨.bx cs, cs, ρ x.1, b, 0, by simp [St.obj, hor, look], rfl, by simp [hdr], by rw [e]; rfl, e⟩
          · simp [FR]
    · show (if 1000 + j < 1000 then _ else W (1000 + j - 1000)) = W j
      rw [if_neg (by omega), Nat.add_sub_cancel_left]
  have hfin : ∀ (σ : St) (a' : Act) (w' : World), endK C fn.results.toList pure Q σ → Ste w fp0 ok W n σ a' w' → a'.defers = [] ∧ ∃ v, (results fn a'.tmps).run C.P w' = .ok v w' ∧
      ∃ v' outs res ok' φ' fr, Ending.returned v = Ending.returned v' ∧ Q outs res ∧ Done w ok ρ fp0 (ros.map (·.1)) pure outs res v' w' ok' φ' fr := by
    intro σ a' w' hk ⟨ok', θ', ρ', φ', hs'⟩
    obtain ⟨v, h1, outs, res, ok2, φ2, fr, h2, h3⟩ := end_sound (ρ0 := ρ) (ros := ros) hT hsr hk hs' hnW hr1 hnn (fun k x hx => by
      show (match ros[k]? with | some x => ρ x.1 | none => undef) = _
      rw [hx])
    exact ⟨hs'.dfr, v, h1, v, outs, res, ok2, φ2, fr, rfl, h2, h3⟩
  refine wp_mono (awp_sound hT hz hM c 0 _ _ _ w hsm h ⟨_, _, _, _, hs⟩) fun e a' w' hc => ?_
  cases e with
  | normal =>
    obtain ⟨σ, hk, hs'⟩ := hc
    exact hfin σ a' w' hk hs'
  | ret =>
    obtain ⟨σ, hk, hs'⟩ := hc
    exact hfin σ a' w' hk hs'
  | exit id =>
    obtain ⟨σ, hk, _⟩ := hc
    exact hk.elim
  | goto l => exact hc.elim
  | panic ch => exact hc.elim
  | outgrown => exact hc.elim

end
end Go.Proofs.Ytdgeponcnlkaiaa.Ab
namespace Go.Proofs.Ytdgeponcnlkaiaa.Ab
open Go
set_option linter.unusedSimpArgs false
set_option linter.unusedVariables false
set_option linter.unusedSectionVars false

def ints (xs : List Int) : List D := xs.map D.int

section
variable {C : Ctx} {i : Nat} {Q : AEx → St → Prop} {σ : St}
theorem wseq {a b : Code} (h : AWp C a i (AEx.seq (AWp C b i Q) Q) σ) : AWp C (.seq a b) i Q σ := h
theorem wskip (h : Q .normal σ) : AWp C .skip i Q σ := h
theorem wexit {id : Nat} (h : Q (.exit id) σ) : AWp C (.exit id) i Q σ := h
theorem wret (h : Q .ret σ) : AWp C .ret i Q σ := h
theorem wblock {id : Nat} {c : Code} (h : AWp C c id (AEx.block id Q) σ) : AWp C (.block id c) i Q σ := h
theorem wreg {id : Nat} {ops : Array Oper} (h : ∀ K : St → Prop, (∀ σ', Q .normal σ' → K σ') → AOps C ops ops.toList σ (fun σ' => K (norm C (aget [] C.kp id) σ'))) : AWp C (.region id ops false) i Q σ := h _ (fun _ h => h)
theorem wdraw {id : Nat} {ops : Array Oper} (p : Plan) (hp : p.ok C ops) (h : ∀ K : St → Prop, (∀ σ', Q .normal σ' → K σ') → ARun C ops p σ (fun σ' => K (norm C (aget [] C.kp id) σ'))) : AWp C (.region id ops true) i Q σ :=
  ⟨p, hp, h _ (fun _ h => h)⟩
theorem wcond {c : Operand} {a b : Code} (t : Bool) (hc : opv σ c = .d (.v (.bool t))) (h1 : t = true → AWp C a i Q σ) (h2 : t = false → AWp C b i Q σ) : AWp C (.cond c a b) i Q σ := ⟨t, hc, h1, h2⟩

/-- A loop whose states are told by a parameter; at its entry empty slices may be held for owned ones. -/
theorem wloopWW {c : Code} {α : Type} (S : α → St) (J : α → Prop) (μ : α → Nat) (x0 : α) (l0 : List Wk) (h0 : wkAll l0 (norm C (aget [] C.lp i) σ) = some (S x0)) (hJ : J x0)
    (h : ∀ x, J x → ∀ K : St → Prop, (∀ y, J y → μ y < μ x → K (S y)) → AWp C c i (AEx.seq (fun σ' => ∃ l σ1, wkAll l (norm C (aget [] C.lp i) σ') = some σ1 ∧ K σ1) Q) (S x)) : AWp C (.loop c) i Q σ := by
  have hex : ∀ τ : St, (∃ x, J x ∧ τ = S x) → ∃ k, (∃ x, J x ∧ τ = S x ∧ μ x = k) := fun τ ⟨x, h1, h2⟩ => ⟨_, x, h1, h2, rfl⟩
  classical
  let μ' : St → Nat := fun τ => if h : ∃ k, (∃ x, J x ∧ τ = S x ∧ μ x = k) then Classical.choose (least h) else 0
  refine ⟨fun τ => ∃ x, J x ∧ τ = S x, μ', ⟨l0, S x0, h0, x0, hJ, rfl⟩, fun τ hτ => ?_⟩
  have e1 : μ' τ = Classical.choose (least (hex τ hτ)) := dif_pos (hex τ hτ)
  obtain ⟨⟨x, h1, h2, h3⟩, _⟩ := Classical.choose_spec (least (hex τ hτ))
  have := h x h1 (fun ξ => (∃ x, J x ∧ ξ = S x) ∧ μ' ξ < μ' τ) fun y hy hlt => by
    have hy' : ∃ x, J x ∧ S y = S x := ⟨y, hy, rfl⟩
    refine ⟨hy', ?_⟩
    have e2 : μ' (S y) = Classical.choose (least (hex (S y) hy')) := dif_pos (hex (S y) hy')
    rw [e1, e2]
    have := (Classical.choose_spec (least (hex (S y) hy'))).2 (μ y) ⟨y, hy, rfl, rfl⟩
    omega
  rw [h2]
  rw [h2] at this
  exact this
theorem wloopB {c : Code} {α : Type} (S : α → St) (J : α → Prop) (μ : α → Nat) (x0 : α) (l0 : List Wk) (h0 : wkAll l0 (norm C (aget [] C.lp i) σ) = some (S x0)) (hJ : J x0)
    (h : ∀ x, J x → ∀ K : St → Prop, (∀ l τ y, wkAll l τ = some (S y) → J y → μ y < μ x → K τ) → AWp C c i (AEx.seq (fun σ' => K (norm C (aget [] C.lp i) σ')) Q) (S x)) : AWp C (.loop c) i Q σ :=
  wloopWW S J μ x0 l0 h0 hJ fun x hx K hK => h x hx (fun τ => ∃ l σ1, wkAll l τ = some σ1 ∧ K σ1) fun l τ y hl hy hlt => ⟨l, _, hl, hK y hy hlt⟩
theorem wloopW {c : Code} {α : Type} (S : α → St) (J : α → Prop) (μ : α → Nat) (x0 : α) (l0 : List Wk) (h0 : wkAll l0 (norm C (aget [] C.lp i) σ) = some (S x0)) (hJ : J x0)
    (h : ∀ x, J x → ∀ K : St → Prop, (∀ y, J y → μ y < μ x → K (S y)) → AWp C c i (AEx.seq (fun σ' => K (norm C (aget [] C.lp i) σ')) Q) (S x)) : AWp C (.loop c) i Q σ :=
  wloopB S J μ x0 l0 h0 hJ fun x hx K hK => h x hx K fun y hy hlt => hK [] _ y rfl hy hlt
theorem wloop {c : Code} {α : Type} (S : α → St) (J : α → Prop) (μ : α → Nat) (x0 : α) (h0 : norm C (aget [] C.lp i) σ = S x0) (hJ : J x0)
    (h : ∀ x, J x → ∀ K : St → Prop, (∀ y, J y → μ y < μ x → K (S y)) → AWp C c i (AEx.seq (fun σ' => K (norm C (aget [] C.lp i) σ')) Q) (S x)) : AWp C (.loop c) i Q σ :=
  wloopW S J μ x0 [] (by rw [h0]; rfl) hJ h
end

theorem ofL_nil (t : Nat) : ofL [] t = .dead := rfl
theorem ofL_cons (i : Nat) (f : FV) (r : List (Nat × FV)) (t : Nat) : ofL ((i, f) :: r) t = if i = t then f else ofL r t := rfl
theorem ofR_nil (t : Rn) : ofR [] t = none := rfl
theorem ofR_cons (i : Rn) (f : D) (r : List (Rn × D)) (t : Rn) : ofR ((i, f) :: r) t = if i = t then some f else ofR r t := rfl
theorem ofRO_nil (t : Rn) : ofRO [] t = none := rfl
theorem ofRO_cons (i : Rn) (f : Option D) (r : List (Rn × Option D)) (t : Rn) : ofRO ((i, f) :: r) t = if i = t then f else ofRO r t := rfl
theorem upd_at {α : Type} (e : Nat → α) (t : Nat) (f : α) (s : Nat) : upd e t f s = if s = t then f else e s := rfl
theorem root_env (σ : St) (r : Rn) (d : D) : (σ.root r d).env = σ.env := rfl
theorem root_rts (σ : St) (r : Rn) (d : D) (q : Rn) : (σ.root r d).rts q = if q = r then some d else σ.rts q := rfl

theorem wrapOk {x : Int} (h0 : -9223372036854775808 ≤ x) (h1 : x < 9223372036854775808) : IntKind.i64.wrap x = x := by
  rw [IntKind.wrap_i64]
  omega
theorem get_ints (xs : List Int) (i : Nat) (h : i < xs.length) : (ints xs)[i]? = some (D.int xs[i]) := by simp [ints, h]
theorem getElem_ints (xs : List Int) (i : Nat) (h : i < (ints xs).length) : (ints xs)[i] = D.int (xs[i]'(by simpa [ints] using h)) := by simp [ints]
theorem length_ints (xs : List Int) : (ints xs).length = xs.length := by simp [ints]
theorem ints_append (xs ys : List Int) : ints xs ++ ints ys = ints (xs ++ ys) := by simp [ints]
theorem ints_set (xs : List Int) (i : Nat) (x : Int) : (ints xs).set i (D.v (.int .i64 x)) = ints (xs.set i x) := by
  unfold ints
  rw [List.map_set]
theorem ints_take (xs : List Int) (i : Nat) : (ints xs).take i = ints (xs.take i) := by simp [ints, List.map_take]
theorem ints_drop (xs : List Int) (i : Nat) : (ints xs).drop i = ints (xs.drop i) := by simp [ints, List.map_drop]
theorem leafL_ints : ∀ (xs : List Int), leafL (ints xs)
  | [] => trivial
  | x :: xs => ⟨rfl, leafL_ints xs⟩
theorem noShL_ints : ∀ (xs : List Int), noShL (ints xs)
  | [] => trivial
  | x :: xs => ⟨trivial, noShL_ints xs⟩
theorem shareL_ints : ∀ (xs : List Int), shareL (ints xs) = ints xs
  | [] => rfl
  | x :: xs => by
    have := shareL_ints xs
    simp only [ints, List.map_cons, shareL, share] at this ⊢
    rw [this]
theorem zeros_ints : ∀ n : Nat, zerosD [.int .i64 0] n = ints (List.replicate n 0)
  | 0 => rfl
  | n + 1 => by
    simp only [zerosD, zeros_ints n, List.replicate_succ]
    rfl

end Go.Proofs.Ytdgeponcnlkaiaa.Ab
namespace Go.Proofs.Ytdgeponcnlkaiaa.Ab
open Go
set_option linter.unusedSimpArgs false
set_option linter.unusedVariables false
set_option linter.unusedSectionVars false

/-- Structs of so many cells, one behind the other. -/
def rows {α : Type} (f : α → List D) : List α → List D
  | [] => []
  | x :: xs => f x ++ rows f xs

section
variable {α : Type} {f : α → List D} {k : Nat}
theorem rows_append (xs ys : List α) : rows f (xs ++ ys) = rows f xs ++ rows f ys := by
  induction xs with
  | nil => rfl
  | cons x xs ih => simp [rows, ih]
theorem rows_length (hk : ∀ x, (f x).length = k) (xs : List α) : (rows f xs).length = k * xs.length := by
  induction xs with
  | nil => rfl
  | cons x xs ih => simp only [rows, List.length_append, hk, ih, List.length_cons, Nat.mul_add, Nat.mul_one]; omega
theorem rows_get (hk : ∀ x, (f x).length = k) : ∀ (xs : List α) (i j : Nat) (h : i < xs.length), j < k → (rows f xs)[k * i + j]? = (f xs[i])[j]?
  | [], i, j, h, _ => by simp at h
  | x :: xs, 0, j, h, hj => by
    simp only [rows, Nat.mul_zero, Nat.zero_add, List.getElem_cons_zero]
    rw [List.getElem?_append_left (by rw [hk]; exact hj)]
  | x :: xs, i + 1, j, h, hj => by
    simp only [rows, List.getElem_cons_succ]
    rw [List.getElem?_append_right (by rw [hk, Nat.mul_add]; omega), hk, show k * (i + 1) + j - k = k * i + j by rw [Nat.mul_add]; omega]
    exact rows_get hk xs i j (by simpa using h) hj
theorem rows_set (hk : ∀ x, (f x).length = k) : ∀ (xs : List α) (i j : Nat) (d : D) (y : α) (h : i < xs.length), j < k → f y = (f xs[i]).set j d → (rows f xs).set (k * i + j) d = rows f (xs.set i y)
  | [], i, j, d, y, h, _, _ => by simp at h
  | x :: xs, 0, j, d, y, h, hj, e => by
    simp only [rows, Nat.mul_zero, Nat.zero_add, List.set_cons_zero, List.getElem_cons_zero] at e ⊢
    rw [List.set_append_left _ _ (by rw [hk]; exact hj), e]
  | x :: xs, i + 1, j, d, y, h, hj, e => by
    simp only [rows, List.set_cons_succ, List.getElem_cons_succ] at e ⊢
    rw [List.set_append_right _ _ (by rw [hk, Nat.mul_add]; omega), hk, show k * (i + 1) + j - k = k * i + j by rw [Nat.mul_add]; omega, rows_set hk xs i j d y (by simpa using h) hj e]
theorem shareL_append (a b : List D) : shareL (a ++ b) = shareL a ++ shareL b := by
  induction a with
  | nil => rfl
  | cons x a ih => simp [shareL, ih]
theorem rows_share (xs : List α) : shareL (rows f xs) = rows (fun x => shareL (f x)) xs := by
  induction xs with
  | nil => rfl
  | cons x xs ih => simp [rows, shareL_append, ih]
theorem noShL_append {a b : List D} (ha : noShL a) (hb : noShL b) : noShL (a ++ b) := by
  induction a with
  | nil => exact hb
  | cons x a ih => exact ⟨ha.1, ih ha.2⟩
theorem rows_noSh (hf : ∀ x, noShL (f x)) (xs : List α) : noShL (rows f xs) := by
  induction xs with
  | nil => trivial
  | cons x xs ih => exact noShL_append (hf x) ih
end

end Go.Proofs.Ytdgeponcnlkaiaa.Ab
namespace Go.Proofs.Ytdgeponcnlkaiaa.Ab
open Go

/-- What a call is asked for, held together. -/
def Back (σ : St) (ios : List Io) (outs : List D) (dst : Option Nat) (res : List RV) (K : St → Prop) : Prop :=
  match putOuts σ ios outs with
  | some σ1 => (match dst with
    | some d => (match unpackR d σ1 0 res with
      | some (fs, σ2, _) => K { σ2 with env := upd σ2.env d (resFV fs) }
      | none => False)
    | none => K σ1)
  | none => False
def CallsTo (P : Program) (f : Nat) (args : List FV) (lent : List Rn) (ios : List Io) (dst : Option Nat) (σ : St) (K : St → Prop) : Prop :=
  ∃ pure Q, ACalls P f args (ios.map fun io => (io.name, io.d)) pure Q ∧ (pure = true ∨ lent = []) ∧ ∀ outs res, Q outs res → Back σ ios outs dst res K
theorem callTo_eq (C : Ctx) (f : Nat) (fvs : List FV) (dst : Option Nat) (σ : St) (K : St → Prop) : callTo C f fvs dst σ K = (match passL σ 0 (aget [] C.M f) fvs with
  | some (args, lent, ios) => ((ios.map (·.r)).Nodup ∧ (ios.map (·.name)).Nodup) ∧ (∀ r ∈ ios.map (·.r), r ∉ lent) ∧ CallsTo C.P f args lent ios dst σ K
  | none => False) := rfl
theorem wcall {P : Program} {f : Nat} {args args' : List FV} {lent : List Rn} {ios : List Io} {dst : Option Nat} {σ : St} {K : St → Prop} {ros : List (Rn × D)} {pure : Bool} {Q : List D → List RV → Prop}
    (h : ACalls P f args' ros pure Q) (ha : args = args') (hr : (ios.map fun io => (io.name, io.d)) = ros) (hp : pure = true ∨ lent = []) (hk : ∀ outs res, Q outs res → Back σ ios outs dst res K) : CallsTo P f args lent ios dst σ K :=
  ⟨pure, Q, by rw [hr, ha]; exact h, hp, hk⟩
theorem wcall1 {P : Program} {f : Nat} {args args' : List FV} {lent : List Rn} {ios : List Io} {dst : Option Nat} {σ : St} {K : St → Prop} {ros : List (Rn × D)} {os : List D} {rs : List RV}
    (h : ACalls P f args' ros true (fun outs res => outs = os ∧ res = rs)) (ha : args = args') (hr : (ios.map fun io => (io.name, io.d)) = ros) (hk : Back σ ios os dst rs K) : CallsTo P f args lent ios dst σ K :=
  wcall h ha hr (.inl rfl) fun outs res ⟨h1, h2⟩ => by rw [h1, h2]; exact hk

theorem AOpG_eq (C : Ctx) (ops : Array Oper) (o : Oper) (σ : St) (K : St → Prop) : AOpG C ops o σ K ↔ (match o.guard with
  | none => AOp C o σ K
  | some (j, want) => (match (ops[j]?).bind (·.dst) with
    | some t => (match σ.env t with
      | .d (.v (.bool b)) => if b = want then AOp C o σ K else K (σ.set o.dst (.tu []))
      | .tu [] => K (σ.set o.dst (.tu []))
      | _ => False)
    | none => False)) := by
  unfold AOpG
  rcases o.guard with _ | ⟨j, want⟩
  · exact Iff.rfl
  · simp only
    rcases (ops[j]?).bind (·.dst) with _ | t
    · exact Iff.rfl
    · simp only
      generalize σ.env t = f
      split
      · rename_i b
        by_cases h : b = want <;> simp [h]
      · exact Iff.rfl
      · rename_i h h'
        split
        · exact absurd rfl (h _)
        · exact absurd rfl h'
        · exact Iff.rfl
theorem takeCells_self (k n : Nat) (cs : List D) : takeCells k n n cs = cs := if_pos rfl
attribute [simp] fbB frzB okAtom pickF
attribute [simp ↓] AFb AFz AFrz
attribute [simp] leafFs
attribute [simp ↓] AOps AOpG_eq AOp silK ABuiltin ARun ARunL callTo_eq AAlloc ABox ABuildSlice AMake AMapUpd ARange ANext AAppend ACopy ADelete AStore ANil
attribute [simp] sil silCall isNilC opv constFV aget norm normWith names addNames watchers ofL_nil ofL_cons upd_at St.set FV.roots FV.rootsL FV.ren FV.renL ofRO_nil ofRO_cons lenF binF binInt bitsV
attribute [simp] indexF tsize addOff loadF pickL isAggK renR AEx.seq AEx.block cellFV argL watchL wFV ofR_nil ofR_cons endQ endK resVals FV.whole D.leaf exportN exportD pend unpend atomsL FV.atoms groupR noShR noShL noSh Value.oneCell'
attribute [simp] St.kOf St.nOf St.obj look St.storeL St.store1 St.absorb St.put putAt D.cells? D.setCells D.quiet FV.isLeaf root_env root_rts getElem_ints length_ints leafL_ints noShL_ints shareL_ints ints_set ints_append ints_take ints_drop
attribute [simp] wk1 wkAll isNil0
attribute [simp] nilIs fieldOff fieldPl sliceF boundsF isZero buildF fillF setAtoms mapIdx2 keyInts appSrc appNew takeCells_self St.take St.kill St.killBelow FV.under FV.underL FV.deep FV.deepL belowB isPre stripP Mv.place FV.move FV.moveL
attribute [simp] Back passL viewFV viewL ioAtom ioL ioFV putOuts unpackD unpackL unpackR resFV share shareL leafL solidL D.solid FV.rootIs St.dropIt St.setIt FV.notIt FV.hasIt FV.hasItL zerosD goneL
end Go.Proofs.Ytdgeponcnlkaiaa.Ab
namespace Go.Proofs.Ytdgeponcnlkaiaa.Ab
open Go
set_option linter.unusedSimpArgs false
set_option linter.unusedVariables false
set_option linter.unusedSectionVars false

/-! ### Operations by their numbers, part by part -/
def AOpsI (C : Ctx) (ops : Array Oper) : List Nat → St → (St → Prop) → Prop
  | [], σ, K => K σ
  | i :: r, σ, K => match ops[i]? with
    | some o => AOpG C ops o σ fun σ' => AOpsI C ops r σ' K
    | none => False
attribute [simp ↓] AOpsI
theorem AOpsI_append (C : Ctx) (ops : Array Oper) (K : St → Prop) : ∀ (is js : List Nat) (σ : St), AOpsI C ops (is ++ js) σ K = AOpsI C ops is σ fun σ' => AOpsI C ops js σ' K
  | [], js, σ => rfl
  | i :: is, js, σ => by
    simp only [List.cons_append, AOpsI]
    have : (fun σ' => AOpsI C ops (is ++ js) σ' K) = fun σ' => AOpsI C ops is σ' fun σ'' => AOpsI C ops js σ'' K := funext fun σ' => AOpsI_append C ops K is js σ'
    rw [this]
theorem AOpsI_range (C : Ctx) (ops : Array Oper) (K : St → Prop) : ∀ (m i : Nat) (σ : St), i + m = ops.size → AOpsI C ops (List.range' i m) σ K = AOps C ops (ops.toList.drop i) σ K
  | 0, i, σ, h => by
    rw [List.drop_of_length_le (by simp; omega)]
    rfl
  | m + 1, i, σ, h => by
    have hi : i < ops.toList.length := by simp; omega
    rw [List.drop_eq_getElem_cons hi, List.range'_succ]
    have : (fun σ' => AOpsI C ops (List.range' (i + 1) m) σ' K) = fun σ' => AOps C ops (ops.toList.drop (i + 1)) σ' K := funext fun σ' => AOpsI_range C ops K m (i + 1) σ' (by omega)
    have e : ops[i]? = some ops.toList[i] := by
      rw [Array.getElem?_eq_getElem (by omega)]
      simp
    show (match ops[i]? with
      | some o => AOpG C ops o σ fun σ' => AOpsI C ops (List.range' (i + 1) m) σ' K
      | none => False) = _
    rw [e, this]
    rfl
theorem opsI_seg {C : Ctx} {ops : Array Oper} {is js : List Nat} {σ : St} {K : St → Prop} (h : ∀ K1 : St → Prop, (∀ σ', AOpsI C ops js σ' K → K1 σ') → AOpsI C ops is σ K1) : AOpsI C ops (is ++ js) σ K := by
  rw [AOpsI_append]
  exact h _ fun _ h => h
theorem opsI_end {C : Ctx} {ops : Array Oper} {is : List Nat} {σ : St} {K : St → Prop} (h : ∀ K1 : St → Prop, (∀ σ', K σ' → K1 σ') → AOpsI C ops is σ K1) : AOpsI C ops is σ K := h _ fun _ h => h
def chainP : List (Bool × Nat) → Plan → Plan
  | [], p => p
  | (true, i) :: r, p => .take i (chainP r p)
  | (false, i) :: r, p => .all [(i, chainP r p)]
theorem ARun_chain (C : Ctx) (ops : Array Oper) (p : Plan) (K : St → Prop) : ∀ (l : List (Bool × Nat)) (σ : St), ARun C ops (chainP l p) σ K = AOpsI C ops (l.map (·.2)) σ fun σ' => ARun C ops p σ' K
  | [], σ => rfl
  | (true, i) :: l, σ => by
    simp only [chainP, ARun, List.map_cons, AOpsI]
    have : (fun σ' => ARun C ops (chainP l p) σ' K) = fun σ' => AOpsI C ops (l.map (·.2)) σ' fun σ'' => ARun C ops p σ'' K := funext fun σ' => ARun_chain C ops p K l σ'
    rw [this]
    rfl
  | (false, i) :: l, σ => by
    simp only [chainP, ARun, ARunL, List.map_cons, AOpsI]
    have : (fun σ' => ARun C ops (chainP l p) σ' K) = fun σ' => AOpsI C ops (l.map (·.2)) σ' fun σ'' => ARun C ops p σ'' K := funext fun σ' => ARun_chain C ops p K l σ'
    rw [this, and_true]
    rfl
section
variable {C : Ctx} {i : Nat} {Q : AEx → St → Prop} {σ : St}
theorem wregI {id : Nat} {ops : Array Oper} (is : List Nat) (he : is = List.range' 0 ops.size) (h : ∀ K : St → Prop, (∀ σ', Q .normal σ' → K σ') → AOpsI C ops is σ (fun σ' => K (norm C (aget [] C.kp id) σ'))) : AWp C (.region id ops false) i Q σ :=
  wreg fun K hK => by
    have := h K hK
    rw [he, AOpsI_range _ _ _ _ _ _ (by omega)] at this
    exact this
theorem wdrawI {id : Nat} {ops : Array Oper} (l : List (Bool × Nat)) (hp : (chainP l .done).ok C ops) (is : List Nat) (he : is = l.map (·.2)) (h : ∀ K : St → Prop, (∀ σ', Q .normal σ' → K σ') → AOpsI C ops is σ (fun σ' => K (norm C (aget [] C.kp id) σ'))) : AWp C (.region id ops true) i Q σ :=
  wdraw (chainP l .done) hp fun K hK => by
    rw [ARun_chain, ← he]
    exact h K hK
end

/-! ### Results -/
def WkD (a b : D) : Prop := a = b ∨ (isNil0 a = true ∧ ∃ k, b = .ow k 0 [])
def WkL : List D → List D → Prop
  | [], [] => True
  | a :: l, b :: r => WkD a b ∧ WkL l r
  | _, _ => False
def WkR : RV → RV → Prop
  | .one a, .one b => WkD a b
  | .ag a, .ag b => WkL a b
  | _, _ => False
def WkRs : List RV → List RV → Prop
  | [], [] => True
  | a :: l, b :: r => WkR a b ∧ WkRs l r
  | _, _ => False
section
variable {w : World} {ok : Nat → Prop}
theorem WkD.ow {a b : D} (h : WkD a b) {u : Value} {fp : List Nat} (ha : Ow w ok a u fp) : Ow w ok b u fp := by
  rcases h with rfl | ⟨h1, k, rfl⟩
  · exact ha
  · have hv := isNil0_val h1 ha
    have hf : fp = [] := by
      unfold isNil0 at h1
      split at h1
      · simp only [Ow] at ha; exact ha.1
      · simp only [Ow] at ha; exact ha.1
      · simp at h1
    subst hf
    exact ow_empty k hv
theorem WkL.ow : ∀ {a b : List D}, WkL a b → ∀ {us : List Value} {fp : List Nat}, OwVs w ok a us fp → OwVs w ok b us fp
  | [], [], _, us, fp, h => h
  | a :: l, b :: r, h, us, fp, ha => by
    obtain ⟨u, us', f1, f2, e1, e2, h1, h2⟩ := ha
    exact ⟨u, us', f1, f2, e1, e2, h.1.ow h1, WkL.ow h.2 h2⟩
  | [], b :: r, h, _, _, _ => h.elim
  | a :: l, [], h, _, _, _ => h.elim
theorem WkR.ow : ∀ {a b : RV}, WkR a b → ∀ {u : Value} {fp : List Nat}, OwRV w ok a u fp → OwRV w ok b u fp
  | .one a, .one b, h, u, fp, ha => WkD.ow h ha
  | .ag a, .ag b, h, u, fp, ha => by
    obtain ⟨vs, e, h1⟩ := ha
    exact ⟨vs, e, WkL.ow h h1⟩
  | .one a, .ag b, h, _, _, _ => h.elim
  | .ag a, .one b, h, _, _, _ => h.elim
theorem WkRs.ow : ∀ {a b : List RV}, WkRs a b → ∀ {us : List Value} {fp : List Nat}, OwRs w ok a us fp → OwRs w ok b us fp
  | [], [], _, us, fp, h => h
  | a :: l, b :: r, h, us, fp, ha => by
    obtain ⟨u, us', f1, f2, e1, e2, h1, h2⟩ := ha
    exact ⟨u, us', f1, f2, e1, e2, WkR.ow h.1 h1, WkRs.ow h.2 h2⟩
  | [], b :: r, h, _, _, _ => h.elim
  | a :: l, [], h, _, _, _ => h.elim
end

theorem ACalls.weak {P : Program} {f : Nat} {args : List FV} {ros : List (Rn × D)} {pure : Bool} {Q Q' : List D → List RV → Prop} (h : ACalls P f args ros pure Q) (hq : ∀ outs res, Q outs res → ∃ res', WkRs res res' ∧ Q' outs res') : ACalls P f args ros pure Q' := by
  refine ⟨h.1, fun w fp0 ok vs ρ φ hl hr => (h.2 w fp0 ok vs ρ φ hl hr).mono ?_⟩
  rintro e w' ⟨v, outs, res, ok', φ', fr, he, hQ, hd⟩
  obtain ⟨res', h1, h2⟩ := hq outs res hQ
  obtain ⟨vs', e1, e2⟩ := hd.res
  exact ⟨v, outs, res', ok', φ', fr, he, h2, ⟨hd.len, hd.out, hd.dis, ⟨vs', e1, h1.ow e2⟩, hd.nod, hd.bl, hd.disr, hd.frm, hd.okm, hd.okn⟩⟩

theorem ACalls.weak1 {P : Program} {f : Nat} {args : List FV} {ros : List (Rn × D)} {pure : Bool} {os : List D} {rs : List RV} (h : ACalls P f args ros pure fun outs res => outs = os ∧ WkRs res rs) : ACalls P f args ros pure fun outs res => outs = os ∧ res = rs :=
  h.weak fun outs res ⟨h1, h2⟩ => ⟨rs, h2, h1, rfl⟩
attribute [simp] WkRs WkR WkL WkD isNil0
theorem nd_t {p : Prop} [Decidable p] (h : (!decide p) = true) : ¬ p := by simpa using h
theorem nd_f {p : Prop} [Decidable p] (h : (!decide p) = false) : p := by simpa using h
theorem d_t {p : Prop} [Decidable p] (h : decide p = true) : p := by simpa using h
theorem d_f {p : Prop} [Decidable p] (h : decide p = false) : ¬ p := by simpa using h
theorem ibne (a b : Int) : (a != b) = !decide (a = b) := by
  by_cases h : a = b <;> simp [h]
theorem wrap_nat {j : Nat} (h : j < 4611686018427387904) : IntKind.i64.wrap (j : Int) = (j : Int) := wrapOk (by omega) (by omega)

/-! ### Arguments -/
section
variable {w : World} {ok : Nat → Prop} {σ : St} {ρ : Rn → Value}
end

/-- What was lent for writing may be held for gone behind the call. -/
theorem ACalls.goneOut {P : Program} {f : FuncId} {args : List FV} {x : Rn × D} {pure : Bool} {R : List D → Prop} {Q : List RV → Prop} (h : ACalls P f args [x] pure (fun outs res => R outs ∧ Q res)) : ACalls P f args [x] pure (fun outs res => outs = [.gone] ∧ Q res) := by
  refine ⟨h.1, fun w fp0 ok vs ρ φ hl hr => Calls.mono (h.2 w fp0 ok vs ρ φ hl hr) ?_⟩
  rintro e w' ⟨v, outs, res, ok', φ', fr, he, hQ, hD⟩
  have hz : ∀ r d, ofR ([x].map (·.1) |>.zip [D.gone]) r = some d → d = .gone := fun r d hd => by
    simp only [List.map_cons, List.map_nil, List.zip_cons_cons, List.zip_nil_right, ofR] at hd
    split at hd
    · injection hd with hd
      exact hd.symm
    · simp at hd
  exact ⟨v, [.gone], res, ok', fun _ => [], fr, he, ⟨rfl, hQ.2⟩,
    { len := rfl, out := fun r d hd => by
        rw [hz r d hd]
        exact ⟨by simp [Ow], List.nodup_nil, by simp⟩
      dis := by simp, res := hD.res, nod := hD.nod, bl := hD.bl, disr := by simp, frm := hD.frm, okm := hD.okm, okn := hD.okn }⟩
end Go.Proofs.Ytdgeponcnlkaiaa.Ab
namespace Go.Proofs.Ytdgeponcnlkaiaa.Ab
open Go
set_option linter.unusedSimpArgs false
set_option linter.unusedVariables false
set_option linter.unusedSectionVars false

structure Trm where
  e : List Int
  c : Int
deriving DecidableEq
structure Lau where
  v : Int
  ts : List Trm
deriving DecidableEq
structure Mat where
  n : Int
  r : Int
  d : List Int
deriving DecidableEq
structure Sed where
  m : Mat
  f : List Lau
deriving DecidableEq
structure Ses where
  a : Mat
  k : List Int
  s : Sed
deriving DecidableEq

abbrev shI (l : List Int) : D := .sh 1 l.length (ints l)
abbrev owI (l : List Int) : D := .ow 1 l.length (ints l)
def tS (t : Trm) : List D := [shI t.e, D.int t.c]
def tO (t : Trm) : List D := [owI t.e, D.int t.c]
def fS (f : Lau) : List D := [D.int f.v, .sh 2 f.ts.length (rows tS f.ts)]
def fO (f : Lau) : List D := [D.int f.v, .ow 2 f.ts.length (rows tO f.ts)]
theorem tS_two (t : Trm) : (tS t).length = 2 := rfl
theorem tO_two (t : Trm) : (tO t).length = 2 := rfl
theorem fS_two (t : Lau) : (fS t).length = 2 := rfl
theorem fO_two (t : Lau) : (fO t).length = 2 := rfl
@[simp] theorem tS_length (l : List Trm) : (rows tS l).length = 2 * l.length := rows_length tS_two l
@[simp] theorem tO_length (l : List Trm) : (rows tO l).length = 2 * l.length := rows_length tO_two l
@[simp] theorem fS_length (l : List Lau) : (rows fS l).length = 2 * l.length := rows_length fS_two l
@[simp] theorem fO_length (l : List Lau) : (rows fO l).length = 2 * l.length := rows_length fO_two l
@[simp] theorem tS_share (l : List Trm) : shareL (rows tO l) = rows tS l := by
  rw [rows_share]
  congr 1
  funext t
  simp [tO, tS, shareL, share, shareL_ints]
@[simp] theorem fS_share (l : List Lau) : shareL (rows fO l) = rows fS l := by
  rw [rows_share]
  congr 1
  funext t
  simp [fO, fS, shareL, share]
@[simp] theorem tO_noSh (l : List Trm) : noShL (rows tO l) := rows_noSh (fun t => by simp [tO, noShL, noSh, noShL_ints]) l
@[simp] theorem fO_noSh (l : List Lau) : noShL (rows fO l) := rows_noSh (fun t => by simp [fO, noShL, noSh]) l

theorem twice {α : Type} {l : List α} {i : Nat} {x : α} (h : l[i]? = some x) : l[i]? = some x ∧ ∀ h' : i < l.length, l[i]'h' = x :=
  ⟨h, fun h' => by rw [List.getElem?_eq_getElem h'] at h; injection h⟩
section
variable {l : List Trm} {g : List Lau} {i : Nat}
end
theorem modify_const {α : Type} (l : List α) (i : Nat) (e : α) : l.modify i (fun _ => e) = l.set i e := by
  apply List.ext_getElem?
  intro j
  rw [List.getElem?_modify, List.getElem?_set]
  split
  · rename_i h
    subst h
    split
    · rename_i h
      rw [List.getElem?_eq_getElem h]
      rfl
    · rename_i h
      rw [List.getElem?_eq_none (by omega)]
      rfl
  · simp

/-! ### Marks -/
def marks (k : Int) (n : Nat) : List Int := (List.range n).map fun (i : Nat) => k + (i : Int)
@[simp] theorem marks_length (k : Int) (n : Nat) : (marks k n).length = n := by simp [marks]
theorem marks_get (k : Int) (n i : Nat) (h : i < n) : (marks k n)[i]'(by simpa using h) = k + i := by simp [marks]
theorem marks_succ (k : Int) (n : Nat) : marks k (n + 1) = marks k n ++ [k + n] := by simp [marks, List.range_succ]

section
variable {α : Type} (cnt : α → Nat) (mk : α → Int → α)
def cntL : List α → Nat
  | [] => 0
  | x :: xs => cnt x + cntL xs
def mkL : List α → Int → List α
  | [], _ => []
  | x :: xs, k => mk x k :: mkL xs (k + cnt x)
@[simp] theorem mkL_length : ∀ (l : List α) (k : Int), (mkL cnt mk l k).length = l.length
  | [], k => rfl
  | x :: xs, k => by simp [mkL, mkL_length xs]
theorem cntL_append : ∀ (l r : List α), cntL cnt (l ++ r) = cntL cnt l + cntL cnt r
  | [], r => by simp [cntL]
  | x :: xs, r => by simp [cntL, cntL_append xs r, Nat.add_assoc]
theorem mkL_append : ∀ (l r : List α) (k : Int), mkL cnt mk (l ++ r) k = mkL cnt mk l k ++ mkL cnt mk r (k + cntL cnt l)
  | [], r, k => by simp [mkL, cntL]
  | x :: xs, r, k => by
    simp only [List.cons_append, mkL, mkL_append xs r, cntL]
    rw [show k + (cnt x : Int) + (cntL cnt xs : Int) = k + ((cnt x + cntL cnt xs : Nat) : Int) by omega]
theorem cntL_step (l : List α) (j : Nat) (h : j < l.length) : cntL cnt (l.take (j + 1)) = cntL cnt (l.take j) + cnt l[j] := by
  rw [List.take_succ_eq_append_getElem h, cntL_append]
  simp [cntL]
theorem cntL_le (l : List α) (j : Nat) : cntL cnt (l.take j) ≤ cntL cnt l := by
  have : cntL cnt l = cntL cnt (l.take j) + cntL cnt (l.drop j) := by rw [← cntL_append, List.take_append_drop]
  omega
theorem cntL_le1 (l : List α) (j : Nat) (h : j < l.length) : cntL cnt (l.take j) + cnt l[j] ≤ cntL cnt l := by
  rw [← cntL_step cnt l j h]
  exact cntL_le cnt l (j + 1)
theorem mkL_get1 (l : List α) (k : Int) (j : Nat) (h : j < l.length) : (mkL cnt mk l k)[j]'(by simpa using h) = mk l[j] (k + cntL cnt (l.take j)) := by
  have e : l = l.take j ++ l[j] :: l.drop (j + 1) := by rw [← List.drop_eq_getElem_cons h, List.take_append_drop]
  have e2 : mkL cnt mk l k = mkL cnt mk (l.take j) k ++ mk l[j] (k + cntL cnt (l.take j)) :: mkL cnt mk (l.drop (j + 1)) (k + cntL cnt (l.take j) + cnt l[j]) := by
    conv => lhs; rw [e]
    rw [mkL_append]
    rfl
  have : (mkL cnt mk l k)[j]? = some (mk l[j] (k + cntL cnt (l.take j))) := by
    rw [e2, List.getElem?_append_right (by simp; omega)]
    simp [Nat.min_eq_left (Nat.le_of_lt h)]
  rw [List.getElem?_eq_getElem (by simpa using h)] at this
  injection this
theorem mkL_get2 (l : List α) (k : Int) (j : Nat) (h : j < l.length) : (mkL cnt mk (l.take j) k ++ l.drop j)[j]? = some l[j] := by
  rw [List.getElem?_append_right (by simp; omega)]
  simp [Nat.min_eq_left (Nat.le_of_lt h), h]
theorem mkL_step (l : List α) (k : Int) (j : Nat) (h : j < l.length) : (mkL cnt mk (l.take j) k ++ l.drop j).set j (mk l[j] (k + cntL cnt (l.take j))) = mkL cnt mk (l.take (j + 1)) k ++ l.drop (j + 1) := by
  rw [List.set_append_right _ _ (by simp; omega), List.take_succ_eq_append_getElem h, mkL_append]
  simp [Nat.min_eq_left (Nat.le_of_lt h), mkL]
  rw [List.drop_eq_getElem_cons h]
  rfl
end
/-! ### Rows that are filled one by one -/
def tZ : Option Trm → List D
  | none => [.v (.slice none 0 0), D.int 0]
  | some t => tO t
theorem tZ_two (t : Option Trm) : (tZ t).length = 2 := by cases t <;> rfl
@[simp] theorem tZ_length (l : List (Option Trm)) : (rows tZ l).length = 2 * l.length := rows_length tZ_two l
theorem fill_step {α : Type} (xs : List α) (j : Nat) (h : j < xs.length) (z : α) : (xs.take j ++ List.replicate (xs.length - j) z).set j xs[j] = xs.take (j + 1) ++ List.replicate (xs.length - (j + 1)) z := by
  rw [List.set_append_right _ _ (by simp; omega), List.take_succ_eq_append_getElem h]
  simp only [List.length_take, Nat.min_eq_left (Nat.le_of_lt h), Nat.sub_self]
  rw [show xs.length - j = (xs.length - (j + 1)) + 1 by omega, List.replicate_succ, List.set_cons_zero, List.append_assoc]
  rfl
/-! ### Sizes -/
end Go.Proofs.Ytdgeponcnlkaiaa.Ab
namespace Go.Proofs.Ytdgeponcnlkaiaa.Ab
open Go Go.ChangeShapes Go.WideShapes Go.ChangeAt Go.RowKit
set_option linter.unusedSimpArgs false
set_option linter.unusedVariables false

/-- Old blocks are as they were. -/
structure Old (w w' : World) : Prop where
  os : w'.os = w.os
  out : w'.output = w.output
  size : w.heap.size ≤ w'.heap.size
  blk : ∀ b, b < w.heap.size → w'.heap[b]? = w.heap[b]?
theorem Old.kept {w w' : World} (h : Old w w') (may : MemPlace → Prop) : w.keptBut w' may := by
  refine ⟨h.os, h.out, fun i hi => ?_⟩
  rw [h.blk i hi]
  cases hh : w.heap[i]? with
  | none => rfl
  | some o =>
    cases o with
    | cells c t fr => exact ⟨rfl, rfl, rfl, fun _ _ => rfl⟩
    | map es cl => exact .inr ⟨rfl, rfl⟩
    | _ => rfl
theorem Old.froz {w w' : World} (h : Old w w') (a : Addr) (ha : a.block < w.heap.size) : w'.frozen? a = w.frozen? a := by
  unfold World.frozen?
  rw [h.blk a.block ha]
variable {H : Type} {enc : TypeId × Value → H} {P : Program}
/-- What is asked behind a law that answers, where what was read is as it was. -/
theorem post_of_old {f : Func} {s : ChangeSpec} {apart fresh handsOn again : Bool} {W W' : World} {args : Array Value} {v : Value} {ds gs : List (DataW H)} {before pa pv : List MemPlace}
    (hW : DataW.Whole enc P f.params.toList s.vars apart W args.toList ds gs before)
    (hres : ∀ (b : Nat) (sp : Nat → Bool) (hd : Bool), DataW.TrodAll enc P W' b sp hd f.resultTypes.toList (v.resultList f.resultTypes.size) (s.fn H (ds ++ gs)).results [])
    (hargs : ∀ sp : Nat → Bool, (∀ p ∈ before, sp p.block = true) → DataW.TrodAll enc P W' 0 sp true f.params.toList args.toList (s.fn H (ds ++ gs)).args pa)
    (hvars : ∀ sp : Nat → Bool, (∀ p ∈ before, sp p.block = true) → DataW.TrodVars enc P W' sp s.vars (s.fn H (ds ++ gs)).vars pv)
    (hps : before = pa ++ pv) (ho : Old W W')
    (hok : ∀ (j : Nat) (t : TypeId) (r : Value), f.resultTypes[j]? = some t → (v.resultList f.resultTypes.size)[j]? = some r → Value.okWide P W' .any 0 t r) :
    s.post enc P f apart fresh handsOn again W args v W' := by
  have hlt : ∀ p ∈ before, p.block < W.heap.size := fun p hp => hW.lt p hp
  have hsp : ∀ p ∈ before, (fun b => decide (b < W.heap.size)) p.block = true := fun p hp => decide_eq_true (hlt p hp)
  have hall : ∀ p ∈ before, (fun _ : Nat => true) p.block = true := fun _ _ => rfl
  have happ : [] ++ pa ++ pv = before := by rw [hps]; rfl
  refine ⟨ds, gs, before, [], pa, pv, hW, hres _ _ _, hargs _ hsp, hvars _ hsp, ho.kept _, fun _ => ⟨hok, _, _, [] ++ pa ++ pv, ⟨[] ++ pa, pv, trodAll_append (hargs _ hall) (hres _ _ _), hvars _ hall, rfl, ?_, ?_⟩, ?_⟩⟩
  · obtain ⟨_, _, _, _, _, hz, hn⟩ := hW
    intro b off hp
    rw [happ] at hp
    rw [ho.froz _ (hlt _ hp)]
    exact hz b off hp
  · obtain ⟨_, _, _, _, _, hz, hn⟩ := hW
    intro ha
    rw [happ]
    exact hn ha
  · intro p hp _
    rw [happ] at hp
    exact hp

end Go.Proofs.Ytdgeponcnlkaiaa.Ab
namespace Go.Proofs.Ytdgeponcnlkaiaa.Ab
open Go Go.ChangeShapes Go.WideShapes Go.ChangeAt Go.RowKit
set_option linter.unusedSimpArgs false
set_option linter.unusedVariables false
set_option linter.unusedSectionVars false

def oldOk (W : World) : Nat → Prop := fun b => b < W.heap.size
theorem old_of_cell {W : World} {a : Addr} {v : Value} (h : W.cell? a = some v) : oldOk W a.block := by
  unfold World.cell? at h
  split at h
  · rename_i hh
    unfold oldOk
    rcases Nat.lt_or_ge a.block W.heap.size with h1 | h1
    · exact h1
    · rw [Array.getElem?_eq_none (by omega)] at hh; simp at hh
  · simp at h
theorem ShV_ShL {w : World} {ok : Nat → Prop} {b : Nat} : ∀ {ds : List D} {us : List Value} {o : Nat}, ShV w ok ds us → (∀ (j : Nat) (v : Value), us[j]? = some v → w.cell? ⟨b, o + j, none⟩ = some v) → ShL w ok b ds o
  | [], us, o, h, _ => by simp [ShL]
  | d :: ds, us, o, h, hc => by
    simp only [ShV] at h
    obtain ⟨u, us', rfl, h1, h2⟩ := h
    simp only [ShL]
    refine ⟨⟨u, by simpa using hc 0 u rfl, h1⟩, ShV_ShL h2 fun j v hj => ?_⟩
    have := hc (j + 1) v (by simpa using hj)
    rwa [show o + 1 + j = o + (j + 1) by omega]
theorem ShL_cat {w : World} {ok : Nat → Prop} {b : Nat} : ∀ {ds es : List D} {o : Nat}, ShL w ok b ds o → ShL w ok b es (o + ds.length) → ShL w ok b (ds ++ es) o
  | [], es, o, _, k => by simpa using k
  | d :: ds, es, o, h, k => by
    simp only [ShL] at h
    simp only [List.cons_append, ShL]
    refine ⟨h.1, ShL_cat h.2 ?_⟩
    simp only [List.length_cons] at k
    rwa [show o + 1 + ds.length = o + (ds.length + 1) by omega]
theorem rows_ShL {w : World} {ok : Nat → Prop} {b k : Nat} {α : Type} {f : α → List D} (hk : ∀ x, (f x).length = k) : ∀ (l : List α) (o : Nat), (∀ i (h : i < l.length), ShL w ok b (f l[i]) (o + i * k)) → ShL w ok b (rows f l) o
  | [], o, _ => by simp [rows, ShL]
  | x :: l, o, h => by
    simp only [rows]
    refine ShL_cat (by have := h 0 (by simp); simp only [List.getElem_cons_zero, Nat.zero_mul, Nat.add_zero] at this; exact this) ?_
    rw [hk]
    refine rows_ShL hk l (o + k) fun i hi => ?_
    have := h (i + 1) (by simpa using hi)
    simp only [List.getElem_cons_succ] at this
    rwa [show o + k + i * k = o + (i + 1) * k by rw [Nat.add_mul, Nat.one_mul]; omega]

section
variable {H : Type} {enc : TypeId × Value → H} {P : Program} {W : World}
/-- Whatever reads at type t (as many bytes as there may be) is what f says of some a that is in bounds. -/
structure Opens (enc : TypeId × Value → H) (P : Program) (W : World) (t k : Nat) (α : Type) (f : α → List D) (G : α → Prop) : Prop where
  cells : P.cellsOf t = k
  len : ∀ a, (f a).length = k
  op : ∀ (fuel : Nat) (cs : List Value) (x : DataW H × List MemPlace), DataW.trod enc P W 0 (fun _ => true) true fuel t cs = some x → (∀ n ∈ x.1.weights P t, n ≤ reachBytes) → ∃ a : α, G a ∧ ShV W (oldOk W) (f a) cs
theorem Opens.to {t k : Nat} {α β : Type} {f : α → List D} {G : α → Prop} (h : Opens enc P W t k α f G) (g : α → β) {f' : β → List D} {G' : β → Prop} (hf : ∀ a, f' (g a) = f a) (hl : ∀ b, (f' b).length = k) (hG : ∀ a, G a → G' (g a)) : Opens enc P W t k β f' G' :=
  ⟨h.cells, hl, fun fuel cs x hx hw => by
    obtain ⟨a, h1, h2⟩ := h.op fuel cs x hx hw
    exact ⟨g a, hG a h1, by rw [hf]; exact h2⟩⟩
def i64b (n : Int) : Prop := -9223372036854775808 ≤ n ∧ n ≤ 9223372036854775807
theorem Opens.int {t : Nat} (ht : P.underlying t = some (.int .i64)) (hc : P.cellsOf t = 1) : Opens enc P W t 1 Int (fun n => [D.int n]) i64b :=
  ⟨hc, fun _ => rfl, fun fuel cs x hx _ => by
    obtain ⟨n, rfl, rfl, hw⟩ := DataW.trod_int ht hx
    exact ⟨n, bounds_i64 hw, by simp [ShV, Sh]⟩⟩
theorem mem_weightsAll {e : Nat} : ∀ {l : List (DataW H)} {d : DataW H}, d ∈ l → ∀ n ∈ d.weights P e, n ∈ DataW.weightsAll P e l
  | x :: l, d, hd, n, hn => by
    simp only [DataW.weightsAll, List.mem_append]
    rcases List.mem_cons.1 hd with rfl | hd
    · exact .inl hn
    · exact .inr (mem_weightsAll hd n hn)
theorem cells_get {a : Addr} {k : Nat} {cs : List Value} (h : W.cells? 0 a k = some cs) : cs.length = k ∧ ∀ (j : Nat) (v : Value), cs[j]? = some v → W.cell? (a.add j) = some v := by
  unfold World.cells? at h
  rw [if_pos (Nat.zero_le _)] at h
  have hl := mapM_some_length h
  simp only [List.length_range] at hl
  refine ⟨hl, fun j v hj => ?_⟩
  have hj2 : j < k := by
    rw [← hl]
    rcases Nat.lt_or_ge j cs.length with h1 | h1
    · exact h1
    · rw [List.getElem?_eq_none h1] at hj; simp at hj
  have := mapM_some_get h j j (by simp [hj2])
  rw [this, hj]
theorem Opens.slice {t e k bs : Nat} {α : Type} {f : α → List D} {G : α → Prop} (h : Opens enc P W e k α f G) (hk0 : 0 < k) (ht : P.underlying t = some (.slice e)) (hc : P.cellsOf t = 1) (hb : P.bytesOf e = bs) :
    Opens enc P W t 1 (List α) (fun l => [.sh k l.length (rows f l)]) (fun l => (∀ x ∈ l, G x) ∧ l.length * bs ≤ 140737488351232) :=
  ⟨hc, fun _ => rfl, fun fuel cs x hx hw => by
    rcases DataW.trod_slice ht hx with ⟨rfl, rfl⟩ | ⟨a, len, cap, elems, rest, n, rfl, rfl, rfl, hb0, hlc, hcm, hel, hget, _, _⟩
    · exact ⟨[], by simp, by simp [ShV, Sh, rows]⟩
    · have hwt : (elems.length + rest.length) * bs ≤ 140737488351232 := by
        have := hw ((elems.length + rest.length) * bs) (by simp [DataW.weights, ht, hb])
        simpa [reachBytes] using this
      have hwe : ∀ y ∈ elems, ∀ n ∈ y.1.weights P e, n ≤ reachBytes := fun y hy n hn => by
        refine hw n ?_
        simp only [DataW.weights, ht, List.mem_cons, List.mem_append]
        exact .inr (.inl (mem_weightsAll (List.mem_map.2 ⟨y, hy, rfl⟩) n hn))
      have key : ∀ i : Fin len, ∃ y : α, G y ∧ ∃ cs, W.cells? 0 (a.add (i.1 * k)) k = some cs ∧ ShV W (oldOk W) (f y) cs := fun i => by
        have h1 := hget i.1 i.2
        rw [h.cells] at h1
        have h2 : i.1 < elems.length := by rw [hel]; exact i.2
        rw [List.getElem?_eq_getElem h2, Option.bind_eq_some_iff] at h1
        obtain ⟨cs, h3, h4⟩ := h1
        obtain ⟨y, h5, h6⟩ := h.op n cs _ h4 (hwe _ (List.getElem_mem h2))
        exact ⟨y, h5, cs, h3, h6⟩
      let l : List α := List.ofFn fun i : Fin len => Classical.choose (key i)
      have hll : l.length = len := by simp [l]
      have hlg : ∀ i (hi : i < l.length), G l[i] ∧ ∃ cs, W.cells? 0 (a.add (i * k)) k = some cs ∧ ShV W (oldOk W) (f l[i]) cs := fun i hi => by
        have := Classical.choose_spec (key ⟨i, by omega⟩)
        simpa [l] using this
      refine ⟨l, ⟨fun x hx => ?_, ?_⟩, ?_⟩
      · obtain ⟨i, hi, rfl⟩ := List.getElem_of_mem hx
        exact (hlg i hi).1
      · rw [hll]
        rw [hel] at hwt
        exact Nat.le_trans (Nat.mul_le_mul_right _ (by omega)) hwt
      · simp only [ShV, Sh]
        refine ⟨_, [], rfl, ⟨some a, cap, by rw [hll], by omega, rows_length h.len l, ?_⟩, rfl⟩
        rcases Nat.eq_zero_or_pos l.length with hz | hp
        · left
          rw [List.eq_nil_of_length_eq_zero hz]
          rfl
        · right
          obtain ⟨_, cs0, hc0, _⟩ := hlg 0 hp
          obtain ⟨hl0, hg0⟩ := cells_get hc0
          have h00 : cs0[0]? = some (cs0[0]'(by omega)) := List.getElem?_eq_getElem _
          have hfirst := hg0 0 _ h00
          have hspot : a.spot = none := by
            have := World.cell?_spot hfirst
            simpa [Addr.add] using this
          have hold := old_of_cell hfirst
          obtain ⟨b, off, spot⟩ := a
          simp only at hspot
          subst hspot
          refine ⟨b, off, rfl, by simpa [Addr.add] using hold, rows_ShL h.len l off fun i hi => ?_⟩
          obtain ⟨_, csi, hci, hsi⟩ := hlg i hi
          refine ShV_ShL hsi fun j v hj => ?_
          have := (cells_get hci).2 j v hj
          rwa [Go.WideShapes.add_plain, Go.WideShapes.add_plain] at this⟩
theorem Opens.struct2 {t t0 t1 k0 k1 : Nat} {F0 F1 : Field} {α0 α1 : Type} {f0 : α0 → List D} {f1 : α1 → List D} {G0 : α0 → Prop} {G1 : α1 → Prop} (h0 : Opens enc P W t0 k0 α0 f0 G0) (h1 : Opens enc P W t1 k1 α1 f1 G1)
    (ht : P.underlying t = some (.struct #[F0, F1])) (e0 : F0.type = t0 ∧ F0.offset = 0) (e1 : F1.type = t1 ∧ F1.offset = k0) (hc : P.cellsOf t = k0 + k1) :
    Opens enc P W t (k0 + k1) (α0 × α1) (fun a => f0 a.1 ++ f1 a.2) (fun a => G0 a.1 ∧ G1 a.2) :=
  ⟨hc, fun a => by simp [h0.len, h1.len], fun fuel cs x hx hw => by
    obtain ⟨xs, n, rfl, rfl, hl, hxl, hg⟩ := DataW.trod_struct ht hx
    match xs, hxl with
    | [y0, y1], _ =>
    have g0 := hg 0 F0 rfl
    have g1 := hg 1 F1 rfl
    rw [e0.1, e0.2, h0.cells] at g0
    rw [e1.1, e1.2, h1.cells] at g1
    simp only [DataW.weights, ht, List.map_cons, List.map_nil, DataW.weightsEach, List.mem_append, e0.1, e1.1] at hw
    obtain ⟨a0, p0, q0⟩ := h0.op n _ _ g0 (fun n hn => hw n (.inl hn))
    obtain ⟨a1, p1, q1⟩ := h1.op n _ _ g1 (fun n hn => hw n (.inr (.inl hn)))
    refine ⟨(a0, a1), ⟨p0, p1⟩, ?_⟩
    have := ShV_append q0 q1
    rw [hc] at hl
    rwa [List.drop_zero, List.take_of_length_le (l := cs.drop k0) (by simp; omega), List.take_append_drop] at this⟩
theorem Opens.struct3 {t t0 t1 t2 k0 k1 k2 : Nat} {F0 F1 F2 : Field} {α0 α1 α2 : Type} {f0 : α0 → List D} {f1 : α1 → List D} {f2 : α2 → List D} {G0 : α0 → Prop} {G1 : α1 → Prop} {G2 : α2 → Prop} (h0 : Opens enc P W t0 k0 α0 f0 G0) (h1 : Opens enc P W t1 k1 α1 f1 G1) (h2 : Opens enc P W t2 k2 α2 f2 G2)
    (ht : P.underlying t = some (.struct #[F0, F1, F2])) (e0 : F0.type = t0 ∧ F0.offset = 0) (e1 : F1.type = t1 ∧ F1.offset = k0) (e2 : F2.type = t2 ∧ F2.offset = k0 + k1) (hc : P.cellsOf t = k0 + k1 + k2) :
    Opens enc P W t (k0 + k1 + k2) (α0 × α1 × α2) (fun a => f0 a.1 ++ f1 a.2.1 ++ f2 a.2.2) (fun a => G0 a.1 ∧ G1 a.2.1 ∧ G2 a.2.2) :=
  ⟨hc, fun a => by simp [h0.len, h1.len, h2.len, Nat.add_assoc], fun fuel cs x hx hw => by
    obtain ⟨xs, n, rfl, rfl, hl, hxl, hg⟩ := DataW.trod_struct ht hx
    match xs, hxl with
    | [y0, y1, y2], _ =>
    have g0 := hg 0 F0 rfl
    have g1 := hg 1 F1 rfl
    have g2 := hg 2 F2 rfl
    rw [e0.1, e0.2, h0.cells] at g0
    rw [e1.1, e1.2, h1.cells] at g1
    rw [e2.1, e2.2, h2.cells] at g2
    simp only [DataW.weights, ht, List.map_cons, List.map_nil, DataW.weightsEach, List.mem_append, e0.1, e1.1, e2.1] at hw
    obtain ⟨a0, p0, q0⟩ := h0.op n _ _ g0 (fun n hn => hw n (.inl hn))
    obtain ⟨a1, p1, q1⟩ := h1.op n _ _ g1 (fun n hn => hw n (.inr (.inl hn)))
    obtain ⟨a2, p2, q2⟩ := h2.op n _ _ g2 (fun n hn => hw n (.inr (.inr (.inl hn))))
    refine ⟨(a0, a1, a2), ⟨p0, p1, p2⟩, ?_⟩
    have := ShV_append (ShV_append q0 q1) q2
    rw [hc] at hl
    rwa [List.drop_zero, List.take_of_length_le (l := cs.drop (k0 + k1)) (by simp; omega), ← List.drop_drop, List.append_assoc (List.take k0 cs), List.take_append_drop, List.take_append_drop] at this⟩

/-! ### Arguments -/
/-- An argument of type t reads as the frame's value F a. -/
structure Arg (enc : TypeId × Value → H) (P : Program) (W : World) (t : Nat) (α : Type) (F : α → FV) (G : α → Prop) : Prop where
  rec_ : P.readableRec t = true
  row : t < P.types.size
  op : ∀ (base : Nat) (v : Value) (d : DataW H) (p : List MemPlace), Value.okWide P W .any base t v → DataW.Trod enc P W 0 (fun _ => true) true t v d p → (∀ n ∈ d.weights P t, n ≤ reachBytes) → ∃ a : α, G a ∧ ∀ (σ : St) (ρ : Rn → Value), FR W (oldOk W) σ ρ (F a) v
theorem ShV_FRL {w : World} {ok : Nat → Prop} {σ : St} {ρ : Rn → Value} : ∀ {ds : List D} {us : List Value}, ShV w ok ds us → FRL w ok σ ρ (ds.map .d) us
  | [], us, h => by simpa [ShV, FRL] using h
  | d :: ds, us, h => by
    simp only [ShV] at h
    obtain ⟨u, vs, rfl, h1, h2⟩ := h
    simp only [List.map_cons, FRL]
    exact ⟨u, vs, rfl, by simpa [FR] using h1, ShV_FRL h2⟩
theorem Arg.agg {t k : Nat} {α : Type} {f : α → List D} {G : α → Prop} {fs : Array Field} (h : Opens enc P W t k α f G) (hr : P.readableRec t = true) (hrow : t < P.types.size) (ht : P.underlying t = some (.struct fs)) : Arg enc P W t α (fun a => .ag ((f a).map .d)) G :=
  ⟨hr, hrow, fun base' v d p ho hd hw => by
    obtain ⟨fuel, hx⟩ := hd
    obtain ⟨a, h1, h2⟩ := h.op fuel _ _ hx hw
    refine ⟨a, h1, fun σ ρ => ?_⟩
    unfold Value.okWide at ho
    rw [ht] at ho
    obtain ⟨cs, rfl, _⟩ := ho
    simp only [FR]
    exact ⟨cs, rfl, ShV_FRL h2⟩⟩

/-! ### From a law's contract to its row -/
theorem lawW {f : Nat} {args : List FV} (h : ACalls P f args [] true (fun outs res => outs = [] ∧ res = [.one (D.bool true)])) {vs : List Value} (hv : ∀ (σ : St) (ρ : Rn → Value), FRL W (oldOk W) σ ρ args vs) :
    Calls P f vs.toArray W fun e w' => e = .returned (.bool true) ∧ Below W.heap.size W w' := by
  have hlen : ∀ {σ : St} {ρ : Rn → Value} {aas : List FV} {us : List Value}, FRL W (oldOk W) σ ρ aas us → us.length = aas.length ∧ ∀ t, FR W (oldOk W) σ ρ (argEnv aas t) (us.getD t undef) := by
    intro σ ρ aas
    induction aas with
    | nil =>
      intro us h
      simp only [FRL] at h
      subst h
      exact ⟨rfl, fun t => by simp [argEnv, FR]⟩
    | cons a aas ih =>
      intro us h
      simp only [FRL] at h
      obtain ⟨u, vs, rfl, h1, h2⟩ := h
      obtain ⟨h3, h4⟩ := ih h2
      refine ⟨by simp [h3], fun t => ?_⟩
      cases t with
      | zero => simpa [argEnv] using h1
      | succ t => simpa [argEnv] using h4 t
  have := h.2 W [] (oldOk W) vs (fun _ => undef) (fun _ => []) (hlen (hv ⟨fun _ => .dead, fun _ => none⟩ (fun _ => undef))).1 ⟨fun r d hd => by simp [ofR] at hd, fun r r' d d' _ hd => by simp [ofR] at hd, (hlen (hv _ _)).2, fun b hb => hb, Keeps.refl W []⟩
  refine Calls.mono this ?_
  rintro e w' ⟨v, outs, res, ok', φ', fr, rfl, ⟨rfl, rfl⟩, hd⟩
  obtain ⟨vs, e1, e2⟩ := hd.res
  simp only [OwRs, OwRV, if_true] at e2
  obtain ⟨u, us, f1, f2, rfl, _, h1, h2, _⟩ := e2
  subst h2
  simp only [Ow] at h1
  refine ⟨?_, hd.frm.os, hd.frm.tape, hd.frm.out, hd.frm.size, fun b hb => hd.frm.old b hb (by simp)⟩
  rw [e1, h1.2]
  rfl
theorem trodAll_stays (hl : laidOutB P = true) {W' : World} (hb : Below W.heap.size W W') {sp : Nat → Bool} : ∀ {ts : List TypeId} {vs : List Value} {ds : List (DataW H)} {p : List MemPlace}, (∀ t ∈ ts, P.readableRec t = true ∧ t < P.types.size) →
    DataW.TrodAll enc P W 0 (fun _ => true) true ts vs ds p → (∀ x ∈ p, x.block < W.heap.size) → (∀ x ∈ p, sp x.block = true) → DataW.TrodAll enc P W' 0 sp true ts vs ds p
  | [], [], [], p, _, h, _, _ => h
  | t :: ts, v :: vs, d :: ds, p, ht, h, h1, h2 => by
    obtain ⟨p1, p2, h3, h4, rfl⟩ := h
    have h5 := ht t (by simp)
    refine ⟨p1, p2, WideElems.Trod_stays hl h5.1 h5.2 h3 (fun x hx => hb.same (h1 x (by simp [hx]))) (fun x hx => h2 x (by simp [hx])), trodAll_stays hl hb (fun t ht' => ht t (by simp [ht'])) h4 (fun x hx => h1 x (by simp [hx])) (fun x hx => h2 x (by simp [hx])), rfl⟩
  | [], _ :: _, _, _, _, h, _, _ => h.elim
  | [], [], _ :: _, _, _, h, _, _ => h.elim
  | _ :: _, [], _, _, _, h, _, _ => h.elim
  | _ :: _, _ :: _, [], _, _, h, _, _ => h.elim
/-- **What is asked behind a law that answers true and writes nothing that was there.** -/
theorem post_of_below (hl : laidOutB P = true) {f : Func} {s : ChangeSpec} {apart fresh handsOn again : Bool} {W' : World} {args : Array Value} {ds gs : List (DataW H)} {before : List MemPlace}
    (hW : DataW.Whole enc P f.params.toList s.vars apart W args.toList ds gs before) (hv0 : s.vars = []) (hts : ∀ t ∈ f.params.toList, P.readableRec t = true ∧ t < P.types.size)
    (hfn : s.fn H ds = { results := [.lit (.bool true)], args := ds }) {tb : TypeId} (hres : f.resultTypes = #[tb]) (htb : P.underlying tb = some .bool) (hb : Below W.heap.size W W') (hok : ∀ W' : World, Value.okWide P W' .any 0 tb (.bool true)) :
    s.post enc P f apart fresh handsOn again W args (.bool true) W' := by
  have hlt : ∀ p ∈ before, p.block < W.heap.size := fun p hp => hW.lt p hp
  have hW0 := hW
  obtain ⟨p, q, hA, hV, rfl, hz, hn⟩ := hW
  rw [hv0] at hV
  obtain ⟨rfl, rfl⟩ := trodVars_none hV
  simp only [List.append_nil] at hlt hz hn
  have hfn2 : s.fn H (ds ++ []) = { results := [.lit (.bool true)], args := ds } := by rw [List.append_nil]; exact hfn
  have hvar : ∀ sp : Nat → Bool, DataW.TrodVars enc P W' sp s.vars [] [] := fun sp => by rw [hv0]; rfl
  have hr : ∀ (b : Nat) (sp : Nat → Bool) (hd : Bool), DataW.TrodAll enc P W' b sp hd f.resultTypes.toList ((Value.bool true).resultList f.resultTypes.size) [.lit (.bool true)] [] := fun b sp hd => by
    rw [hres]
    exact trodAll_cons_mk (p := []) (p' := []) (shut_bool htb _) trodAll_mk0
  have ha : ∀ sp : Nat → Bool, (∀ x ∈ p, sp x.block = true) → DataW.TrodAll enc P W' 0 sp true f.params.toList args.toList ds p := fun sp hs => trodAll_stays hl hb hts hA hlt hs
  exact post_of_old (pa := p) (pv := []) hW0 (fun b sp hd => by rw [hfn2]; exact hr b sp hd) (fun sp hs => by rw [hfn2]; exact ha sp fun x hx => hs x (by simp [hx])) (fun sp _ => by rw [hfn2]; exact hvar sp) rfl ⟨hb.os, hb.output, hb.size, hb.block⟩ (ok_one hres rfl (hok W'))
end
end Go.Proofs.Ytdgeponcnlkaiaa.Ab
namespace Go.Proofs.Ytdgeponcnlkaiaa.Ab
open Go Go.ChangeShapes Go.WideShapes Go.ChangeAt Go.RowKit
set_option linter.unusedSimpArgs false
set_option linter.unusedVariables false
set_option maxRecDepth 100000
section
variable {H : Type} {enc : TypeId × Value → H} {W : World}
theorem rows_int (l : List Int) : rows (fun n => [D.int n]) l = ints l := by
  induction l with
  | nil => rfl
  | cons x l ih => simp [rows, ih, ints]
theorem opInt : Opens enc Try.prog W 3 1 Int (fun n => [D.int n]) i64b := Opens.int Try.underlying3 (by kernel_rfl)
def IntsB (l : List Int) : Prop := (∀ x ∈ l, i64b x) ∧ l.length * 8 ≤ 140737488351232
theorem opInts : Opens enc Try.prog W 22 1 (List Int) (fun l => [shI l]) IntsB :=
  (Opens.slice opInt (by omega) Try.underlying22 (by kernel_rfl) (by kernel_rfl)).to id (fun l => by simp [shI, rows_int]) (fun _ => rfl) (fun _ h => ⟨h.1, h.2⟩)
theorem laidOut : laidOutB Try.prog = true := by kernel_rfl
theorem okBool (W' : World) : Value.okWide Try.prog W' .any 0 4 (.bool true) := okWide_bool_mk Try.underlying4 _
end
end Go.Proofs.Ytdgeponcnlkaiaa.Ab
namespace Go.Proofs.Ytdgeponcnlkaiaa.Ab
open Go Go.Shelf
set_option linter.unusedSimpArgs false
set_option linter.unusedVariables false
theorem grow_calls {P : Program} {r : Ren} (L : Lays8.n4 P r) (hcb : Callable P (r.f 4)) {i : TI} (hrow : RowOk P (r.t 25) i) (hs0 : 0 < i.size) (n : Nat) (hb : n * i.bytes ≤ 140737488355328) (hn : n ≤ 1000000) :
    ACalls P (r.f 4) [.d (.v (.slice none 0 0)), .int n] [] true (fun outs res => outs = [] ∧ res = [.one (.ow i.size 0 [])]) := by
  refine ⟨hcb, fun w fp0 ok vs ρ φ hlen hrel => ?_⟩
  have e0 := hrel.env 0
  have e1 := hrel.env 1
  match vs, hlen with
  | [v0, v1], _ =>
  have e0' : v0 = .slice none 0 0 := by simpa [argEnv, FR, Sh] using e0
  have e1' : v1 = .int .i64 n := by simpa [argEnv, FR, Sh] using e1
  subst e0'; subst e1'
  rcases Nat.eq_zero_or_pos n with rfl | hp
  · refine Calls.mono (Any8.slices_Grow_room L none 0 0 0 w (by omega) (by omega) (by omega) (by omega)) ?_
    rintro e w' ⟨rfl, rfl⟩
    exact ⟨_, [], [.one (.ow i.size 0 [])], ok, φ, [], rfl, ⟨rfl, rfl⟩,
      { len := rfl, out := by simp [ofR], dis := by simp [ofR], res := ⟨[.slice none 0 0], rfl, by simp only [OwRs, OwRV, Ow]; exact ⟨_, _, [], [], rfl, rfl, .inl ⟨trivial, trivial, rfl, _, rfl⟩, rfl, rfl⟩⟩, nod := List.nodup_nil, bl := by simp, disr := by simp [ofR], frm := Keeps.refl _ _, okm := fun _ h => h, okn := fun b hb => ⟨.inl hb, hrel.okb b hb⟩ }⟩
  · obtain ⟨ti, h1, h2, h3, z, h4, h5, h6⟩ := hrow.info
    have hzs : z.cells.size = i.size := by rw [← Array.length_toList, h5, hrow.len]
    refine Calls.mono (Any8.slices_Grow_grow L ti z h1 h4 (by omega) none 0 0 n [] w (by omega) (by omega) (by rw [h3, Nat.zero_add]; exact hb) (by omega) (by simp) (fun _ => rfl) (by simp)) ?_
    rintro e w' ⟨rfl, rfl⟩
    have hG : 0 + n ≤ grownCap w (0 + n) 0 (r.t 25) := grownCap_ge w _ _ _
    generalize grownCap w (0 + n) 0 (r.t 25) = G at hG ⊢
    have hnew : ∀ (B : Array Value) (ty : TypeId), (w.drew.alloc (.cells B ty)).heap[w.heap.size]? = some (.cells B ty (0, 0)) := fun B ty => heap_alloc_new w.drew _
    refine ⟨_, [], [.one (.ow i.size 0 [])], ok, φ, [w.heap.size], rfl, ⟨rfl, rfl⟩,
      { len := rfl, out := by simp [ofR], dis := by simp [ofR], res := ⟨[_], rfl, ?_⟩, nod := by simp, bl := fun b hb => ?_, disr := by simp [ofR], frm := (Keeps.refl _ _).drew.alloc _, okm := fun _ h => h, okn := fun b hb => ⟨.inl hb, ?_⟩ }⟩
    · simp only [OwRs, OwRV, Ow, OwL]
      refine ⟨_, _, [w.heap.size], [], rfl, by simp, .inr ⟨_, _, _, _, _, [], rfl, rfl, hnew _ _, ⟨by omega, by omega⟩, ?_, by simp, rfl⟩, by simp⟩
      simp only [Array.size_append, List.size_toArray, size_zeroCells, hzs, List.length_nil, Nat.zero_add, Nat.sub_zero, ← Nat.add_mul]
      rw [Nat.mul_comm]
      exact Nat.mul_le_mul_right _ (by omega)
    · simp only [List.mem_singleton] at hb
      subst hb
      refine ⟨fun h => Nat.lt_irrefl _ (hrel.okb _ h), .inr (Nat.le_refl _), ?_⟩
      show w.heap.size < (w.drew.alloc _).heap.size
      simp
    · refine Nat.lt_of_lt_of_le (hrel.okb b hb) ?_
      show w.heap.size ≤ (w.drew.alloc _).heap.size
      simp
end Go.Proofs.Ytdgeponcnlkaiaa.Ab
namespace Go.Proofs.Ytdgeponcnlkaiaa.Ab
open Go Go.Proofs
def growQTerm_ren : Go.Shelf.Ren := ⟨fun | 4 => 205 | n => n, fun | 22 => 64 | 25 => 153 | 3 => 3 | 4 => 4 | 9 => 9 | 20 => 20 | 0 => 0 | n => n, fun | n => n⟩
theorem growQTerm : Go.Proofs.Lays8.n4 Try.prog growQTerm_ren := {
  mixed := by kernel_rfl,
  f4 := ⟨Try.f205.name, by decide, Try.func205.trans (congrArg some (by kernel_rfl))⟩,
  t0 := Try.underlying0,
  a0 := Try.isAgg0,
  z0 := Try.sizeOf0,
  v0 := Try.zeroValue0,
  t3 := Try.underlying3,
  a3 := Try.isAgg3,
  z3 := Try.sizeOf3,
  v3 := Try.zeroValue3,
  t4 := Try.underlying4,
  a4 := Try.isAgg4,
  z4 := Try.sizeOf4,
  v4 := Try.zeroValue4,
  t9 := Try.underlying9,
  a9 := Try.isAgg9,
  z9 := Try.sizeOf9,
  v9 := Try.zeroValue9,
  t20 := Try.underlying20,
  a20 := Try.isAgg20,
  z20 := Try.sizeOf20,
  v20 := Try.zeroValue20,
  t22 := Try.underlying64,
  a22 := Try.isAgg64,
  z22 := Try.sizeOf64,
  v22 := Try.zeroValue64 }
theorem growQTerm_t25 : growQTerm_ren.t 25 = 153 := by kernel_rfl
theorem growQTerm_f4 : growQTerm_ren.f 4 = 205 := by kernel_rfl
end Go.Proofs.Ytdgeponcnlkaiaa.Ab
namespace Go.Proofs.Ytdgeponcnlkaiaa.Ab
open Go Go.Proofs
def sortTerm_ren : Go.Shelf.Ren := ⟨fun | 6 => 189 | 15 => 226 | 14 => 225 | 28 => 243 | 29 => 244 | 20 => 235 | 21 => 236 | 22 => 237 | 23 => 238 | 24 => 239 | 25 => 240 | 26 => 241 | 27 => 242 | 46 => 253 | 47 => 254 | 48 => 255 | 49 => 256 | 50 => 257 | 57 => 261 | n => n, fun | 22 => 51 | 24 => 131 | 25 => 204 | 3 => 3 | 39 => 229 | 0 => 0 | 53 => 247 | 55 => 249 | 4 => 4 | 46 => 240 | 45 => 239 | 50 => 244 | 5 => 5 | 9 => 9 | 66 => 255 | 70 => 199 | 76 => 262 | 77 => 263 | n => n, fun | n => n⟩
def sortQTerm_ren : Go.Shelf.Ren := ⟨fun | 6 => 206 | 15 => 226 | 14 => 228 | 28 => 243 | 29 => 244 | 20 => 245 | 21 => 246 | 22 => 247 | 23 => 248 | 24 => 249 | 25 => 250 | 26 => 251 | 27 => 252 | 46 => 258 | 47 => 254 | 48 => 255 | 49 => 259 | 50 => 260 | 57 => 262 | n => n, fun | 22 => 64 | 24 => 153 | 25 => 215 | 3 => 3 | 39 => 229 | 0 => 0 | 53 => 247 | 55 => 249 | 4 => 4 | 46 => 240 | 45 => 239 | 50 => 244 | 5 => 5 | 9 => 9 | 66 => 255 | 70 => 199 | 76 => 262 | 77 => 263 | n => n, fun | n => n⟩
theorem sortQTerm : Go.Proofs.SlLaysF0.n6 Try.prog sortQTerm_ren := {
  mixed := by kernel_rfl,
  f6 := ⟨Try.f206.name, by decide, Try.func206.trans (congrArg some (by kernel_rfl))⟩,
  f14 := ⟨Try.f228.name, by decide, Try.func228.trans (congrArg some (by kernel_rfl))⟩,
  f15 := Try.func226.trans (congrArg some (by kernel_rfl)),
  f20 := ⟨Try.f245.name, by decide, Try.func245.trans (congrArg some (by kernel_rfl))⟩,
  f21 := ⟨Try.f246.name, by decide, Try.func246.trans (congrArg some (by kernel_rfl))⟩,
  f22 := ⟨Try.f247.name, by decide, Try.func247.trans (congrArg some (by kernel_rfl))⟩,
  f23 := ⟨Try.f248.name, by decide, Try.func248.trans (congrArg some (by kernel_rfl))⟩,
  f24 := ⟨Try.f249.name, by decide, Try.func249.trans (congrArg some (by kernel_rfl))⟩,
  f25 := ⟨Try.f250.name, by decide, Try.func250.trans (congrArg some (by kernel_rfl))⟩,
  f26 := ⟨Try.f251.name, by decide, Try.func251.trans (congrArg some (by kernel_rfl))⟩,
  f27 := ⟨Try.f252.name, by decide, Try.func252.trans (congrArg some (by kernel_rfl))⟩,
  f28 := Try.func243.trans (congrArg some (by kernel_rfl)),
  f29 := Try.func244.trans (congrArg some (by kernel_rfl)),
  f46 := ⟨Try.f258.name, by decide, Try.func258.trans (congrArg some (by kernel_rfl))⟩,
  f47 := Try.func254.trans (congrArg some (by kernel_rfl)),
  f48 := Try.func255.trans (congrArg some (by kernel_rfl)),
  f49 := ⟨Try.f259.name, by decide, Try.func259.trans (congrArg some (by kernel_rfl))⟩,
  f50 := ⟨Try.f260.name, by decide, Try.func260.trans (congrArg some (by kernel_rfl))⟩,
  f57 := ⟨Try.f262.name, by decide, Try.func262.trans (congrArg some (by kernel_rfl))⟩,
  t0 := Try.underlying0,
  a0 := Try.isAgg0,
  z0 := Try.sizeOf0,
  v0 := Try.zeroValue0,
  t3 := Try.underlying3,
  a3 := Try.isAgg3,
  z3 := Try.sizeOf3,
  v3 := Try.zeroValue3,
  t4 := Try.underlying4,
  a4 := Try.isAgg4,
  z4 := Try.sizeOf4,
  v4 := Try.zeroValue4,
  t5 := Try.underlying5,
  a5 := Try.isAgg5,
  z5 := Try.sizeOf5,
  v5 := Try.zeroValue5,
  t9 := Try.underlying9,
  a9 := Try.isAgg9,
  z9 := Try.sizeOf9,
  v9 := Try.zeroValue9,
  t22 := Try.underlying64,
  a22 := Try.isAgg64,
  z22 := Try.sizeOf64,
  v22 := Try.zeroValue64,
  t25 := Try.underlying215,
  a25 := Try.isAgg215,
  z25 := Try.sizeOf215,
  v25 := Try.zeroValue215,
  t39 := Try.underlying229,
  a39 := Try.isAgg229,
  z39 := Try.sizeOf229,
  v39 := Try.zeroValue229,
  t45 := Try.underlying239,
  a45 := Try.isAgg239,
  z45 := Try.sizeOf239,
  v45 := Try.zeroValue239,
  t46 := Try.underlying240,
  a46 := Try.isAgg240,
  z46 := Try.sizeOf240,
  v46 := Try.zeroValue240,
  t50 := Try.underlying244,
  a50 := Try.isAgg244,
  z50 := Try.sizeOf244,
  v50 := Try.zeroValue244,
  t53 := Try.underlying247,
  a53 := Try.isAgg247,
  z53 := Try.sizeOf247,
  v53 := Try.zeroValue247,
  t55 := Try.underlying249,
  a55 := Try.isAgg249,
  z55 := Try.sizeOf249,
  v55 := Try.zeroValue249,
  t66 := Try.underlying255,
  a66 := Try.isAgg255,
  z66 := Try.sizeOf255,
  v66 := Try.zeroValue255,
  t70 := Try.underlying199,
  a70 := Try.isAgg199,
  z70 := Try.sizeOf199,
  v70 := Try.zeroValue199,
  t76 := Try.underlying262,
  a76 := Try.isAgg262,
  z76 := Try.sizeOf262,
  v76 := Try.zeroValue262,
  t77 := Try.underlying263,
  a77 := Try.isAgg263,
  z77 := Try.sizeOf263,
  v77 := Try.zeroValue263 }
theorem sortQTerm_t24 : sortQTerm_ren.t 24 = 153 := by kernel_rfl
theorem sortQTerm_f6 : sortQTerm_ren.f 6 = 206 := by kernel_rfl
theorem sortQTerm_agg : ∀ w, (isAgg (sortQTerm_ren.t 24)).run Try.prog w = .ok true w := fun w => by rw [sortQTerm_t24]; exact Try.isAgg153 w
theorem sortQTerm_size : ∀ w, (Go.sizeOf (sortQTerm_ren.t 24)).run Try.prog w = .ok 3 w := fun w => by rw [sortQTerm_t24]; exact Try.sizeOf153 w
end Go.Proofs.Ytdgeponcnlkaiaa.Ab
namespace Go.Proofs.Ytdgeponcnlkaiaa.Ab
open Go
set_option linter.unusedSimpArgs false
set_option linter.unusedVariables false
set_option linter.unusedSectionVars false

/-- What a function that sorts promises over worlds. -/
def SfOk (P : Program) (sf k : Nat) : Prop :=
  (∀ (p : Option Addr) (cap : Nat) (fv : Value) (w : World), Calls P sf #[.slice p 0 cap, fv] w fun e w' => e = .returned (.tuple #[]) ∧ w' = w) ∧
  ∀ (α : Type) [Inhabited α] (enc : α → List Value) (hk : ∀ x, (enc x).length = k) (h1 : ∀ x, ∀ v ∈ enc x, v.oneCell' = true) (cf : α → α → Int) (hO : Go.Sort.SWO (ltOf cf)) (g : Nat) (blk off cap : Nat) (d : Array α) (w : World)
    (eg : ∀ args w, (callFunc g args).run P w = .ok (.enter g args) w) (hcmp : CmpLays P g #[] enc k cf blk off d.size w) (hH : Go.Sort.HoldsK enc k w blk off d) (hblk : blk < w.heap.size) (hsz : d.size < 4611686018427387904),
    Calls P sf #[.slice (some ⟨blk, off, none⟩) d.size cap, .func (.func g) #[] #[]] w fun e w' =>
      e = .returned (.tuple #[]) ∧ ∃ d' n os, Go.Sort.PermIn 0 d.size d d' ∧ Go.Sort.SortedIn (ltOf cf) 0 d.size d' ∧ w' = sortWorldK enc k w blk off n d' os

/-! ### Elements -/
structure El (τ : Type) where
  us : List Value
  fp : List Nat
  t : τ
section
variable {τ : Type} {f : τ → List D} {k : Nat} {w : World} {ok : Nat → Prop}
theorem rows_els (hk : ∀ t, (f t).length = k) : ∀ (ts : List τ) (us : List Value) (fp : List Nat), OwVs w ok (rows f ts) us fp →
    ∃ els : List (El τ), els.map (·.t) = ts ∧ us = els.flatMap (·.us) ∧ fp = els.flatMap (·.fp) ∧ ∀ x ∈ els, OwVs w ok (f x.t) x.us x.fp
  | [], us, fp, h => by
    simp only [rows, OwVs] at h
    exact ⟨[], rfl, by simp [h.1], by simp [h.2], by simp⟩
  | t :: ts, us, fp, h => by
    have hl := OwVs_length h
    obtain ⟨f1, f2, e, h1, h2⟩ := OwVs_split k h
    have e1 : (rows f (t :: ts)).take k = f t := by
      simp only [rows]
      rw [List.take_append_of_le_length (by rw [hk]; exact Nat.le_refl _), List.take_of_length_le (by rw [hk]; exact Nat.le_refl _)]
    have e2 : (rows f (t :: ts)).drop k = rows f ts := by
      simp only [rows]
      rw [← hk t, List.drop_left]
    rw [e1] at h1
    rw [e2] at h2
    obtain ⟨els, g1, g2, g3, g4⟩ := rows_els hk ts _ _ h2
    refine ⟨⟨us.take k, f1, t⟩ :: els, by simp [g1], ?_, ?_, fun x hx => ?_⟩
    · simp only [List.flatMap_cons]
      rw [← g2, List.take_append_drop]
    · simp only [List.flatMap_cons]
      rw [← g3, e]
    · rcases List.mem_cons.1 hx with rfl | hx
      · exact h1
      · exact g4 x hx
theorem els_rows : ∀ (els : List (El τ)), (∀ x ∈ els, OwVs w ok (f x.t) x.us x.fp) → OwVs w ok (rows f (els.map (·.t))) (els.flatMap (·.us)) (els.flatMap (·.fp))
  | [], _ => by simp [rows, OwVs]
  | x :: els, h => by
    simp only [List.map_cons, rows, List.flatMap_cons]
    exact OwVs_append (h x (by simp)) (els_rows els fun y hy => h y (by simp [hy]))
end
theorem flat_get {α β : Type} {g : α → List β} {k : Nat} (hk : ∀ x, (g x).length = k) : ∀ (l : List α) (j : Nat) (h : j / k < l.length) (h0 : 0 < k), (l.flatMap g)[j]? = (g (l[j / k]'h))[j % k]?
  | [], j, h, _ => by simp at h
  | x :: l, j, h, h0 => by
    simp only [List.flatMap_cons]
    rcases Nat.lt_or_ge j k with hj | hj
    · rw [List.getElem?_append_left (by rw [hk]; exact hj)]
      simp only [Nat.div_eq_of_lt hj, Nat.mod_eq_of_lt hj, List.getElem_cons_zero]
    · rw [List.getElem?_append_right (by rw [hk]; exact hj), hk]
      obtain ⟨m, rfl⟩ : ∃ m, j = m + k := ⟨j - k, by omega⟩
      simp only [Nat.add_sub_cancel, Nat.add_div_right _ h0, Nat.add_mod_right, Nat.succ_eq_add_one, List.getElem_cons_succ]
      exact flat_get hk l m (by rw [Nat.add_div_right _ h0] at h; simpa using h) h0
theorem flat_len {α β : Type} {g : α → List β} {k : Nat} (hk : ∀ x, (g x).length = k) : ∀ l : List α, (l.flatMap g).length = l.length * k
  | [] => by simp
  | x :: l => by simp only [List.flatMap_cons, List.length_append, hk, flat_len hk l, List.length_cons, Nat.add_mul, Nat.one_mul]; omega
theorem flatK_get {α : Type} [Inhabited α] {enc : α → List Value} {k : Nat} (hk : ∀ x, (enc x).length = k) (d : Array α) (j : Nat) (h : j < d.size * k) : (d.toList.flatMap enc)[j]? = some ((Go.Sort.flatK enc k d)[j]!) := by
  have h0 : 0 < k := by
    rcases Nat.eq_zero_or_pos k with e | e
    · subst e; simp at h
    · exact e
  have hd : j / k < d.size := (Nat.div_lt_iff_lt_mul h0).2 h
  have hm : j % k < k := Nat.mod_lt _ h0
  rw [flat_get hk d.toList j (by simpa using hd) h0, Go.Sort.get_flatK _ _ _ _ h]
  rw [getElem!_pos d (j / k) hd, List.getElem?_eq_getElem (by rw [hk]; exact hm), getElem!_pos _ (j % k) (by rw [hk]; exact hm)]
  simp

theorem done1 {w w' : World} {ok : Nat → Prop} {ρ : Rn → Value} {fp0 : List Nat} {d : D} {fp' : List Nat} (hns : noSh d) (ho : Ow w' ok d (ρ (0, 0)) fp') (hnd : fp'.Nodup)
    (hb : ∀ b ∈ fp', ¬ ok b ∧ (b ∈ fp0 ∨ w.heap.size ≤ b) ∧ b < w'.heap.size) (hf : Keeps w fp0 w') (hok : ∀ b, ok b → b < w.heap.size) :
    Done w ok ρ fp0 [(0, 0)] true [d] [] (.tuple #[]) w' ok (fun _ => fp') [] := by
  have key : ∀ {r : Rn} {e : D}, ofR ([((0, 0) : Rn)].zip [d]) r = some e → r = (0, 0) ∧ e = d := fun {r e} h => by
    simp only [List.zip_cons_cons, List.zip_nil_left, ofR] at h
    split at h
    · rename_i e2
      simp only [Option.some.injEq] at h
      exact ⟨by first | exact e2 | exact e2.symm, h.symm⟩
    · simp at h
  refine ⟨rfl, fun r e he => ?_, fun r r' e e' hne he he' => ?_, ⟨[], rfl, by simp [OwRs]⟩, List.nodup_nil, by simp, by simp, hf, fun _ h => h, fun b h => ⟨.inl h, Nat.lt_of_lt_of_le (hok b h) hf.size⟩⟩
  · obtain ⟨rfl, rfl⟩ := key he
    exact ⟨by simpa using Ow_nosh _ _ _ hns ho, hnd, hb⟩
  · exact absurd ((key he).1.trans (key he').1.symm) hne

/-! ### A comparison in the midst of a sort -/
theorem ShV_d {w : World} {ok : Nat → Prop} {σ : St} {ρ : Rn → Value} : ∀ {ds : List D} {us : List Value}, ShV w ok ds us → FRL w ok σ ρ (ds.map .d) us
  | [], us, h => by simpa [ShV, FRL] using h
  | d :: ds, us, h => by
    simp only [ShV] at h
    obtain ⟨u, vs, rfl, h1, h2⟩ := h
    simp only [List.map_cons, FRL]
    exact ⟨u, vs, rfl, by simpa [FR] using h1, ShV_d h2⟩
theorem ShV_share {w : World} {ok ok' : Nat → Prop} (hk : ∀ b, ok b → ok' b) : ∀ {ds : List D} {us : List Value} {fp : List Nat}, OwVs w ok ds us fp → (∀ b ∈ fp, ok' b) → ShV w ok' (shareL ds) us
  | [], us, fp, h, _ => by
    simp only [OwVs] at h
    simp [shareL, ShV, h.1]
  | d :: ds, us, fp, h, hf => by
    simp only [OwVs] at h
    obtain ⟨u, vs, f1, f2, rfl, rfl, h1, h2⟩ := h
    simp only [shareL, ShV]
    exact ⟨u, vs, rfl, Sh_share hk d u f1 (fun b hb => hf b (by simp [hb])) h1, ShV_share hk h2 fun b hb => hf b (by simp [hb])⟩
theorem OwVs_world {w w' : World} {ok : Nat → Prop} (hk : ∀ b, ok b → w'.heap[b]? = w.heap[b]?) : ∀ {ds : List D} {us : List Value} {fp : List Nat}, OwVs w ok ds us fp → (∀ b ∈ fp, w'.heap[b]? = w.heap[b]?) → OwVs w' ok ds us fp
  | [], us, fp, h, _ => by simpa only [OwVs] using h
  | d :: ds, us, fp, h, hf => by
    simp only [OwVs] at h ⊢
    obtain ⟨u, vs, f1, f2, rfl, rfl, h1, h2⟩ := h
    exact ⟨u, vs, f1, f2, rfl, rfl, Ow_mono (fun b hb => ⟨hb, hk b hb⟩) _ _ _ (fun b hb => hf b (by simp [hb])) h1, OwVs_world hk h2 fun b hb => hf b (by simp [hb])⟩
theorem grow_of_keeps {w w' : World} (h : Keeps w [] w') : ∃ q os', w' = Go.Sort.grow (w.drewN q) os' := by
  refine ⟨w'.drawn - w.drawn, w'.heap.extract w.heap.size w'.heap.size, ?_⟩
  have hh : w'.heap = w.heap ++ w'.heap.extract w.heap.size w'.heap.size := by
    apply Array.ext_getElem?
    intro i
    rw [Array.getElem?_append]
    split
    · rename_i hi
      exact h.old i hi (by simp)
    · rename_i hi
      rw [Array.getElem?_extract]
      have hs := h.size
      rcases Nat.lt_or_ge i w'.heap.size with h1 | h1
      · rw [if_pos (by omega), show w.heap.size + (i - w.heap.size) = i by omega]
      · rw [if_neg (by omega), Array.getElem?_eq_none (by omega)]
  have h1 := h.os
  have h2 := h.out
  have h3 := h.tape
  have h4 := h.drawn
  cases w' with
  | mk heap tape drawn os output =>
    cases w with
    | mk heap2 tape2 drawn2 os2 output2 =>
      simp only at h1 h2 h3 h4 hh
      subst h1; subst h2; subst h3
      simp only [Go.Sort.grow, World.drewN]
      congr 1
      omega
theorem cmp_call {P : Program} {g : Nat} {cx cy : List D} {c : Int} (h : ACalls P g [.ag ((shareL cx).map .d), .ag ((shareL cy).map .d)] [] true (fun outs res => outs = [] ∧ res = [.one (D.int c)])) {w : World} {ok : Nat → Prop} {ux uy : List Value} {fx fy : List Nat}
    (hx : OwVs w ok cx ux fx) (hy : OwVs w ok cy uy fy) (hfx : ∀ b ∈ fx, b < w.heap.size) (hfy : ∀ b ∈ fy, b < w.heap.size) (hok : ∀ b, ok b → b < w.heap.size) :
    Calls P g (#[.agg ux.toArray, .agg uy.toArray] ++ #[]) w fun e w' => e = .returned (.int .i64 c) ∧ ∃ q os', w' = Go.Sort.grow (w.drewN q) os' := by
  have h1 := ShV_share (ok' := fun b => ok b ∨ b ∈ fx ∨ b ∈ fy) (fun b hb => .inl hb) hx (fun b hb => .inr (.inl hb))
  have h2 := ShV_share (ok' := fun b => ok b ∨ b ∈ fx ∨ b ∈ fy) (fun b hb => .inl hb) hy (fun b hb => .inr (.inr hb))
  have := h.2 w [] (fun b => ok b ∨ b ∈ fx ∨ b ∈ fy) [.agg ux.toArray, .agg uy.toArray] (fun _ => undef) (fun _ => []) rfl ⟨fun r d hd => by simp [ofR] at hd, fun r r' d d' _ hd => by simp [ofR] at hd, fun t => by
    match t with
    | 0 =>
      simp only [argEnv, List.getD_cons_zero, FR]
      exact ⟨_, rfl, ShV_d (by simpa using h1)⟩
    | 1 =>
      simp only [argEnv, List.getD_cons_succ, List.getD_cons_zero, FR]
      exact ⟨_, rfl, ShV_d (by simpa using h2)⟩
    | t + 2 => simp [argEnv, FR], fun b hb => by rcases hb with hb | hb | hb; exact hok b hb; exact hfx b hb; exact hfy b hb, Keeps.refl w []⟩
  have e0 : (#[.agg ux.toArray, .agg uy.toArray] ++ #[] : Array Value) = [Value.agg ux.toArray, Value.agg uy.toArray].toArray := by simp
  rw [e0]
  refine Calls.mono this ?_
  rintro e w' ⟨v, outs, res, ok', φ', fr, rfl, ⟨rfl, rfl⟩, hd⟩
  obtain ⟨vs, e1, e2⟩ := hd.res
  simp only [OwRs, OwRV, if_true] at e2
  obtain ⟨u, us, f1, f2, rfl, _, k1, k2, _⟩ := e2
  subst k2
  simp only [Ow] at k1
  refine ⟨?_, grow_of_keeps hd.frm⟩
  rw [e1, k1.2]
  rfl

/-! ### The sort -/
section
variable {α : Type} [Inhabited α] {enc : α → List Value} {k : Nat} {w : World} {b o : Nat}
theorem srt_other (m : Nat) (d : Array α) (os : Array Obj) {c : Nat} (hc : c ≠ b) (hs : c < w.heap.size) : (sortWorldK enc k w b o m d os).heap[c]? = w.heap[c]? := by
  unfold sortWorldK
  rw [Go.Sort.heap_grow_old _ _ (by simpa [Go.Sort.putRowK] using hs)]
  simp [Go.Sort.putRowK, Go.Sort.putRow, Go.Sort.mapBlock, Array.getElem?_modify, Ne.symm hc]
theorem srt_blk (m : Nat) (d : Array α) (os : Array Obj) {arr : Array Value} {T : Nat} {fr : Nat × Nat} (h : w.heap[b]? = some (.cells arr T fr)) : ∃ arr', (sortWorldK enc k w b o m d os).heap[b]? = some (.cells arr' T fr) ∧ arr'.size = arr.size := by
  have hb : b < w.heap.size := by
    rcases Nat.lt_or_ge b w.heap.size with hh | hh
    · exact hh
    · rw [Array.getElem?_eq_none (by omega)] at h; simp at h
  refine ⟨Go.Sort.putCells id o (Go.Sort.flatK enc k d) arr, ?_, by simp [Go.Sort.putCells]⟩
  unfold sortWorldK
  rw [Go.Sort.heap_grow_old _ _ (by simpa [Go.Sort.putRowK] using hb)]
  simp [Go.Sort.putRowK, Go.Sort.putRow, Go.Sort.mapBlock, Array.getElem?_modify, h, Go.Sort.onCells]
theorem srt_keeps (m : Nat) (d : Array α) (os : Array Obj) {fp0 : List Nat} (hb : b ∈ fp0) : Keeps w fp0 (sortWorldK enc k w b o m d os) := by
  refine ⟨rfl, rfl, rfl, ?_, ?_, fun c hc hn => srt_other m d os (fun e => hn (e ▸ hb)) hc⟩
  · show w.drawn ≤ w.drawn + m
    omega
  · simp [sortWorldK, Go.Sort.putRowK]
end
theorem permIn_all {α : Type} [Inhabited α] {d d' : Array α} (h : Go.Sort.PermIn 0 d.size d d') : d'.toList.Perm d.toList := by
  obtain ⟨h1, _, h3⟩ := h
  have e1 : d'.extract 0 d.size = d' := by rw [← h1]; exact Array.extract_size
  rwa [e1, Array.extract_size] at h3
theorem sortedIn_all {α : Type} [Inhabited α] {lt : α → α → Bool} {d d' : Array α} (hs : d'.size = d.size) (h : Go.Sort.SortedIn lt 0 d.size d') : d'.toList.Pairwise fun a b => lt b a = false := by
  rw [List.pairwise_iff_getElem]
  intro i j hi hj hij
  simp only [Array.length_toList] at hi hj
  have := h i j (Nat.zero_le _) hij (by omega)
  rwa [getElem!_pos d' i hi, getElem!_pos d' j hj] at this

theorem ACalls.mono {P : Program} {f : Nat} {args : List FV} {ros : List (Rn × D)} {pure : Bool} {Q Q' : List D → List RV → Prop} (h : ACalls P f args ros pure Q) (hq : ∀ outs res, Q outs res → Q' outs res) : ACalls P f args ros pure Q' :=
  ⟨h.1, fun w fp0 ok vs ρ φ hl hR => (h.2 w fp0 ok vs ρ φ hl hR).mono fun e w' ⟨v, outs, res, ok', φ', fr, he, hQ, hD⟩ => ⟨v, outs, res, ok', φ', fr, he, hq _ _ hQ, hD⟩⟩

/-- **The sort, over a comparison's contract.** -/
theorem sort_calls {P : Program} {sf k g : Nat} (hcl : Callable P sf) (hS : SfOk P sf k) {τ : Type} {f : τ → List D} (hk : ∀ t, (f t).length = k) (hk0 : 0 < k) (hns : ∀ t, noShL (f t)) (hso : ∀ ts, solidL (rows f ts)) (cf : τ → τ → Int)
    (hO : Go.Sort.SWO (ltOf cf)) (ts : List τ) (hlen : ts.length < 4611686018427387904)
    (hcmp : ∀ x ∈ ts, ∀ y ∈ ts, ACalls P g [.ag ((shareL (f x)).map .d), .ag ((shareL (f y)).map .d)] [] true (fun outs res => outs = [] ∧ res = [.one (D.int (cf x y))])) :
    ACalls P sf [.al (0, 0) [] 0 ts.length, .d (.fn g [])] [((0, 0), .ow k ts.length (rows f ts))] true (fun outs res => ∃ r : List τ, r.Perm ts ∧ (r.Pairwise fun a b => ¬ cf b a < 0) ∧ outs = [.ow k ts.length (rows f r)] ∧ res = []) := by
  refine ⟨hcl, fun w fp0 ok vs ρ φ hl hR => ?_⟩
  match vs, hl with
  | [u, fv], _ =>
  have h0 := hR.env 0
  have h1 := hR.env 1
  simp only [argEnv, List.getD_cons_zero, List.getD_cons_succ, FR, Sh] at h0 h1
  obtain ⟨k1, N, cs, hv, ho, hh, hN, hsub⟩ := h0
  simp only [hdr, Option.some.injEq] at hh
  subst hh
  obtain ⟨lb, rfl, hlb⟩ := h1
  simp only [ShV] at hlb
  have hlb2 : lb = #[] := by
    apply Array.ext'
    simpa using hlb
  subst hlb2
  have hown := hR.own (0, 0) (.ow k ts.length (rows f ts)) (by simp [ofR])
  obtain ⟨how, hnd, hbl⟩ := hown
  have hsub2 : ∃ a M c, ρ (0, 0) = .slice a M c ∧ u = .slice a ts.length c := by
    rcases hsub with ⟨_, a, M, c, e1, e2⟩ | ⟨h, _⟩
    · exact ⟨a, M, c, e1, e2⟩
    · omega
  obtain ⟨a, M, c, e1, rfl⟩ := hsub2
  simp only [Ow] at how
  have hns2 : ∀ r : List τ, noSh (.ow k ts.length (rows f r)) := fun r => by
    simp only [noSh]
    exact rows_noSh hns r
  rcases how with ⟨hn0, hcs, hfp, a', e2⟩ | ⟨b, o, c', arr, T, fp', e2, hfp, hheap, hcap, harr, hlc, hOL⟩
  · -- nothing to sort
    have hts : ts = [] := List.eq_nil_of_length_eq_zero hn0
    subst hts
    rw [e1] at e2
    refine Calls.mono (hS.1 a c (.func (.func g) #[] #[]) w) ?_
    rintro e w' ⟨rfl, rfl⟩
    refine ⟨_, [.ow k 0 (rows f [])], [], ok, fun _ => [], [], rfl, ⟨[], List.Perm.nil, List.Pairwise.nil, rfl, rfl⟩, ?_⟩
    refine done1 (hns2 []) ?_ List.nodup_nil (by simp) (Keeps.refl _ fp0) hR.okb
    simp only [Ow, rows]
    exact .inl ⟨trivial, trivial, trivial, a', by rw [e1]; exact e2⟩
  · obtain ⟨us, hul, hus, hov⟩ := OwL_read hOL
    obtain ⟨els, het, heu, hef, heo⟩ := rows_els hk ts us fp' hov
    have hnl : els.length = ts.length := by rw [← het, List.length_map]
    rw [e1] at e2
    have e3 := Value.slice.inj e2
    obtain ⟨rfl, rfl, rfl⟩ := e3
    have hbm := hbl b (by rw [hfp]; simp)
    have hb0 : b ∈ fp0 := by
      rcases hbm.2.1 with h | h
      · exact h
      · omega
    rcases Nat.eq_zero_or_pos ts.length with hz | hpos
    · have hts : ts = [] := List.eq_nil_of_length_eq_zero hz
      subst hts
      refine Calls.mono (hS.1 (some ⟨b, o, none⟩) c (.func (.func g) #[] #[]) w) ?_
      rintro e w' ⟨rfl, rfl⟩
      refine ⟨_, [.ow k 0 (rows f [])], [], ok, fun _ => φ (0, 0), [], rfl, ⟨[], List.Perm.nil, List.Pairwise.nil, rfl, rfl⟩, ?_⟩
      refine done1 (hns2 []) ?_ hnd hbl (Keeps.refl _ fp0) hR.okb
      simp only [Ow]
      exact .inr ⟨b, o, c, arr, T, fp', by rw [e1]; rfl, hfp, hheap, hcap, harr, hlc, hOL⟩
    · have hinh : Inhabited (Fin els.length) := ⟨⟨0, by omega⟩⟩
      let enc : Fin els.length → List Value := fun i => els[i].us
      have henc : ∀ i, (enc i).length = k := fun i => by
        have := OwVs_length (heo els[i] (List.getElem_mem i.2))
        show els[i].us.length = k
        rw [this, hk]
      let d : Array (Fin els.length) := Array.ofFn id
      have hds : d.size = ts.length := by simp [d, hnl]
      have hdl : d.toList.flatMap enc = us := by
        rw [heu]
        show (Array.ofFn id).toList.flatMap enc = _
        rw [Array.toList_ofFn]
        conv => rhs; rw [← List.ofFn_getElem (xs := els)]
        simp only [List.flatMap, List.map_ofFn]
        rfl
      have hco : ∀ i : Fin els.length, cf els[i].t els[i].t = cf els[i].t els[i].t := fun _ => rfl
      have hmem : ∀ i : Fin els.length, els[i].t ∈ ts := fun i => by
        have h9 : els[i].t ∈ els.map (·.t) := List.mem_map.2 ⟨_, List.getElem_mem i.2, rfl⟩
        rwa [het] at h9
      have hO2 : Go.Sort.SWO (ltOf fun i j : Fin els.length => cf els[i].t els[j].t) := ⟨fun x => hO.irrefl _, fun x y z => hO.trans _ _ _, fun x y z => hO.ntrans _ _ _⟩
      have hkk : us.length = d.size * k := by rw [hul, hlc, hds, Nat.mul_comm]
      have hH : Go.Sort.HoldsK enc k w b o d := fun j hj => by
        rw [Go.Sort.size_flatK] at hj
        refine ⟨?_, not_frozen hheap⟩
        have := flatK_get henc d j hj
        rw [hdl] at this
        exact hus j _ this
      have hfne : ∀ x ∈ fp', x ≠ b := fun x hx e => by
        subst e
        rw [hfp] at hnd
        exact (List.nodup_cons.1 hnd).1 hx
      have hfb : ∀ x ∈ fp', x < w.heap.size := fun x hx => (hbl x (by rw [hfp]; simp [hx])).2.2
      have hC : CmpLays P g #[] enc k (fun i j : Fin els.length => cf els[i].t els[j].t) b o d.size w := fun m os dk hdk x y => by
        have hw : ∀ i : Fin els.length, OwVs (sortWorldK enc k w b o m dk os) ok (f els[i].t) (enc i) els[i].fp := fun i => by
          have hsub : ∀ q ∈ els[i].fp, q ∈ fp' := fun q hq => by rw [hef]; exact List.mem_flatMap.2 ⟨_, List.getElem_mem i.2, hq⟩
          refine OwVs_world (fun q hq => srt_other m dk os ?_ (hR.okb q hq)) (heo els[i] (List.getElem_mem i.2)) fun q hq => srt_other m dk os (hfne q (hsub q hq)) (hfb q (hsub q hq))
          rintro rfl
          exact hbm.1 hq
        have hgs := size_sortWorldK_c enc k w b o m dk os
        have hfi : ∀ i : Fin els.length, ∀ q ∈ els[i].fp, q < (sortWorldK enc k w b o m dk os).heap.size := fun i q hq => Nat.lt_of_lt_of_le (hfb q (by rw [hef]; exact List.mem_flatMap.2 ⟨_, List.getElem_mem i.2, hq⟩)) hgs
        exact cmp_call (hcmp _ (hmem x) _ (hmem y)) (hw x) (hw y) (hfi x) (hfi y) fun q hq => Nat.lt_of_lt_of_le (hR.okb q hq) hgs
      obtain ⟨fn, cd, hf1, hf2, hf3⟩ := (hcmp _ (hmem ⟨0, by omega⟩) _ (hmem ⟨0, by omega⟩)).1
      have h1c : ∀ x, ∀ v ∈ enc x, v.oneCell' = true := fun x v hv => by
        refine OwVs_solid ?_ (heo els[x] (List.getElem_mem x.2)) v hv
        have := hso [els[x].t]
        simpa [rows] using this
      have hcall := hS.2 (Fin els.length) enc henc h1c (fun i j => cf els[i].t els[j].t) hO2 g b o c d w (enters_of hf1 hf3 hf2) hC hH hbm.2.2 (by omega)
      rw [hds] at hcall
      refine Calls.mono hcall ?_
      rintro e w' ⟨rfl, d', m, os, hp, hsd, rfl⟩
      have hpl := permIn_all (d := d) (by rw [hds]; exact hp)
      have hdd : d.toList = List.finRange els.length := by
        show (Array.ofFn id).toList = _
        rw [Array.toList_ofFn]
        rfl
      have hsz' : d'.size = ts.length := hp.1.trans hds
      let el2 : List (El τ) := d'.toList.map fun i => els[i]
      have hpe : el2.Perm els := by
        have h2 := hpl.map fun i : Fin els.length => els[i]
        refine h2.trans (List.Perm.of_eq ?_)
        show (Array.ofFn id).toList.map _ = els
        rw [Array.toList_ofFn, List.map_ofFn]
        exact List.ofFn_getElem
      refine ⟨_, [.ow k ts.length (rows f (el2.map (·.t)))], [], ok, fun _ => b :: el2.flatMap (·.fp), [], rfl, ⟨el2.map (·.t), by rw [← het]; exact hpe.map _, ?_, rfl, rfl⟩, ?_⟩
      · have := sortedIn_all hp.1 (by rw [hds]; exact hsd)
        rw [List.pairwise_map, List.pairwise_map]
        refine this.imp fun h => ?_
        simpa [ltOf] using h
      · have hpf : (el2.flatMap (·.fp)).Perm fp' := by rw [hef]; exact hpe.flatMap_right _
        obtain ⟨arr', hb', hsa⟩ := srt_blk (enc := enc) (k := k) (o := o) m d' os hheap
        have hgs := size_sortWorldK_c enc k w b o m d' os
        refine done1 (hns2 _) ?_ ?_ ?_ (srt_keeps m d' os hb0) hR.okb
        · simp only [Ow]
          refine .inr ⟨b, o, c, arr', T, el2.flatMap (·.fp), e1, rfl, hb', hcap, by rw [hsa]; exact harr, ?_, ?_⟩
          · rw [rows_length hk, List.length_map, List.length_map, Array.length_toList, hsz']
          · have hov2 : OwVs w ok (rows f (el2.map (·.t))) (el2.flatMap (·.us)) (el2.flatMap (·.fp)) := els_rows el2 fun x hx => heo x (hpe.subset hx)
            have hflat : el2.flatMap (·.us) = d'.toList.flatMap enc := by
              show (d'.toList.map _).flatMap _ = _
              rw [List.flatMap_map]
            refine OwL_lay (fun q hq => srt_other m d' os ?_ (hR.okb q hq)) hov2 (fun j v hj => ?_) fun q hq => srt_other m d' os (hfne q (hpf.subset hq)) (hfb q (hpf.subset hq))
            · rintro rfl
              exact hbm.1 hq
            · have hHs := holdsK_sortWorldK_c enc k w b o d d' m os hH hbm.2.2 hp.1
              have hj2 : j < d'.size * k := by
                rcases Nat.lt_or_ge j (d'.toList.flatMap enc).length with h | h
                · rwa [flat_len henc, Array.length_toList] at h
                · rw [hflat, List.getElem?_eq_none h] at hj; simp at hj
              rw [hflat, flatK_get henc d' j hj2] at hj
              simp only [Option.some.injEq] at hj
              rw [← hj]
              exact (hHs j (by rw [Go.Sort.size_flatK]; exact hj2)).1
        · refine List.nodup_cons.2 ⟨fun h => hfne b (hpf.subset h) rfl, hpf.nodup_iff.2 ?_⟩
          rw [hfp] at hnd
          exact (List.nodup_cons.1 hnd).2
        · intro q hq
          rcases List.mem_cons.1 hq with rfl | hq
          · exact ⟨hbm.1, .inl hb0, Nat.lt_of_lt_of_le hbm.2.2 hgs⟩
          · have := hbl q (by rw [hfp]; simp [hpf.subset hq])
            exact ⟨this.1, this.2.1, Nat.lt_of_lt_of_le this.2.2 hgs⟩
end Go.Proofs.Ytdgeponcnlkaiaa.Ab
namespace Go.Proofs.Ytdgeponcnlkaiaa.Ab
open Go

def TTab : TT := [
  (2, ⟨.int .i64, 1, 8, [.int .i64 0]⟩),
  (3, ⟨.int .i64, 1, 8, [.int .i64 0]⟩),
  (4, ⟨.bool, 1, 1, [.bool false]⟩),
  (9, ⟨.str, 1, 16, [.string .empty]⟩),
  (22, ⟨.sl 3, 1, 24, [.slice none 0 0]⟩),
  (24, ⟨.st [(0, 3), (1, 3), (2, 22)], 3, 40, [.int .i64 0, .int .i64 0, .slice none 0 0]⟩),
  (25, ⟨.sl 53, 1, 24, [.slice none 0 0]⟩),
  (27, ⟨.st [(0, 24), (3, 25)], 4, 64, [.int .i64 0, .int .i64 0, .slice none 0 0, .slice none 0 0]⟩),
  (29, ⟨.st [(0, 24), (3, 22), (4, 27)], 8, 128, [.int .i64 0, .int .i64 0, .slice none 0 0, .slice none 0 0, .int .i64 0, .int .i64 0, .slice none 0 0, .slice none 0 0]⟩),
  (38, ⟨.sl 22, 1, 24, [.slice none 0 0]⟩),
  (51, ⟨.sl 131, 1, 24, [.slice none 0 0]⟩),
  (53, ⟨.st [(0, 3), (1, 51)], 2, 32, [.int .i64 0, .slice none 0 0]⟩),
  (60, ⟨.sl 209, 1, 24, [.slice none 0 0]⟩),
  (62, ⟨.st [(0, 3), (1, 60)], 2, 32, [.int .i64 0, .slice none 0 0]⟩),
  (64, ⟨.sl 153, 1, 24, [.slice none 0 0]⟩),
  (66, ⟨.st [(0, 3), (1, 64)], 2, 32, [.int .i64 0, .slice none 0 0]⟩),
  (78, ⟨.sl 220, 1, 24, [.slice none 0 0]⟩),
  (80, ⟨.st [(0, 3), (1, 78)], 2, 32, [.int .i64 0, .slice none 0 0]⟩),
  (128, ⟨.other, 1, 8, [.pointer none]⟩),
  (131, ⟨.st [(0, 22), (1, 3)], 2, 32, [.slice none 0 0, .int .i64 0]⟩),
  (134, ⟨.arr 8 3, 8, 64, [.int .i64 0, .int .i64 0, .int .i64 0, .int .i64 0, .int .i64 0, .int .i64 0, .int .i64 0, .int .i64 0]⟩),
  (138, ⟨.map 134 3, 1, 8, [.map none]⟩),
  (140, ⟨.st [(0, 3), (1, 138)], 2, 16, [.int .i64 0, .map none]⟩),
  (149, ⟨.other, 1, 8, [.pointer none]⟩),
  (153, ⟨.st [(0, 22), (1, 3), (2, 3)], 3, 40, [.slice none 0 0, .int .i64 0, .int .i64 0]⟩),
  (156, ⟨.st [(0, 134), (8, 3)], 9, 72, [.int .i64 0, .int .i64 0, .int .i64 0, .int .i64 0, .int .i64 0, .int .i64 0, .int .i64 0, .int .i64 0, .int .i64 0]⟩),
  (174, ⟨.sl 177, 1, 24, [.slice none 0 0]⟩),
  (177, ⟨.st [(0, 3), (1, 3)], 2, 16, [.int .i64 0, .int .i64 0]⟩),
  (180, ⟨.map 156 3, 1, 8, [.map none]⟩),
  (182, ⟨.st [(0, 3), (1, 180)], 2, 16, [.int .i64 0, .map none]⟩),
  (209, ⟨.st [(0, 22), (1, 3), (2, 3)], 3, 40, [.slice none 0 0, .int .i64 0, .int .i64 0]⟩),
  (212, ⟨.sl 64, 1, 24, [.slice none 0 0]⟩),
  (220, ⟨.st [(0, 22), (1, 3)], 2, 32, [.slice none 0 0, .int .i64 0]⟩),
  (229, ⟨.int .u64, 1, 8, [.int .u64 0]⟩)]
theorem tt2 : tget TTab 2 = some ⟨.int .i64, 1, 8, [.int .i64 0]⟩ := rfl
theorem tt3 : tget TTab 3 = some ⟨.int .i64, 1, 8, [.int .i64 0]⟩ := rfl
theorem tt4 : tget TTab 4 = some ⟨.bool, 1, 1, [.bool false]⟩ := rfl
theorem tt9 : tget TTab 9 = some ⟨.str, 1, 16, [.string .empty]⟩ := rfl
theorem tt22 : tget TTab 22 = some ⟨.sl 3, 1, 24, [.slice none 0 0]⟩ := rfl
theorem tt24 : tget TTab 24 = some ⟨.st [(0, 3), (1, 3), (2, 22)], 3, 40, [.int .i64 0, .int .i64 0, .slice none 0 0]⟩ := rfl
theorem tt25 : tget TTab 25 = some ⟨.sl 53, 1, 24, [.slice none 0 0]⟩ := rfl
theorem tt27 : tget TTab 27 = some ⟨.st [(0, 24), (3, 25)], 4, 64, [.int .i64 0, .int .i64 0, .slice none 0 0, .slice none 0 0]⟩ := rfl
theorem tt29 : tget TTab 29 = some ⟨.st [(0, 24), (3, 22), (4, 27)], 8, 128, [.int .i64 0, .int .i64 0, .slice none 0 0, .slice none 0 0, .int .i64 0, .int .i64 0, .slice none 0 0, .slice none 0 0]⟩ := rfl
theorem tt38 : tget TTab 38 = some ⟨.sl 22, 1, 24, [.slice none 0 0]⟩ := rfl
theorem tt51 : tget TTab 51 = some ⟨.sl 131, 1, 24, [.slice none 0 0]⟩ := rfl
theorem tt53 : tget TTab 53 = some ⟨.st [(0, 3), (1, 51)], 2, 32, [.int .i64 0, .slice none 0 0]⟩ := rfl
theorem tt60 : tget TTab 60 = some ⟨.sl 209, 1, 24, [.slice none 0 0]⟩ := rfl
theorem tt62 : tget TTab 62 = some ⟨.st [(0, 3), (1, 60)], 2, 32, [.int .i64 0, .slice none 0 0]⟩ := rfl
theorem tt64 : tget TTab 64 = some ⟨.sl 153, 1, 24, [.slice none 0 0]⟩ := rfl
theorem tt66 : tget TTab 66 = some ⟨.st [(0, 3), (1, 64)], 2, 32, [.int .i64 0, .slice none 0 0]⟩ := rfl
theorem tt78 : tget TTab 78 = some ⟨.sl 220, 1, 24, [.slice none 0 0]⟩ := rfl
theorem tt80 : tget TTab 80 = some ⟨.st [(0, 3), (1, 78)], 2, 32, [.int .i64 0, .slice none 0 0]⟩ := rfl
theorem tt128 : tget TTab 128 = some ⟨.other, 1, 8, [.pointer none]⟩ := rfl
theorem tt131 : tget TTab 131 = some ⟨.st [(0, 22), (1, 3)], 2, 32, [.slice none 0 0, .int .i64 0]⟩ := rfl
theorem tt134 : tget TTab 134 = some ⟨.arr 8 3, 8, 64, [.int .i64 0, .int .i64 0, .int .i64 0, .int .i64 0, .int .i64 0, .int .i64 0, .int .i64 0, .int .i64 0]⟩ := rfl
theorem tt138 : tget TTab 138 = some ⟨.map 134 3, 1, 8, [.map none]⟩ := rfl
theorem tt140 : tget TTab 140 = some ⟨.st [(0, 3), (1, 138)], 2, 16, [.int .i64 0, .map none]⟩ := rfl
theorem tt149 : tget TTab 149 = some ⟨.other, 1, 8, [.pointer none]⟩ := rfl
theorem tt153 : tget TTab 153 = some ⟨.st [(0, 22), (1, 3), (2, 3)], 3, 40, [.slice none 0 0, .int .i64 0, .int .i64 0]⟩ := rfl
theorem tt156 : tget TTab 156 = some ⟨.st [(0, 134), (8, 3)], 9, 72, [.int .i64 0, .int .i64 0, .int .i64 0, .int .i64 0, .int .i64 0, .int .i64 0, .int .i64 0, .int .i64 0, .int .i64 0]⟩ := rfl
theorem tt174 : tget TTab 174 = some ⟨.sl 177, 1, 24, [.slice none 0 0]⟩ := rfl
theorem tt177 : tget TTab 177 = some ⟨.st [(0, 3), (1, 3)], 2, 16, [.int .i64 0, .int .i64 0]⟩ := rfl
theorem tt180 : tget TTab 180 = some ⟨.map 156 3, 1, 8, [.map none]⟩ := rfl
theorem tt182 : tget TTab 182 = some ⟨.st [(0, 3), (1, 180)], 2, 16, [.int .i64 0, .map none]⟩ := rfl
theorem tt209 : tget TTab 209 = some ⟨.st [(0, 22), (1, 3), (2, 3)], 3, 40, [.slice none 0 0, .int .i64 0, .int .i64 0]⟩ := rfl
theorem tt212 : tget TTab 212 = some ⟨.sl 64, 1, 24, [.slice none 0 0]⟩ := rfl
theorem tt220 : tget TTab 220 = some ⟨.st [(0, 22), (1, 3)], 2, 32, [.slice none 0 0, .int .i64 0]⟩ := rfl
theorem tt229 : tget TTab 229 = some ⟨.int .u64, 1, 8, [.int .u64 0]⟩ := rfl
attribute [simp] tt2 tt3 tt4 tt9 tt22 tt24 tt25 tt27 tt29 tt38 tt51 tt53 tt60 tt62 tt64 tt66 tt78 tt80 tt128 tt131 tt134 tt138 tt140 tt149 tt153 tt156 tt174 tt177 tt180 tt182 tt209 tt212 tt220 tt229
def MM : List (Nat × List Bool) := [(18, [true, false]), (45, [true, false]), (57, [true, false]), (75, [true, false]), (81, [true, false]), (82, [true, false]), (83, [true, false]), (110, [true, false, false]), (113, [true]), (121, [true, false]), (127, [true, false, false]), (128, [true]), (130, [true, false]), (148, [true, false]), (171, [true, false]), (189, [true, false]), (206, [true, false])]
theorem mm0 : aget [] MM 0 = [] := rfl
theorem mm1 : aget [] MM 1 = [] := rfl
theorem mm2 : aget [] MM 2 = [] := rfl
theorem mm3 : aget [] MM 3 = [] := rfl
theorem mm4 : aget [] MM 4 = [] := rfl
theorem mm5 : aget [] MM 5 = [] := rfl
theorem mm6 : aget [] MM 6 = [] := rfl
theorem mm7 : aget [] MM 7 = [] := rfl
theorem mm8 : aget [] MM 8 = [] := rfl
theorem mm9 : aget [] MM 9 = [] := rfl
theorem mm10 : aget [] MM 10 = [] := rfl
theorem mm11 : aget [] MM 11 = [] := rfl
theorem mm12 : aget [] MM 12 = [] := rfl
theorem mm13 : aget [] MM 13 = [] := rfl
theorem mm14 : aget [] MM 14 = [] := rfl
theorem mm15 : aget [] MM 15 = [] := rfl
theorem mm16 : aget [] MM 16 = [] := rfl
theorem mm17 : aget [] MM 17 = [] := rfl
theorem mm18 : aget [] MM 18 = [true, false] := rfl
theorem mm19 : aget [] MM 19 = [] := rfl
theorem mm20 : aget [] MM 20 = [] := rfl
theorem mm21 : aget [] MM 21 = [] := rfl
theorem mm22 : aget [] MM 22 = [] := rfl
theorem mm23 : aget [] MM 23 = [] := rfl
theorem mm24 : aget [] MM 24 = [] := rfl
theorem mm25 : aget [] MM 25 = [] := rfl
theorem mm26 : aget [] MM 26 = [] := rfl
theorem mm27 : aget [] MM 27 = [] := rfl
theorem mm28 : aget [] MM 28 = [] := rfl
theorem mm29 : aget [] MM 29 = [] := rfl
theorem mm30 : aget [] MM 30 = [] := rfl
theorem mm31 : aget [] MM 31 = [] := rfl
theorem mm32 : aget [] MM 32 = [] := rfl
theorem mm33 : aget [] MM 33 = [] := rfl
theorem mm34 : aget [] MM 34 = [] := rfl
theorem mm35 : aget [] MM 35 = [] := rfl
theorem mm36 : aget [] MM 36 = [] := rfl
theorem mm37 : aget [] MM 37 = [] := rfl
theorem mm38 : aget [] MM 38 = [] := rfl
theorem mm39 : aget [] MM 39 = [] := rfl
theorem mm40 : aget [] MM 40 = [] := rfl
theorem mm41 : aget [] MM 41 = [] := rfl
theorem mm42 : aget [] MM 42 = [] := rfl
theorem mm43 : aget [] MM 43 = [] := rfl
theorem mm44 : aget [] MM 44 = [] := rfl
theorem mm45 : aget [] MM 45 = [true, false] := rfl
theorem mm46 : aget [] MM 46 = [] := rfl
theorem mm47 : aget [] MM 47 = [] := rfl
theorem mm48 : aget [] MM 48 = [] := rfl
theorem mm49 : aget [] MM 49 = [] := rfl
theorem mm50 : aget [] MM 50 = [] := rfl
theorem mm51 : aget [] MM 51 = [] := rfl
theorem mm52 : aget [] MM 52 = [] := rfl
theorem mm53 : aget [] MM 53 = [] := rfl
theorem mm54 : aget [] MM 54 = [] := rfl
theorem mm55 : aget [] MM 55 = [] := rfl
theorem mm56 : aget [] MM 56 = [] := rfl
theorem mm57 : aget [] MM 57 = [true, false] := rfl
theorem mm58 : aget [] MM 58 = [] := rfl
theorem mm59 : aget [] MM 59 = [] := rfl
theorem mm60 : aget [] MM 60 = [] := rfl
theorem mm61 : aget [] MM 61 = [] := rfl
theorem mm62 : aget [] MM 62 = [] := rfl
theorem mm63 : aget [] MM 63 = [] := rfl
theorem mm64 : aget [] MM 64 = [] := rfl
theorem mm65 : aget [] MM 65 = [] := rfl
theorem mm66 : aget [] MM 66 = [] := rfl
theorem mm67 : aget [] MM 67 = [] := rfl
theorem mm68 : aget [] MM 68 = [] := rfl
theorem mm69 : aget [] MM 69 = [] := rfl
theorem mm70 : aget [] MM 70 = [] := rfl
theorem mm71 : aget [] MM 71 = [] := rfl
theorem mm72 : aget [] MM 72 = [] := rfl
theorem mm73 : aget [] MM 73 = [] := rfl
theorem mm74 : aget [] MM 74 = [] := rfl
theorem mm75 : aget [] MM 75 = [true, false] := rfl
theorem mm76 : aget [] MM 76 = [] := rfl
theorem mm77 : aget [] MM 77 = [] := rfl
theorem mm78 : aget [] MM 78 = [] := rfl
theorem mm79 : aget [] MM 79 = [] := rfl
theorem mm80 : aget [] MM 80 = [] := rfl
theorem mm81 : aget [] MM 81 = [true, false] := rfl
theorem mm82 : aget [] MM 82 = [true, false] := rfl
theorem mm83 : aget [] MM 83 = [true, false] := rfl
theorem mm84 : aget [] MM 84 = [] := rfl
theorem mm85 : aget [] MM 85 = [] := rfl
theorem mm86 : aget [] MM 86 = [] := rfl
theorem mm87 : aget [] MM 87 = [] := rfl
theorem mm88 : aget [] MM 88 = [] := rfl
theorem mm89 : aget [] MM 89 = [] := rfl
theorem mm90 : aget [] MM 90 = [] := rfl
theorem mm91 : aget [] MM 91 = [] := rfl
theorem mm92 : aget [] MM 92 = [] := rfl
theorem mm93 : aget [] MM 93 = [] := rfl
theorem mm94 : aget [] MM 94 = [] := rfl
theorem mm95 : aget [] MM 95 = [] := rfl
theorem mm96 : aget [] MM 96 = [] := rfl
theorem mm97 : aget [] MM 97 = [] := rfl
theorem mm98 : aget [] MM 98 = [] := rfl
theorem mm99 : aget [] MM 99 = [] := rfl
theorem mm100 : aget [] MM 100 = [] := rfl
theorem mm101 : aget [] MM 101 = [] := rfl
theorem mm102 : aget [] MM 102 = [] := rfl
theorem mm103 : aget [] MM 103 = [] := rfl
theorem mm104 : aget [] MM 104 = [] := rfl
theorem mm105 : aget [] MM 105 = [] := rfl
theorem mm106 : aget [] MM 106 = [] := rfl
theorem mm107 : aget [] MM 107 = [] := rfl
theorem mm108 : aget [] MM 108 = [] := rfl
theorem mm109 : aget [] MM 109 = [] := rfl
theorem mm110 : aget [] MM 110 = [true, false, false] := rfl
theorem mm111 : aget [] MM 111 = [] := rfl
theorem mm112 : aget [] MM 112 = [] := rfl
theorem mm113 : aget [] MM 113 = [true] := rfl
theorem mm114 : aget [] MM 114 = [] := rfl
theorem mm115 : aget [] MM 115 = [] := rfl
theorem mm116 : aget [] MM 116 = [] := rfl
theorem mm117 : aget [] MM 117 = [] := rfl
theorem mm118 : aget [] MM 118 = [] := rfl
theorem mm119 : aget [] MM 119 = [] := rfl
theorem mm120 : aget [] MM 120 = [] := rfl
theorem mm121 : aget [] MM 121 = [true, false] := rfl
theorem mm122 : aget [] MM 122 = [] := rfl
theorem mm123 : aget [] MM 123 = [] := rfl
theorem mm124 : aget [] MM 124 = [] := rfl
theorem mm125 : aget [] MM 125 = [] := rfl
theorem mm126 : aget [] MM 126 = [] := rfl
theorem mm127 : aget [] MM 127 = [true, false, false] := rfl
theorem mm128 : aget [] MM 128 = [true] := rfl
theorem mm129 : aget [] MM 129 = [] := rfl
theorem mm130 : aget [] MM 130 = [true, false] := rfl
theorem mm131 : aget [] MM 131 = [] := rfl
theorem mm132 : aget [] MM 132 = [] := rfl
theorem mm133 : aget [] MM 133 = [] := rfl
theorem mm134 : aget [] MM 134 = [] := rfl
theorem mm135 : aget [] MM 135 = [] := rfl
theorem mm136 : aget [] MM 136 = [] := rfl
theorem mm137 : aget [] MM 137 = [] := rfl
theorem mm138 : aget [] MM 138 = [] := rfl
theorem mm139 : aget [] MM 139 = [] := rfl
theorem mm140 : aget [] MM 140 = [] := rfl
theorem mm141 : aget [] MM 141 = [] := rfl
theorem mm142 : aget [] MM 142 = [] := rfl
theorem mm143 : aget [] MM 143 = [] := rfl
theorem mm144 : aget [] MM 144 = [] := rfl
theorem mm145 : aget [] MM 145 = [] := rfl
theorem mm146 : aget [] MM 146 = [] := rfl
theorem mm147 : aget [] MM 147 = [] := rfl
theorem mm148 : aget [] MM 148 = [true, false] := rfl
theorem mm149 : aget [] MM 149 = [] := rfl
theorem mm150 : aget [] MM 150 = [] := rfl
theorem mm151 : aget [] MM 151 = [] := rfl
theorem mm152 : aget [] MM 152 = [] := rfl
theorem mm153 : aget [] MM 153 = [] := rfl
theorem mm154 : aget [] MM 154 = [] := rfl
theorem mm155 : aget [] MM 155 = [] := rfl
theorem mm156 : aget [] MM 156 = [] := rfl
theorem mm157 : aget [] MM 157 = [] := rfl
theorem mm158 : aget [] MM 158 = [] := rfl
theorem mm159 : aget [] MM 159 = [] := rfl
theorem mm160 : aget [] MM 160 = [] := rfl
theorem mm161 : aget [] MM 161 = [] := rfl
theorem mm162 : aget [] MM 162 = [] := rfl
theorem mm163 : aget [] MM 163 = [] := rfl
theorem mm164 : aget [] MM 164 = [] := rfl
theorem mm165 : aget [] MM 165 = [] := rfl
theorem mm166 : aget [] MM 166 = [] := rfl
theorem mm167 : aget [] MM 167 = [] := rfl
theorem mm168 : aget [] MM 168 = [] := rfl
theorem mm169 : aget [] MM 169 = [] := rfl
theorem mm170 : aget [] MM 170 = [] := rfl
theorem mm171 : aget [] MM 171 = [true, false] := rfl
theorem mm172 : aget [] MM 172 = [] := rfl
theorem mm173 : aget [] MM 173 = [] := rfl
theorem mm174 : aget [] MM 174 = [] := rfl
theorem mm175 : aget [] MM 175 = [] := rfl
theorem mm176 : aget [] MM 176 = [] := rfl
theorem mm177 : aget [] MM 177 = [] := rfl
theorem mm178 : aget [] MM 178 = [] := rfl
theorem mm179 : aget [] MM 179 = [] := rfl
theorem mm180 : aget [] MM 180 = [] := rfl
theorem mm181 : aget [] MM 181 = [] := rfl
theorem mm182 : aget [] MM 182 = [] := rfl
theorem mm183 : aget [] MM 183 = [] := rfl
theorem mm184 : aget [] MM 184 = [] := rfl
theorem mm185 : aget [] MM 185 = [] := rfl
theorem mm186 : aget [] MM 186 = [] := rfl
theorem mm187 : aget [] MM 187 = [] := rfl
theorem mm188 : aget [] MM 188 = [] := rfl
theorem mm189 : aget [] MM 189 = [true, false] := rfl
theorem mm190 : aget [] MM 190 = [] := rfl
theorem mm191 : aget [] MM 191 = [] := rfl
theorem mm192 : aget [] MM 192 = [] := rfl
theorem mm193 : aget [] MM 193 = [] := rfl
theorem mm194 : aget [] MM 194 = [] := rfl
theorem mm195 : aget [] MM 195 = [] := rfl
theorem mm196 : aget [] MM 196 = [] := rfl
theorem mm197 : aget [] MM 197 = [] := rfl
theorem mm198 : aget [] MM 198 = [] := rfl
theorem mm199 : aget [] MM 199 = [] := rfl
theorem mm200 : aget [] MM 200 = [] := rfl
theorem mm201 : aget [] MM 201 = [] := rfl
theorem mm202 : aget [] MM 202 = [] := rfl
theorem mm203 : aget [] MM 203 = [] := rfl
theorem mm204 : aget [] MM 204 = [] := rfl
theorem mm205 : aget [] MM 205 = [] := rfl
theorem mm206 : aget [] MM 206 = [true, false] := rfl
theorem mm207 : aget [] MM 207 = [] := rfl
theorem mm208 : aget [] MM 208 = [] := rfl
theorem mm209 : aget [] MM 209 = [] := rfl
theorem mm210 : aget [] MM 210 = [] := rfl
theorem mm211 : aget [] MM 211 = [] := rfl
theorem mm212 : aget [] MM 212 = [] := rfl
theorem mm213 : aget [] MM 213 = [] := rfl
theorem mm214 : aget [] MM 214 = [] := rfl
theorem mm215 : aget [] MM 215 = [] := rfl
theorem mm216 : aget [] MM 216 = [] := rfl
theorem mm217 : aget [] MM 217 = [] := rfl
theorem mm218 : aget [] MM 218 = [] := rfl
theorem mm219 : aget [] MM 219 = [] := rfl
theorem mm220 : aget [] MM 220 = [] := rfl
theorem mm221 : aget [] MM 221 = [] := rfl
theorem mm222 : aget [] MM 222 = [] := rfl
theorem mm223 : aget [] MM 223 = [] := rfl
theorem mm224 : aget [] MM 224 = [] := rfl
theorem mm225 : aget [] MM 225 = [] := rfl
theorem mm226 : aget [] MM 226 = [] := rfl
theorem mm227 : aget [] MM 227 = [] := rfl
theorem mm228 : aget [] MM 228 = [] := rfl
theorem mm229 : aget [] MM 229 = [] := rfl
theorem mm230 : aget [] MM 230 = [] := rfl
theorem mm231 : aget [] MM 231 = [] := rfl
theorem mm232 : aget [] MM 232 = [] := rfl
theorem mm233 : aget [] MM 233 = [] := rfl
theorem mm234 : aget [] MM 234 = [] := rfl
theorem mm235 : aget [] MM 235 = [] := rfl
theorem mm236 : aget [] MM 236 = [] := rfl
theorem mm237 : aget [] MM 237 = [] := rfl
theorem mm238 : aget [] MM 238 = [] := rfl
theorem mm239 : aget [] MM 239 = [] := rfl
theorem mm240 : aget [] MM 240 = [] := rfl
theorem mm241 : aget [] MM 241 = [] := rfl
theorem mm242 : aget [] MM 242 = [] := rfl
theorem mm243 : aget [] MM 243 = [] := rfl
theorem mm244 : aget [] MM 244 = [] := rfl
theorem mm245 : aget [] MM 245 = [] := rfl
theorem mm246 : aget [] MM 246 = [] := rfl
theorem mm247 : aget [] MM 247 = [] := rfl
theorem mm248 : aget [] MM 248 = [] := rfl
theorem mm249 : aget [] MM 249 = [] := rfl
theorem mm250 : aget [] MM 250 = [] := rfl
theorem mm251 : aget [] MM 251 = [] := rfl
theorem mm252 : aget [] MM 252 = [] := rfl
theorem mm253 : aget [] MM 253 = [] := rfl
theorem mm254 : aget [] MM 254 = [] := rfl
theorem mm255 : aget [] MM 255 = [] := rfl
theorem mm256 : aget [] MM 256 = [] := rfl
theorem mm257 : aget [] MM 257 = [] := rfl
theorem mm258 : aget [] MM 258 = [] := rfl
theorem mm259 : aget [] MM 259 = [] := rfl
theorem mm260 : aget [] MM 260 = [] := rfl
theorem mm261 : aget [] MM 261 = [] := rfl
theorem mm262 : aget [] MM 262 = [] := rfl
theorem mm263 : aget [] MM 263 = [] := rfl
theorem mm264 : aget [] MM 264 = [] := rfl
theorem mm265 : aget [] MM 265 = [] := rfl
theorem mm266 : aget [] MM 266 = [] := rfl
theorem mm267 : aget [] MM 267 = [] := rfl
theorem mm268 : aget [] MM 268 = [] := rfl
theorem mm269 : aget [] MM 269 = [] := rfl
theorem mm270 : aget [] MM 270 = [] := rfl
theorem mm271 : aget [] MM 271 = [] := rfl
theorem mm272 : aget [] MM 272 = [] := rfl
theorem mm273 : aget [] MM 273 = [] := rfl
theorem mm274 : aget [] MM 274 = [] := rfl
theorem mm275 : aget [] MM 275 = [] := rfl
theorem mm276 : aget [] MM 276 = [] := rfl
theorem mm277 : aget [] MM 277 = [] := rfl
theorem mm278 : aget [] MM 278 = [] := rfl
attribute [simp] mm0 mm1 mm2 mm3 mm4 mm5 mm6 mm7 mm8 mm9 mm10 mm11 mm12 mm13 mm14 mm15 mm16 mm17 mm18 mm19 mm20 mm21 mm22 mm23 mm24 mm25 mm26 mm27 mm28 mm29 mm30 mm31 mm32 mm33 mm34 mm35 mm36 mm37 mm38 mm39 mm40 mm41 mm42 mm43 mm44 mm45 mm46 mm47 mm48 mm49 mm50 mm51 mm52 mm53 mm54 mm55 mm56 mm57 mm58 mm59 mm60 mm61 mm62 mm63 mm64 mm65 mm66 mm67 mm68 mm69 mm70 mm71 mm72 mm73 mm74 mm75 mm76 mm77 mm78 mm79 mm80 mm81 mm82 mm83 mm84 mm85 mm86 mm87 mm88 mm89 mm90 mm91 mm92 mm93 mm94 mm95 mm96 mm97 mm98 mm99 mm100 mm101 mm102 mm103 mm104 mm105 mm106 mm107 mm108 mm109 mm110 mm111 mm112 mm113 mm114 mm115 mm116 mm117 mm118 mm119 mm120 mm121 mm122 mm123 mm124 mm125 mm126 mm127 mm128 mm129 mm130 mm131 mm132 mm133 mm134 mm135 mm136 mm137 mm138 mm139 mm140 mm141 mm142 mm143 mm144 mm145 mm146 mm147 mm148 mm149 mm150 mm151 mm152 mm153 mm154 mm155 mm156 mm157 mm158 mm159 mm160 mm161 mm162 mm163 mm164 mm165 mm166 mm167 mm168 mm169 mm170 mm171 mm172 mm173 mm174 mm175 mm176 mm177 mm178 mm179 mm180 mm181 mm182 mm183 mm184 mm185 mm186 mm187 mm188 mm189 mm190 mm191 mm192 mm193 mm194 mm195 mm196 mm197 mm198 mm199 mm200 mm201 mm202 mm203 mm204 mm205 mm206 mm207 mm208 mm209 mm210 mm211 mm212 mm213 mm214 mm215 mm216 mm217 mm218 mm219 mm220 mm221 mm222 mm223 mm224 mm225 mm226 mm227 mm228 mm229 mm230 mm231 mm232 mm233 mm234 mm235 mm236 mm237 mm238 mm239 mm240 mm241 mm242 mm243 mm244 mm245 mm246 mm247 mm248 mm249 mm250 mm251 mm252 mm253 mm254 mm255 mm256 mm257 mm258 mm259 mm260 mm261 mm262 mm263 mm264 mm265 mm266 mm267 mm268 mm269 mm270 mm271 mm272 mm273 mm274 mm275 mm276 mm277 mm278
namespace F
abbrev laws_FnExactAddQSums : Nat := 6
abbrev laws_szQSum : Nat := 40
abbrev spec_AddQSums : Nat := 41
abbrev laws_toQSum : Nat := 42
abbrev impl_AddQSums : Nat := 43
abbrev laws_eqQSum : Nat := 44
abbrev laws_markQSum : Nat := 45
abbrev laws_heldQSum : Nat := 46
abbrev laws_eqIntS : Nat := 79
abbrev laws_markIntS : Nat := 82
abbrev laws_heldIntS : Nat := 85
abbrev slices_Clone_int_int : Nat := 91
abbrev impl_within : Nat := 94
abbrev spec_l1In : Nat := 103
abbrev impl_keyOf : Nat := 112
abbrev slices_Compare_int_int : Nat := 114
abbrev impl_expOk : Nat := 115
abbrev impl_coefOk : Nat := 116
abbrev laws_szQTermS : Nat := 119
abbrev spec_QSumOk : Nat := 120
abbrev spec_l8Shut : Nat := 121
abbrev spec_l8Gather : Nat := 122
abbrev laws_toQTermS : Nat := 123
abbrev impl_QSumOk : Nat := 124
abbrev impl_newQBuilding : Nat := 125
abbrev slices_Concat_impl_QTerm_impl_QTerm : Nat := 126
abbrev impl_qbuilding_add : Nat := 127
abbrev impl_qbuilding_done : Nat := 128
abbrev laws_eqQTermS : Nat := 129
abbrev laws_markQTermS : Nat := 130
abbrev laws_heldQTermS : Nat := 131
abbrev slices_ContainsFunc_int_int : Nat := 134
abbrev impl_descending : Nat := 160
abbrev laws_szIntS : Nat := 163
abbrev laws_toIntS : Nat := 165
abbrev cmp_Compare_int : Nat := 191
abbrev impl_expOk_1 : Nat := 192
abbrev laws_szQTerm : Nat := 200
abbrev spec_l8Less : Nat := 201
abbrev spec_l1Same : Nat := 202
abbrev spec_l1Ints : Nat := 203
abbrev laws_toQTerm : Nat := 204
abbrev slices_Grow_impl_QTerm_impl_QTerm : Nat := 205
abbrev slices_SortFunc_impl_QTerm_impl_QTerm : Nat := 206
abbrev impl_qbuilding_done_1 : Nat := 207
abbrev laws_eqQTerm : Nat := 208
abbrev slices_IndexFunc_int_int : Nat := 211
abbrev spec_l1Less : Nat := 212
abbrev cmp_Or_int : Nat := 216
abbrev cmp_isNaN_int : Nat := 227
end F
namespace C
noncomputable def spec_l1Ints : Ctx := { P := Try.prog, T := TTab, M := MM, nW := 0, kp := [(0, [0]), (1, [2])], lp := [], pl := [] }
noncomputable def spec_l1In : Ctx := { P := Try.prog, T := TTab, M := MM, nW := 0, kp := [(0, [0, 1, 2]), (1, [6])], lp := [], pl := [] }
noncomputable def spec_l1Less : Ctx := { P := Try.prog, T := TTab, M := MM, nW := 0, kp := [(0, [0, 1]), (1, [0, 1, 5]), (2, [0, 1, 5, 15]), (3, [0, 1, 5]), (4, [0, 1, 5, 26]), (5, [4]), (6, [4])], lp := [(0, [0, 1, 5])], pl := [(4, .take 0 (.take 1 (.take 2 (.take 3 (.take 4 (.take 5 (.take 6 (.take 7 (.take 8 (.done)))))))))), (5, .take 0 (.take 1 (.take 2 (.take 3 (.take 4 (.take 5 (.take 6 (.take 7 (.take 8 (.take 9 (.done)))))))))))] }
noncomputable def impl_within : Ctx := { P := Try.prog, T := TTab, M := MM, nW := 0, kp := [(0, [0, 1, 2]), (1, [6])], lp := [], pl := [] }
noncomputable def slices_IndexFunc_int_int : Ctx := { P := Try.prog, T := TTab, M := MM, nW := 0, kp := [(0, [0, 1]), (1, [0, 1, 7, 8]), (2, [0, 1, 7, 8, 9]), (3, [0, 1, 5, 7, 8]), (4, [0, 1, 5, 7, 8, 16]), (5, [4]), (6, [0, 1, 7, 8]), (7, [4])], lp := [(0, [0, 1, 7, 8])], pl := [] }
noncomputable def slices_ContainsFunc_int_int : Ctx := { P := Try.prog, T := TTab, M := MM, nW := 0, kp := [(0, [0, 1]), (1, [4])], lp := [], pl := [] }
noncomputable def slices_Clone_int_int : Ctx := { P := Try.prog, T := TTab, M := MM, nW := 0, kp := [(0, [0]), (1, [0, 4]), (2, [2]), (3, [2])], lp := [], pl := [] }
noncomputable def impl_expOk_1 : Ctx := { P := Try.prog, T := TTab, M := MM, nW := 0, kp := [(0, [0]), (1, [2])], lp := [], pl := [] }
noncomputable def impl_expOk : Ctx := { P := Try.prog, T := TTab, M := MM, nW := 0, kp := [(0, [0, 1]), (1, [4])], lp := [], pl := [] }
noncomputable def laws_eqIntS : Ctx := { P := Try.prog, T := TTab, M := MM, nW := 0, kp := [(0, [0, 1]), (1, [0, 1, 10]), (2, [4]), (3, [0, 1, 5]), (4, [0, 1, 5, 14]), (5, [0, 1, 5]), (6, [0, 1, 5, 25]), (7, [4]), (8, [4])], lp := [(0, [0, 1, 5])], pl := [(6, .take 0 (.take 1 (.take 2 (.take 3 (.take 4 (.take 5 (.take 6 (.take 7 (.take 8 (.done))))))))))] }
noncomputable def laws_markIntS : Ctx := { P := Try.prog, T := TTab, M := MM, nW := 1, kp := [(0, [0, 1]), (1, [0, 1, 5]), (2, [0, 1, 5, 9]), (3, [0, 1, 5]), (4, [0, 1, 5]), (5, [0, 1, 5]), (6, [4])], lp := [(0, [0, 1, 5])], pl := [] }
noncomputable def laws_heldIntS : Ctx := { P := Try.prog, T := TTab, M := MM, nW := 0, kp := [(0, [0, 1]), (1, [0, 1, 5]), (2, [0, 1, 5, 9]), (3, [0, 1, 5]), (4, [0, 1, 5, 17]), (5, [4]), (6, [0, 1, 5]), (7, [4])], lp := [(0, [0, 1, 5])], pl := [] }
noncomputable def spec_l1Same : Ctx := { P := Try.prog, T := TTab, M := MM, nW := 0, kp := [(0, [0, 1]), (1, [0, 1, 10]), (2, [4]), (3, [0, 1, 5]), (4, [0, 1, 5, 14]), (5, [0, 1, 5]), (6, [0, 1, 5, 25]), (7, [4]), (8, [4])], lp := [(0, [0, 1, 5])], pl := [(6, .take 0 (.take 1 (.take 2 (.take 3 (.take 4 (.take 5 (.take 6 (.take 7 (.take 8 (.done))))))))))] }
noncomputable def laws_szIntS : Ctx := { P := Try.prog, T := TTab, M := MM, nW := 0, kp := [(0, [0, 1]), (1, [1]), (2, [1, 10]), (3, [4]), (4, [4])], lp := [], pl := [] }
noncomputable def laws_toIntS : Ctx := { P := Try.prog, T := TTab, M := MM, nW := 0, kp := [(0, [0]), (1, [0, 3]), (2, [0, 3, 4]), (3, [0, 3, 4, 11]), (4, [0, 3, 4]), (5, [0, 3, 4]), (6, [2])], lp := [(0, [0, 3, 4])], pl := [] }
noncomputable def cmp_isNaN_int : Ctx := { P := Try.prog, T := TTab, M := MM, nW := 0, kp := [(0, [0]), (1, [2])], lp := [], pl := [] }
noncomputable def cmp_Compare_int : Ctx := { P := Try.prog, T := TTab, M := MM, nW := 0, kp := [(0, [0, 1]), (1, [0, 1, 5]), (2, [0, 1, 5, 6]), (3, [0, 1, 6, 11]), (4, [12]), (5, [4]), (6, [4]), (7, [0, 1, 13]), (8, [4]), (9, [0, 1, 16]), (10, [4]), (11, [19]), (12, [4]), (13, [4])], lp := [], pl := [] }
noncomputable def slices_Compare_int_int : Ctx := { P := Try.prog, T := TTab, M := MM, nW := 0, kp := [(0, [0, 1]), (1, [0, 1, 9, 10, 11]), (2, [0, 1, 9, 10, 11, 12]), (3, [0, 1, 5, 6, 9, 10, 11]), (4, [0, 1, 5, 6, 9, 10, 11, 19]), (5, [4]), (6, [0, 1, 6, 7, 9, 10, 11]), (7, [0, 1, 8, 9, 10, 11]), (8, [0, 1, 8, 9, 10, 11, 28]), (9, [4]), (10, [0, 1, 9, 10, 11]), (11, [35]), (12, [4]), (13, [4])], lp := [(0, [0, 1, 9, 10, 11])], pl := [] }
noncomputable def impl_coefOk : Ctx := { P := Try.prog, T := TTab, M := MM, nW := 0, kp := [(0, [0]), (1, [2])], lp := [], pl := [] }
noncomputable def impl_keyOf : Ctx := { P := Try.prog, T := TTab, M := MM, nW := 0, kp := [(0, [0, 2]), (1, [0, 2, 3]), (2, [2, 3]), (3, [2])], lp := [], pl := [] }
noncomputable def laws_szQTerm : Ctx := { P := Try.prog, T := TTab, M := MM, nW := 0, kp := [(0, [1, 2]), (1, [1]), (2, [1, 10]), (3, [4]), (4, [4])], lp := [], pl := [] }
noncomputable def laws_szQTermS : Ctx := { P := Try.prog, T := TTab, M := MM, nW := 0, kp := [(0, [0, 1]), (1, [0, 1]), (2, [0, 1, 11]), (3, [4]), (4, [0, 1, 5]), (5, [0, 1, 5, 15]), (6, [0, 1, 5]), (7, [0, 1, 5]), (8, [0, 1, 5, 25]), (9, [4]), (10, [4])], lp := [(0, [0, 1, 5])], pl := [] }
noncomputable def laws_szQSum : Ctx := { P := Try.prog, T := TTab, M := MM, nW := 0, kp := [(0, [1, 2]), (1, [1]), (2, [1, 10]), (3, [4]), (4, [4])], lp := [], pl := [] }
noncomputable def laws_toQTerm : Ctx := { P := Try.prog, T := TTab, M := MM, nW := 0, kp := [(0, [1, 2]), (1, [1, 2, 3]), (2, [1, 2, 3]), (3, [1, 2, 3]), (4, [2, 3]), (5, [2])], lp := [], pl := [] }
noncomputable def laws_toQTermS : Ctx := { P := Try.prog, T := TTab, M := MM, nW := 0, kp := [(0, [0]), (1, [0, 3]), (2, [0, 3, 4]), (3, [0, 3, 4, 11]), (4, [0, 3, 4]), (5, [0, 3, 4]), (6, [2])], lp := [(0, [0, 3, 4])], pl := [] }
noncomputable def laws_toQSum : Ctx := { P := Try.prog, T := TTab, M := MM, nW := 0, kp := [(0, [1, 2]), (1, [1, 2, 3]), (2, [1, 2, 3]), (3, [2, 3]), (4, [2])], lp := [], pl := [] }
noncomputable def laws_eqQTerm : Ctx := { P := Try.prog, T := TTab, M := MM, nW := 0, kp := [(0, [2, 3]), (1, [2, 3, 10]), (2, [4]), (3, [2, 3, 15]), (4, [4]), (5, [20]), (6, [4]), (7, [4])], lp := [], pl := [] }
noncomputable def laws_eqQTermS : Ctx := { P := Try.prog, T := TTab, M := MM, nW := 0, kp := [(0, [0, 1]), (1, [0, 1, 10]), (2, [4]), (3, [0, 1, 5]), (4, [0, 1, 5, 14]), (5, [0, 1, 5]), (6, [0, 1, 5, 26]), (7, [4]), (8, [4])], lp := [(0, [0, 1, 5])], pl := [(6, .take 0 (.take 1 (.take 2 (.take 3 (.take 4 (.take 5 (.take 6 (.take 7 (.all [(8, .take 9 (.done))])))))))))] }
noncomputable def laws_eqQSum : Ctx := { P := Try.prog, T := TTab, M := MM, nW := 0, kp := [(0, [2, 3]), (1, [2, 3, 9]), (2, [4]), (3, [15]), (4, [4]), (5, [4])], lp := [], pl := [] }
noncomputable def laws_markQTermS : Ctx := { P := Try.prog, T := TTab, M := MM, nW := 1, kp := [(0, [0, 1]), (1, [0, 1, 5]), (2, [0, 1, 5, 9]), (3, [0, 1, 5]), (4, [0, 1, 5]), (5, [0, 1, 5]), (6, [0, 1, 5]), (7, [0, 1, 5]), (8, [0, 1, 5]), (9, [4])], lp := [(0, [0, 1, 5])], pl := [] }
noncomputable def laws_markQSum : Ctx := { P := Try.prog, T := TTab, M := MM, nW := 1, kp := [(0, [1, 2]), (1, [1]), (2, [4])], lp := [], pl := [] }
noncomputable def laws_heldQTermS : Ctx := { P := Try.prog, T := TTab, M := MM, nW := 0, kp := [(0, [0, 1]), (1, [0, 1, 5]), (2, [0, 1, 5, 9]), (3, [0, 1, 5]), (4, [0, 1, 5]), (5, [0, 1, 5, 20]), (6, [4]), (7, [0, 1, 5, 27]), (8, [4]), (9, [0, 1, 5]), (10, [0, 1, 5, 36]), (11, [4]), (12, [0, 1, 5]), (13, [4])], lp := [(0, [0, 1, 5])], pl := [] }
noncomputable def laws_heldQSum : Ctx := { P := Try.prog, T := TTab, M := MM, nW := 0, kp := [(0, [1, 2]), (1, [1]), (2, [1, 10]), (3, [4]), (4, [4])], lp := [], pl := [] }
noncomputable def cmp_Or_int : Ctx := { P := Try.prog, T := TTab, M := MM, nW := 0, kp := [(0, [0]), (1, [0, 3]), (2, [3, 6, 7, 8]), (3, [3, 6, 7, 8, 9]), (4, [3, 5, 6, 7, 8]), (5, [3, 5, 6, 7, 8, 14]), (6, [2]), (7, [3, 6, 7, 8]), (8, [2])], lp := [(0, [3, 6, 7, 8])], pl := [] }
noncomputable def impl_descending : Ctx := { P := Try.prog, T := TTab, M := MM, nW := 0, kp := [(0, [0, 1, 2, 3]), (1, [8])], lp := [], pl := [] }
noncomputable def impl_QSumOk : Ctx := { P := Try.prog, T := TTab, M := MM, nW := 0, kp := [(0, [1]), (1, [1, 14]), (2, [2]), (3, [1, 16, 17, 18]), (4, [1, 16, 17, 18, 19]), (5, [1, 3, 4, 16, 17, 18]), (6, [1, 3, 4, 16, 17, 18, 40]), (7, [2]), (8, [1, 16, 17, 18, 64]), (9, [2]), (10, [1, 16, 17, 18]), (11, [2])], lp := [(0, [1, 16, 17, 18])], pl := [(8, .take 0 (.take 1 (.take 2 (.take 3 (.take 4 (.take 5 (.take 6 (.take 7 (.take 8 (.take 9 (.take 10 (.take 11 (.take 12 (.take 13 (.take 14 (.take 15 (.take 16 (.take 17 (.take 18 (.take 19 (.take 20 (.all [(21, .take 22 (.take 23 (.done)))]))))))))))))))))))))))] }
noncomputable def spec_l8Less : Ctx := { P := Try.prog, T := TTab, M := MM, nW := 0, kp := [(0, [2, 3]), (1, [2, 3, 10]), (2, [4]), (3, [4])], lp := [], pl := [] }
noncomputable def spec_QSumOk : Ctx := { P := Try.prog, T := TTab, M := MM, nW := 0, kp := [(0, [1]), (1, [1, 15]), (2, [2]), (3, [1, 3]), (4, [1, 3, 20]), (5, [1, 3]), (6, [1, 3, 4]), (7, [1, 3, 4, 65]), (8, [2]), (9, [1, 3, 4, 5]), (10, [1, 3, 4, 5, 69]), (11, [1, 3, 4, 5]), (12, [1, 3, 4, 5, 78]), (13, [2]), (14, [2])], lp := [(0, [1, 3]), (2, [1, 3, 4, 5])], pl := [(7, .take 0 (.take 1 (.take 2 (.take 3 (.take 4 (.take 5 (.take 6 (.take 7 (.take 8 (.take 9 (.take 10 (.take 11 (.take 12 (.take 13 (.all [(14, .take 15 (.take 16 (.take 17 (.take 18 (.take 19 (.all [(20, .take 21 (.take 22 (.take 23 (.take 24 (.take 25 (.take 26 (.take 27 (.take 28 (.take 29 (.take 30 (.take 31 (.take 32 (.take 33 (.all [(34, .take 35 (.take 36 (.take 37 (.done))))]))))))))))))))]))))))])))))))))))))))] }
noncomputable def spec_l8Shut : Ctx := { P := Try.prog, T := TTab, M := MM, nW := 1, kp := [(0, [0, 1, 4]), (1, [4, 6]), (2, [4, 6, 12]), (3, [4, 5]), (4, [4, 5])], lp := [], pl := [] }
noncomputable def spec_l8Gather : Ctx := { P := Try.prog, T := TTab, M := MM, nW := 0, kp := [(0, [0]), (1, [3]), (2, [3, 4]), (3, [3, 4, 22]), (4, [3, 4]), (5, [3, 4, 5]), (6, [3, 4, 5, 6]), (7, [3, 4, 5, 6, 31]), (8, [3, 4, 5, 6]), (9, [3, 4, 5, 6, 7]), (10, [3, 4, 5, 6, 7, 8]), (11, [3, 4, 5, 6, 7, 8, 9]), (12, [3, 4, 5, 6, 7, 8, 9, 10]), (13, [3, 4, 5, 6, 7, 8, 9, 10, 58]), (14, [3, 4, 5, 6, 7, 8, 9, 10, 78]), (15, [3, 4, 5, 6, 7, 8, 9, 10]), (16, [3, 4, 5, 6, 7, 8, 9, 10]), (17, [3, 4, 5, 6, 7, 8, 9, 10]), (18, [3, 4, 5, 6, 7, 8, 9, 10]), (19, [3, 4]), (20, [3, 11]), (21, [3, 11, 12]), (22, [3, 11, 12, 102]), (23, [3, 11, 12]), (24, [3, 11, 12, 13]), (25, [3, 11, 12, 13, 136]), (26, [3, 11, 12]), (27, [3, 11, 12]), (28, [11, 14]), (29, [11, 14, 15]), (30, [11, 14, 15, 178]), (31, [11, 14, 15]), (32, [11, 14, 15, 186]), (33, [11, 14, 15]), (34, [2])], lp := [(0, [3, 4]), (2, [3, 4, 5, 6]), (4, [3, 4, 5, 6, 7, 8, 9, 10]), (6, [3, 11, 12]), (8, [11, 14, 15])], pl := [(14, .take 0 (.take 1 (.take 2 (.take 3 (.take 4 (.take 5 (.take 6 (.take 7 (.take 8 (.take 9 (.take 10 (.take 11 (.take 12 (.take 13 (.take 14 (.take 15 (.all [(16, .take 17 (.take 18 (.take 19 (.done))))]))))))))))))))))), (25, .take 0 (.take 1 (.take 2 (.take 3 (.take 4 (.take 5 (.take 6 (.take 7 (.take 8 (.take 9 (.take 10 (.take 11 (.take 12 (.take 13 (.take 14 (.take 15 (.take 16 (.take 17 (.take 18 (.take 19 (.take 20 (.take 21 (.take 22 (.take 23 (.take 24 (.take 25 (.take 26 (.take 27 (.all [(28, .take 29 (.done))]))))))))))))))))))))))))))))), (26, .take 0 (.take 1 (.take 2 (.take 3 (.take 4 (.take 5 (.take 6 (.take 7 (.take 8 (.take 9 (.take 10 (.take 11 (.take 12 (.take 13 (.take 14 (.take 15 (.take 16 (.all [(17, .done)])))))))))))))))))), (27, .take 0 (.take 1 (.take 2 (.take 3 (.take 4 (.take 5 (.take 7 (.take 8 (.take 9 (.take 10 (.take 11 (.take 12 (.take 13 (.take 14 (.take 15 (.take 16 (.all [(6, .take 17 (.all [(18, .all [(19, .take 20 (.done))])]))])))))))))))))))))] }
noncomputable def spec_AddQSums : Ctx := { P := Try.prog, T := TTab, M := MM, nW := 0, kp := [(0, [2, 3, 4]), (1, [2, 3, 4, 20]), (2, [4, 5]), (3, [4, 5])], lp := [], pl := [(3, .take 1 (.take 2 (.take 4 (.take 8 (.all [(0, .all [(3, .take 5 (.all [(6, .take 9 (.all [(7, .all [(10, .take 11 (.take 12 (.all [(13, .take 14 (.done))])))])])), (9, .all [(6, .all [(7, .all [(10, .take 11 (.take 12 (.all [(13, .take 14 (.done))])))])])])])), (5, .all [(3, .all [(6, .take 9 (.all [(7, .all [(10, .take 11 (.take 12 (.all [(13, .take 14 (.done))])))])])), (9, .all [(6, .all [(7, .all [(10, .take 11 (.take 12 (.all [(13, .take 14 (.done))])))])])])]), (9, .all [(3, .all [(6, .all [(7, .all [(10, .take 11 (.take 12 (.all [(13, .take 14 (.done))])))])])])])]), (9, .all [(3, .take 5 (.all [(6, .all [(7, .all [(10, .take 11 (.take 12 (.all [(13, .take 14 (.done))])))])])])), (5, .all [(3, .all [(6, .all [(7, .all [(10, .take 11 (.take 12 (.all [(13, .take 14 (.done))])))])])])])])]), (5, .all [(0, .all [(3, .all [(6, .take 9 (.all [(7, .all [(10, .take 11 (.take 12 (.all [(13, .take 14 (.done))])))])])), (9, .all [(6, .all [(7, .all [(10, .take 11 (.take 12 (.all [(13, .take 14 (.done))])))])])])]), (9, .all [(3, .all [(6, .all [(7, .all [(10, .take 11 (.take 12 (.all [(13, .take 14 (.done))])))])])])])]), (9, .all [(0, .all [(3, .all [(6, .all [(7, .all [(10, .take 11 (.take 12 (.all [(13, .take 14 (.done))])))])])])])])]), (9, .all [(0, .all [(3, .take 5 (.all [(6, .all [(7, .all [(10, .take 11 (.take 12 (.all [(13, .take 14 (.done))])))])])])), (5, .all [(3, .all [(6, .all [(7, .all [(10, .take 11 (.take 12 (.all [(13, .take 14 (.done))])))])])])])]), (5, .all [(0, .all [(3, .all [(6, .all [(7, .all [(10, .take 11 (.take 12 (.all [(13, .take 14 (.done))])))])])])])])])])))))] }
noncomputable def impl_newQBuilding : Ctx := { P := Try.prog, T := TTab, M := MM, nW := 0, kp := [(0, [0]), (1, [2])], lp := [], pl := [] }
noncomputable def slices_Grow_impl_QTerm_impl_QTerm : Ctx := { P := Try.prog, T := TTab, M := MM, nW := 0, kp := [(0, [0, 1]), (1, [0, 1, 6]), (2, [0, 1]), (3, [0, 1]), (4, [0, 1, 16]), (5, [0]), (6, [4])], lp := [], pl := [] }
noncomputable def slices_Concat_impl_QTerm_impl_QTerm : Ctx := { P := Try.prog, T := TTab, M := MM, nW := 0, kp := [(0, [0]), (1, [0, 3]), (2, [0, 3, 9, 10, 11]), (3, [0, 3, 9, 10, 11, 12]), (4, [0, 3, 5, 9, 10, 11]), (5, [0, 3, 9, 10, 11]), (6, [0, 3, 9, 10, 11, 20]), (7, [0, 3, 9, 10, 11]), (8, [0, 3, 9, 10, 11]), (9, [0, 6]), (10, [6, 25, 26, 27]), (11, [6, 25, 26, 27, 28]), (12, [6, 8, 25, 26, 27]), (13, [6, 25, 26, 27]), (14, [6, 25, 26, 27]), (15, [2])], lp := [(0, [0, 3, 9, 10, 11]), (2, [6, 25, 26, 27])], pl := [] }
noncomputable def impl_qbuilding_add : Ctx := { P := Try.prog, T := TTab, M := MM, nW := 1, kp := [(0, [0, 2, 4]), (1, [0, 2, 4]), (2, [0, 2, 4, 15]), (3, []), (4, [])], lp := [], pl := [(1, .take 0 (.take 1 (.take 2 (.take 3 (.take 4 (.take 5 (.take 6 (.take 7 (.take 8 (.done)))))))))), (3, .take 0 (.take 1 (.take 2 (.take 3 (.take 4 (.all [(5, .done)])))))), (4, .take 0 (.take 1 (.take 2 (.take 3 (.take 4 (.take 5 (.all [(6, .done)])))))))] }
noncomputable def slices_SortFunc_impl_QTerm_impl_QTerm : Ctx := { P := Try.prog, T := TTab, M := MM, nW := 0, kp := [(0, [0, 1, 4]), (1, [])], lp := [], pl := [] }
noncomputable def impl_qbuilding_done_1 : Ctx := { P := Try.prog, T := TTab, M := MM, nW := 0, kp := [(0, [2, 3]), (1, [4])], lp := [], pl := [] }
noncomputable def impl_qbuilding_done : Ctx := { P := Try.prog, T := TTab, M := MM, nW := 1, kp := [(0, [0, 2]), (1, [0, 2, 12]), (2, [2, 3]), (3, [0, 2, 4]), (4, [0, 2, 4, 23]), (5, [0, 2, 4, 23, 25]), (6, [0, 2, 4, 5, 6, 23]), (7, [0, 2, 4, 23]), (8, [2, 4]), (9, [2, 4, 50]), (10, [2, 3]), (11, [2, 3])], lp := [(0, [0, 2, 4, 23])], pl := [(7, .take 0 (.take 1 (.take 2 (.take 3 (.take 4 (.take 5 (.take 6 (.take 7 (.take 9 (.take 10 (.take 11 (.all [(8, .take 12 (.all [(13, .all [(14, .take 15 (.all [(16, .done)]))])]))]))))))))))))] }
noncomputable def impl_AddQSums : Ctx := { P := Try.prog, T := TTab, M := MM, nW := 0, kp := [(0, [2, 3, 4]), (1, [2, 3, 4, 23]), (2, [4, 5]), (3, [2, 3, 4, 6]), (4, [4, 6, 33, 34, 35]), (5, [4, 6, 33, 34, 35, 36]), (6, [4, 6, 8, 33, 34, 35]), (7, [4, 6, 33, 34, 35]), (8, [4, 6, 33, 34, 35]), (9, [4, 5])], lp := [(0, [4, 6, 33, 34, 35])], pl := [(7, .take 0 (.take 1 (.take 2 (.take 4 (.take 5 (.take 7 (.take 8 (.all [(3, .take 6 (.all [(9, .done)]))]))))))))], fb := [32] }
noncomputable def laws_FnExactAddQSums : Ctx := { P := Try.prog, T := TTab, M := MM, nW := 0, kp := [(0, [2, 3]), (1, [2, 3, 5]), (2, [2, 3, 5]), (3, [2, 3, 5, 21]), (4, [4]), (5, [2, 3, 5]), (6, [2, 3, 26]), (7, [4]), (8, [2, 3, 6, 7]), (9, [2, 3, 6, 7, 8]), (10, [2, 3, 6, 7, 8, 9]), (11, [2, 3, 6, 7, 8, 9, 10, 11]), (12, [2, 3, 6, 7, 8, 9, 10, 11, 53]), (13, [4]), (14, [2, 3, 6, 7, 8, 9, 10, 11, 58]), (15, [4]), (16, [2, 3, 6, 7, 8, 9, 10, 11, 63]), (17, [4]), (18, [2, 3, 6, 7, 8, 9, 10, 11, 12]), (19, [2, 3, 6, 7, 9, 10, 11, 12]), (20, [2, 3, 6, 7, 10, 11, 12]), (21, [2, 3, 6, 7, 10, 82]), (22, [4]), (23, [2, 3, 6, 7, 10, 13]), (24, [2, 3, 6, 7, 10, 13]), (25, [2, 3, 6, 7, 10, 13, 14]), (26, [2, 3, 6, 7, 10, 13, 14]), (27, [2, 3, 6, 7, 10, 13, 14, 90]), (28, [4]), (29, [2, 3, 6, 7, 10, 13, 93]), (30, [4]), (31, [6, 7, 10, 13, 15, 16]), (32, [10, 13, 110]), (33, [4]), (34, [10, 13, 14]), (35, [13, 14]), (36, [13, 14, 115]), (37, [4]), (38, [118]), (39, [4]), (40, [4])], lp := [], pl := [(8, .take 0 (.take 2 (.all [(1, .all [(3, .all [(4, .take 5 (.take 6 (.take 7 (.all [(8, .all [(9, .take 10 (.done))])])))), (8, .all [(4, .take 5 (.take 6 (.take 7 (.all [(9, .take 10 (.done))]))))])]), (8, .all [(3, .all [(4, .take 5 (.take 6 (.take 7 (.all [(9, .take 10 (.done))]))))])])]), (8, .all [(1, .all [(3, .all [(4, .take 5 (.take 6 (.take 7 (.all [(9, .take 10 (.done))]))))])])])]))), (14, .take 0 (.take 1 (.all [(2, .all [(3, .take 4 (.done))])]))), (16, .take 0 (.take 1 (.all [(2, .all [(3, .take 4 (.done))])]))), (31, .take 0 (.take 2 (.all [(1, .all [(3, .all [(4, .take 5 (.take 6 (.take 7 (.all [(8, .all [(9, .take 10 (.done))])])))), (8, .all [(4, .take 5 (.take 6 (.take 7 (.all [(9, .take 10 (.done))]))))])]), (8, .all [(3, .all [(4, .take 5 (.take 6 (.take 7 (.all [(9, .take 10 (.done))]))))])])]), (8, .all [(1, .all [(3, .all [(4, .take 5 (.take 6 (.take 7 (.all [(9, .take 10 (.done))]))))])])])])))] }
end C
end Go.Proofs.Ytdgeponcnlkaiaa.Ab
namespace Go.Proofs.Ytdgeponcnlkaiaa.Ab
open Go
set_option linter.unusedSimpArgs false
set_option linter.unusedVariables false
set_option maxRecDepth 10000
theorem tabT : tabB Try.prog TTab = true := by kernel_rfl
theorem folT : Try.prog.follows .mixedOrders = true := by kernel_rfl
theorem wrap_succ {j : Nat} (h : j < 4611686018427387904) : IntKind.i64.wrap ((j : Int) + 1) = ((j + 1 : Nat) : Int) := by
  rw [wrapOk (by omega) (by omega)]
  omega
theorem impl_within_calls (n low high : Int) : ACalls Try.prog F.impl_within [.int n, .int low, .int high] [] true (fun outs res => outs = [] ∧ res = [.one (D.bool (decide (low ≤ n ∧ n ≤ high)))]) := by
  refine ACalls.of_body (C := C.impl_within) (n := Try.f94.ntmps) tabT folT Try.func94 rfl (by kernel_rfl) rfl (Nat.le_of_ble_eq_true rfl) (by decide) (by kernel_rfl) (by kernel_rfl) rfl (by simp) (by simp) ?_
  simp only [Try.f94]
  refine wseq ?_
  refine wreg fun K hK => ?_
  simp [C.impl_within]
  refine hK _ ?_; clear hK K
  show AWp _ _ _ _ _
  refine wseq ?_
  refine wreg fun K hK => ?_
  have hJ : K ⟨ofL [(6, .bool (decide (low ≤ n ∧ n ≤ high)))], ofRO []⟩ := by
    refine hK _ ?_; clear hK K
    show AWp _ _ _ _ _
    refine wret ?_
    simp [C.impl_within]
  by_cases h : low ≤ n
  · simp [C.impl_within, h]
    simpa [h] using hJ
  · simp [C.impl_within, h]
    simpa [h] using hJ

theorem spec_l1In_calls (n low high : Int) : ACalls Try.prog F.spec_l1In [.int n, .int low, .int high] [] true (fun outs res => outs = [] ∧ res = [.one (D.bool (decide (low ≤ n ∧ n ≤ high)))]) := by
  refine ACalls.of_body (C := C.spec_l1In) (n := Try.f103.ntmps) tabT folT Try.func103 rfl (by kernel_rfl) rfl (Nat.le_of_ble_eq_true rfl) (by decide) (by kernel_rfl) (by kernel_rfl) rfl (by simp) (by simp) ?_
  simp only [Try.f103]
  refine wseq ?_
  refine wreg fun K hK => ?_
  simp [C.spec_l1In]
  refine hK _ ?_; clear hK K
  show AWp _ _ _ _ _
  refine wseq ?_
  refine wreg fun K hK => ?_
  have hJ : K ⟨ofL [(6, .bool (decide (low ≤ n ∧ n ≤ high)))], ofRO []⟩ := by
    refine hK _ ?_; clear hK K
    show AWp _ _ _ _ _
    refine wret ?_
    simp [C.spec_l1In]
  by_cases h : low ≤ n
  · simp [C.spec_l1In, h]
    simpa [h] using hJ
  · simp [C.spec_l1In, h]
    simpa [h] using hJ

theorem spec_l1Ints_calls (xs : List Int) (hx : xs.length < 17592186044416) : ACalls Try.prog F.spec_l1Ints [.d (shI xs)] [] true (fun outs res => outs = [] ∧ res = [.one (owI xs)]) := by
  refine ACalls.of_body (C := C.spec_l1Ints) (n := Try.f203.ntmps) tabT folT Try.func203 rfl (by kernel_rfl) rfl (Nat.le_of_ble_eq_true rfl) (by decide) (by kernel_rfl) (by kernel_rfl) rfl (by simp) (by simp) ?_
  simp only [Try.f203]
  refine wseq ?_
  refine wreg fun K hK => ?_
  simp [C.spec_l1Ints]
  refine hK _ ?_; clear hK K
  show AWp _ _ _ _ _
  refine wseq ?_
  refine wreg fun K hK => ?_
  simp [C.spec_l1Ints, show xs.length * 8 ≤ 140737488355328 by omega]
  refine hK _ ?_; clear hK K
  show AWp _ _ _ _ _
  refine wret ?_
  simp [C.spec_l1Ints]

theorem slices_Clone_int_int_calls (xs : List Int) (hx : xs.length < 17592186044416) : ACalls Try.prog F.slices_Clone_int_int [.d (shI xs)] [] true (fun outs res => outs = [] ∧ WkRs res [.one (owI xs)]) := by
  refine ACalls.of_body (C := C.slices_Clone_int_int) (n := Try.f91.ntmps) tabT folT Try.func91 rfl (by kernel_rfl) rfl (Nat.le_of_ble_eq_true rfl) (by decide) (by kernel_rfl) (by kernel_rfl) rfl (by simp) (by simp) ?_
  simp only [Try.f91]
  refine wseq ?_
  refine wreg fun K hK => ?_
  simp [C.slices_Clone_int_int]
  refine hK _ ?_; clear hK K
  show AWp _ _ _ _ _
  refine wseq ?_
  refine wseq ?_
  refine wreg fun K hK => ?_
  simp [C.slices_Clone_int_int]
  refine ⟨?_, fun h => ?_⟩
  · refine hK _ ?_; clear hK K
    show AWp _ _ _ _ _
    refine wcond _ rfl (fun hc1 => ?_) (fun hc1 => ?_)
    · simp at hc1
    · refine wskip ?_
      show AWp _ _ _ _ _
      refine wseq ?_
      refine wreg fun K hK => ?_
      simp [C.slices_Clone_int_int, show xs.length * 8 ≤ 140737488355328 by omega]
      refine hK _ ?_; clear hK K
      show AWp _ _ _ _ _
      refine wret ?_
      simp [C.slices_Clone_int_int]
  · refine hK _ ?_; clear hK K
    show AWp _ _ _ _ _
    refine wcond _ rfl (fun hc2 => ?_) (fun hc2 => ?_)
    · refine wseq ?_
      refine wreg fun K hK => ?_
      simp [C.slices_Clone_int_int]
      refine hK _ ?_; clear hK K
      show AWp _ _ _ _ _
      refine wret ?_
      simp [C.slices_Clone_int_int, h, ints]
    · simp at hc2
theorem clone_calls (xs : List Int) (hx : xs.length < 17592186044416) : ACalls Try.prog F.slices_Clone_int_int [.d (shI xs)] [] true (fun outs res => outs = [] ∧ res = [.one (owI xs)]) := (slices_Clone_int_int_calls xs hx).weak1

theorem laws_eqIntS_calls (xs ys : List Int) (hx : xs.length < 4611686018427387904) : ACalls Try.prog F.laws_eqIntS [.d (shI xs), .d (shI ys)] [] true (fun outs res => outs = [] ∧ res = [.one (D.bool (decide (xs = ys)))]) := by
  refine ACalls.of_body (C := C.laws_eqIntS) (n := Try.f79.ntmps) tabT folT Try.func79 rfl (by kernel_rfl) rfl (Nat.le_of_ble_eq_true rfl) (by decide) (by kernel_rfl) (by kernel_rfl) rfl (by simp) (by simp) ?_
  simp only [Try.f79]
  refine wseq ?_
  refine wreg fun K hK => ?_
  simp [C.laws_eqIntS]
  refine hK _ ?_; clear hK K
  show AWp _ _ _ _ _
  refine wseq ?_
  refine wseq ?_
  refine wreg fun K hK => ?_
  simp [C.laws_eqIntS]
  refine hK _ ?_; clear hK K
  show AWp _ _ _ _ _
  refine wcond _ rfl (fun hc1 => ?_) (fun hc1 => ?_)
  · refine wseq ?_
    refine wreg fun K hK => ?_
    simp [C.laws_eqIntS]
    refine hK _ ?_; clear hK K
    show AWp _ _ _ _ _
    refine wret ?_
    simp at hc1
    simp [C.laws_eqIntS]
    intro e; simp [e] at hc1
  · refine wskip ?_
    show AWp _ _ _ _ _
    refine wseq ?_
    refine wseq ?_
    refine wreg fun K hK => ?_
    simp [C.laws_eqIntS]
    refine hK _ ?_; clear hK K
    show AWp _ _ _ _ _
    refine wblock ?_
    have e : xs.length = ys.length := by simp at hc1; omega
    refine wloop (fun k : Nat => ⟨ofL [(0, .d (shI xs)), (1, .d (shI ys)), (5, FV.int k)], ofRO []⟩) (fun k => k ≤ xs.length ∧ xs.take k = ys.take k) (fun k => xs.length - k) 0 (by simp [C.laws_eqIntS]) (by simp) ?_
    intro x1 hx1 R1 hR1
    obtain ⟨hk, ht⟩ := hx1
    refine wseq ?_
    refine wseq ?_
    refine wreg fun K hK => ?_
    simp [C.laws_eqIntS]
    refine hK _ ?_; clear hK K
    show AWp _ _ _ _ _
    refine wcond _ rfl (fun hc2 => ?_) (fun hc2 => ?_)
    · refine wskip ?_
      show AWp _ _ _ _ _
      refine wseq ?_
      refine wblock ?_
      refine wseq ?_
      have h1 : x1 < xs.length := by simpa using hc2
      have h2 : x1 < ys.length := by omega
      refine wdraw (.take 0 (.take 1 (.take 2 (.take 3 (.take 4 (.take 5 (.take 6 (.take 7 (.take 8 (.done)))))))))) ⟨by kernel_rfl, by kernel_rfl⟩ fun K hK => ?_
      simp [C.laws_eqIntS, get_ints, h1, h2]
      refine hK _ ?_; clear hK K
      show AWp _ _ _ _ _
      refine wcond _ rfl (fun hc3 => ?_) (fun hc3 => ?_)
      · refine wseq ?_
        refine wreg fun K hK => ?_
        simp [C.laws_eqIntS]
        refine hK _ ?_; clear hK K
        show AWp _ _ _ _ _
        refine wret ?_
        simp at hc3
        simp [C.laws_eqIntS]
        intro e; simp [e] at hc3
      · refine wskip ?_
        show AWp _ _ _ _ _
        refine wreg fun K hK => ?_
        simp [C.laws_eqIntS, wrap_succ (show x1 < 4611686018427387904 by omega)]
        refine hK _ ?_; clear hK K
        simp [C.laws_eqIntS]
        simp at hc3
        refine hR1 (x1 + 1) ⟨h1, ?_⟩ (by omega)
        rw [List.take_succ_eq_append_getElem h1, List.take_succ_eq_append_getElem h2, ht, hc3]
    · refine wexit ?_
      show AWp _ _ _ _ _
      refine wseq ?_
      refine wreg fun K hK => ?_
      simp [C.laws_eqIntS]
      refine hK _ ?_; clear hK K
      show AWp _ _ _ _ _
      refine wret ?_
      have hk2 : x1 = xs.length := by simp at hc2; omega
      simp [C.laws_eqIntS]
      rw [hk2, List.take_length, e, List.take_length] at ht
      exact ht

theorem spec_l1Same_calls (xs ys : List Int) (hx : xs.length < 4611686018427387904) : ACalls Try.prog F.spec_l1Same [.d (shI xs), .d (shI ys)] [] true (fun outs res => outs = [] ∧ res = [.one (D.bool (decide (xs = ys)))]) := by
  refine ACalls.of_body (C := C.spec_l1Same) (n := Try.f202.ntmps) tabT folT Try.func202 rfl (by kernel_rfl) rfl (Nat.le_of_ble_eq_true rfl) (by decide) (by kernel_rfl) (by kernel_rfl) rfl (by simp) (by simp) ?_
  simp only [Try.f202]
  refine wseq ?_
  refine wreg fun K hK => ?_
  simp [C.spec_l1Same]
  refine hK _ ?_; clear hK K
  show AWp _ _ _ _ _
  refine wseq ?_
  refine wseq ?_
  refine wreg fun K hK => ?_
  simp [C.spec_l1Same]
  refine hK _ ?_; clear hK K
  show AWp _ _ _ _ _
  refine wcond _ rfl (fun hc1 => ?_) (fun hc1 => ?_)
  · refine wseq ?_
    refine wreg fun K hK => ?_
    simp [C.spec_l1Same]
    refine hK _ ?_; clear hK K
    show AWp _ _ _ _ _
    refine wret ?_
    simp at hc1
    simp [C.spec_l1Same]
    intro e; simp [e] at hc1
  · refine wskip ?_
    show AWp _ _ _ _ _
    refine wseq ?_
    refine wseq ?_
    refine wreg fun K hK => ?_
    simp [C.spec_l1Same]
    refine hK _ ?_; clear hK K
    show AWp _ _ _ _ _
    refine wblock ?_
    have e : xs.length = ys.length := by simp at hc1; omega
    refine wloop (fun k : Nat => ⟨ofL [(0, .d (shI xs)), (1, .d (shI ys)), (5, FV.int k)], ofRO []⟩) (fun k => k ≤ xs.length ∧ xs.take k = ys.take k) (fun k => xs.length - k) 0 (by simp [C.spec_l1Same]) (by simp) ?_
    intro x1 hx1 R1 hR1
    obtain ⟨hk, ht⟩ := hx1
    refine wseq ?_
    refine wseq ?_
    refine wreg fun K hK => ?_
    simp [C.spec_l1Same]
    refine hK _ ?_; clear hK K
    show AWp _ _ _ _ _
    refine wcond _ rfl (fun hc2 => ?_) (fun hc2 => ?_)
    · refine wskip ?_
      show AWp _ _ _ _ _
      refine wseq ?_
      refine wblock ?_
      refine wseq ?_
      have h1 : x1 < xs.length := by simpa using hc2
      have h2 : x1 < ys.length := by omega
      refine wdraw (.take 0 (.take 1 (.take 2 (.take 3 (.take 4 (.take 5 (.take 6 (.take 7 (.take 8 (.done)))))))))) ⟨by kernel_rfl, by kernel_rfl⟩ fun K hK => ?_
      simp [C.spec_l1Same, get_ints, h1, h2]
      refine hK _ ?_; clear hK K
      show AWp _ _ _ _ _
      refine wcond _ rfl (fun hc3 => ?_) (fun hc3 => ?_)
      · refine wseq ?_
        refine wreg fun K hK => ?_
        simp [C.spec_l1Same]
        refine hK _ ?_; clear hK K
        show AWp _ _ _ _ _
        refine wret ?_
        simp at hc3
        simp [C.spec_l1Same]
        intro e; simp [e] at hc3
      · refine wskip ?_
        show AWp _ _ _ _ _
        refine wreg fun K hK => ?_
        simp [C.spec_l1Same, wrap_succ (show x1 < 4611686018427387904 by omega)]
        refine hK _ ?_; clear hK K
        simp [C.spec_l1Same]
        simp at hc3
        refine hR1 (x1 + 1) ⟨h1, ?_⟩ (by omega)
        rw [List.take_succ_eq_append_getElem h1, List.take_succ_eq_append_getElem h2, ht, hc3]
    · refine wexit ?_
      show AWp _ _ _ _ _
      refine wseq ?_
      refine wreg fun K hK => ?_
      simp [C.spec_l1Same]
      refine hK _ ?_; clear hK K
      show AWp _ _ _ _ _
      refine wret ?_
      have hk2 : x1 = xs.length := by simp at hc2; omega
      simp [C.spec_l1Same]
      rw [hk2, List.take_length, e, List.take_length] at ht
      exact ht

theorem laws_markIntS_calls (xs : List Int) (k : Int) (hk0 : 0 ≤ k) (hk : k + xs.length < 4611686018427387904) : ACalls Try.prog F.laws_markIntS [.al (0, 0) [] 0 xs.length, .int k] [((0, 0), owI xs)] true (fun outs res => outs = [.ow 1 xs.length (ints (marks k xs.length))] ∧ res = [.one (D.int (k + xs.length))]) := by
  refine ACalls.of_body (C := C.laws_markIntS) (n := Try.f82.ntmps) tabT folT Try.func82 rfl (by kernel_rfl) rfl (Nat.le_of_ble_eq_true rfl) (by decide) (by kernel_rfl) (by kernel_rfl) rfl (by simp) (by simp) ?_
  simp only [Try.f82]
  refine wseq ?_
  refine wreg fun K hK => ?_
  simp [C.laws_markIntS]
  refine hK _ ?_; clear hK K
  show AWp _ _ _ _ _
  refine wseq ?_
  refine wseq ?_
  refine wreg fun K hK => ?_
  simp [C.laws_markIntS]
  refine hK _ ?_; clear hK K
  show AWp _ _ _ _ _
  refine wblock ?_
  refine wloop (fun x : Nat × List Int × Int => ⟨ofL [(0, .al (0, 0) [] 0 xs.length), (1, .int x.2.2), (5, .int x.1), (1000, .al (0, 0) [] 0 xs.length)], ofRO [((0, 0), some (.ow 1 xs.length (ints x.2.1)))]⟩) (fun x => x.1 ≤ xs.length ∧ x.2.1 = marks k x.1 ++ xs.drop x.1 ∧ x.2.2 = k + x.1) (fun x => xs.length - x.1) (0, xs, k) (by simp [C.laws_markIntS]) (by simp [marks]) ?_
  intro x1 hx1 R1 hR1
  obtain ⟨j, gs, kk⟩ := x1
  obtain ⟨h0, hg, he⟩ := hx1
  dsimp only at h0 hg he ⊢
  refine wseq ?_
  refine wseq ?_
  refine wreg fun K hK => ?_
  simp [C.laws_markIntS]
  refine hK _ ?_; clear hK K
  show AWp _ _ _ _ _
  refine wcond _ rfl (fun hc1 => ?_) (fun hc1 => ?_)
  · refine wskip ?_
    show AWp _ _ _ _ _
    refine wseq ?_
    refine wblock ?_
    refine wseq ?_
    have h1 : j < xs.length := by simpa using hc1
    have hl : gs.length = xs.length := by rw [hg]; simp; omega
    refine wreg fun K hK => ?_
    simp [C.laws_markIntS, hl, h1]
    refine hK _ ?_; clear hK K
    show AWp _ _ _ _ _
    refine wreg fun K hK => ?_
    simp [C.laws_markIntS]
    rw [wrapOk (x := kk + 1) (by omega) (by omega)]
    refine hK _ ?_; clear hK K
    show AWp _ _ _ _ _
    refine wreg fun K hK => ?_
    simp [C.laws_markIntS, wrap_succ (show j < 4611686018427387904 by omega)]
    refine hK _ ?_; clear hK K
    simp [C.laws_markIntS]
    refine hR1 (j + 1, _, kk + 1) ⟨h1, ?_, by dsimp only; omega⟩ (by dsimp only; omega)
    dsimp only
    rw [hg, List.set_append_right _ _ (by simp), he]
    simp [marks_succ]
    rw [List.drop_eq_getElem_cons h1]
    rfl
  · refine wexit ?_
    show AWp _ _ _ _ _
    refine wseq ?_
    refine wreg fun K hK => ?_
    simp [C.laws_markIntS]
    refine hK _ ?_; clear hK K
    show AWp _ _ _ _ _
    refine wret ?_
    have hj2 : j = xs.length := by simp at hc1; omega
    simp [C.laws_markIntS, hj2, hg, he]

theorem laws_heldIntS_calls (n : Nat) (k : Int) (hk0 : 0 ≤ k) (hk : k + n < 4611686018427387904) : ACalls Try.prog F.laws_heldIntS [.d (.sh 1 n (ints (marks k n))), .int k] [] true (fun outs res => outs = [] ∧ res = [.one (D.int (k + n))]) := by
  refine ACalls.of_body (C := C.laws_heldIntS) (n := Try.f85.ntmps) tabT folT Try.func85 rfl (by kernel_rfl) rfl (Nat.le_of_ble_eq_true rfl) (by decide) (by kernel_rfl) (by kernel_rfl) rfl (by simp) (by simp) ?_
  simp only [Try.f85]
  refine wseq ?_
  refine wreg fun K hK => ?_
  simp [C.laws_heldIntS]
  refine hK _ ?_; clear hK K
  show AWp _ _ _ _ _
  refine wseq ?_
  refine wseq ?_
  refine wreg fun K hK => ?_
  simp [C.laws_heldIntS]
  refine hK _ ?_; clear hK K
  show AWp _ _ _ _ _
  refine wblock ?_
  refine wloop (fun x : Nat => ⟨ofL [(0, .d (.sh 1 n (ints (marks k n)))), (1, .int (k + x)), (5, .int x)], ofRO []⟩) (fun x => x ≤ n) (fun x => n - x) 0 (by simp [C.laws_heldIntS]) (by simp) ?_
  intro x1 hx1 R1 hR1
  refine wseq ?_
  refine wseq ?_
  refine wreg fun K hK => ?_
  simp [C.laws_heldIntS]
  refine hK _ ?_; clear hK K
  show AWp _ _ _ _ _
  refine wcond _ rfl (fun hc1 => ?_) (fun hc1 => ?_)
  · refine wskip ?_
    show AWp _ _ _ _ _
    refine wseq ?_
    refine wblock ?_
    refine wseq ?_
    refine wseq ?_
    have h1 : x1 < n := by simpa using hc1
    refine wreg fun K hK => ?_
    simp [C.laws_heldIntS, get_ints, marks_get, h1]
    refine hK _ ?_; clear hK K
    show AWp _ _ _ _ _
    refine wcond _ rfl (fun hc2 => ?_) (fun hc2 => ?_)
    · simp at hc2
    · refine wskip ?_
      show AWp _ _ _ _ _
      refine wreg fun K hK => ?_
      simp [C.laws_heldIntS]
      rw [wrapOk (x := k + x1 + 1) (by omega) (by omega)]
      refine hK _ ?_; clear hK K
      show AWp _ _ _ _ _
      refine wreg fun K hK => ?_
      simp [C.laws_heldIntS, wrap_succ (show x1 < 4611686018427387904 by omega)]
      refine hK _ ?_; clear hK K
      simp [C.laws_heldIntS]
      rw [show k + (x1 : Int) + 1 = k + ((x1 + 1 : Nat) : Int) by omega]
      exact hR1 (x1 + 1) h1 (by omega)
  · refine wexit ?_
    show AWp _ _ _ _ _
    refine wseq ?_
    refine wreg fun K hK => ?_
    simp [C.laws_heldIntS]
    refine hK _ ?_; clear hK K
    show AWp _ _ _ _ _
    refine wret ?_
    have hj2 : x1 = n := by simp at hc1; omega
    simp [C.laws_heldIntS, hj2]

end Go.Proofs.Ytdgeponcnlkaiaa.Ab
namespace Go.Proofs.Ytdgeponcnlkaiaa.Ab
open Go
set_option linter.unusedSimpArgs false
set_option linter.unusedVariables false
set_option maxRecDepth 10000
theorem laws_szIntS_calls (xs : List Int) (left : Int) (h0 : 0 ≤ left) (h1 : left ≤ 1048576) (hx : xs.length < 4611686018427387904) : ACalls Try.prog F.laws_szIntS [.d (shI xs), .int left] [] true (fun outs res => outs = [] ∧ ∃ r : Int, res = [.one (D.int r)] ∧ (r = -1 ∨ (0 ≤ r ∧ r + xs.length = left))) := by
  refine ACalls.of_body (C := C.laws_szIntS) (n := Try.f163.ntmps) tabT folT Try.func163 rfl (by kernel_rfl) rfl (Nat.le_of_ble_eq_true rfl) (by decide) (by kernel_rfl) (by kernel_rfl) rfl (by simp) (by simp) ?_
  simp only [Try.f163]
  refine wseq ?_
  refine wreg fun K hK => ?_
  simp [C.laws_szIntS]
  refine hK _ ?_; clear hK K
  show AWp _ _ _ _ _
  refine wseq ?_
  refine wreg fun K hK => ?_
  simp [C.laws_szIntS]
  rw [wrapOk (x := left - xs.length) (by omega) (by omega)]
  refine hK _ ?_; clear hK K
  show AWp _ _ _ _ _
  refine wseq ?_
  refine wseq ?_
  refine wreg fun K hK => ?_
  simp [C.laws_szIntS]
  refine hK _ ?_; clear hK K
  show AWp _ _ _ _ _
  refine wcond _ rfl (fun hc1 => ?_) (fun hc1 => ?_)
  · refine wseq ?_
    refine wreg fun K hK => ?_
    simp [C.laws_szIntS]
    refine hK _ ?_; clear hK K
    show AWp _ _ _ _ _
    refine wret ?_
    simp [C.laws_szIntS]
  · refine wskip ?_
    show AWp _ _ _ _ _
    refine wseq ?_
    refine wreg fun K hK => ?_
    simp [C.laws_szIntS]
    refine hK _ ?_; clear hK K
    show AWp _ _ _ _ _
    refine wret ?_
    simp at hc1
    simp [C.laws_szIntS]
    right; omega

theorem laws_toIntS_calls (xs : List Int) (hx : xs.length ≤ 1048576) : ACalls Try.prog F.laws_toIntS [.d (shI xs)] [] true (fun outs res => outs = [] ∧ res = [.one (owI xs)]) := by
  refine ACalls.of_body (C := C.laws_toIntS) (n := Try.f165.ntmps) tabT folT Try.func165 rfl (by kernel_rfl) rfl (Nat.le_of_ble_eq_true rfl) (by decide) (by kernel_rfl) (by kernel_rfl) rfl (by simp) (by simp) ?_
  simp only [Try.f165]
  refine wseq ?_
  refine wreg fun K hK => ?_
  simp [C.laws_toIntS]
  refine hK _ ?_; clear hK K
  show AWp _ _ _ _ _
  refine wseq ?_
  refine wreg fun K hK => ?_
  simp [C.laws_toIntS, zeros_ints, show (8 : Int) * xs.length ≤ 281474976710656 by omega, show (xs.length : Int) ≤ 281474976710656 by omega]
  refine hK _ ?_; clear hK K
  show AWp _ _ _ _ _
  refine wseq ?_
  refine wseq ?_
  refine wreg fun K hK => ?_
  simp [C.laws_toIntS]
  refine hK _ ?_; clear hK K
  show AWp _ _ _ _ _
  refine wblock ?_
  refine wloop (fun x : Nat × List Int => ⟨ofL [(0, .d (shI xs)), (3, .al (3, 0) [] 0 xs.length), (4, .int x.1)], ofRO [((3, 0), some (.ow 1 xs.length (ints x.2)))]⟩) (fun x => x.1 ≤ xs.length ∧ x.2 = xs.take x.1 ++ List.replicate (xs.length - x.1) 0) (fun x => xs.length - x.1) (0, List.replicate xs.length 0) (by simp [C.laws_toIntS]) (by simp) ?_
  intro x1 hx1 R1 hR1
  obtain ⟨j, gs⟩ := x1
  obtain ⟨hj, hg⟩ := hx1
  dsimp only at hj hg ⊢
  refine wseq ?_
  refine wseq ?_
  refine wreg fun K hK => ?_
  simp [C.laws_toIntS]
  refine hK _ ?_; clear hK K
  show AWp _ _ _ _ _
  refine wcond _ rfl (fun hc1 => ?_) (fun hc1 => ?_)
  · refine wskip ?_
    show AWp _ _ _ _ _
    refine wseq ?_
    refine wblock ?_
    have h1 : j < xs.length := by simpa using hc1
    have hl : gs.length = xs.length := by rw [hg]; simp; omega
    refine wreg fun K hK => ?_
    simp [C.laws_toIntS, hl, h1, get_ints]
    refine hK _ ?_; clear hK K
    show AWp _ _ _ _ _
    refine wreg fun K hK => ?_
    simp [C.laws_toIntS, wrap_succ (show j < 4611686018427387904 by omega)]
    refine hK _ ?_; clear hK K
    simp [C.laws_toIntS]
    refine hR1 (j + 1, _) ⟨h1, ?_⟩ (by dsimp only; omega)
    dsimp only
    rw [hg, fill_step xs j h1 0]
  · refine wexit ?_
    show AWp _ _ _ _ _
    refine wseq ?_
    refine wreg fun K hK => ?_
    simp [C.laws_toIntS]
    refine hK _ ?_; clear hK K
    show AWp _ _ _ _ _
    refine wret ?_
    have hj2 : j = xs.length := by simp at hc1; omega
    simp [C.laws_toIntS, hg, hj2]

end Go.Proofs.Ytdgeponcnlkaiaa.Ab
namespace Go.Proofs.Ytdgeponcnlkaiaa.Ab
open Go
set_option linter.unusedSimpArgs false
set_option linter.unusedVariables false
set_option linter.unusedSectionVars false
structure Qtm where
  e : List Int
  h : Int
  c : Int
deriving DecidableEq
structure Qsm where
  v : Int
  ts : List Qtm
deriving DecidableEq
def qtS (t : Qtm) : List D := [shI t.e, D.int t.h, D.int t.c]
def qtO (t : Qtm) : List D := [owI t.e, D.int t.h, D.int t.c]
def qS (f : Qsm) : List D := [D.int f.v, .sh 3 f.ts.length (rows qtS f.ts)]
def qO (f : Qsm) : List D := [D.int f.v, .ow 3 f.ts.length (rows qtO f.ts)]
theorem qtS_three (t : Qtm) : (qtS t).length = 3 := rfl
theorem qtO_three (t : Qtm) : (qtO t).length = 3 := rfl
@[simp] theorem qtS_length (l : List Qtm) : (rows qtS l).length = 3 * l.length := rows_length qtS_three l
@[simp] theorem qtO_length (l : List Qtm) : (rows qtO l).length = 3 * l.length := rows_length qtO_three l
@[simp] theorem qtS_share (l : List Qtm) : shareL (rows qtO l) = rows qtS l := by
  rw [rows_share]
  congr 1
  funext t
  simp [qtO, qtS, shareL, share, shareL_ints]
@[simp] theorem qtO_noSh (l : List Qtm) : noShL (rows qtO l) := rows_noSh (fun t => by simp [qtO, noShL, noSh, noShL_ints]) l
section
variable {l : List Qtm} {i : Nat}
theorem qtS_0 (h : i < l.length) : (rows qtS l)[3 * i]? = some (shI l[i].e) ∧ ∀ h', (rows qtS l)[3 * i]'h' = shI l[i].e := twice (rows_get qtS_three l i 0 h (by omega))
theorem qtS_1 (h : i < l.length) : (rows qtS l)[3 * i + 1]? = some (D.int l[i].h) ∧ ∀ h', (rows qtS l)[3 * i + 1]'h' = D.int l[i].h := twice (rows_get qtS_three l i 1 h (by omega))
theorem qtS_2 (h : i < l.length) : (rows qtS l)[3 * i + 2]? = some (D.int l[i].c) ∧ ∀ h', (rows qtS l)[3 * i + 2]'h' = D.int l[i].c := twice (rows_get qtS_three l i 2 h (by omega))
theorem qtO_0 (h : i < l.length) : (rows qtO l)[3 * i]? = some (owI l[i].e) ∧ ∀ h', (rows qtO l)[3 * i]'h' = owI l[i].e := twice (rows_get qtO_three l i 0 h (by omega))
theorem qtO_1 (h : i < l.length) : (rows qtO l)[3 * i + 1]? = some (D.int l[i].h) ∧ ∀ h', (rows qtO l)[3 * i + 1]'h' = D.int l[i].h := twice (rows_get qtO_three l i 1 h (by omega))
theorem qtO_2 (h : i < l.length) : (rows qtO l)[3 * i + 2]? = some (D.int l[i].c) ∧ ∀ h', (rows qtO l)[3 * i + 2]'h' = D.int l[i].c := twice (rows_get qtO_three l i 2 h (by omega))
theorem qtO_set0 (h : i < l.length) (x : List Int) : (rows qtO l).set (3 * i) (.ow 1 x.length (ints x)) = rows qtO (l.set i ⟨x, l[i].h, l[i].c⟩) := rows_set qtO_three l i 0 _ _ h (by omega) rfl
theorem qtO_set2 (h : i < l.length) (x : Int) : (rows qtO l).set (3 * i + 2) (.v (.int .i64 x)) = rows qtO (l.set i ⟨l[i].e, l[i].h, x⟩) := rows_set qtO_three l i 2 _ _ h (by omega) rfl
end
def cntQT (t : Qtm) : Nat := t.e.length + 2
def mkQT (t : Qtm) (k : Int) : Qtm := ⟨marks k t.e.length, k + t.e.length, k + t.e.length + 1⟩
def qtZ : Option Qtm → List D
  | none => [.v (.slice none 0 0), D.int 0, D.int 0]
  | some t => qtO t
theorem qtZ_three (t : Option Qtm) : (qtZ t).length = 3 := by cases t <;> rfl
@[simp] theorem qtZ_length (l : List (Option Qtm)) : (rows qtZ l).length = 3 * l.length := rows_length qtZ_three l
theorem qtZ_zero : ∀ n : Nat, zerosD [.slice none 0 0, .int .i64 0, .int .i64 0] n = rows qtZ (List.replicate n none)
  | 0 => rfl
  | n + 1 => by
    simp only [zerosD, qtZ_zero n, List.replicate_succ]
    rfl
theorem qtZ_some (l : List Qtm) : rows qtZ (l.map some) = rows qtO l := by
  induction l with
  | nil => rfl
  | cons x l ih => simp [rows, ih, qtZ]
theorem qtZ_none0 {l : List (Option Qtm)} {i : Nat} (h : l[i]? = some none) : (rows qtZ l)[3 * i]? = some (.v (.slice none 0 0)) ∧ ∀ h', (rows qtZ l)[3 * i]'h' = .v (.slice none 0 0) := by
  refine twice ?_
  obtain ⟨h1, h2⟩ := List.getElem?_eq_some_iff.1 h
  rw [show 3 * i = 3 * i + 0 from rfl, rows_get qtZ_three l i 0 h1 (by omega), h2]
  rfl
theorem qtZ_none1 {l : List (Option Qtm)} {i : Nat} (h : l[i]? = some none) : (rows qtZ l)[3 * i + 1]? = some (D.int 0) ∧ ∀ h', (rows qtZ l)[3 * i + 1]'h' = D.int 0 := by
  refine twice ?_
  obtain ⟨h1, h2⟩ := List.getElem?_eq_some_iff.1 h
  rw [rows_get qtZ_three l i 1 h1 (by omega), h2]
  rfl
theorem qtZ_none2 {l : List (Option Qtm)} {i : Nat} (h : l[i]? = some none) : (rows qtZ l)[3 * i + 1 + 1]? = some (D.int 0) ∧ ∀ h', (rows qtZ l)[3 * i + 1 + 1]'h' = D.int 0 := by
  refine twice ?_
  obtain ⟨h1, h2⟩ := List.getElem?_eq_some_iff.1 h
  rw [show 3 * i + 1 + 1 = 3 * i + 2 from rfl, rows_get qtZ_three l i 2 h1 (by omega), h2]
  rfl
theorem rows_set3 {α : Type} {f : α → List D} (hk : ∀ x, (f x).length = 3) (xs : List α) (i : Nat) (d0 d1 d2 : D) (y : α) (h : i < xs.length) (e : f y = [d0, d1, d2]) : (((rows f xs).set (3 * i) d0).set (3 * i + 1) d1).set (3 * i + 2) d2 = rows f (xs.set i y) := by
  induction xs generalizing i with
  | nil => simp at h
  | cons x xs ih =>
    cases i with
    | zero =>
      have hx := hk x
      match hfx : f x, hx with
      | [a, b, c], _ => simp [rows, hfx, e]
    | succ i =>
      have hx := hk x
      simp only [rows, List.set_cons_succ]
      rw [List.set_append_right _ _ (by rw [hx]; omega), List.set_append_right _ _ (by rw [hx]; omega), List.set_append_right _ _ (by rw [hx]; omega), hx, show 3 * (i + 1) - 3 = 3 * i by omega, show 3 * (i + 1) + 1 - 3 = 3 * i + 1 by omega, show 3 * (i + 1) + 2 - 3 = 3 * i + 2 by omega, ih i (by simpa using h)]
theorem qtZ_set3 {l : List (Option Qtm)} {i : Nat} (h : i < l.length) (e : List Int) (u c : Int) : (((rows qtZ l).set (3 * i) (.ow 1 e.length (ints e))).set (3 * i + 1) (.v (.int .i64 u))).set (3 * i + 1 + 1) (.v (.int .i64 c)) = rows qtZ (l.set i (some ⟨e, u, c⟩)) :=
  rows_set3 qtZ_three l i _ _ _ _ h rfl
theorem qtO_set3 {l : List Qtm} {i n : Nat} (h : i < l.length) (e : List Int) (u c : Int) (hn : e.length = n) : (((rows qtO l).set (3 * i) (.ow 1 n (ints e))).set (3 * i + 1) (.v (.int .i64 u))).set (3 * i + 2) (.v (.int .i64 c)) = rows qtO (l.set i ⟨e, u, c⟩) :=
  rows_set3 qtO_three l i _ _ _ _ h (by subst hn; rfl)
theorem qtO_snoc (l : List Qtm) (t : Qtm) : rows qtO l ++ [D.ow 1 t.e.length (ints t.e), D.v (.int .i64 t.h), D.v (.int .i64 t.c)] = rows qtO (l ++ [t]) := by
  rw [rows_append]
  rfl
def szQT (ts : List Qtm) : Nat := ts.length + cntL (fun t : Qtm => t.e.length) ts
abbrev aQT (t : Qtm) : FV := .ag [.d (shI t.e), .int t.h, .int t.c]
abbrev aQ (f : Qsm) : FV := .ag [.int f.v, .d (.sh 3 f.ts.length (rows qtS f.ts))]
theorem qtm_eq {a b : Qtm} : a = b ↔ a.e = b.e ∧ a.h = b.h ∧ a.c = b.c := by
  cases a; cases b; simp
theorem qsm_eq {a b : Qsm} : a = b ↔ a.v = b.v ∧ a.ts = b.ts := by
  cases a; cases b; simp
end Go.Proofs.Ytdgeponcnlkaiaa.Ab
namespace Go.Proofs.Ytdgeponcnlkaiaa.Ab
open Go
set_option linter.unusedSimpArgs false
set_option linter.unusedVariables false
set_option maxRecDepth 10000
theorem laws_szQTerm_calls (t : Qtm) (left : Int) (h0 : 0 ≤ left) (h1 : left ≤ 1048576) (hx : t.e.length < 4611686018427387904) : ACalls Try.prog F.laws_szQTerm [aQT t, .int left] [] true (fun outs res => outs = [] ∧ ∃ r : Int, res = [.one (D.int r)] ∧ (r = -1 ∨ (0 ≤ r ∧ r + t.e.length = left))) := by
  refine ACalls.of_body (C := C.laws_szQTerm) (n := Try.f200.ntmps) tabT folT Try.func200 rfl (by kernel_rfl) rfl (Nat.le_of_ble_eq_true rfl) (by decide) (by kernel_rfl) (by kernel_rfl) rfl (by simp) (by simp) ?_
  simp only [Try.f200]
  refine wseq ?_
  refine wreg fun K hK => ?_
  simp [C.laws_szQTerm]
  refine hK _ ?_; clear hK K
  show AWp _ _ _ _ _
  refine wseq ?_
  refine wregI ([0, 1, 2, 3] ++ ([4])) rfl fun K hK => ?_
  refine opsI_seg fun L hL => ?_
  simp [C.laws_szQTerm]
  refine wcall (laws_szIntS_calls t.e left h0 h1 hx) (by simp) (by simp) (by simp) ?_
  rintro outs res ⟨rfl, r, rfl, hr⟩
  simp [C.laws_szQTerm]
  refine hL _ ?_; clear hL L
  refine opsI_end fun L hL => ?_
  simp [C.laws_szQTerm]
  refine hL _ ?_; clear hL L
  simp [C.laws_szQTerm]
  refine hK _ ?_; clear hK K
  show AWp _ _ _ _ _
  refine wseq ?_
  refine wseq ?_
  refine wreg fun K hK => ?_
  simp [C.laws_szQTerm]
  refine hK _ ?_; clear hK K
  show AWp _ _ _ _ _
  refine wcond _ rfl (fun hc1 => ?_) (fun hc1 => ?_)
  · refine wseq ?_
    refine wreg fun K hK => ?_
    simp [C.laws_szQTerm]
    refine hK _ ?_; clear hK K
    show AWp _ _ _ _ _
    refine wret ?_
    simp [C.laws_szQTerm]
  · refine wskip ?_
    show AWp _ _ _ _ _
    refine wseq ?_
    refine wreg fun K hK => ?_
    simp [C.laws_szQTerm]
    refine hK _ ?_; clear hK K
    show AWp _ _ _ _ _
    refine wret ?_
    simp at hc1
    simp [C.laws_szQTerm]
    omega

theorem laws_szQTermS_calls (ts : List Qtm) (left : Int) (h0 : 0 ≤ left) (h1 : left ≤ 1048576) (hx : ts.length < 4611686018427387904) (hx2 : ∀ t ∈ ts, t.e.length < 4611686018427387904) : ACalls Try.prog F.laws_szQTermS [.d (.sh 3 ts.length (rows qtS ts)), .int left] [] true (fun outs res => outs = [] ∧ ∃ r : Int, res = [.one (D.int r)] ∧ (r = -1 ∨ (0 ≤ r ∧ r + szQT ts = left))) := by
  refine ACalls.of_body (C := C.laws_szQTermS) (n := Try.f119.ntmps) tabT folT Try.func119 rfl (by kernel_rfl) rfl (Nat.le_of_ble_eq_true rfl) (by decide) (by kernel_rfl) (by kernel_rfl) rfl (by simp) (by simp) ?_
  simp only [Try.f119]
  refine wseq ?_
  refine wreg fun K hK => ?_
  simp [C.laws_szQTermS]
  refine hK _ ?_; clear hK K
  show AWp _ _ _ _ _
  refine wseq ?_
  refine wreg fun K hK => ?_
  simp [C.laws_szQTermS]
  rw [wrapOk (x := left - ts.length) (by omega) (by omega)]
  refine hK _ ?_; clear hK K
  show AWp _ _ _ _ _
  refine wseq ?_
  refine wseq ?_
  refine wreg fun K hK => ?_
  simp [C.laws_szQTermS]
  refine hK _ ?_; clear hK K
  show AWp _ _ _ _ _
  refine wcond _ rfl (fun hc1 => ?_) (fun hc1 => ?_)
  · refine wseq ?_
    refine wreg fun K hK => ?_
    simp [C.laws_szQTermS]
    refine hK _ ?_; clear hK K
    show AWp _ _ _ _ _
    refine wret ?_
    simp [C.laws_szQTermS]
  · refine wskip ?_
    show AWp _ _ _ _ _
    refine wseq ?_
    refine wseq ?_
    refine wreg fun K hK => ?_
    simp [C.laws_szQTermS]
    refine hK _ ?_; clear hK K
    show AWp _ _ _ _ _
    refine wblock ?_
    refine wloop (fun x : Nat × Int => ⟨ofL [(0, .d (.sh 3 ts.length (rows qtS ts))), (1, .int x.2), (5, .int x.1)], ofRO []⟩) (fun x => x.1 ≤ ts.length ∧ 0 ≤ x.2 ∧ x.2 + ts.length + cntL (fun t : Qtm => t.e.length) (ts.take x.1) = left) (fun x => ts.length - x.1) (0, left - ts.length) (by simp [C.laws_szQTermS]) (by simp at hc1; simp [cntL]; omega) ?_
    intro x1 hx1 R1 hR1
    obtain ⟨j, r⟩ := x1
    obtain ⟨hj, hr0, hr⟩ := hx1
    dsimp only at hj hr0 hr ⊢
    refine wseq ?_
    refine wseq ?_
    refine wreg fun K hK => ?_
    simp [C.laws_szQTermS]
    refine hK _ ?_; clear hK K
    show AWp _ _ _ _ _
    refine wcond _ rfl (fun hc2 => ?_) (fun hc2 => ?_)
    · refine wskip ?_
      show AWp _ _ _ _ _
      refine wseq ?_
      refine wblock ?_
      refine wseq ?_
      have h2 : j < ts.length := by simpa using hc2
      refine wregI ([0, 1, 2, 3, 4, 5] ++ ([6])) rfl fun K hK => ?_
      refine opsI_seg fun L hL => ?_
      simp [C.laws_szQTermS, h2, qtS_0 h2, qtS_1 h2, qtS_2 h2]
      refine wcall (laws_szQTerm_calls ts[j] r (by omega) (by omega) (hx2 _ (List.getElem_mem h2))) (by simp) (by simp) (by simp) ?_
      rintro outs res ⟨rfl, r2, rfl, hr2⟩
      simp [C.laws_szQTermS, h2, qtS_0 h2, qtS_1 h2, qtS_2 h2]
      refine hL _ ?_; clear hL L
      refine opsI_end fun L hL => ?_
      simp [C.laws_szQTermS, h2, qtS_0 h2, qtS_1 h2, qtS_2 h2]
      refine hL _ ?_; clear hL L
      simp [C.laws_szQTermS, h2, qtS_0 h2, qtS_1 h2, qtS_2 h2]
      refine hK _ ?_; clear hK K
      show AWp _ _ _ _ _
      refine wseq ?_
      refine wreg fun K hK => ?_
      simp [C.laws_szQTermS]
      refine hK _ ?_; clear hK K
      show AWp _ _ _ _ _
      refine wcond _ rfl (fun hc3 => ?_) (fun hc3 => ?_)
      · refine wseq ?_
        refine wreg fun K hK => ?_
        simp [C.laws_szQTermS]
        refine hK _ ?_; clear hK K
        show AWp _ _ _ _ _
        refine wret ?_
        simp [C.laws_szQTermS]
      · refine wskip ?_
        show AWp _ _ _ _ _
        refine wreg fun K hK => ?_
        simp [C.laws_szQTermS, wrap_succ (show j < 4611686018427387904 by omega)]
        refine hK _ ?_; clear hK K
        simp [C.laws_szQTermS]
        have hc3' : 0 ≤ r2 := by simpa using hc3
        refine hR1 (j + 1, r2) ⟨h2, hc3', ?_⟩ (by dsimp only; omega)
        dsimp only
        rw [cntL_step _ _ _ h2]
        omega
    · refine wexit ?_
      show AWp _ _ _ _ _
      refine wseq ?_
      refine wreg fun K hK => ?_
      simp [C.laws_szQTermS]
      refine hK _ ?_; clear hK K
      show AWp _ _ _ _ _
      refine wret ?_
      have hj2 : j = ts.length := by simp at hc2; omega
      simp [C.laws_szQTermS]
      right
      refine ⟨hr0, ?_⟩
      rw [hj2, List.take_length] at hr
      unfold szQT
      omega

theorem laws_szQSum_calls (f : Qsm) (left : Int) (h0 : 0 ≤ left) (h1 : left ≤ 1048576) (hx : f.ts.length < 4611686018427387904) (hx2 : ∀ t ∈ f.ts, t.e.length < 4611686018427387904) : ACalls Try.prog F.laws_szQSum [aQ f, .int left] [] true (fun outs res => outs = [] ∧ ∃ r : Int, res = [.one (D.int r)] ∧ (r = -1 ∨ (0 ≤ r ∧ r + szQT f.ts = left))) := by
  refine ACalls.of_body (C := C.laws_szQSum) (n := Try.f40.ntmps) tabT folT Try.func40 rfl (by kernel_rfl) rfl (Nat.le_of_ble_eq_true rfl) (by decide) (by kernel_rfl) (by kernel_rfl) rfl (by simp) (by simp) ?_
  simp only [Try.f40]
  refine wseq ?_
  refine wreg fun K hK => ?_
  simp [C.laws_szQSum]
  refine hK _ ?_; clear hK K
  show AWp _ _ _ _ _
  refine wseq ?_
  refine wregI ([0, 1, 2, 3] ++ ([4])) rfl fun K hK => ?_
  refine opsI_seg fun L hL => ?_
  simp [C.laws_szQSum]
  refine wcall (laws_szQTermS_calls f.ts left h0 h1 hx hx2) (by simp) (by simp) (by simp) ?_
  rintro outs res ⟨rfl, r, rfl, hr⟩
  simp [C.laws_szQSum]
  refine hL _ ?_; clear hL L
  refine opsI_end fun L hL => ?_
  simp [C.laws_szQSum]
  refine hL _ ?_; clear hL L
  simp [C.laws_szQSum]
  refine hK _ ?_; clear hK K
  show AWp _ _ _ _ _
  refine wseq ?_
  refine wseq ?_
  refine wreg fun K hK => ?_
  simp [C.laws_szQSum]
  refine hK _ ?_; clear hK K
  show AWp _ _ _ _ _
  refine wcond _ rfl (fun hc1 => ?_) (fun hc1 => ?_)
  · refine wseq ?_
    refine wreg fun K hK => ?_
    simp [C.laws_szQSum]
    refine hK _ ?_; clear hK K
    show AWp _ _ _ _ _
    refine wret ?_
    simp [C.laws_szQSum]
  · refine wskip ?_
    show AWp _ _ _ _ _
    refine wseq ?_
    refine wreg fun K hK => ?_
    simp [C.laws_szQSum]
    refine hK _ ?_; clear hK K
    show AWp _ _ _ _ _
    refine wret ?_
    simp at hc1
    simp [C.laws_szQSum]
    omega

theorem laws_toQTerm_calls (t : Qtm) (hx : t.e.length ≤ 1048576) : ACalls Try.prog F.laws_toQTerm [aQT t] [] true (fun outs res => outs = [] ∧ res = [.ag (qtO t)]) := by
  refine ACalls.of_body (C := C.laws_toQTerm) (n := Try.f204.ntmps) tabT folT Try.func204 rfl (by kernel_rfl) rfl (Nat.le_of_ble_eq_true rfl) (by decide) (by kernel_rfl) (by kernel_rfl) rfl (by simp) (by simp) ?_
  simp only [Try.f204]
  refine wseq ?_
  refine wreg fun K hK => ?_
  simp [C.laws_toQTerm]
  refine hK _ ?_; clear hK K
  show AWp _ _ _ _ _
  refine wseq ?_
  refine wreg fun K hK => ?_
  simp [C.laws_toQTerm]
  refine hK _ ?_; clear hK K
  show AWp _ _ _ _ _
  refine wseq ?_
  refine wregI ([0, 1, 2] ++ ([3, 4])) rfl fun K hK => ?_
  refine opsI_seg fun L hL => ?_
  simp [C.laws_toQTerm]
  refine wcall1 (laws_toIntS_calls t.e hx) (by simp) (by simp) ?_
  simp [C.laws_toQTerm]
  refine hL _ ?_; clear hL L
  refine opsI_end fun L hL => ?_
  simp [C.laws_toQTerm]
  refine hL _ ?_; clear hL L
  simp [C.laws_toQTerm]
  refine hK _ ?_; clear hK K
  show AWp _ _ _ _ _
  refine wseq ?_
  refine wreg fun K hK => ?_
  simp [C.laws_toQTerm]
  refine hK _ ?_; clear hK K
  show AWp _ _ _ _ _
  refine wseq ?_
  refine wreg fun K hK => ?_
  simp [C.laws_toQTerm]
  refine hK _ ?_; clear hK K
  show AWp _ _ _ _ _
  refine wseq ?_
  refine wreg fun K hK => ?_
  simp [C.laws_toQTerm]
  refine hK _ ?_; clear hK K
  show AWp _ _ _ _ _
  refine wret ?_
  simp [C.laws_toQTerm, qtO]

theorem laws_toQTermS_calls (ts : List Qtm) (hx : ts.length ≤ 1048576) (hx2 : ∀ t ∈ ts, t.e.length ≤ 1048576) : ACalls Try.prog F.laws_toQTermS [.d (.sh 3 ts.length (rows qtS ts))] [] true (fun outs res => outs = [] ∧ res = [.one (.ow 3 ts.length (rows qtO ts))]) := by
  refine ACalls.of_body (C := C.laws_toQTermS) (n := Try.f123.ntmps) tabT folT Try.func123 rfl (by kernel_rfl) rfl (Nat.le_of_ble_eq_true rfl) (by decide) (by kernel_rfl) (by kernel_rfl) rfl (by simp) (by simp) ?_
  simp only [Try.f123]
  refine wseq ?_
  refine wreg fun K hK => ?_
  simp [C.laws_toQTermS]
  refine hK _ ?_; clear hK K
  show AWp _ _ _ _ _
  refine wseq ?_
  refine wreg fun K hK => ?_
  simp [C.laws_toQTermS, qtZ_zero, show (40 : Int) * ts.length ≤ 281474976710656 by omega, show (ts.length : Int) ≤ 281474976710656 by omega]
  refine hK _ ?_; clear hK K
  show AWp _ _ _ _ _
  refine wseq ?_
  refine wseq ?_
  refine wreg fun K hK => ?_
  simp [C.laws_toQTermS]
  refine hK _ ?_; clear hK K
  show AWp _ _ _ _ _
  refine wblock ?_
  refine wloop (fun x : Nat × List (Option Qtm) => ⟨ofL [(0, .d (.sh 3 ts.length (rows qtS ts))), (3, .al (3, 0) [] 0 ts.length), (4, .int x.1)], ofRO [((3, 0), some (.ow 3 ts.length (rows qtZ x.2)))]⟩) (fun x => x.1 ≤ ts.length ∧ x.2 = (ts.take x.1).map some ++ List.replicate (ts.length - x.1) none) (fun x => ts.length - x.1) (0, List.replicate ts.length none) (by simp [C.laws_toQTermS]) (by simp) ?_
  intro x1 hx1 R1 hR1
  obtain ⟨j, gs⟩ := x1
  obtain ⟨hj, hg⟩ := hx1
  dsimp only at hj hg ⊢
  refine wseq ?_
  refine wseq ?_
  refine wreg fun K hK => ?_
  simp [C.laws_toQTermS]
  refine hK _ ?_; clear hK K
  show AWp _ _ _ _ _
  refine wcond _ rfl (fun hc1 => ?_) (fun hc1 => ?_)
  · refine wskip ?_
    show AWp _ _ _ _ _
    refine wseq ?_
    refine wblock ?_
    have h1 : j < ts.length := by simpa using hc1
    have hl : gs.length = ts.length := by rw [hg]; simp; omega
    have hn : gs[j]? = some none := by
      rw [hg, List.getElem?_append_right (by simp; omega)]
      simp [Nat.min_eq_left hj, List.getElem?_replicate]
      omega
    refine wregI ([0, 1, 2, 3, 4, 5, 6] ++ ([7, 8])) rfl fun K hK => ?_
    refine opsI_seg fun L hL => ?_
    simp [C.laws_toQTermS, hl, h1, qtS_0 h1, qtS_1 h1, qtS_2 h1, qtO, qtZ_none0 hn, qtZ_none1 hn, qtZ_none2 hn, List.getElem?_set, List.getElem_set, show ¬ (3 * j = 3 * j + 1 + 1) by omega, show ¬ (3 * j + 1 = 3 * j + 1 + 1) by omega, qtZ_set3 (show j < gs.length by omega)]
    refine wcall1 (laws_toQTerm_calls ts[j] (hx2 _ (List.getElem_mem h1))) (by simp) (by simp) ?_
    simp [C.laws_toQTermS, hl, h1, qtS_0 h1, qtS_1 h1, qtS_2 h1, qtO, qtZ_none0 hn, qtZ_none1 hn, qtZ_none2 hn, List.getElem?_set, List.getElem_set, show ¬ (3 * j = 3 * j + 1 + 1) by omega, show ¬ (3 * j + 1 = 3 * j + 1 + 1) by omega, qtZ_set3 (show j < gs.length by omega)]
    refine hL _ ?_; clear hL L
    refine opsI_end fun L hL => ?_
    simp [C.laws_toQTermS, hl, h1, qtS_0 h1, qtS_1 h1, qtS_2 h1, qtO, qtZ_none0 hn, qtZ_none1 hn, qtZ_none2 hn, List.getElem?_set, List.getElem_set, show ¬ (3 * j = 3 * j + 1 + 1) by omega, show ¬ (3 * j + 1 = 3 * j + 1 + 1) by omega, qtZ_set3 (show j < gs.length by omega)]
    refine hL _ ?_; clear hL L
    simp [C.laws_toQTermS, hl, h1, qtS_0 h1, qtS_1 h1, qtS_2 h1, qtO, qtZ_none0 hn, qtZ_none1 hn, qtZ_none2 hn, List.getElem?_set, List.getElem_set, show ¬ (3 * j = 3 * j + 1 + 1) by omega, show ¬ (3 * j + 1 = 3 * j + 1 + 1) by omega, qtZ_set3 (show j < gs.length by omega)]
    refine hK _ ?_; clear hK K
    show AWp _ _ _ _ _
    refine wreg fun K hK => ?_
    simp [C.laws_toQTermS, wrap_succ (show j < 4611686018427387904 by omega)]
    refine hK _ ?_; clear hK K
    simp [C.laws_toQTermS]
    refine hR1 (j + 1, _) ⟨h1, ?_⟩ (by dsimp only; omega)
    dsimp only
    have := fill_step (ts.map some) j (by simpa using h1) none
    simp only [List.length_map, List.getElem_map, ← List.map_take] at this
    rw [hg, ← this]
  · refine wexit ?_
    show AWp _ _ _ _ _
    refine wseq ?_
    refine wreg fun K hK => ?_
    simp [C.laws_toQTermS]
    refine hK _ ?_; clear hK K
    show AWp _ _ _ _ _
    refine wret ?_
    have hj2 : j = ts.length := by simp at hc1; omega
    have hz : rows qtZ gs = rows qtO ts := by rw [hg, hj2]; simp [qtZ_some]
    simp [C.laws_toQTermS, hz, hj2]

theorem laws_toQSum_calls (f : Qsm) (hx : f.ts.length ≤ 1048576) (hx2 : ∀ t ∈ f.ts, t.e.length ≤ 1048576) : ACalls Try.prog F.laws_toQSum [aQ f] [] true (fun outs res => outs = [] ∧ res = [.ag (qO f)]) := by
  refine ACalls.of_body (C := C.laws_toQSum) (n := Try.f42.ntmps) tabT folT Try.func42 rfl (by kernel_rfl) rfl (Nat.le_of_ble_eq_true rfl) (by decide) (by kernel_rfl) (by kernel_rfl) rfl (by simp) (by simp) ?_
  simp only [Try.f42]
  refine wseq ?_
  refine wreg fun K hK => ?_
  simp [C.laws_toQSum]
  refine hK _ ?_; clear hK K
  show AWp _ _ _ _ _
  refine wseq ?_
  refine wreg fun K hK => ?_
  simp [C.laws_toQSum]
  refine hK _ ?_; clear hK K
  show AWp _ _ _ _ _
  refine wseq ?_
  refine wreg fun K hK => ?_
  simp [C.laws_toQSum]
  refine hK _ ?_; clear hK K
  show AWp _ _ _ _ _
  refine wseq ?_
  refine wregI ([0, 1, 2] ++ ([3, 4])) rfl fun K hK => ?_
  refine opsI_seg fun L hL => ?_
  simp [C.laws_toQSum]
  refine wcall1 (laws_toQTermS_calls f.ts hx hx2) (by simp) (by simp) ?_
  simp [C.laws_toQSum]
  refine hL _ ?_; clear hL L
  refine opsI_end fun L hL => ?_
  simp [C.laws_toQSum]
  refine hL _ ?_; clear hL L
  simp [C.laws_toQSum]
  refine hK _ ?_; clear hK K
  show AWp _ _ _ _ _
  refine wseq ?_
  refine wreg fun K hK => ?_
  simp [C.laws_toQSum]
  refine hK _ ?_; clear hK K
  show AWp _ _ _ _ _
  refine wret ?_
  simp [C.laws_toQSum, qO]

theorem laws_eqQTerm_calls (a b : Qtm) (hx : a.e.length < 4611686018427387904) : ACalls Try.prog F.laws_eqQTerm [aQT a, aQT b] [] true (fun outs res => outs = [] ∧ res = [.one (D.bool (decide (a = b)))]) := by
  refine ACalls.of_body (C := C.laws_eqQTerm) (n := Try.f208.ntmps) tabT folT Try.func208 rfl (by kernel_rfl) rfl (Nat.le_of_ble_eq_true rfl) (by decide) (by kernel_rfl) (by kernel_rfl) rfl (by simp) (by simp) ?_
  simp only [Try.f208]
  refine wseq ?_
  refine wreg fun K hK => ?_
  simp [C.laws_eqQTerm]
  refine hK _ ?_; clear hK K
  show AWp _ _ _ _ _
  refine wseq ?_
  refine wseq ?_
  refine wregI ([0, 1, 2, 3, 4] ++ ([5])) rfl fun K hK => ?_
  refine opsI_seg fun L hL => ?_
  simp [C.laws_eqQTerm]
  refine wcall1 (laws_eqIntS_calls a.e b.e hx) (by simp) (by simp) ?_
  simp [C.laws_eqQTerm]
  refine hL _ ?_; clear hL L
  refine opsI_end fun L hL => ?_
  simp [C.laws_eqQTerm]
  refine hL _ ?_; clear hL L
  simp [C.laws_eqQTerm]
  refine hK _ ?_; clear hK K
  show AWp _ _ _ _ _
  refine wcond _ rfl (fun hc1 => ?_) (fun hc1 => ?_)
  · refine wseq ?_
    refine wreg fun K hK => ?_
    simp [C.laws_eqQTerm]
    refine hK _ ?_; clear hK K
    show AWp _ _ _ _ _
    refine wret ?_
    simp at hc1
    simp [C.laws_eqQTerm, qtm_eq, hc1]
  · refine wskip ?_
    show AWp _ _ _ _ _
    refine wseq ?_
    refine wseq ?_
    refine wreg fun K hK => ?_
    simp [C.laws_eqQTerm]
    refine hK _ ?_; clear hK K
    show AWp _ _ _ _ _
    refine wcond _ rfl (fun hc2 => ?_) (fun hc2 => ?_)
    · refine wseq ?_
      refine wreg fun K hK => ?_
      simp [C.laws_eqQTerm]
      refine hK _ ?_; clear hK K
      show AWp _ _ _ _ _
      refine wret ?_
      simp at hc2
      simp [C.laws_eqQTerm, qtm_eq, hc2]
    · refine wskip ?_
      show AWp _ _ _ _ _
      refine wseq ?_
      refine wseq ?_
      refine wreg fun K hK => ?_
      simp [C.laws_eqQTerm]
      refine hK _ ?_; clear hK K
      show AWp _ _ _ _ _
      refine wcond _ rfl (fun hc3 => ?_) (fun hc3 => ?_)
      · refine wseq ?_
        refine wreg fun K hK => ?_
        simp [C.laws_eqQTerm]
        refine hK _ ?_; clear hK K
        show AWp _ _ _ _ _
        refine wret ?_
        simp at hc3
        simp [C.laws_eqQTerm, qtm_eq, hc3]
      · refine wskip ?_
        show AWp _ _ _ _ _
        refine wseq ?_
        refine wreg fun K hK => ?_
        simp [C.laws_eqQTerm]
        refine hK _ ?_; clear hK K
        show AWp _ _ _ _ _
        refine wret ?_
        simp at hc1 hc2 hc3
        simp [C.laws_eqQTerm, qtm_eq, hc1, hc2, hc3]

theorem laws_eqQTermS_calls (xs ys : List Qtm) (hx : xs.length < 4611686018427387904) (hx2 : ∀ t ∈ xs, t.e.length < 4611686018427387904) : ACalls Try.prog F.laws_eqQTermS [.d (.sh 3 xs.length (rows qtS xs)), .d (.sh 3 ys.length (rows qtS ys))] [] true (fun outs res => outs = [] ∧ res = [.one (D.bool (decide (xs = ys)))]) := by
  refine ACalls.of_body (C := C.laws_eqQTermS) (n := Try.f129.ntmps) tabT folT Try.func129 rfl (by kernel_rfl) rfl (Nat.le_of_ble_eq_true rfl) (by decide) (by kernel_rfl) (by kernel_rfl) rfl (by simp) (by simp) ?_
  simp only [Try.f129]
  refine wseq ?_
  refine wreg fun K hK => ?_
  simp [C.laws_eqQTermS]
  refine hK _ ?_; clear hK K
  show AWp _ _ _ _ _
  refine wseq ?_
  refine wseq ?_
  refine wreg fun K hK => ?_
  simp [C.laws_eqQTermS]
  refine hK _ ?_; clear hK K
  show AWp _ _ _ _ _
  refine wcond _ rfl (fun hc1 => ?_) (fun hc1 => ?_)
  · refine wseq ?_
    refine wreg fun K hK => ?_
    simp [C.laws_eqQTermS]
    refine hK _ ?_; clear hK K
    show AWp _ _ _ _ _
    refine wret ?_
    simp at hc1
    simp [C.laws_eqQTermS]
    intro e; simp [e] at hc1
  · refine wskip ?_
    show AWp _ _ _ _ _
    refine wseq ?_
    refine wseq ?_
    refine wreg fun K hK => ?_
    simp [C.laws_eqQTermS]
    refine hK _ ?_; clear hK K
    show AWp _ _ _ _ _
    refine wblock ?_
    have e : xs.length = ys.length := by simp at hc1; omega
    refine wloop (fun k : Nat => ⟨ofL [(0, .d (.sh 3 xs.length (rows qtS xs))), (1, .d (.sh 3 ys.length (rows qtS ys))), (5, FV.int k)], ofRO []⟩) (fun k => k ≤ xs.length ∧ xs.take k = ys.take k) (fun k => xs.length - k) 0 (by simp [C.laws_eqQTermS]) (by simp) ?_
    intro x1 hx1 R1 hR1
    obtain ⟨hk, ht⟩ := hx1
    refine wseq ?_
    refine wseq ?_
    refine wreg fun K hK => ?_
    simp [C.laws_eqQTermS]
    refine hK _ ?_; clear hK K
    show AWp _ _ _ _ _
    refine wcond _ rfl (fun hc2 => ?_) (fun hc2 => ?_)
    · refine wskip ?_
      show AWp _ _ _ _ _
      refine wseq ?_
      refine wblock ?_
      refine wseq ?_
      have h1 : x1 < xs.length := by simpa using hc2
      have h2 : x1 < ys.length := by omega
      refine wdrawI [(true, 0), (true, 1), (true, 2), (true, 3), (true, 4), (true, 5), (true, 6), (true, 7), (false, 8), (true, 9)] ⟨by kernel_rfl, by kernel_rfl⟩ ([0, 1, 2, 3, 4, 5, 6, 7, 8] ++ ([9])) rfl fun K hK => ?_
      refine opsI_seg fun L hL => ?_
      simp [C.laws_eqQTermS, h1, h2, qtS_0 h1, qtS_1 h1, qtS_2 h1, qtS_0 h2, qtS_1 h2, qtS_2 h2]
      refine wcall1 (laws_eqQTerm_calls xs[x1] ys[x1] (hx2 _ (List.getElem_mem h1))) (by simp) (by simp) ?_
      simp [C.laws_eqQTermS, h1, h2, qtS_0 h1, qtS_1 h1, qtS_2 h1, qtS_0 h2, qtS_1 h2, qtS_2 h2]
      refine hL _ ?_; clear hL L
      refine opsI_end fun L hL => ?_
      simp [C.laws_eqQTermS, h1, h2, qtS_0 h1, qtS_1 h1, qtS_2 h1, qtS_0 h2, qtS_1 h2, qtS_2 h2]
      refine hL _ ?_; clear hL L
      simp [C.laws_eqQTermS, h1, h2, qtS_0 h1, qtS_1 h1, qtS_2 h1, qtS_0 h2, qtS_1 h2, qtS_2 h2]
      refine hK _ ?_; clear hK K
      show AWp _ _ _ _ _
      refine wcond _ rfl (fun hc3 => ?_) (fun hc3 => ?_)
      · refine wseq ?_
        refine wreg fun K hK => ?_
        simp [C.laws_eqQTermS]
        refine hK _ ?_; clear hK K
        show AWp _ _ _ _ _
        refine wret ?_
        simp at hc3
        simp [C.laws_eqQTermS]
        intro e; simp [e] at hc3
      · refine wskip ?_
        show AWp _ _ _ _ _
        refine wreg fun K hK => ?_
        simp [C.laws_eqQTermS, wrap_succ (show x1 < 4611686018427387904 by omega)]
        refine hK _ ?_; clear hK K
        simp [C.laws_eqQTermS]
        simp at hc3
        refine hR1 (x1 + 1) ⟨h1, ?_⟩ (by omega)
        rw [List.take_succ_eq_append_getElem h1, List.take_succ_eq_append_getElem h2, ht, hc3]
    · refine wexit ?_
      show AWp _ _ _ _ _
      refine wseq ?_
      refine wreg fun K hK => ?_
      simp [C.laws_eqQTermS]
      refine hK _ ?_; clear hK K
      show AWp _ _ _ _ _
      refine wret ?_
      have hk2 : x1 = xs.length := by simp at hc2; omega
      simp [C.laws_eqQTermS]
      rw [hk2, List.take_length, e, List.take_length] at ht
      exact ht

theorem laws_eqQSum_calls (a b : Qsm) (hx : a.ts.length < 4611686018427387904) (hx2 : ∀ t ∈ a.ts, t.e.length < 4611686018427387904) : ACalls Try.prog F.laws_eqQSum [aQ a, aQ b] [] true (fun outs res => outs = [] ∧ res = [.one (D.bool (decide (a = b)))]) := by
  refine ACalls.of_body (C := C.laws_eqQSum) (n := Try.f44.ntmps) tabT folT Try.func44 rfl (by kernel_rfl) rfl (Nat.le_of_ble_eq_true rfl) (by decide) (by kernel_rfl) (by kernel_rfl) rfl (by simp) (by simp) ?_
  simp only [Try.f44]
  refine wseq ?_
  refine wreg fun K hK => ?_
  simp [C.laws_eqQSum]
  refine hK _ ?_; clear hK K
  show AWp _ _ _ _ _
  refine wseq ?_
  refine wseq ?_
  refine wreg fun K hK => ?_
  simp [C.laws_eqQSum]
  refine hK _ ?_; clear hK K
  show AWp _ _ _ _ _
  refine wcond _ rfl (fun hc1 => ?_) (fun hc1 => ?_)
  · refine wseq ?_
    refine wreg fun K hK => ?_
    simp [C.laws_eqQSum]
    refine hK _ ?_; clear hK K
    show AWp _ _ _ _ _
    refine wret ?_
    simp at hc1
    simp [C.laws_eqQSum, qsm_eq, hc1]
  · refine wskip ?_
    show AWp _ _ _ _ _
    refine wseq ?_
    refine wseq ?_
    refine wregI ([0, 1, 2, 3, 4] ++ ([5])) rfl fun K hK => ?_
    refine opsI_seg fun L hL => ?_
    simp [C.laws_eqQSum]
    refine wcall1 (laws_eqQTermS_calls a.ts b.ts hx hx2) (by simp) (by simp) ?_
    simp [C.laws_eqQSum]
    refine hL _ ?_; clear hL L
    refine opsI_end fun L hL => ?_
    simp [C.laws_eqQSum]
    refine hL _ ?_; clear hL L
    simp [C.laws_eqQSum]
    refine hK _ ?_; clear hK K
    show AWp _ _ _ _ _
    refine wcond _ rfl (fun hc2 => ?_) (fun hc2 => ?_)
    · refine wseq ?_
      refine wreg fun K hK => ?_
      simp [C.laws_eqQSum]
      refine hK _ ?_; clear hK K
      show AWp _ _ _ _ _
      refine wret ?_
      simp at hc2
      simp [C.laws_eqQSum, qsm_eq, hc2]
    · refine wskip ?_
      show AWp _ _ _ _ _
      refine wseq ?_
      refine wreg fun K hK => ?_
      simp [C.laws_eqQSum]
      refine hK _ ?_; clear hK K
      show AWp _ _ _ _ _
      refine wret ?_
      simp at hc1 hc2
      simp [C.laws_eqQSum, qsm_eq, hc1, hc2]

theorem laws_markQTermS_calls (ts : List Qtm) (k : Int) (hk0 : 0 ≤ k) (hk : k + cntL cntQT ts < 4611686018427387904) (hx : ts.length < 4611686018427387904) : ACalls Try.prog F.laws_markQTermS [.al (0, 0) [] 0 ts.length, .int k] [((0, 0), .ow 3 ts.length (rows qtO ts))] true (fun outs res => outs = [.ow 3 ts.length (rows qtO (mkL cntQT mkQT ts k))] ∧ res = [.one (D.int (k + cntL cntQT ts))]) := by
  refine ACalls.of_body (C := C.laws_markQTermS) (n := Try.f130.ntmps) tabT folT Try.func130 rfl (by kernel_rfl) rfl (Nat.le_of_ble_eq_true rfl) (by decide) (by kernel_rfl) (by kernel_rfl) rfl (by simp) (by simp) ?_
  simp only [Try.f130]
  refine wseq ?_
  refine wreg fun K hK => ?_
  simp [C.laws_markQTermS]
  refine hK _ ?_; clear hK K
  show AWp _ _ _ _ _
  refine wseq ?_
  refine wseq ?_
  refine wreg fun K hK => ?_
  simp [C.laws_markQTermS]
  refine hK _ ?_; clear hK K
  show AWp _ _ _ _ _
  refine wblock ?_
  refine wloop (fun x : Nat × List Qtm × Int => ⟨ofL [(0, .al (0, 0) [] 0 ts.length), (1, .int x.2.2), (5, .int x.1), (1000, .al (0, 0) [] 0 ts.length)], ofRO [((0, 0), some (.ow 3 ts.length (rows qtO x.2.1)))]⟩) (fun x => x.1 ≤ ts.length ∧ x.2.1 = mkL cntQT mkQT (ts.take x.1) k ++ ts.drop x.1 ∧ x.2.2 = k + cntL cntQT (ts.take x.1)) (fun x => ts.length - x.1) (0, ts, k) (by simp [C.laws_markQTermS]) (by simp [mkL, cntL]) ?_
  intro x1 hx1 R1 hR1
  obtain ⟨j, gs, kk⟩ := x1
  obtain ⟨h0, hg, he⟩ := hx1
  dsimp only at h0 hg he ⊢
  refine wseq ?_
  refine wseq ?_
  refine wreg fun K hK => ?_
  simp [C.laws_markQTermS]
  refine hK _ ?_; clear hK K
  show AWp _ _ _ _ _
  refine wcond _ rfl (fun hc1 => ?_) (fun hc1 => ?_)
  · refine wskip ?_
    show AWp _ _ _ _ _
    refine wseq ?_
    refine wblock ?_
    refine wseq ?_
    have h1 : j < ts.length := by simpa using hc1
    have hl : gs.length = ts.length := by rw [hg]; simp; omega
    have h2 : j < gs.length := by omega
    have hge : gs[j] = ts[j] := by
      have := mkL_get2 cntQT mkQT ts k j h1
      rw [← hg, List.getElem?_eq_getElem h2] at this
      injection this
    have hb := cntL_le1 cntQT ts j h1
    have hcj : cntQT ts[j] = ts[j].e.length + 2 := rfl
    refine wregI ([0, 1, 2, 3, 4, 5, 6] ++ ([7])) rfl fun K hK => ?_
    refine opsI_seg fun L hL => ?_
    simp [C.laws_markQTermS, hl, h1, h2, hge, qtO_0 h2, qtO_1 h2, qtO_2 h2, modify_const, qtO_set0 h2]
    refine wcall1 (laws_markIntS_calls ts[j].e kk (by omega) (by omega)) (by simp) (by simp) ?_
    simp [C.laws_markQTermS, hl, h1, h2, hge, qtO_0 h2, qtO_1 h2, qtO_2 h2, modify_const, qtO_set0 h2]
    refine hL _ ?_; clear hL L
    refine opsI_end fun L hL => ?_
    simp [C.laws_markQTermS, hl, h1, h2, hge, qtO_0 h2, qtO_1 h2, qtO_2 h2, modify_const, qtO_set0 h2]
    refine hL _ ?_; clear hL L
    simp [C.laws_markQTermS, hl, h1, h2, hge, qtO_0 h2, qtO_1 h2, qtO_2 h2, modify_const, qtO_set0 h2]
    refine hK _ ?_; clear hK K
    show AWp _ _ _ _ _
    refine wseq ?_
    refine wreg fun K hK => ?_
    simp [C.laws_markQTermS, h1, h2, hl, qtO_1 h2]
    refine hK _ ?_; clear hK K
    show AWp _ _ _ _ _
    refine wseq ?_
    refine wreg fun K hK => ?_
    simp [C.laws_markQTermS]
    rw [wrapOk (x := kk + ts[j].e.length + 1) (by omega) (by omega)]
    refine hK _ ?_; clear hK K
    show AWp _ _ _ _ _
    refine wseq ?_
    refine wreg fun K hK => ?_
    simp [C.laws_markQTermS, h1, h2, hl, qtO_2 h2]
    refine hK _ ?_; clear hK K
    show AWp _ _ _ _ _
    refine wreg fun K hK => ?_
    simp [C.laws_markQTermS]
    rw [wrapOk (x := kk + ts[j].e.length + 1 + 1) (by omega) (by omega)]
    refine hK _ ?_; clear hK K
    show AWp _ _ _ _ _
    refine wreg fun K hK => ?_
    simp [C.laws_markQTermS, wrap_succ (show j < 4611686018427387904 by omega)]
    refine hK _ ?_; clear hK K
    simp [C.laws_markQTermS]
    rw [qtO_set3 h2 _ _ _ (by simp)]
    refine hR1 (j + 1, _, _) ⟨h1, ?_, ?_⟩ (by dsimp only; omega)
    · dsimp only
      rw [hg, he]
      exact mkL_step cntQT mkQT ts k j h1
    · dsimp only
      rw [cntL_step _ _ _ h1]
      omega
  · refine wexit ?_
    show AWp _ _ _ _ _
    refine wseq ?_
    refine wreg fun K hK => ?_
    simp [C.laws_markQTermS]
    refine hK _ ?_; clear hK K
    show AWp _ _ _ _ _
    refine wret ?_
    have hj2 : j = ts.length := by simp at hc1; omega
    simp [C.laws_markQTermS, hj2, hg, he]

theorem laws_markQSum_calls (f : Qsm) (k : Int) (hk0 : 0 ≤ k) (hk : k + cntL cntQT f.ts < 4611686018427387904) (hx : f.ts.length < 4611686018427387904) : ACalls Try.prog F.laws_markQSum [.ag [.int f.v, .al (0, 1) [] 0 f.ts.length], .int k] [((0, 1), .ow 3 f.ts.length (rows qtO f.ts))] true (fun outs res => outs = [.ow 3 f.ts.length (rows qtO (mkL cntQT mkQT f.ts k))] ∧ res = [.one (D.int (k + cntL cntQT f.ts))]) := by
  refine ACalls.of_body (C := C.laws_markQSum) (n := Try.f45.ntmps) tabT folT Try.func45 rfl (by kernel_rfl) rfl (Nat.le_of_ble_eq_true rfl) (by decide) (by kernel_rfl) (by kernel_rfl) rfl (by simp) (by simp) ?_
  simp only [Try.f45]
  refine wseq ?_
  refine wreg fun K hK => ?_
  simp [C.laws_markQSum]
  refine hK _ ?_; clear hK K
  show AWp _ _ _ _ _
  refine wseq ?_
  refine wregI ([0, 1, 2, 3] ++ ([4])) rfl fun K hK => ?_
  refine opsI_seg fun L hL => ?_
  simp [C.laws_markQSum, modify_const]
  refine wcall1 (laws_markQTermS_calls f.ts k hk0 hk hx) (by simp) (by simp) ?_
  simp [C.laws_markQSum, modify_const]
  refine hL _ ?_; clear hL L
  refine opsI_end fun L hL => ?_
  simp [C.laws_markQSum, modify_const]
  refine hL _ ?_; clear hL L
  simp [C.laws_markQSum, modify_const]
  refine hK _ ?_; clear hK K
  show AWp _ _ _ _ _
  refine wseq ?_
  refine wreg fun K hK => ?_
  simp [C.laws_markQSum]
  refine hK _ ?_; clear hK K
  show AWp _ _ _ _ _
  refine wret ?_
  simp [C.laws_markQSum]

theorem laws_heldQTermS_calls (ts : List Qtm) (k : Int) (hk0 : 0 ≤ k) (hk : k + cntL cntQT ts < 4611686018427387904) (hx : ts.length < 4611686018427387904) : ACalls Try.prog F.laws_heldQTermS [.d (.sh 3 ts.length (rows qtS (mkL cntQT mkQT ts k))), .int k] [] true (fun outs res => outs = [] ∧ res = [.one (D.int (k + cntL cntQT ts))]) := by
  refine ACalls.of_body (C := C.laws_heldQTermS) (n := Try.f131.ntmps) tabT folT Try.func131 rfl (by kernel_rfl) rfl (Nat.le_of_ble_eq_true rfl) (by decide) (by kernel_rfl) (by kernel_rfl) rfl (by simp) (by simp) ?_
  simp only [Try.f131]
  refine wseq ?_
  refine wreg fun K hK => ?_
  simp [C.laws_heldQTermS]
  refine hK _ ?_; clear hK K
  show AWp _ _ _ _ _
  refine wseq ?_
  refine wseq ?_
  refine wreg fun K hK => ?_
  simp [C.laws_heldQTermS]
  refine hK _ ?_; clear hK K
  show AWp _ _ _ _ _
  refine wblock ?_
  refine wloop (fun x : Nat × Int => ⟨ofL [(0, .d (.sh 3 ts.length (rows qtS (mkL cntQT mkQT ts k)))), (1, .int x.2), (5, .int x.1)], ofRO []⟩) (fun x => x.1 ≤ ts.length ∧ x.2 = k + cntL cntQT (ts.take x.1)) (fun x => ts.length - x.1) (0, k) (by simp [C.laws_heldQTermS]) (by simp [cntL]) ?_
  intro x1 hx1 R1 hR1
  obtain ⟨j, kk⟩ := x1
  obtain ⟨h0, he⟩ := hx1
  dsimp only at h0 he ⊢
  refine wseq ?_
  refine wseq ?_
  refine wreg fun K hK => ?_
  simp [C.laws_heldQTermS]
  refine hK _ ?_; clear hK K
  show AWp _ _ _ _ _
  refine wcond _ rfl (fun hc1 => ?_) (fun hc1 => ?_)
  · refine wskip ?_
    show AWp _ _ _ _ _
    refine wseq ?_
    refine wblock ?_
    refine wseq ?_
    have h1 : j < ts.length := by simpa using hc1
    have h2 : j < (mkL cntQT mkQT ts k).length := by simpa using h1
    have hge : (mkL cntQT mkQT ts k)[j] = ⟨marks kk ts[j].e.length, kk + ts[j].e.length, kk + ts[j].e.length + 1⟩ := by
      rw [mkL_get1 _ _ _ _ _ h1, he]
      rfl
    have hb := cntL_le1 cntQT ts j h1
    have hcj : cntQT ts[j] = ts[j].e.length + 2 := rfl
    refine wregI ([0, 1, 2, 3, 4, 5, 6] ++ ([7])) rfl fun K hK => ?_
    refine opsI_seg fun L hL => ?_
    simp [C.laws_heldQTermS, h1, h2, hge, qtS_0 h2]
    refine wcall1 (laws_heldIntS_calls ts[j].e.length kk (by omega) (by omega)) (by simp) (by simp) ?_
    simp [C.laws_heldQTermS, h1, h2, hge, qtS_0 h2]
    refine hL _ ?_; clear hL L
    refine opsI_end fun L hL => ?_
    simp [C.laws_heldQTermS, h1, h2, hge, qtS_0 h2]
    refine hL _ ?_; clear hL L
    simp [C.laws_heldQTermS, h1, h2, hge, qtS_0 h2]
    refine hK _ ?_; clear hK K
    show AWp _ _ _ _ _
    refine wseq ?_
    refine wseq ?_
    refine wreg fun K hK => ?_
    simp [C.laws_heldQTermS]
    refine hK _ ?_; clear hK K
    show AWp _ _ _ _ _
    refine wcond _ rfl (fun hc2 => ?_) (fun hc2 => ?_)
    · simp at hc2; omega
    · refine wskip ?_
      show AWp _ _ _ _ _
      refine wseq ?_
      refine wseq ?_
      refine wreg fun K hK => ?_
      simp [C.laws_heldQTermS, h1, h2, hge, qtS_1 h2]
      refine hK _ ?_; clear hK K
      show AWp _ _ _ _ _
      refine wcond _ rfl (fun hc3 => ?_) (fun hc3 => ?_)
      · simp at hc3
      · refine wskip ?_
        show AWp _ _ _ _ _
        refine wseq ?_
        refine wreg fun K hK => ?_
        simp [C.laws_heldQTermS]
        rw [wrapOk (x := kk + ts[j].e.length + 1) (by omega) (by omega)]
        refine hK _ ?_; clear hK K
        show AWp _ _ _ _ _
        refine wseq ?_
        refine wseq ?_
        refine wreg fun K hK => ?_
        simp [C.laws_heldQTermS, h1, h2, hge, qtS_2 h2]
        refine hK _ ?_; clear hK K
        show AWp _ _ _ _ _
        refine wcond _ rfl (fun hc4 => ?_) (fun hc4 => ?_)
        · simp at hc4
        · refine wskip ?_
          show AWp _ _ _ _ _
          refine wreg fun K hK => ?_
          simp [C.laws_heldQTermS]
          rw [wrapOk (x := kk + ts[j].e.length + 1 + 1) (by omega) (by omega)]
          refine hK _ ?_; clear hK K
          show AWp _ _ _ _ _
          refine wreg fun K hK => ?_
          simp [C.laws_heldQTermS, wrap_succ (show j < 4611686018427387904 by omega)]
          refine hK _ ?_; clear hK K
          simp [C.laws_heldQTermS]
          refine hR1 (j + 1, _) ⟨h1, ?_⟩ (by dsimp only; omega)
          dsimp only
          rw [cntL_step _ _ _ h1]
          omega
  · refine wexit ?_
    show AWp _ _ _ _ _
    refine wseq ?_
    refine wreg fun K hK => ?_
    simp [C.laws_heldQTermS]
    refine hK _ ?_; clear hK K
    show AWp _ _ _ _ _
    refine wret ?_
    have hj2 : j = ts.length := by simp at hc1; omega
    simp [C.laws_heldQTermS]
    rw [he, hj2, List.take_length]

theorem laws_heldQSum_calls (v : Int) (ts : List Qtm) (k : Int) (hk0 : 0 ≤ k) (hk : k + cntL cntQT ts < 4611686018427387904) (hx : ts.length < 4611686018427387904) : ACalls Try.prog F.laws_heldQSum [.ag [.int v, .d (.sh 3 ts.length (rows qtS (mkL cntQT mkQT ts k)))], .int k] [] true (fun outs res => outs = [] ∧ res = [.one (D.int (k + cntL cntQT ts))]) := by
  refine ACalls.of_body (C := C.laws_heldQSum) (n := Try.f46.ntmps) tabT folT Try.func46 rfl (by kernel_rfl) rfl (Nat.le_of_ble_eq_true rfl) (by decide) (by kernel_rfl) (by kernel_rfl) rfl (by simp) (by simp) ?_
  simp only [Try.f46]
  refine wseq ?_
  refine wreg fun K hK => ?_
  simp [C.laws_heldQSum]
  refine hK _ ?_; clear hK K
  show AWp _ _ _ _ _
  refine wseq ?_
  refine wregI ([0, 1, 2, 3] ++ ([4])) rfl fun K hK => ?_
  refine opsI_seg fun L hL => ?_
  simp [C.laws_heldQSum]
  refine wcall1 (laws_heldQTermS_calls ts k hk0 hk hx) (by simp) (by simp) ?_
  simp [C.laws_heldQSum]
  refine hL _ ?_; clear hL L
  refine opsI_end fun L hL => ?_
  simp [C.laws_heldQSum]
  refine hL _ ?_; clear hL L
  simp [C.laws_heldQSum]
  refine hK _ ?_; clear hK K
  show AWp _ _ _ _ _
  refine wseq ?_
  refine wseq ?_
  refine wreg fun K hK => ?_
  simp [C.laws_heldQSum]
  refine hK _ ?_; clear hK K
  show AWp _ _ _ _ _
  refine wcond _ rfl (fun hc1 => ?_) (fun hc1 => ?_)
  · simp at hc1; omega
  · refine wskip ?_
    show AWp _ _ _ _ _
    refine wseq ?_
    refine wreg fun K hK => ?_
    simp [C.laws_heldQSum]
    refine hK _ ?_; clear hK K
    show AWp _ _ _ _ _
    refine wret ?_
    simp [C.laws_heldQSum]

end Go.Proofs.Ytdgeponcnlkaiaa.Ab
namespace Go.Proofs.Ytdgeponcnlkaiaa.Ab
open Go
set_option linter.unusedSimpArgs false
set_option linter.unusedVariables false
set_option linter.unusedSectionVars false

section
variable {K : Type} [DecidableEq K]

/-- What belongs to a key. -/
def co (k : K) : List (K × Int) → Int
  | [] => 0
  | x :: l => (if x.1 = k then x.2 else 0) + co k l
theorem co_append (k : K) : ∀ (l r : List (K × Int)), co k (l ++ r) = co k l + co k r
  | [], r => by simp [co]
  | x :: l, r => by simp [co, co_append k l r, Int.add_assoc]
theorem co_none (k : K) : ∀ (l : List (K × Int)), (∀ x ∈ l, x.1 ≠ k) → co k l = 0
  | [], _ => rfl
  | x :: l, h => by
    simp only [co]
    rw [if_neg (h x (by simp)), co_none k l fun y hy => h y (by simp [hy])]
    rfl
theorem co_perm (k : K) {l r : List (K × Int)} (h : l.Perm r) : co k l = co k r := by
  induction h with
  | nil => rfl
  | cons x _ ih => simp [co, ih]
  | swap x y l => simp only [co]; omega
  | trans _ _ ih1 ih2 => rw [ih1, ih2]
/-- A strict order. -/
structure Ord (lt : K → K → Bool) : Prop where
  irr : ∀ a, lt a a = false
  tr : ∀ a b c, lt a b = true → lt b c = true → lt a c = true
  tot : ∀ a b, lt a b = true ∨ a = b ∨ lt b a = true

variable {lt : K → K → Bool}
def Desc (lt : K → K → Bool) (l : List (K × Int)) : Prop := l.Pairwise fun a b => lt b.1 a.1 = true
def Nz (l : List (K × Int)) : Prop := ∀ x ∈ l, x.2 ≠ 0

theorem desc_tail_ne (ho : Ord lt) {x : K × Int} {l : List (K × Int)} (h : Desc lt (x :: l)) : ∀ y ∈ l, y.1 ≠ x.1 := by
  intro y hy e
  have := (List.pairwise_cons.1 h).1 y hy
  rw [e, ho.irr] at this
  simp at this
theorem desc_above (ho : Ord lt) {x : K × Int} {l : List (K × Int)} (h : Desc lt (x :: l)) {k : K} (hk : lt x.1 k = true) : ∀ y ∈ x :: l, y.1 ≠ k := by
  intro y hy e
  rcases List.mem_cons.1 hy with rfl | hy
  · rw [e, ho.irr] at hk
    simp at hk
  · have := ho.tr _ _ _ ((List.pairwise_cons.1 h).1 y hy) hk
    rw [e, ho.irr] at this
    simp at this

/-- **Descending sums are told by what belongs to each key.** -/
theorem desc_unique (ho : Ord lt) : ∀ (l r : List (K × Int)), Desc lt l → Desc lt r → Nz l → Nz r → (∀ k, co k l = co k r) → l = r
  | [], [], _, _, _, _, _ => rfl
  | [], y :: r, _, h2, _, z2, h => by
    have := h y.1
    simp only [co, if_true] at this
    rw [co_none y.1 r (desc_tail_ne ho h2)] at this
    exact absurd (by omega) (z2 y (by simp))
  | x :: l, [], h1, _, z1, _, h => by
    have := h x.1
    simp only [co, if_true] at this
    rw [co_none x.1 l (desc_tail_ne ho h1)] at this
    exact absurd (by omega) (z1 x (by simp))
  | x :: l, y :: r, h1, h2, z1, z2, h => by
    rcases ho.tot x.1 y.1 with e | e | e
    · have := h y.1
      rw [co_none y.1 _ (desc_above ho h1 e)] at this
      simp only [co, if_true] at this
      rw [co_none y.1 r (desc_tail_ne ho h2)] at this
      exact absurd (by omega) (z2 y (by simp))
    · have e2 : x.2 = y.2 := by
        have := h x.1
        simp only [co, if_true] at this
        rw [if_pos e.symm, co_none x.1 l (desc_tail_ne ho h1), e, co_none y.1 r (desc_tail_ne ho h2)] at this
        omega
      have exy : x = y := Prod.ext e e2
      subst exy
      congr 1
      refine desc_unique ho l r (List.pairwise_cons.1 h1).2 (List.pairwise_cons.1 h2).2 (fun z hz => z1 z (by simp [hz])) (fun z hz => z2 z (by simp [hz])) fun k => ?_
      have := h k
      simp only [co] at this
      omega
    · have := h x.1
      rw [co_none x.1 (y :: r) (desc_above ho h2 e)] at this
      simp only [co, if_true] at this
      rw [co_none x.1 l (desc_tail_ne ho h1)] at this
      exact absurd (by omega) (z1 x (by simp))

/-! ### The descending list of a sum -/
def insK (lt : K → K → Bool) (k : K) (c : Int) : List (K × Int) → List (K × Int)
  | [] => if c = 0 then [] else [(k, c)]
  | x :: l => if x.1 = k then (if x.2 + c = 0 then l else (k, x.2 + c) :: l) else if lt x.1 k then (if c = 0 then x :: l else (k, c) :: x :: l) else x :: insK lt k c l
def nf (lt : K → K → Bool) : List (K × Int) → List (K × Int)
  | [] => []
  | x :: l => insK lt x.1 x.2 (nf lt l)

theorem insK_mem {k : K} {c : Int} : ∀ {l : List (K × Int)} {y : K × Int}, y ∈ insK lt k c l → y.1 = k ∨ y ∈ l
  | [], y, h => by
    simp only [insK] at h
    split at h
    · simp at h
    · simp only [List.mem_singleton] at h
      subst h
      exact .inl rfl
  | x :: l, y, h => by
    simp only [insK] at h
    split at h
    · split at h
      · exact .inr (by simp [h])
      · rcases List.mem_cons.1 h with rfl | h
        · exact .inl rfl
        · exact .inr (by simp [h])
    · split at h
      · split at h
        · exact .inr h
        · rcases List.mem_cons.1 h with rfl | h
          · exact .inl rfl
          · exact .inr h
      · rcases List.mem_cons.1 h with rfl | h
        · exact .inr (by simp)
        · rcases insK_mem h with h | h
          · exact .inl h
          · exact .inr (by simp [h])
theorem insK_desc (ho : Ord lt) (k : K) (c : Int) : ∀ (l : List (K × Int)), Desc lt l → Desc lt (insK lt k c l)
  | [], _ => by
    simp only [insK]
    split
    · exact List.Pairwise.nil
    · exact List.pairwise_singleton _ _
  | x :: l, h => by
    have h1 := List.pairwise_cons.1 h
    simp only [insK]
    split
    · rename_i e
      split
      · exact h1.2
      · exact List.pairwise_cons.2 ⟨fun y hy => by rw [← e]; exact h1.1 y hy, h1.2⟩
    · rename_i e
      split
      · rename_i e2
        split
        · exact h
        · refine List.pairwise_cons.2 ⟨fun y hy => ?_, h⟩
          rcases List.mem_cons.1 hy with rfl | hy
          · exact e2
          · exact ho.tr _ _ _ (h1.1 y hy) e2
      · rename_i e2
        refine List.pairwise_cons.2 ⟨fun y hy => ?_, insK_desc ho k c l h1.2⟩
        rcases insK_mem hy with hy | hy
        · rw [hy]
          rcases ho.tot k x.1 with q | q | q
          · exact q
          · exact absurd q.symm e
          · exact absurd q e2
        · exact h1.1 y hy
theorem insK_nz (k : K) (c : Int) : ∀ (l : List (K × Int)), Nz l → Nz (insK lt k c l)
  | [], _ => by
    simp only [insK]
    split
    · intro y hy; simp at hy
    · rename_i hc
      intro y hy
      simp only [List.mem_singleton] at hy
      subst hy
      exact hc
  | x :: l, h => by
    have h1 : Nz l := fun z hz => h z (by simp [hz])
    simp only [insK]
    split
    · split
      · exact h1
      · rename_i hc
        intro y hy
        rcases List.mem_cons.1 hy with rfl | hy
        · exact hc
        · exact h1 y hy
    · split
      · split
        · exact h
        · rename_i hc
          intro y hy
          rcases List.mem_cons.1 hy with rfl | hy
          · exact hc
          · exact h y hy
      · intro y hy
        rcases List.mem_cons.1 hy with rfl | hy
        · exact h y (by simp)
        · exact insK_nz k c l h1 y hy
theorem insK_co (k : K) (c : Int) (q : K) : ∀ (l : List (K × Int)), co q (insK lt k c l) = (if k = q then c else 0) + co q l
  | [] => by
    simp only [insK]
    split
    · rename_i e
      subst e
      simp [co]
    · simp [co]
  | x :: l => by
    simp only [insK]
    split
    · rename_i e
      split
      · rename_i e2
        simp only [co, e]
        split <;> omega
      · simp only [co, e]
        split <;> omega
    · split
      · split
        · rename_i e
          subst e
          simp
        · simp only [co]
      · simp only [co, insK_co k c q l]
        omega
theorem nf_desc (ho : Ord lt) : ∀ (l : List (K × Int)), Desc lt (nf lt l)
  | [] => List.Pairwise.nil
  | x :: l => insK_desc ho _ _ _ (nf_desc ho l)
theorem nf_nz : ∀ (l : List (K × Int)), Nz (nf lt l)
  | [] => by intro y hy; simp [nf] at hy
  | x :: l => insK_nz _ _ _ (nf_nz l)
theorem nf_co (q : K) : ∀ (l : List (K × Int)), co q (nf lt l) = co q l
  | [] => rfl
  | x :: l => by
    simp only [nf, insK_co, nf_co q l, co]
theorem nf_mem : ∀ {l : List (K × Int)} {y : K × Int}, y ∈ nf lt l → ∃ x ∈ l, x.1 = y.1
  | [], y, h => by simp [nf] at h
  | x :: l, y, h => by
    rcases insK_mem h with h | h
    · exact ⟨x, by simp, h.symm⟩
    · obtain ⟨z, hz, e⟩ := nf_mem h
      exact ⟨z, by simp [hz], e⟩
/-- **The descending list with these sums is the normal form.** -/
theorem nf_unique (ho : Ord lt) {t l : List (K × Int)} (h1 : Desc lt t) (h2 : Nz t) (h3 : ∀ k, co k t = co k l) : t = nf lt l :=
  desc_unique ho t (nf lt l) h1 (nf_desc ho l) h2 (nf_nz l) fun k => by rw [h3 k, nf_co]
end

/-! ### Lists of numbers in the order of words -/
def lexlt : List Int → List Int → Bool
  | [], [] => false
  | [], _ :: _ => true
  | _ :: _, [] => false
  | a :: x, b :: y => if a = b then lexlt x y else decide (a < b)
theorem lexlt_irr : ∀ a, lexlt a a = false
  | [] => rfl
  | a :: x => by simp [lexlt, lexlt_irr x]
theorem lexlt_tr : ∀ a b c, lexlt a b = true → lexlt b c = true → lexlt a c = true
  | [], [], _, h, _ => by simp [lexlt] at h
  | [], _ :: _, [], _, h => by simp [lexlt] at h
  | [], _ :: _, _ :: _, _, _ => rfl
  | _ :: _, [], _, h, _ => by simp [lexlt] at h
  | _ :: _, _ :: _, [], _, h => by simp [lexlt] at h
  | a :: x, b :: y, c :: z, h1, h2 => by
    simp only [lexlt] at h1 h2 ⊢
    by_cases e1 : a = b
    · subst e1
      rw [if_pos rfl] at h1
      by_cases e2 : a = c
      · subst e2
        rw [if_pos rfl] at h2 ⊢
        exact lexlt_tr x y z h1 h2
      · rw [if_neg e2] at h2 ⊢
        exact h2
    · rw [if_neg e1] at h1
      by_cases e2 : b = c
      · subst e2
        rw [if_neg e1]
        exact h1
      · rw [if_neg e2] at h2
        simp only [decide_eq_true_eq] at h1 h2
        rw [if_neg (by omega)]
        simp only [decide_eq_true_eq]
        omega
theorem lexlt_tot : ∀ a b, lexlt a b = true ∨ a = b ∨ lexlt b a = true
  | [], [] => .inr (.inl rfl)
  | [], _ :: _ => .inl rfl
  | _ :: _, [] => .inr (.inr rfl)
  | a :: x, b :: y => by
    simp only [lexlt]
    by_cases e : a = b
    · subst e
      simp only [if_true]
      rcases lexlt_tot x y with h | h | h
      · exact .inl h
      · exact .inr (.inl (by rw [h]))
      · exact .inr (.inr h)
    · rw [if_neg e, if_neg (Ne.symm e)]
      simp only [decide_eq_true_eq]
      omega
/-- The order of quantum terms: exponents first, then the power. -/
def qlt (a b : List Int × Int) : Bool := if a.1 = b.1 then decide (a.2 < b.2) else lexlt a.1 b.1
theorem qOrd : Ord qlt := by
  refine ⟨fun a => by simp [qlt], fun a b c h1 h2 => ?_, fun a b => ?_⟩
  · simp only [qlt] at h1 h2 ⊢
    by_cases e1 : a.1 = b.1
    · by_cases e2 : b.1 = c.1
      · rw [if_pos e1] at h1
        rw [if_pos e2] at h2
        rw [if_pos (e1.trans e2)]
        simp only [decide_eq_true_eq] at h1 h2 ⊢
        omega
      · rw [if_neg e2] at h2
        rw [e1, if_neg e2]
        exact h2
    · rw [if_neg e1] at h1
      by_cases e2 : b.1 = c.1
      · rw [← e2, if_neg e1]
        exact h1
      · rw [if_neg e2] at h2
        have := lexlt_tr _ _ _ h1 h2
        rw [if_neg (fun e => by rw [e, lexlt_irr] at this; simp at this)]
        exact this
  · simp only [qlt]
    by_cases e : a.1 = b.1
    · rw [if_pos e, if_pos e.symm]
      simp only [decide_eq_true_eq]
      rcases Int.lt_trichotomy a.2 b.2 with h | h | h
      · exact .inl h
      · exact .inr (.inl (Prod.ext e h))
      · exact .inr (.inr h)
    · rw [if_neg e, if_neg (Ne.symm e)]
      rcases lexlt_tot a.1 b.1 with h | h | h
      · exact .inl h
      · exact absurd h e
      · exact .inr (.inr h)

end Go.Proofs.Ytdgeponcnlkaiaa.Ab
namespace Go.Proofs.Ytdgeponcnlkaiaa.Ab
open Go
set_option linter.unusedSimpArgs false
set_option linter.unusedVariables false
set_option linter.unusedSectionVars false

def Dig (l : List Int) : Prop := ∀ x ∈ l, -64 ≤ x ∧ x ≤ 63
end Go.Proofs.Ytdgeponcnlkaiaa.Ab
