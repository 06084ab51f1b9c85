/- Printed by wip/tools/lay.py: the contracts of slices.SortFunc laid at this seat. slices.SortFunc in the calculus: from a contract over worlds to a contract over trees. Maps that hold quantum sums: keys of nine numbers. The program's building of quantum sums, over a sort. The sort of quantum terms, greatest first, at this program. Products of quantum sums: the program's. Division of quantum sums: the keys, what two ways to test lead to. Quantum division: what a step keeps; the greatest key of a map. slices.Grow of the nil slice in the calculus. Printed by wip/tools/lay.py: the contracts of slices.Grow laid at this seat. The sum that a quantum sum becomes with 1 in place of q: the reference's, the program's. The program's sums of quantum sums. Division: both sides. Division of the program's sums. Division of quantum sums: the program's. Division of quantum sums: the reference's. Division of quantum sums: the reference's, the steps. Division of quantum sums: the reference's. The law of division of quantum sums. More arguments of this program's laws, read as trees: lists of lists, quantum sums. Division of quantum sums: the law, without a premise left. No condition. -/
import Derived.Shelf.SlLaysF0
import Derived.Test.YtocknokodgnlbaaProg
import Derived.Shelf.SlSortCmp.InsertionK
import Derived.Shelf.SlSortFuncK.ComposeK
import Derived.Test.YtocknokodgnlbaaKVc
import Derived.Test.YtocknokodgnlbaaKVd
import Derived.Shelf.SlSortCmp.NoneTotal
import Derived.Shelf.Spec.SlicesGrow
import Derived.Shelf.Lays8
set_option linter.unusedVariables false
set_option linter.unusedSimpArgs false
namespace Go.Proofs.Ytocknokodgnlbaa.Ab
open Go Go.Proofs
def sortTerm_ren : Go.Shelf.Ren := ⟨fun | 6 => 117 | 15 => 151 | 14 => 150 | 28 => 163 | 29 => 164 | 20 => 155 | 21 => 156 | 22 => 157 | 23 => 158 | 24 => 159 | 25 => 160 | 26 => 161 | 27 => 162 | 46 => 173 | 47 => 174 | 48 => 175 | 49 => 176 | 50 => 177 | 57 => 181 | n => n, fun | 22 => 24 | 24 => 78 | 25 => 139 | 3 => 3 | 39 => 161 | 0 => 0 | 53 => 175 | 55 => 177 | 4 => 4 | 46 => 168 | 45 => 167 | 50 => 172 | 5 => 5 | 9 => 9 | 66 => 183 | 70 => 187 | 76 => 191 | 77 => 192 | n => n, fun | n => n⟩
def sortQTerm_ren : Go.Shelf.Ren := ⟨fun | 6 => 133 | 15 => 151 | 14 => 153 | 28 => 163 | 29 => 164 | 20 => 165 | 21 => 166 | 22 => 167 | 23 => 168 | 24 => 169 | 25 => 170 | 26 => 171 | 27 => 172 | 46 => 178 | 47 => 174 | 48 => 175 | 49 => 179 | 50 => 180 | 57 => 182 | n => n, fun | 22 => 40 | 24 => 104 | 25 => 149 | 3 => 3 | 39 => 161 | 0 => 0 | 53 => 175 | 55 => 177 | 4 => 4 | 46 => 168 | 45 => 167 | 50 => 172 | 5 => 5 | 9 => 9 | 66 => 183 | 70 => 187 | 76 => 191 | 77 => 192 | n => n, fun | n => n⟩
theorem sortQTerm : Go.Proofs.SlLaysF0.n6 Try.prog sortQTerm_ren := {
  mixed := by kernel_rfl,
  f6 := ⟨Try.f133.name, by decide, Try.func133.trans (congrArg some (by kernel_rfl))⟩,
  f14 := ⟨Try.f153.name, by decide, Try.func153.trans (congrArg some (by kernel_rfl))⟩,
  f15 := Try.func151.trans (congrArg some (by kernel_rfl)),
  f20 := ⟨Try.f165.name, by decide, Try.func165.trans (congrArg some (by kernel_rfl))⟩,
  f21 := ⟨Try.f166.name, by decide, Try.func166.trans (congrArg some (by kernel_rfl))⟩,
  f22 := ⟨Try.f167.name, by decide, Try.func167.trans (congrArg some (by kernel_rfl))⟩,
  f23 := ⟨Try.f168.name, by decide, Try.func168.trans (congrArg some (by kernel_rfl))⟩,
  f24 := ⟨Try.f169.name, by decide, Try.func169.trans (congrArg some (by kernel_rfl))⟩,
  f25 := ⟨Try.f170.name, by decide, Try.func170.trans (congrArg some (by kernel_rfl))⟩,
  f26 := ⟨Try.f171.name, by decide, Try.func171.trans (congrArg some (by kernel_rfl))⟩,
  f27 := ⟨Try.f172.name, by decide, Try.func172.trans (congrArg some (by kernel_rfl))⟩,
  f28 := Try.func163.trans (congrArg some (by kernel_rfl)),
  f29 := Try.func164.trans (congrArg some (by kernel_rfl)),
  f46 := ⟨Try.f178.name, by decide, Try.func178.trans (congrArg some (by kernel_rfl))⟩,
  f47 := Try.func174.trans (congrArg some (by kernel_rfl)),
  f48 := Try.func175.trans (congrArg some (by kernel_rfl)),
  f49 := ⟨Try.f179.name, by decide, Try.func179.trans (congrArg some (by kernel_rfl))⟩,
  f50 := ⟨Try.f180.name, by decide, Try.func180.trans (congrArg some (by kernel_rfl))⟩,
  f57 := ⟨Try.f182.name, by decide, Try.func182.trans (congrArg some (by kernel_rfl))⟩,
  t0 := Try.underlying0,
  a0 := Try.isAgg0,
  z0 := Try.sizeOf0,
  v0 := Try.zeroValue0,
  t3 := Try.underlying3,
  a3 := Try.isAgg3,
  z3 := Try.sizeOf3,
  v3 := Try.zeroValue3,
  t4 := Try.underlying4,
  a4 := Try.isAgg4,
  z4 := Try.sizeOf4,
  v4 := Try.zeroValue4,
  t5 := Try.underlying5,
  a5 := Try.isAgg5,
  z5 := Try.sizeOf5,
  v5 := Try.zeroValue5,
  t9 := Try.underlying9,
  a9 := Try.isAgg9,
  z9 := Try.sizeOf9,
  v9 := Try.zeroValue9,
  t22 := Try.underlying40,
  a22 := Try.isAgg40,
  z22 := Try.sizeOf40,
  v22 := Try.zeroValue40,
  t25 := Try.underlying149,
  a25 := Try.isAgg149,
  z25 := Try.sizeOf149,
  v25 := Try.zeroValue149,
  t39 := Try.underlying161,
  a39 := Try.isAgg161,
  z39 := Try.sizeOf161,
  v39 := Try.zeroValue161,
  t45 := Try.underlying167,
  a45 := Try.isAgg167,
  z45 := Try.sizeOf167,
  v45 := Try.zeroValue167,
  t46 := Try.underlying168,
  a46 := Try.isAgg168,
  z46 := Try.sizeOf168,
  v46 := Try.zeroValue168,
  t50 := Try.underlying172,
  a50 := Try.isAgg172,
  z50 := Try.sizeOf172,
  v50 := Try.zeroValue172,
  t53 := Try.underlying175,
  a53 := Try.isAgg175,
  z53 := Try.sizeOf175,
  v53 := Try.zeroValue175,
  t55 := Try.underlying177,
  a55 := Try.isAgg177,
  z55 := Try.sizeOf177,
  v55 := Try.zeroValue177,
  t66 := Try.underlying183,
  a66 := Try.isAgg183,
  z66 := Try.sizeOf183,
  v66 := Try.zeroValue183,
  t70 := Try.underlying187,
  a70 := Try.isAgg187,
  z70 := Try.sizeOf187,
  v70 := Try.zeroValue187,
  t76 := Try.underlying191,
  a76 := Try.isAgg191,
  z76 := Try.sizeOf191,
  v76 := Try.zeroValue191,
  t77 := Try.underlying192,
  a77 := Try.isAgg192,
  z77 := Try.sizeOf192,
  v77 := Try.zeroValue192 }
theorem sortQTerm_t24 : sortQTerm_ren.t 24 = 104 := by kernel_rfl
theorem sortQTerm_f6 : sortQTerm_ren.f 6 = 133 := by kernel_rfl
theorem sortQTerm_agg : ∀ w, (isAgg (sortQTerm_ren.t 24)).run Try.prog w = .ok true w := fun w => by rw [sortQTerm_t24]; exact Try.isAgg104 w
theorem sortQTerm_size : ∀ w, (Go.sizeOf (sortQTerm_ren.t 24)).run Try.prog w = .ok 3 w := fun w => by rw [sortQTerm_t24]; exact Try.sizeOf104 w
end Go.Proofs.Ytocknokodgnlbaa.Ab
namespace Go.Proofs.Ytocknokodgnlbaa.Ab
open Go
set_option linter.unusedSimpArgs false
set_option linter.unusedVariables false
set_option linter.unusedSectionVars false

/-- What a function that sorts promises over worlds. -/
def SfOk (P : Program) (sf k : Nat) : Prop :=
  (∀ (p : Option Addr) (cap : Nat) (fv : Value) (w : World), Calls P sf #[.slice p 0 cap, fv] w fun e w' => e = .returned (.tuple #[]) ∧ w' = w) ∧
  ∀ (α : Type) [Inhabited α] (enc : α → List Value) (hk : ∀ x, (enc x).length = k) (h1 : ∀ x, ∀ v ∈ enc x, v.oneCell' = true) (cf : α → α → Int) (hO : Go.Sort.SWO (ltOf cf)) (g : Nat) (blk off cap : Nat) (d : Array α) (w : World)
    (eg : ∀ args w, (callFunc g args).run P w = .ok (.enter g args) w) (hcmp : CmpLays P g #[] enc k cf blk off d.size w) (hH : Go.Sort.HoldsK enc k w blk off d) (hblk : blk < w.heap.size) (hsz : d.size < 4611686018427387904),
    Calls P sf #[.slice (some ⟨blk, off, none⟩) d.size cap, .func (.func g) #[] #[]] w fun e w' =>
      e = .returned (.tuple #[]) ∧ ∃ d' n os, Go.Sort.PermIn 0 d.size d d' ∧ Go.Sort.SortedIn (ltOf cf) 0 d.size d' ∧ w' = sortWorldK enc k w blk off n d' os

/-! ### Elements -/
structure El (τ : Type) where
  us : List Value
  fp : List Nat
  t : τ
section
variable {τ : Type} {f : τ → List D} {k : Nat} {w : World} {ok : Nat → Prop}
theorem rows_els (hk : ∀ t, (f t).length = k) : ∀ (ts : List τ) (us : List Value) (fp : List Nat), OwVs w ok (rows f ts) us fp →
    ∃ els : List (El τ), els.map (·.t) = ts ∧ us = els.flatMap (·.us) ∧ fp = els.flatMap (·.fp) ∧ ∀ x ∈ els, OwVs w ok (f x.t) x.us x.fp
  | [], us, fp, h => by
    simp only [rows, OwVs] at h
    exact ⟨[], rfl, by simp [h.1], by simp [h.2], by simp⟩
  | t :: ts, us, fp, h => by
    have hl := OwVs_length h
    obtain ⟨f1, f2, e, h1, h2⟩ := OwVs_split k h
    have e1 : (rows f (t :: ts)).take k = f t := by
      simp only [rows]
      rw [List.take_append_of_le_length (by rw [hk]; exact Nat.le_refl _), List.take_of_length_le (by rw [hk]; exact Nat.le_refl _)]
    have e2 : (rows f (t :: ts)).drop k = rows f ts := by
      simp only [rows]
      rw [← hk t, List.drop_left]
    rw [e1] at h1
    rw [e2] at h2
    obtain ⟨els, g1, g2, g3, g4⟩ := rows_els hk ts _ _ h2
    refine ⟨⟨us.take k, f1, t⟩ :: els, by simp [g1], ?_, ?_, fun x hx => ?_⟩
    · simp only [List.flatMap_cons]
      rw [← g2, List.take_append_drop]
    · simp only [List.flatMap_cons]
      rw [← g3, e]
    · rcases List.mem_cons.1 hx with rfl | hx
      · exact h1
      · exact g4 x hx
theorem els_rows : ∀ (els : List (El τ)), (∀ x ∈ els, OwVs w ok (f x.t) x.us x.fp) → OwVs w ok (rows f (els.map (·.t))) (els.flatMap (·.us)) (els.flatMap (·.fp))
  | [], _ => by simp [rows, OwVs]
  | x :: els, h => by
    simp only [List.map_cons, rows, List.flatMap_cons]
    exact OwVs_append (h x (by simp)) (els_rows els fun y hy => h y (by simp [hy]))
end
theorem flat_get {α β : Type} {g : α → List β} {k : Nat} (hk : ∀ x, (g x).length = k) : ∀ (l : List α) (j : Nat) (h : j / k < l.length) (h0 : 0 < k), (l.flatMap g)[j]? = (g (l[j / k]'h))[j % k]?
  | [], j, h, _ => by simp at h
  | x :: l, j, h, h0 => by
    simp only [List.flatMap_cons]
    rcases Nat.lt_or_ge j k with hj | hj
    · rw [List.getElem?_append_left (by rw [hk]; exact hj)]
      simp only [Nat.div_eq_of_lt hj, Nat.mod_eq_of_lt hj, List.getElem_cons_zero]
    · rw [List.getElem?_append_right (by rw [hk]; exact hj), hk]
      obtain ⟨m, rfl⟩ : ∃ m, j = m + k := ⟨j - k, by omega⟩
      simp only [Nat.add_sub_cancel, Nat.add_div_right _ h0, Nat.add_mod_right, Nat.succ_eq_add_one, List.getElem_cons_succ]
      exact flat_get hk l m (by rw [Nat.add_div_right _ h0] at h; simpa using h) h0
theorem flat_len {α β : Type} {g : α → List β} {k : Nat} (hk : ∀ x, (g x).length = k) : ∀ l : List α, (l.flatMap g).length = l.length * k
  | [] => by simp
  | x :: l => by simp only [List.flatMap_cons, List.length_append, hk, flat_len hk l, List.length_cons, Nat.add_mul, Nat.one_mul]; omega
theorem flatK_get {α : Type} [Inhabited α] {enc : α → List Value} {k : Nat} (hk : ∀ x, (enc x).length = k) (d : Array α) (j : Nat) (h : j < d.size * k) : (d.toList.flatMap enc)[j]? = some ((Go.Sort.flatK enc k d)[j]!) := by
  have h0 : 0 < k := by
    rcases Nat.eq_zero_or_pos k with e | e
    · subst e; simp at h
    · exact e
  have hd : j / k < d.size := (Nat.div_lt_iff_lt_mul h0).2 h
  have hm : j % k < k := Nat.mod_lt _ h0
  rw [flat_get hk d.toList j (by simpa using hd) h0, Go.Sort.get_flatK _ _ _ _ h]
  rw [getElem!_pos d (j / k) hd, List.getElem?_eq_getElem (by rw [hk]; exact hm), getElem!_pos _ (j % k) (by rw [hk]; exact hm)]
  simp

theorem done1 {w w' : World} {ok : Nat → Prop} {ρ : Rn → Value} {fp0 : List Nat} {d : D} {fp' : List Nat} (hns : noSh d) (ho : Ow w' ok d (ρ (0, 0)) fp') (hnd : fp'.Nodup)
    (hb : ∀ b ∈ fp', ¬ ok b ∧ (b ∈ fp0 ∨ w.heap.size ≤ b) ∧ b < w'.heap.size) (hf : Keeps w fp0 w') (hok : ∀ b, ok b → b < w.heap.size) :
    Done w ok ρ fp0 [(0, 0)] true [d] [] (.tuple #[]) w' ok (fun _ => fp') [] := by
  have key : ∀ {r : Rn} {e : D}, ofR ([((0, 0) : Rn)].zip [d]) r = some e → r = (0, 0) ∧ e = d := fun {r e} h => by
    simp only [List.zip_cons_cons, List.zip_nil_left, ofR] at h
    split at h
    · rename_i e2
      simp only [Option.some.injEq] at h
      exact ⟨by first | exact e2 | exact e2.symm, h.symm⟩
    · simp at h
  refine ⟨rfl, fun r e he => ?_, fun r r' e e' hne he he' => ?_, ⟨[], rfl, by simp [OwRs]⟩, List.nodup_nil, by simp, by simp, hf, fun _ h => h, fun b h => ⟨.inl h, Nat.lt_of_lt_of_le (hok b h) hf.size⟩⟩
  · obtain ⟨rfl, rfl⟩ := key he
    exact ⟨by simpa using Ow_nosh _ _ _ hns ho, hnd, hb⟩
  · exact absurd ((key he).1.trans (key he').1.symm) hne

/-! ### A comparison in the midst of a sort -/
theorem ShV_d {w : World} {ok : Nat → Prop} {σ : St} {ρ : Rn → Value} : ∀ {ds : List D} {us : List Value}, ShV w ok ds us → FRL w ok σ ρ (ds.map .d) us
  | [], us, h => by simpa [ShV, FRL] using h
  | d :: ds, us, h => by
    simp only [ShV] at h
    obtain ⟨u, vs, rfl, h1, h2⟩ := h
    simp only [List.map_cons, FRL]
    exact ⟨u, vs, rfl, by simpa [FR] using h1, ShV_d h2⟩
theorem ShV_share {w : World} {ok ok' : Nat → Prop} (hk : ∀ b, ok b → ok' b) : ∀ {ds : List D} {us : List Value} {fp : List Nat}, OwVs w ok ds us fp → (∀ b ∈ fp, ok' b) → ShV w ok' (shareL ds) us
  | [], us, fp, h, _ => by
    simp only [OwVs] at h
    simp [shareL, ShV, h.1]
  | d :: ds, us, fp, h, hf => by
    simp only [OwVs] at h
    obtain ⟨u, vs, f1, f2, rfl, rfl, h1, h2⟩ := h
    simp only [shareL, ShV]
    exact ⟨u, vs, rfl, Sh_share hk d u f1 (fun b hb => hf b (by simp [hb])) h1, ShV_share hk h2 fun b hb => hf b (by simp [hb])⟩
theorem OwVs_world {w w' : World} {ok : Nat → Prop} (hk : ∀ b, ok b → w'.heap[b]? = w.heap[b]?) : ∀ {ds : List D} {us : List Value} {fp : List Nat}, OwVs w ok ds us fp → (∀ b ∈ fp, w'.heap[b]? = w.heap[b]?) → OwVs w' ok ds us fp
  | [], us, fp, h, _ => by simpa only [OwVs] using h
  | d :: ds, us, fp, h, hf => by
    simp only [OwVs] at h ⊢
    obtain ⟨u, vs, f1, f2, rfl, rfl, h1, h2⟩ := h
    exact ⟨u, vs, f1, f2, rfl, rfl, Ow_mono (fun b hb => ⟨hb, hk b hb⟩) _ _ _ (fun b hb => hf b (by simp [hb])) h1, OwVs_world hk h2 fun b hb => hf b (by simp [hb])⟩
theorem grow_of_keeps {w w' : World} (h : Keeps w [] w') : ∃ q os', w' = Go.Sort.grow (w.drewN q) os' := by
  refine ⟨w'.drawn - w.drawn, w'.heap.extract w.heap.size w'.heap.size, ?_⟩
  have hh : w'.heap = w.heap ++ w'.heap.extract w.heap.size w'.heap.size := by
    apply Array.ext_getElem?
    intro i
    rw [Array.getElem?_append]
    split
    · rename_i hi
      exact h.old i hi (by simp)
    · rename_i hi
      rw [Array.getElem?_extract]
      have hs := h.size
      rcases Nat.lt_or_ge i w'.heap.size with h1 | h1
      · rw [if_pos (by omega), show w.heap.size + (i - w.heap.size) = i by omega]
      · rw [if_neg (by omega), Array.getElem?_eq_none (by omega)]
  have h1 := h.os
  have h2 := h.out
  have h3 := h.tape
  have h4 := h.drawn
  cases w' with
  | mk heap tape drawn os output =>
    cases w with
    | mk heap2 tape2 drawn2 os2 output2 =>
      simp only at h1 h2 h3 h4 hh
      subst h1; subst h2; subst h3
      simp only [Go.Sort.grow, World.drewN]
      congr 1
      omega
theorem cmp_call {P : Program} {g : Nat} {cx cy : List D} {c : Int} (h : ACalls P g [.ag ((shareL cx).map .d), .ag ((shareL cy).map .d)] [] true (fun outs res => outs = [] ∧ res = [.one (D.int c)])) {w : World} {ok : Nat → Prop} {ux uy : List Value} {fx fy : List Nat}
    (hx : OwVs w ok cx ux fx) (hy : OwVs w ok cy uy fy) (hfx : ∀ b ∈ fx, b < w.heap.size) (hfy : ∀ b ∈ fy, b < w.heap.size) (hok : ∀ b, ok b → b < w.heap.size) :
    Calls P g (#[.agg ux.toArray, .agg uy.toArray] ++ #[]) w fun e w' => e = .returned (.int .i64 c) ∧ ∃ q os', w' = Go.Sort.grow (w.drewN q) os' := by
  have h1 := ShV_share (ok' := fun b => ok b ∨ b ∈ fx ∨ b ∈ fy) (fun b hb => .inl hb) hx (fun b hb => .inr (.inl hb))
  have h2 := ShV_share (ok' := fun b => ok b ∨ b ∈ fx ∨ b ∈ fy) (fun b hb => .inl hb) hy (fun b hb => .inr (.inr hb))
  have := h.2 w [] (fun b => ok b ∨ b ∈ fx ∨ b ∈ fy) [.agg ux.toArray, .agg uy.toArray] (fun _ => undef) (fun _ => []) rfl ⟨fun r d hd => by simp [ofR] at hd, fun r r' d d' _ hd => by simp [ofR] at hd, fun t => by
    match t with
    | 0 =>
      simp only [argEnv, List.getD_cons_zero, FR]
      exact ⟨_, rfl, ShV_d (by simpa using h1)⟩
    | 1 =>
      simp only [argEnv, List.getD_cons_succ, List.getD_cons_zero, FR]
      exact ⟨_, rfl, ShV_d (by simpa using h2)⟩
    | t + 2 => simp [argEnv, FR], fun b hb => by rcases hb with hb | hb | hb; exact hok b hb; exact hfx b hb; exact hfy b hb, Keeps.refl w []⟩
  have e0 : (#[.agg ux.toArray, .agg uy.toArray] ++ #[] : Array Value) = [Value.agg ux.toArray, Value.agg uy.toArray].toArray := by simp
  rw [e0]
  refine Calls.mono this ?_
  rintro e w' ⟨v, outs, res, ok', φ', fr, rfl, ⟨rfl, rfl⟩, hd⟩
  obtain ⟨vs, e1, e2⟩ := hd.res
  simp only [OwRs, OwRV, if_true] at e2
  obtain ⟨u, us, f1, f2, rfl, _, k1, k2, _⟩ := e2
  subst k2
  simp only [Ow] at k1
  refine ⟨?_, grow_of_keeps hd.frm⟩
  rw [e1, k1.2]
  rfl

/-! ### The sort -/
section
variable {α : Type} [Inhabited α] {enc : α → List Value} {k : Nat} {w : World} {b o : Nat}
theorem srt_other (m : Nat) (d : Array α) (os : Array Obj) {c : Nat} (hc : c ≠ b) (hs : c < w.heap.size) : (sortWorldK enc k w b o m d os).heap[c]? = w.heap[c]? := by
  unfold sortWorldK
  rw [Go.Sort.heap_grow_old _ _ (by simpa [Go.Sort.putRowK] using hs)]
  simp [Go.Sort.putRowK, Go.Sort.putRow, Go.Sort.mapBlock, Array.getElem?_modify, Ne.symm hc]
theorem srt_blk (m : Nat) (d : Array α) (os : Array Obj) {arr : Array Value} {T : Nat} {fr : Nat × Nat} (h : w.heap[b]? = some (.cells arr T fr)) : ∃ arr', (sortWorldK enc k w b o m d os).heap[b]? = some (.cells arr' T fr) ∧ arr'.size = arr.size := by
  have hb : b < w.heap.size := by
    rcases Nat.lt_or_ge b w.heap.size with hh | hh
    · exact hh
    · rw [Array.getElem?_eq_none (by omega)] at h; simp at h
  refine ⟨Go.Sort.putCells id o (Go.Sort.flatK enc k d) arr, ?_, by simp [Go.Sort.putCells]⟩
  unfold sortWorldK
  rw [Go.Sort.heap_grow_old _ _ (by simpa [Go.Sort.putRowK] using hb)]
  simp [Go.Sort.putRowK, Go.Sort.putRow, Go.Sort.mapBlock, Array.getElem?_modify, h, Go.Sort.onCells]
theorem srt_keeps (m : Nat) (d : Array α) (os : Array Obj) {fp0 : List Nat} (hb : b ∈ fp0) : Keeps w fp0 (sortWorldK enc k w b o m d os) := by
  refine ⟨rfl, rfl, rfl, ?_, ?_, fun c hc hn => srt_other m d os (fun e => hn (e ▸ hb)) hc⟩
  · show w.drawn ≤ w.drawn + m
    omega
  · simp [sortWorldK, Go.Sort.putRowK]
end
theorem permIn_all {α : Type} [Inhabited α] {d d' : Array α} (h : Go.Sort.PermIn 0 d.size d d') : d'.toList.Perm d.toList := by
  obtain ⟨h1, _, h3⟩ := h
  have e1 : d'.extract 0 d.size = d' := by rw [← h1]; exact Array.extract_size
  rwa [e1, Array.extract_size] at h3
theorem sortedIn_all {α : Type} [Inhabited α] {lt : α → α → Bool} {d d' : Array α} (hs : d'.size = d.size) (h : Go.Sort.SortedIn lt 0 d.size d') : d'.toList.Pairwise fun a b => lt b a = false := by
  rw [List.pairwise_iff_getElem]
  intro i j hi hj hij
  simp only [Array.length_toList] at hi hj
  have := h i j (Nat.zero_le _) hij (by omega)
  rwa [getElem!_pos d' i hi, getElem!_pos d' j hj] at this

theorem ACalls.mono {P : Program} {f : Nat} {args : List FV} {ros : List (Rn × D)} {pure : Bool} {Q Q' : List D → List RV → Prop} (h : ACalls P f args ros pure Q) (hq : ∀ outs res, Q outs res → Q' outs res) : ACalls P f args ros pure Q' :=
  ⟨h.1, fun w fp0 ok vs ρ φ hl hR => (h.2 w fp0 ok vs ρ φ hl hR).mono fun e w' ⟨v, outs, res, ok', φ', fr, he, hQ, hD⟩ => ⟨v, outs, res, ok', φ', fr, he, hq _ _ hQ, hD⟩⟩

/-- **The sort, over a comparison's contract.** -/
theorem sort_calls {P : Program} {sf k g : Nat} (hcl : Callable P sf) (hS : SfOk P sf k) {τ : Type} {f : τ → List D} (hk : ∀ t, (f t).length = k) (hk0 : 0 < k) (hns : ∀ t, noShL (f t)) (hso : ∀ ts, solidL (rows f ts)) (cf : τ → τ → Int)
    (hO : Go.Sort.SWO (ltOf cf)) (ts : List τ) (hlen : ts.length < 4611686018427387904)
    (hcmp : ∀ x ∈ ts, ∀ y ∈ ts, ACalls P g [.ag ((shareL (f x)).map .d), .ag ((shareL (f y)).map .d)] [] true (fun outs res => outs = [] ∧ res = [.one (D.int (cf x y))])) :
    ACalls P sf [.al (0, 0) [] 0 ts.length, .d (.fn g [])] [((0, 0), .ow k ts.length (rows f ts))] true (fun outs res => ∃ r : List τ, r.Perm ts ∧ (r.Pairwise fun a b => ¬ cf b a < 0) ∧ outs = [.ow k ts.length (rows f r)] ∧ res = []) := by
  refine ⟨hcl, fun w fp0 ok vs ρ φ hl hR => ?_⟩
  match vs, hl with
  | [u, fv], _ =>
  have h0 := hR.env 0
  have h1 := hR.env 1
  simp only [argEnv, List.getD_cons_zero, List.getD_cons_succ, FR, Sh] at h0 h1
  obtain ⟨k1, N, cs, hv, ho, hh, hN, hsub⟩ := h0
  simp only [hdr, Option.some.injEq] at hh
  subst hh
  obtain ⟨lb, rfl, hlb⟩ := h1
  simp only [ShV] at hlb
  have hlb2 : lb = #[] := by
    apply Array.ext'
    simpa using hlb
  subst hlb2
  have hown := hR.own (0, 0) (.ow k ts.length (rows f ts)) (by simp [ofR])
  obtain ⟨how, hnd, hbl⟩ := hown
  have hsub2 : ∃ a M c, ρ (0, 0) = .slice a M c ∧ u = .slice a ts.length c := by
    rcases hsub with ⟨_, a, M, c, e1, e2⟩ | ⟨h, _⟩
    · exact ⟨a, M, c, e1, e2⟩
    · omega
  obtain ⟨a, M, c, e1, rfl⟩ := hsub2
  simp only [Ow] at how
  have hns2 : ∀ r : List τ, noSh (.ow k ts.length (rows f r)) := fun r => by
    simp only [noSh]
    exact rows_noSh hns r
  rcases how with ⟨hn0, hcs, hfp, a', e2⟩ | ⟨b, o, c', arr, T, fp', e2, hfp, hheap, hcap, harr, hlc, hOL⟩
  · -- nothing to sort
    have hts : ts = [] := List.eq_nil_of_length_eq_zero hn0
    subst hts
    rw [e1] at e2
    refine Calls.mono (hS.1 a c (.func (.func g) #[] #[]) w) ?_
    rintro e w' ⟨rfl, rfl⟩
    refine ⟨_, [.ow k 0 (rows f [])], [], ok, fun _ => [], [], rfl, ⟨[], List.Perm.nil, List.Pairwise.nil, rfl, rfl⟩, ?_⟩
    refine done1 (hns2 []) ?_ List.nodup_nil (by simp) (Keeps.refl _ fp0) hR.okb
    simp only [Ow, rows]
    exact .inl ⟨trivial, trivial, trivial, a', by rw [e1]; exact e2⟩
  · obtain ⟨us, hul, hus, hov⟩ := OwL_read hOL
    obtain ⟨els, het, heu, hef, heo⟩ := rows_els hk ts us fp' hov
    have hnl : els.length = ts.length := by rw [← het, List.length_map]
    rw [e1] at e2
    have e3 := Value.slice.inj e2
    obtain ⟨rfl, rfl, rfl⟩ := e3
    have hbm := hbl b (by rw [hfp]; simp)
    have hb0 : b ∈ fp0 := by
      rcases hbm.2.1 with h | h
      · exact h
      · omega
    rcases Nat.eq_zero_or_pos ts.length with hz | hpos
    · have hts : ts = [] := List.eq_nil_of_length_eq_zero hz
      subst hts
      refine Calls.mono (hS.1 (some ⟨b, o, none⟩) c (.func (.func g) #[] #[]) w) ?_
      rintro e w' ⟨rfl, rfl⟩
      refine ⟨_, [.ow k 0 (rows f [])], [], ok, fun _ => φ (0, 0), [], rfl, ⟨[], List.Perm.nil, List.Pairwise.nil, rfl, rfl⟩, ?_⟩
      refine done1 (hns2 []) ?_ hnd hbl (Keeps.refl _ fp0) hR.okb
      simp only [Ow]
      exact .inr ⟨b, o, c, arr, T, fp', by rw [e1]; rfl, hfp, hheap, hcap, harr, hlc, hOL⟩
    · have hinh : Inhabited (Fin els.length) := ⟨⟨0, by omega⟩⟩
      let enc : Fin els.length → List Value := fun i => els[i].us
      have henc : ∀ i, (enc i).length = k := fun i => by
        have := OwVs_length (heo els[i] (List.getElem_mem i.2))
        show els[i].us.length = k
        rw [this, hk]
      let d : Array (Fin els.length) := Array.ofFn id
      have hds : d.size = ts.length := by simp [d, hnl]
      have hdl : d.toList.flatMap enc = us := by
        rw [heu]
        show (Array.ofFn id).toList.flatMap enc = _
        rw [Array.toList_ofFn]
        conv => rhs; rw [← List.ofFn_getElem (xs := els)]
        simp only [List.flatMap, List.map_ofFn]
        rfl
      have hco : ∀ i : Fin els.length, cf els[i].t els[i].t = cf els[i].t els[i].t := fun _ => rfl
      have hmem : ∀ i : Fin els.length, els[i].t ∈ ts := fun i => by
        have h9 : els[i].t ∈ els.map (·.t) := List.mem_map.2 ⟨_, List.getElem_mem i.2, rfl⟩
        rwa [het] at h9
      have hO2 : Go.Sort.SWO (ltOf fun i j : Fin els.length => cf els[i].t els[j].t) := ⟨fun x => hO.irrefl _, fun x y z => hO.trans _ _ _, fun x y z => hO.ntrans _ _ _⟩
      have hkk : us.length = d.size * k := by rw [hul, hlc, hds, Nat.mul_comm]
      have hH : Go.Sort.HoldsK enc k w b o d := fun j hj => by
        rw [Go.Sort.size_flatK] at hj
        refine ⟨?_, not_frozen hheap⟩
        have := flatK_get henc d j hj
        rw [hdl] at this
        exact hus j _ this
      have hfne : ∀ x ∈ fp', x ≠ b := fun x hx e => by
        subst e
        rw [hfp] at hnd
        exact (List.nodup_cons.1 hnd).1 hx
      have hfb : ∀ x ∈ fp', x < w.heap.size := fun x hx => (hbl x (by rw [hfp]; simp [hx])).2.2
      have hC : CmpLays P g #[] enc k (fun i j : Fin els.length => cf els[i].t els[j].t) b o d.size w := fun m os dk hdk x y => by
        have hw : ∀ i : Fin els.length, OwVs (sortWorldK enc k w b o m dk os) ok (f els[i].t) (enc i) els[i].fp := fun i => by
          have hsub : ∀ q ∈ els[i].fp, q ∈ fp' := fun q hq => by rw [hef]; exact List.mem_flatMap.2 ⟨_, List.getElem_mem i.2, hq⟩
          refine OwVs_world (fun q hq => srt_other m dk os ?_ (hR.okb q hq)) (heo els[i] (List.getElem_mem i.2)) fun q hq => srt_other m dk os (hfne q (hsub q hq)) (hfb q (hsub q hq))
          rintro rfl
          exact hbm.1 hq
        have hgs := size_sortWorldK_c enc k w b o m dk os
        have hfi : ∀ i : Fin els.length, ∀ q ∈ els[i].fp, q < (sortWorldK enc k w b o m dk os).heap.size := fun i q hq => Nat.lt_of_lt_of_le (hfb q (by rw [hef]; exact List.mem_flatMap.2 ⟨_, List.getElem_mem i.2, hq⟩)) hgs
        exact cmp_call (hcmp _ (hmem x) _ (hmem y)) (hw x) (hw y) (hfi x) (hfi y) fun q hq => Nat.lt_of_lt_of_le (hR.okb q hq) hgs
      obtain ⟨fn, cd, hf1, hf2, hf3⟩ := (hcmp _ (hmem ⟨0, by omega⟩) _ (hmem ⟨0, by omega⟩)).1
      have h1c : ∀ x, ∀ v ∈ enc x, v.oneCell' = true := fun x v hv => by
        refine OwVs_solid ?_ (heo els[x] (List.getElem_mem x.2)) v hv
        have := hso [els[x].t]
        simpa [rows] using this
      have hcall := hS.2 (Fin els.length) enc henc h1c (fun i j => cf els[i].t els[j].t) hO2 g b o c d w (enters_of hf1 hf3 hf2) hC hH hbm.2.2 (by omega)
      rw [hds] at hcall
      refine Calls.mono hcall ?_
      rintro e w' ⟨rfl, d', m, os, hp, hsd, rfl⟩
      have hpl := permIn_all (d := d) (by rw [hds]; exact hp)
      have hdd : d.toList = List.finRange els.length := by
        show (Array.ofFn id).toList = _
        rw [Array.toList_ofFn]
        rfl
      have hsz' : d'.size = ts.length := hp.1.trans hds
      let el2 : List (El τ) := d'.toList.map fun i => els[i]
      have hpe : el2.Perm els := by
        have h2 := hpl.map fun i : Fin els.length => els[i]
        refine h2.trans (List.Perm.of_eq ?_)
        show (Array.ofFn id).toList.map _ = els
        rw [Array.toList_ofFn, List.map_ofFn]
        exact List.ofFn_getElem
      refine ⟨_, [.ow k ts.length (rows f (el2.map (·.t)))], [], ok, fun _ => b :: el2.flatMap (·.fp), [], rfl, ⟨el2.map (·.t), by rw [← het]; exact hpe.map _, ?_, rfl, rfl⟩, ?_⟩
      · have := sortedIn_all hp.1 (by rw [hds]; exact hsd)
        rw [List.pairwise_map, List.pairwise_map]
        refine this.imp fun h => ?_
        simpa [ltOf] using h
      · have hpf : (el2.flatMap (·.fp)).Perm fp' := by rw [hef]; exact hpe.flatMap_right _
        obtain ⟨arr', hb', hsa⟩ := srt_blk (enc := enc) (k := k) (o := o) m d' os hheap
        have hgs := size_sortWorldK_c enc k w b o m d' os
        refine done1 (hns2 _) ?_ ?_ ?_ (srt_keeps m d' os hb0) hR.okb
        · simp only [Ow]
          refine .inr ⟨b, o, c, arr', T, el2.flatMap (·.fp), e1, rfl, hb', hcap, by rw [hsa]; exact harr, ?_, ?_⟩
          · rw [rows_length hk, List.length_map, List.length_map, Array.length_toList, hsz']
          · have hov2 : OwVs w ok (rows f (el2.map (·.t))) (el2.flatMap (·.us)) (el2.flatMap (·.fp)) := els_rows el2 fun x hx => heo x (hpe.subset hx)
            have hflat : el2.flatMap (·.us) = d'.toList.flatMap enc := by
              show (d'.toList.map _).flatMap _ = _
              rw [List.flatMap_map]
            refine OwL_lay (fun q hq => srt_other m d' os ?_ (hR.okb q hq)) hov2 (fun j v hj => ?_) fun q hq => srt_other m d' os (hfne q (hpf.subset hq)) (hfb q (hpf.subset hq))
            · rintro rfl
              exact hbm.1 hq
            · have hHs := holdsK_sortWorldK_c enc k w b o d d' m os hH hbm.2.2 hp.1
              have hj2 : j < d'.size * k := by
                rcases Nat.lt_or_ge j (d'.toList.flatMap enc).length with h | h
                · rwa [flat_len henc, Array.length_toList] at h
                · rw [hflat, List.getElem?_eq_none h] at hj; simp at hj
              rw [hflat, flatK_get henc d' j hj2] at hj
              simp only [Option.some.injEq] at hj
              rw [← hj]
              exact (hHs j (by rw [Go.Sort.size_flatK]; exact hj2)).1
        · refine List.nodup_cons.2 ⟨fun h => hfne b (hpf.subset h) rfl, hpf.nodup_iff.2 ?_⟩
          rw [hfp] at hnd
          exact (List.nodup_cons.1 hnd).2
        · intro q hq
          rcases List.mem_cons.1 hq with rfl | hq
          · exact ⟨hbm.1, .inl hb0, Nat.lt_of_lt_of_le hbm.2.2 hgs⟩
          · have := hbl q (by rw [hfp]; simp [hpf.subset hq])
            exact ⟨this.1, this.2.1, Nat.lt_of_lt_of_le this.2.2 hgs⟩
end Go.Proofs.Ytocknokodgnlbaa.Ab
namespace Go.Proofs.Ytocknokodgnlbaa.Ab
open Go
set_option linter.unusedSimpArgs false
set_option linter.unusedVariables false
abbrev QK := List Int × Int
def kq (k : QK) : List Int := pad k.1 ++ [k.2]
theorem kq_inj {a b : QK} {n : Nat} (ha : a.1.length = n) (hb : b.1.length = n) (h : kq a = kq b) : a = b := by
  unfold kq at h
  obtain ⟨h1, h2⟩ := List.append_inj' h rfl
  have := pad_inj (ha.trans hb.symm) h1
  simp only [List.cons.injEq, and_true] at h2
  exact Prod.ext this h2
theorem kq_length {k : QK} (h : k.1.length ≤ 8) : (kq k).length = 9 := by
  unfold kq
  rw [List.length_append, pad_length h]
  rfl
def uq (n : Nat) (x : List Int) : QK := (x.take n, x.getD 8 0)
theorem uq_kq {k : QK} {n : Nat} (h : k.1.length = n) (h8 : n ≤ 8) : uq n (kq k) = k := by
  have hp := pad_length (e := k.1) (by omega)
  unfold uq kq
  rw [List.take_append_of_le_length (by omega), ← h, pad_take, List.getD_eq_getElem?_getD, List.getElem?_append_right (by omega), hp]
  rfl
/-- The map holds what belongs to each key of the sum. -/
structure MapQ (n : Nat) (es : List (List Int × Int)) (l : List (QK × Int)) : Prop where
  nod : (es.map (·.1)).Nodup
  nz : ∀ x ∈ es, x.2 ≠ 0 ∧ ∃ e : QK, e.1.length = n ∧ x.1 = kq e
  val : ∀ e : QK, e.1.length = n → (mget (kq e) es).getD 0 = co e l
theorem MapQ.nil (n : Nat) : MapQ n [] [] := ⟨by simp, by simp, fun e _ => rfl⟩
theorem MapQ.add {n : Nat} {es : List (List Int × Int)} {l : List (QK × Int)} (h : MapQ n es l) {e : QK} (he : e.1.length = n) (c : Int) : MapQ n (madd es (kq e) c) ((e, c) :: l) := by
  have hv := h.val e he
  unfold madd
  split
  · rename_i hz
    refine ⟨mdel_nodup h.nod, fun x hx => h.nz x (mdel_mem hx), fun q hq => ?_⟩
    rw [mget_mdel _ h.nod]
    by_cases e1 : e = q
    · subst e1
      rw [if_pos rfl]
      simp only [co, if_true, Option.getD_none]
      omega
    · rw [if_neg (fun e2 => e1 (kq_inj he hq e2)), h.val q hq]
      simp [co, e1]
  · rename_i hz
    refine ⟨mset_nodup h.nod, fun x hx => ?_, fun q hq => ?_⟩
    · rcases mset_mem hx with rfl | hx
      · exact ⟨hz, e, he, rfl⟩
      · exact h.nz x hx
    · rw [mget_mset]
      by_cases e1 : e = q
      · subst e1
        rw [if_pos rfl]
        simp only [co, if_true, Option.getD_some]
        omega
      · rw [if_neg (fun e2 => e1 (kq_inj he hq e2)), h.val q hq]
        simp [co, e1]
theorem MapQ.len9 {n : Nat} {es : List (List Int × Int)} {l : List (QK × Int)} (h : MapQ n es l) (hn : n ≤ 8) : mapLen 9 es := fun x hx => by
  obtain ⟨_, e, he, e2⟩ := h.nz x hx
  rw [e2]
  exact kq_length (by omega)
/-- What a term of the map comes to. -/
def unpadQ (n : Nat) (x : List Int × Int) : QK × Int := (uq n x.1, x.2)
theorem unpadQ_co {n : Nat} {es : List (List Int × Int)} {l : List (QK × Int)} (h : MapQ n es l) (h8 : n ≤ 8) (hl : ∀ x ∈ l, x.1.1.length = n) : ∀ q, co q (es.map (unpadQ n)) = co q l := by
  intro q
  by_cases hq : q.1.length = n
  · rw [← h.val q hq]
    have : ∀ (es : List (List Int × Int)), (es.map (·.1)).Nodup → (∀ x ∈ es, ∃ e : QK, e.1.length = n ∧ x.1 = kq e) → co q (es.map (unpadQ n)) = (mget (kq q) es).getD 0 := by
      intro es
      induction es with
      | nil => intro _ _; rfl
      | cons x es ih =>
        intro hn hp
        simp only [List.map_cons, List.nodup_cons] at hn
        obtain ⟨e, he, e2⟩ := hp x (by simp)
        have ht : (unpadQ n x).1 = e := by
          simp only [unpadQ]
          rw [e2, uq_kq he h8]
        simp only [List.map_cons, co, mget]
        rw [ih hn.2 fun y hy => hp y (by simp [hy]), ht]
        by_cases e3 : e = q
        · subst e3
          rw [if_pos rfl, if_pos e2, mget_none fun y hy e4 => hn.1 (by rw [e2, ← e4]; exact List.mem_map.2 ⟨y, hy, rfl⟩)]
          simp [unpadQ]
        · rw [if_neg e3, if_neg (fun e4 => e3 (kq_inj he hq (e2.symm.trans e4)))]
          simp
    exact this es h.nod fun x hx => (h.nz x hx).2
  · rw [co_none q l fun x hx e => hq (e ▸ hl x hx), co_none q _ fun x hx e => hq ?_]
    obtain ⟨y, hy, rfl⟩ := List.mem_map.1 hx
    obtain ⟨_, e', he', e2⟩ := h.nz y hy
    rw [← e]
    simp only [unpadQ]
    rw [e2, uq_kq he' h8]
    exact he'
/-- **Terms of the map in descending order are the sum's normal form.** -/
theorem unpadQ_nf {n : Nat} {es : List (List Int × Int)} {l t : List (QK × Int)} (h : MapQ n es l) (h8 : n ≤ 8) (hl : ∀ x ∈ l, x.1.1.length = n) (hp : t.Perm (es.map (unpadQ n))) (hd : Desc qlt t) : t = nf qlt l := by
  refine nf_unique qOrd hd (fun x hx => ?_) fun k => by rw [co_perm k hp, unpadQ_co h h8 hl]
  obtain ⟨y, hy, rfl⟩ := List.mem_map.1 (hp.mem_iff.1 hx)
  exact (h.nz y hy).1
theorem unpadQ_inj {n : Nat} {es : List (List Int × Int)} {l : List (QK × Int)} (h : MapQ n es l) (h8 : n ≤ 8) : ((es.map (unpadQ n)).map (·.1)).Nodup := by
  have : ∀ es : List (List Int × Int), (es.map (·.1)).Nodup → (∀ x ∈ es, ∃ e : QK, e.1.length = n ∧ x.1 = kq e) → ((es.map (unpadQ n)).map (·.1)).Nodup := by
    intro es
    induction es with
    | nil => intro _ _; simp
    | cons x es ih =>
      intro hn hp
      simp only [List.map_cons, List.nodup_cons] at hn ⊢
      refine ⟨fun hm => ?_, ih hn.2 fun y hy => hp y (by simp [hy])⟩
      obtain ⟨y, hy, e⟩ := List.mem_map.1 hm
      obtain ⟨z, hz, rfl⟩ := List.mem_map.1 hy
      obtain ⟨a, ha, e1⟩ := hp x (by simp)
      obtain ⟨b, hb, e2⟩ := hp z (by simp [hz])
      refine hn.1 (List.mem_map.2 ⟨z, hz, ?_⟩)
      simp only [unpadQ] at e
      rw [e1, e2] at e ⊢
      rw [uq_kq ha h8, uq_kq hb h8] at e
      rw [e]
  exact this es h.nod fun x hx => (h.nz x hx).2
theorem unpadQ_nf2 {n : Nat} {es : List (List Int × Int)} {l : List (QK × Int)} (h : MapQ n es l) (h8 : n ≤ 8) (hl : ∀ x ∈ l, x.1.1.length = n) : nf qlt (es.map (unpadQ n)) = nf qlt l :=
  nf_unique qOrd (nf_desc qOrd _) (nf_nz _) fun k => by rw [nf_co, unpadQ_co h h8 hl]
theorem unpadQ_len {n : Nat} {es : List (List Int × Int)} {l : List (QK × Int)} (h : MapQ n es l) (h8 : n ≤ 8) (hl : ∀ x ∈ l, x.1.1.length = n) : (nf qlt l).length = es.length := by
  rw [← unpadQ_nf2 h h8 hl, nf_len_eq _ (unpadQ_inj h h8), List.length_map]
  intro x hx
  obtain ⟨y, hy, rfl⟩ := List.mem_map.1 hx
  exact (h.nz y hy).1
end Go.Proofs.Ytocknokodgnlbaa.Ab
namespace Go.Proofs.Ytocknokodgnlbaa.Ab
open Go
set_option linter.unusedSimpArgs false
set_option linter.unusedVariables false
set_option maxRecDepth 10000
set_option maxHeartbeats 2000000
attribute [local simp] mapKV flatInt tileB
theorem nine {l : List Int} (h : l.length = 9) : ∃ a b c d e f g k m, l = [a, b, c, d, e, f, g, k, m] := by
  match l, h with
  | [a, b, c, d, e, f, g, k, m], _ => exact ⟨a, b, c, d, e, f, g, k, m, rfl⟩
def SortOkQ : Prop := ∀ (ts : List Qtm), (∀ t ∈ ts, t.e.length < 4611686018427387904) → (ts.map qk).Nodup → ts.length < 4611686018427387904 →
  ACalls Try.prog F.slices_SortFunc_impl_QTerm_impl_QTerm [.al (0, 0) [] 0 ts.length, .d (.fn F.impl_qbuilding_done_1 [])] [((0, 0), .ow 3 ts.length (rows qtO ts))] true (fun outs res => ∃ r : List Qtm, r.Perm ts ∧ DescQ r ∧ outs = [.ow 3 ts.length (rows qtO r)] ∧ res = [])
theorem enQ_many {n : Nat} {es : List (List Int × Int)} {l : List (QK × Int)} (h : MapQ n es l) (h8 : n ≤ 8) (hl : ∀ x ∈ l, x.1.1.length = n) (hm : 600 < es.length) : enQ n ((nf qlt l).map qt) = (zeroQ, false) := by
  unfold enQ
  rw [if_neg]
  intro hr
  have := hr.2.1
  simp only [List.length_map] at this
  rw [unpadQ_len h h8 hl] at this
  omega
theorem sh9 (n : Nat) (k0 k1 k2 k3 k4 k5 k6 k7 k8 : Int) : shareL (List.take n [D.v (.int .i64 k0), D.v (.int .i64 k1), D.v (.int .i64 k2), D.v (.int .i64 k3), D.v (.int .i64 k4), D.v (.int .i64 k5), D.v (.int .i64 k6), D.v (.int .i64 k7), D.v (.int .i64 k8)]) = ints (List.take n [k0, k1, k2, k3, k4, k5, k6, k7, k8]) := by
  rw [show ([D.v (.int .i64 k0), D.v (.int .i64 k1), D.v (.int .i64 k2), D.v (.int .i64 k3), D.v (.int .i64 k4), D.v (.int .i64 k5), D.v (.int .i64 k6), D.v (.int .i64 k7), D.v (.int .i64 k8)] : List D) = ints [k0, k1, k2, k3, k4, k5, k6, k7, k8] from rfl, ints_take, shareL_ints]
theorem impl_newQBuilding_calls (v : Int) : ACalls Try.prog F.impl_newQBuilding [.int v] [] true (fun outs res => outs = [] ∧ res = [.one (.bx [D.int v, .mp []])]) := by
  refine ACalls.of_body (C := C.impl_newQBuilding) (n := Try.f79.ntmps) tabT folT Try.func79 rfl (by kernel_rfl) rfl (Nat.le_of_ble_eq_true rfl) (by decide) (by kernel_rfl) (by kernel_rfl) rfl (by simp) (by simp) ?_
  simp only [Try.f79]
  refine wseq ?_
  refine wreg fun K hK => ?_
  simp [C.impl_newQBuilding]
  refine hK _ ?_; clear hK K
  show AWp _ _ _ _ _
  refine wseq ?_
  refine wreg fun K hK => ?_
  simp [C.impl_newQBuilding]
  refine hK _ ?_; clear hK K
  show AWp _ _ _ _ _
  refine wret ?_
  simp [C.impl_newQBuilding]

theorem impl_qbuilding_add_calls (v c : Int) (es : List (List Int × Int)) (k0 k1 k2 k3 k4 k5 k6 k7 k8 : Int) (hes : mapLen 9 es) (hw : -9223372036854775808 ≤ c + (mget [k0, k1, k2, k3, k4, k5, k6, k7, k8] es).getD 0 ∧ c + (mget [k0, k1, k2, k3, k4, k5, k6, k7, k8] es).getD 0 < 9223372036854775808) : ACalls Try.prog F.impl_qbuilding_add [.pt (0, 0) [] 0, .ag [.int k0, .int k1, .int k2, .int k3, .int k4, .int k5, .int k6, .int k7, .int k8], .int c] [((0, 0), .bx [D.int v, .mp es])] true (fun outs res => outs = [.bx [D.int v, .mp (madd es [k0, k1, k2, k3, k4, k5, k6, k7, k8] c)]] ∧ res = []) := by
  refine ACalls.of_body (C := C.impl_qbuilding_add) (n := Try.f80.ntmps) tabT folT Try.func80 rfl (by kernel_rfl) rfl (Nat.le_of_ble_eq_true rfl) (by decide) (by kernel_rfl) (by kernel_rfl) rfl (by simp) (by simp) ?_
  simp only [Try.f80]
  refine wseq ?_
  refine wreg fun K hK => ?_
  simp [C.impl_qbuilding_add]
  refine hK _ ?_; clear hK K
  show AWp _ _ _ _ _
  refine wseq ?_
  refine wdraw (.take 0 (.take 1 (.take 2 (.take 3 (.take 4 (.take 5 (.take 6 (.take 7 (.take 8 (.done)))))))))) ⟨by kernel_rfl, by kernel_rfl⟩ fun K hK => ?_
  simp [C.impl_qbuilding_add, hes]
  rw [wrapOk (x := c + (mget [k0, k1, k2, k3, k4, k5, k6, k7, k8] es).getD 0) hw.1 hw.2]
  refine hK _ ?_; clear hK K
  show AWp _ _ _ _ _
  refine wseq ?_
  refine wreg fun K hK => ?_
  simp [C.impl_qbuilding_add]
  refine hK _ ?_; clear hK K
  show AWp _ _ _ _ _
  refine wcond _ rfl (fun hc1 => ?_) (fun hc1 => ?_)
  · have hz : c + (mget [k0, k1, k2, k3, k4, k5, k6, k7, k8] es).getD 0 = 0 := by simpa using hc1
    refine wdraw (.take 0 (.take 1 (.take 2 (.take 3 (.take 4 (.all [(5, .done)])))))) ⟨by kernel_rfl, by kernel_rfl⟩ fun K hK => ?_
    simp [C.impl_qbuilding_add, hes]
    refine hK _ ?_; clear hK K
    simp [C.impl_qbuilding_add, madd, hz]
  · have hz : ¬ c + (mget [k0, k1, k2, k3, k4, k5, k6, k7, k8] es).getD 0 = 0 := by simpa using hc1
    refine wdraw (.take 0 (.take 1 (.take 2 (.take 3 (.take 4 (.take 5 (.all [(6, .done)]))))))) ⟨by kernel_rfl, by kernel_rfl⟩ fun K hK => ?_
    simp [C.impl_qbuilding_add, hes]
    refine hK _ ?_; clear hK K
    simp [C.impl_qbuilding_add, madd, hz]

theorem impl_qbuilding_done_1_calls (x y : Qtm) (hx : x.e.length < 4611686018427387904) (hy : y.e.length < 4611686018427387904) : ACalls Try.prog F.impl_qbuilding_done_1 [aQT x, aQT y] [] true (fun outs res => outs = [] ∧ res = [.one (D.int (cmpQ x.e x.h y.e y.h))]) := by
  refine ACalls.of_body (C := C.impl_qbuilding_done_1) (n := Try.f134.ntmps) tabT folT Try.func134 rfl (by kernel_rfl) rfl (Nat.le_of_ble_eq_true rfl) (by decide) (by kernel_rfl) (by kernel_rfl) rfl (by simp) (by simp) ?_
  simp only [Try.f134]
  refine wseq ?_
  refine wreg fun K hK => ?_
  simp [C.impl_qbuilding_done_1]
  refine hK _ ?_; clear hK K
  show AWp _ _ _ _ _
  refine wseq ?_
  refine wregI ([0, 1, 2, 3, 4, 5, 6, 7, 8] ++ ([9])) rfl fun K hK => ?_
  refine opsI_seg fun L hL => ?_
  simp [C.impl_qbuilding_done_1]
  refine wcall1 (impl_descending_calls x.e x.h y.e y.h hy) (by simp) (by simp) ?_
  simp [C.impl_qbuilding_done_1]
  refine hL _ ?_; clear hL L
  refine opsI_end fun L hL => ?_
  simp [C.impl_qbuilding_done_1]
  refine hL _ ?_; clear hL L
  simp [C.impl_qbuilding_done_1]
  refine hK _ ?_; clear hK K
  show AWp _ _ _ _ _
  refine wret ?_
  simp [C.impl_qbuilding_done_1]

theorem impl_qbuilding_done_calls (hSort : SortOkQ) (n : Nat) (es : List (List Int × Int)) (l : List (QK × Int)) (hM : MapQ n es l) (hl : ∀ x ∈ l, x.1.1.length = n) (h1 : 1 ≤ n) (h8 : n ≤ 8) (hL : l.length ≤ 1000000) : ACalls Try.prog F.impl_qbuilding_done [.pt (0, 0) [] 0] [((0, 0), .bx [D.int n, .mp es])] true (fun outs res => outs = [.bx [D.int n, .mp es]] ∧ WkRs res [.ag (qO (enQ n ((nf qlt l).map qt)).1), .one (D.bool (enQ n ((nf qlt l).map qt)).2)]) := by
  refine ACalls.of_body (C := C.impl_qbuilding_done) (n := Try.f82.ntmps) tabT folT Try.func82 rfl (by kernel_rfl) rfl (Nat.le_of_ble_eq_true rfl) (by decide) (by kernel_rfl) (by kernel_rfl) rfl (by simp) (by simp) ?_
  simp only [Try.f82]
  refine wseq ?_
  refine wreg fun K hK => ?_
  simp [C.impl_qbuilding_done]
  refine hK _ ?_; clear hK K
  show AWp _ _ _ _ _
  refine wseq ?_
  refine wseq ?_
  refine wreg fun K hK => ?_
  simp [C.impl_qbuilding_done]
  refine hK _ ?_; clear hK K
  show AWp _ _ _ _ _
  refine wcond _ rfl (fun hc1 => ?_) (fun hc1 => ?_)
  · have hm := enQ_many hM h8 hl (by have := d_t hc1; omega)
    refine wseq ?_
    refine wreg fun K hK => ?_
    simp [C.impl_qbuilding_done]
    refine hK _ ?_; clear hK K
    show AWp _ _ _ _ _
    refine wret ?_
    simp [C.impl_qbuilding_done, hm, qO, zeroQ, rows]
  · have h600 : es.length ≤ 600 := by have := d_f hc1; omega
    refine wskip ?_
    show AWp _ _ _ _ _
    refine wseq ?_
    refine wreg fun K hK => ?_
    simp [C.impl_qbuilding_done]
    refine hK _ ?_; clear hK K
    show AWp _ _ _ _ _
    refine wseq ?_
    refine wseq ?_
    refine wreg fun K hK => ?_
    simp [C.impl_qbuilding_done]
    refine hK _ ?_; clear hK K
    show AWp _ _ _ _ _
    refine wblock ?_
    refine wloopW (fun x : List Qtm × List (List Int × Int) × Option (List Int × Int) => ⟨ofL [(0, .pt (0, 0) [] 0), (2, .pt (2, 0) [] 0), (4, .pt (4, 0) [] 0), (23, .it (23, 0) (0, 0) [1] x.2.1 x.2.2), (1000, .pt (0, 0) [] 0)], ofRO [((0, 0), some (.bx [D.int n, .mp es])), ((2, 0), some (.bx [D.int 0, .v (.slice none 0 0)])), ((4, 0), some (.bx [D.int n, .ow 3 x.1.length (rows qtO x.1)])), ((23, 0), some .itr)]⟩) (fun x => (x.1.map qp ++ x.2.1.map (unpadQ n)).Perm (es.map (unpadQ n)) ∧ ∀ y ∈ x.2.1, y ∈ es) (fun x => x.2.1.length) ([], es, none) [.cell (4, 0) [] 1 3] (by simp [C.impl_qbuilding_done, rows]; funext q; by_cases e4 : q = (4, 0); (subst e4; rfl); by_cases e9 : q = (9999, 0); (subst e9; rfl); simp [ofRO, e4, e9, Ne.symm e4]) ⟨by simp, fun y hy => hy⟩ ?_
    intro x1 hx1 R1 hR1
    obtain ⟨q, rest, cur⟩ := x1
    obtain ⟨hq, hin⟩ := hx1
    dsimp only at hq hin ⊢
    refine wseq ?_
    refine wreg fun K hK => ?_
    simp [C.impl_qbuilding_done]
    refine ⟨fun hrest => ?_, fun i xk xc hx => ?_⟩
    · refine hK _ ?_; clear hK K
      show AWp _ _ _ _ _
      refine wseq ?_
      refine wcond _ rfl (fun hc2 => ?_) (fun hc2 => ?_)
      · simp at hc2
      · subst hrest
        have hq2 : (q.map qp).Perm (es.map (unpadQ n)) := by simpa using hq
        have hqe : ∀ t ∈ q, t.e.length = n := fun t ht => by
          have h3 := hq2.subset (List.mem_map.2 ⟨t, ht, rfl⟩)
          obtain ⟨y, hy, e⟩ := List.mem_map.1 h3
          have e2 : t.e = y.1.take n := by
            have := congrArg (fun z : QK × Int => z.1.1) e
            simpa [qp, qk, unpadQ, uq] using this.symm
          rw [e2, List.length_take, hM.len9 h8 y hy]
          omega
        have hqn : (q.map qk).Nodup := by
          have h3 := (hq2.map (·.1)).nodup_iff.2 (unpadQ_inj hM h8)
          rw [List.map_map] at h3
          exact h3
        have hql : q.length = es.length := by simpa using hq2.length_eq
        refine wexit ?_
        show AWp _ _ _ _ _
        refine wseq ?_
        refine wregI ([0, 1, 2] ++ ([])) rfl fun K hK => ?_
        refine opsI_seg fun L hL => ?_
        simp [C.impl_qbuilding_done]
        refine wcall (hSort q (fun t ht => by have := hqe t ht; omega) hqn (by omega)) (by simp) (by simp) (by simp) ?_
        rintro outs res ⟨r, hr, hd, rfl, rfl⟩
        simp [C.impl_qbuilding_done]
        refine hL _ ?_; clear hL L
        refine opsI_end fun L hL => ?_
        simp only [AOpsI]
        refine hL _ ?_; clear hL L
        simp [C.impl_qbuilding_done]
        refine hK _ ?_; clear hK K
        show AWp _ _ _ _ _
        refine wseq ?_
        refine wseq ?_
        have hrl : r.length = q.length := hr.length_eq
        have hrn : r.map qp = nf qlt l := unpadQ_nf hM h8 hl ((hr.map qp).trans hq2) (by
          unfold Desc
          rw [List.pairwise_map]
          exact hd)
        have hrt : (nf qlt l).map qt = r := by
          rw [← hrn, map_qt]
        refine wregI ([0, 1] ++ ([2])) rfl fun K hK => ?_
        refine opsI_seg fun L hL => ?_
        simp [C.impl_qbuilding_done, hrl]
        refine wcall1 (impl_QSumOk_calls ⟨n, r⟩ (by dsimp only; omega) (fun t ht => by have := hqe t (hr.subset ht); omega)) (by simp [hrl]) (by simp) ?_
        simp [C.impl_qbuilding_done, hrl]
        refine hL _ ?_; clear hL L
        refine opsI_end fun L hL => ?_
        simp [C.impl_qbuilding_done, hrl]
        refine hL _ ?_; clear hL L
        simp [C.impl_qbuilding_done, hrl]
        refine hK _ ?_; clear hK K
        show AWp _ _ _ _ _
        refine wcond _ rfl (fun hc3 => ?_) (fun hc3 => ?_)
        · have hR : ¬ QRight ⟨n, r⟩ := by simpa using hc3
          have hm : enQ n ((nf qlt l).map qt) = (zeroQ, false) := by rw [hrt]; exact if_neg hR
          refine wseq ?_
          refine wreg fun K hK => ?_
          simp [C.impl_qbuilding_done]
          refine hK _ ?_; clear hK K
          show AWp _ _ _ _ _
          refine wret ?_
          simp [C.impl_qbuilding_done, hm, qO, zeroQ, rows]
        · have hR : QRight ⟨n, r⟩ := by simpa using hc3
          have hm : enQ n ((nf qlt l).map qt) = (⟨n, r⟩, true) := by rw [hrt]; exact if_pos hR
          refine wskip ?_
          show AWp _ _ _ _ _
          refine wseq ?_
          refine wreg fun K hK => ?_
          simp [C.impl_qbuilding_done]
          refine hK _ ?_; clear hK K
          show AWp _ _ _ _ _
          refine wret ?_
          simp [C.impl_qbuilding_done, hm, qO, hrl]
    · refine hK _ ?_; clear hK K
      show AWp _ _ _ _ _
      refine wseq ?_
      refine wcond _ rfl (fun hc4 => ?_) (fun hc4 => ?_)
      · have hxm : (xk, xc) ∈ rest := List.mem_of_getElem? hx
        have hxl := hM.len9 h8 _ (hin _ hxm)
        dsimp only at hxl
        obtain ⟨k0, k1, k2, k3, k4, k5, k6, k7, k8, rfl⟩ := nine hxl
        have hql : q.length + rest.length = es.length := by simpa using hq.length_eq
        have hil : i < rest.length := by
          rcases Nat.lt_or_ge i rest.length with h | h
          · exact h
          · rw [List.getElem?_eq_none h] at hx; simp at hx
        refine wskip ?_
        show AWp _ _ _ _ _
        refine wblock ?_
        refine wseq ?_
        refine wreg fun K hK => ?_
        simp [C.impl_qbuilding_done]
        refine hK _ ?_; clear hK K
        show AWp _ _ _ _ _
        refine wdrawI [(true, 0), (true, 1), (true, 2), (true, 3), (true, 4), (true, 5), (true, 6), (true, 7), (true, 9), (true, 10), (true, 11), (false, 8), (true, 12), (false, 13), (false, 14), (true, 15), (false, 16)] ⟨by kernel_rfl, by kernel_rfl⟩ ([0, 1, 2, 3, 4, 5, 6, 7, 9, 10, 11, 8] ++ ([12, 13, 14, 15, 16])) rfl fun K hK => ?_
        refine opsI_seg fun L hL => ?_
        simp [C.impl_qbuilding_done, qtO_snoc, show ((n : Int) ≤ 8) by omega, h8, Nat.min_eq_left h8, Nat.min_eq_left (show n ≤ 9 by omega), sh9, show (q.length + 1) * 40 ≤ 140737488355328 by omega]
        refine wcall1 (clone_calls ([k0, k1, k2, k3, k4, k5, k6, k7, k8].take n) (by simp; omega)) (by simp [qtO_snoc, show ((n : Int) ≤ 8) by omega, h8, Nat.min_eq_left h8, Nat.min_eq_left (show n ≤ 9 by omega), sh9, show (q.length + 1) * 40 ≤ 140737488355328 by omega]) (by simp) ?_
        simp [C.impl_qbuilding_done, qtO_snoc, show ((n : Int) ≤ 8) by omega, h8, Nat.min_eq_left h8, Nat.min_eq_left (show n ≤ 9 by omega), sh9, show (q.length + 1) * 40 ≤ 140737488355328 by omega]
        refine hL _ ?_; clear hL L
        refine opsI_end fun L hL => ?_
        simp [C.impl_qbuilding_done, qtO_snoc, show ((n : Int) ≤ 8) by omega, h8, Nat.min_eq_left h8, Nat.min_eq_left (show n ≤ 9 by omega), sh9, show (q.length + 1) * 40 ≤ 140737488355328 by omega]
        refine hL _ ?_; clear hL L
        simp [C.impl_qbuilding_done, qtO_snoc, show ((n : Int) ≤ 8) by omega, h8, Nat.min_eq_left h8, Nat.min_eq_left (show n ≤ 9 by omega), sh9, show (q.length + 1) * 40 ≤ 140737488355328 by omega]
        refine hK _ ?_; clear hK K
        simp [C.impl_qbuilding_done]
        have htl : ([k0, k1, k2, k3, k4, k5, k6, k7, k8].take n).length = n := by simp; omega
        have hrow : rows qtO q ++ [D.ow 1 n (ints (List.take n [k0, k1, k2, k3, k4, k5, k6, k7, k8])), D.v (.int .i64 k8), D.v (.int .i64 xc)] = rows qtO (q ++ [⟨List.take n [k0, k1, k2, k3, k4, k5, k6, k7, k8], k8, xc⟩]) := by
          rw [← qtO_snoc]
          simp only [htl]
        refine cast (congrArg R1 ?_) (hR1 (q ++ [⟨List.take n [k0, k1, k2, k3, k4, k5, k6, k7, k8], k8, xc⟩], rest.eraseIdx i, some ([k0, k1, k2, k3, k4, k5, k6, k7, k8], xc)) ⟨?_, ?_⟩ ?_)
        · simp [hrow]
        · dsimp only
          have hget : rest[i] = ([k0, k1, k2, k3, k4, k5, k6, k7, k8], xc) := by
            rw [List.getElem?_eq_getElem hil] at hx
            injection hx
          have hper := erase_perm rest i hil
          rw [hget] at hper
          refine List.Perm.trans ?_ hq
          rw [List.map_append, List.append_assoc]
          exact List.Perm.append_left _ (hper.map (unpadQ n))
        · exact fun y hy => hin y (List.mem_of_mem_eraseIdx hy)
        · dsimp only
          rw [List.length_eraseIdx_of_lt hil]
          omega
      · simp at hc4

end Go.Proofs.Ytocknokodgnlbaa.Ab
namespace Go.Proofs.Ytocknokodgnlbaa.Ab
open Go
set_option linter.unusedSimpArgs false
set_option linter.unusedVariables false
theorem sfQ : SfOk Try.prog F.slices_SortFunc_impl_QTerm_impl_QTerm 3 := by
  refine ⟨fun p cap fv w => ?_, fun α _ enc hk h1 cf hO g blk off cap d w eg hcmp hH hblk hsz => ?_⟩
  · have h := AnyF.slices_SortFunc_none sortQTerm p cap fv w
    rw [sortQTerm_f6] at h
    exact h
  · have h := AnyQ.slices_SortFunc sortQTerm 3 sortQTerm_agg sortQTerm_size enc hk h1 cf hO g #[] blk off cap d w eg hcmp hH hblk hsz
    rw [sortQTerm_f6] at h
    exact h
theorem qlt_ntrans (a b c : QK) (h1 : qlt a b = false) (h2 : qlt b c = false) : qlt a c = false := by
  cases h : qlt a c with
  | false => rfl
  | true =>
    exfalso
    rcases qOrd.tot a b with h3 | h3 | h3
    · rw [h1] at h3; simp at h3
    · subst h3
      rw [h2] at h; simp at h
    · have := qOrd.tr b a c h3 h
      rw [h2] at this; simp at this
theorem cmpQ_neg (a : List Int) (ah : Int) (b : List Int) (bh : Int) : decide (cmpQ a ah b bh < 0) = qlt (b, bh) (a, ah) := by
  have h := cmpQ_pos a ah b bh
  by_cases q : cmpQ a ah b bh < 0
  · have : ¬ 0 ≤ cmpQ a ah b bh := by omega
    rw [decide_eq_false this] at h
    rw [decide_eq_true q]
    simpa using h
  · have : 0 ≤ cmpQ a ah b bh := by omega
    rw [decide_eq_true this] at h
    rw [decide_eq_false q]
    simpa using h
theorem swoQ : Go.Sort.SWO (ltOf fun x y : Qtm => cmpQ x.e x.h y.e y.h) where
  irrefl x := by unfold ltOf; rw [cmpQ_neg]; exact qOrd.irr _
  trans x y z h1 h2 := by
    unfold ltOf at *
    rw [cmpQ_neg] at *
    exact qOrd.tr _ _ _ h2 h1
  ntrans x y z h1 h2 := by
    unfold ltOf at *
    rw [cmpQ_neg] at *
    exact qlt_ntrans _ _ _ h2 h1
theorem sortOkQ : SortOkQ := by
  intro ts hts hnd hlen
  have h := sort_calls (P := Try.prog) (g := F.impl_qbuilding_done_1) ⟨Try.f133, _, Try.func133, rfl, by kernel_rfl⟩ sfQ qtO_three (by omega) (fun t => by simp [qtO, noShL, noSh]) (fun l => by
    induction l with
    | nil => trivial
    | cons x l ih =>
      simp only [rows, qtO, List.cons_append, List.nil_append, solidL]
      exact ⟨rfl, rfl, rfl, ih⟩) (fun x y : Qtm => cmpQ x.e x.h y.e y.h) swoQ ts hlen (fun x hx y hy => by
    have := impl_qbuilding_done_1_calls x y (hts x hx) (hts y hy)
    simpa [qtO, shareL, share, shareL_ints] using this)
  refine ACalls.mono h ?_
  rintro outs res ⟨r, h1, h2, h3, h4⟩
  refine ⟨r, h1, ?_, h3, h4⟩
  have hnr : (r.map qk).Nodup := (h1.map qk).nodup_iff.2 hnd
  unfold DescQ
  rw [List.Nodup, List.pairwise_map] at hnr
  refine (h2.and hnr).imp ?_
  rintro a b ⟨h5, h6⟩
  have h7 : qlt (qk a) (qk b) = false := by
    have := cmpQ_neg b.e b.h a.e a.h
    show qlt (a.e, a.h) (b.e, b.h) = false
    rw [← this]
    simpa using h5
  rcases qOrd.tot (qk a) (qk b) with h8 | h8 | h8
  · rw [h7] at h8; simp at h8
  · exact absurd h8 h6
  · exact h8
def DoneOkQ : Prop := ∀ (n : Nat) (es : List (List Int × Int)) (l : List (QK × Int)), MapQ n es l → (∀ x ∈ l, x.1.1.length = n) → 1 ≤ n → n ≤ 8 → l.length ≤ 1000000 →
  ACalls Try.prog F.impl_qbuilding_done [.pt (0, 0) [] 0] [((0, 0), .bx [D.int n, .mp es])] true (fun outs res => outs = [.bx [D.int n, .mp es]] ∧ res = [.ag (qO (enQ n ((nf qlt l).map qt)).1), .one (D.bool (enQ n ((nf qlt l).map qt)).2)])
theorem doneOkQ : DoneOkQ := fun n es l hM hl h1 h8 hL => (impl_qbuilding_done_calls sortOkQ n es l hM hl h1 h8 hL).weak1
end Go.Proofs.Ytocknokodgnlbaa.Ab
namespace Go.Proofs.Ytocknokodgnlbaa.Ab
open Go
set_option linter.unusedSimpArgs false
set_option linter.unusedVariables false
set_option maxRecDepth 10000
set_option maxHeartbeats 2000000
def absQK (l : List (QK × Int)) : Nat := (l.map fun x => x.2.natAbs).sum
def SmallQ (g : Qsm) : Prop := g.ts.length ≤ 600 ∧ (∀ t ∈ g.ts, t.e.length ≤ 8) ∧ cntL cntQT g.ts ≤ 6000
theorem smallQ_right {g : Qsm} (h : QRight g) : SmallQ g := by
  have he : ∀ t ∈ g.ts, t.e.length ≤ 8 := fun t ht => by have := (h.2.2.1 t ht).1; have := h.1; omega
  refine ⟨h.2.1, he, ?_⟩
  have : ∀ ts : List Qtm, (∀ t ∈ ts, t.e.length ≤ 8) → cntL cntQT ts ≤ ts.length * 10 := fun ts => by
    induction ts with
    | nil => intro _; simp [cntL]
    | cons x ts ih =>
      intro h
      have h1 := h x (by simp)
      have h2 := ih fun t ht => h t (by simp [ht])
      simp only [cntL, cntQT, List.length_cons] at h2 ⊢
      omega
  have := this g.ts he
  have := h.2.1
  omega
theorem enQ_small (v : Int) (ts : List Qtm) : SmallQ (enQ v ts).1 := by
  unfold enQ
  split
  · exact smallQ_right (by assumption)
  · exact ⟨by simp [zeroQ], by simp [zeroQ], by simp [zeroQ, cntL]⟩
end Go.Proofs.Ytocknokodgnlbaa.Ab
namespace Go.Proofs.Ytocknokodgnlbaa.Ab
open Go
set_option linter.unusedSimpArgs false
set_option linter.unusedVariables false
theorem addE_com : ∀ (a b : List Int), a.length = b.length → addE 1 a b = addE 1 b a
  | [], [], _ => rfl
  | [], _ :: _, h => by simp at h
  | _ :: _, [], h => by simp at h
  | x :: a, y :: b, h => by
    simp only [addE, addE_com a b (by simpa using h)]
    congr 1
    omega
theorem qlt_iff (a b : QK) : qlt a b = true ↔ (a.1 = b.1 ∧ a.2 < b.2) ∨ lexlt a.1 b.1 = true := by
  unfold qlt
  by_cases e : a.1 = b.1
  · rw [if_pos e]
    simp [e, lexlt_irr]
  · rw [if_neg e]
    simp [e]
def qmul (fm : List (List Int)) (e b : QK) : QK := (addE 1 b.1 e.1, b.2 + e.2 + skw fm b.1 e.1)
def qdv (fm : List (List Int)) (a b : QK) : QK := (addE (-1) a.1 b.1, a.2 - b.2 - skw fm b.1 (addE (-1) a.1 b.1))
theorem qAct (fm : List (List Int)) (n : Nat) : Act qlt (qmul fm) (qdv fm) (fun k => k.1.length = n) where
  mul_dv a b h1 h2 := by
    unfold qmul qdv
    refine Prod.ext ?_ ?_
    · show addE 1 b.1 (addE (-1) a.1 b.1) = a.1
      rw [addE_com _ _ (by rw [addE_length _ _ _ (h1.trans h2.symm)]; exact h2.trans h1.symm), addE_dv a.1 b.1 (h1.trans h2.symm)]
    · show b.2 + (a.2 - b.2 - skw fm b.1 (addE (-1) a.1 b.1)) + skw fm b.1 (addE (-1) a.1 b.1) = a.2
      omega
  dv_lt x y b h1 h2 h3 h := by
    rw [qlt_iff] at h ⊢
    rcases h with ⟨e, h⟩ | h
    · left
      refine ⟨by simp only [qdv, e], ?_⟩
      simp only [qdv, e]
      omega
    · right
      simp only [qdv]
      rw [lexlt_addE _ _ _ _ (h1.trans h3.symm) (h2.trans h3.symm)]
      exact h
  mul_lt e x y h1 h2 h3 h := by
    rw [qlt_iff] at h ⊢
    rcases h with ⟨q, h⟩ | h
    · left
      refine ⟨by simp only [qmul, q], ?_⟩
      simp only [qmul, q]
      omega
    · right
      simp only [qmul]
      rw [addE_com x.1 _ (h2.trans h1.symm), addE_com y.1 _ (h3.trans h1.symm), lexlt_addE2 _ _ _ (h1.trans h2.symm) (h1.trans h3.symm)]
      exact h
  dmul a b h1 h2 := by simp only [qmul]; rw [addE_length _ _ _ (h2.trans h1.symm)]; exact h2
  ddv a b h1 h2 := by simp only [qdv]; rw [addE_length _ _ _ (h1.trans h2.symm)]; exact h1
/-- A number by which the outermost term is told. -/
def weiQ (s : Int) (i : Nat) (k : QK) : Int := wei s i k.1 * 1000 + k.2
theorem outerQ (fm : List (List Int)) {s : Int} (hs : s = 1 ∨ s = -1) {n i : Nat} (h8 : n ≤ 8) {F O g : List (QK × Int)} (hO : Desc qlt O) (hg : Desc qlt g) (hOz : Nz O) (hgz : Nz g) (hne : g ≠ [])
    (hOD : ∀ x ∈ O, (x.1.1.length = n ∧ Dig x.1.1) ∧ -200 ≤ x.1.2 ∧ x.1.2 ≤ 200) (hgD : ∀ x ∈ g, (x.1.1.length = n ∧ Dig x.1.1) ∧ -200 ≤ x.1.2 ∧ x.1.2 ≤ 200)
    (hF : ∀ q, co q F = co q (prodK (qmul fm) O g)) : ∀ x ∈ O, ∃ t ∈ F, ∃ y ∈ g, (∀ z ∈ g, s * y.1.1.getD i 0 ≤ s * z.1.1.getD i 0) ∧ s * t.1.1.getD i 0 ≤ s * x.1.1.getD i 0 + s * y.1.1.getD i 0 := by
  intro x hx
  obtain ⟨a, haO, ham⟩ := least_of (fun u : QK × Int => weiQ s i u.1) O (fun e => by rw [e] at hx; simp at hx)
  obtain ⟨y, hyg, hym⟩ := least_of (fun u : QK × Int => weiQ s i u.1) g hne
  have ha := hOD a haO
  have hy := hgD y hyg
  have le1 : ∀ u ∈ O, wei s i a.1.1 ≤ wei s i u.1.1 ∧ (wei s i a.1.1 = wei s i u.1.1 → a.1.2 ≤ u.1.2) := fun u hu => by
    have h1 := ham u hu
    have h2 := hOD u hu
    simp only [weiQ] at h1
    omega
  have le2 : ∀ v ∈ g, wei s i y.1.1 ≤ wei s i v.1.1 ∧ (wei s i y.1.1 = wei s i v.1.1 → y.1.2 ≤ v.1.2) := fun v hv => by
    have h1 := hym v hv
    have h2 := hgD v hv
    simp only [weiQ] at h1
    omega
  have huniq : ∀ u ∈ O, ∀ v ∈ g, qmul fm u.1 v.1 = qmul fm a.1 y.1 → u = a ∧ v = y := by
    intro u hu v hv e
    have h1 := hOD u hu
    have h2 := hgD v hv
    have ee : addE 1 v.1.1 u.1.1 = addE 1 y.1.1 a.1.1 := congrArg Prod.fst e
    have eh : v.1.2 + u.1.2 + skw fm v.1.1 u.1.1 = y.1.2 + a.1.2 + skw fm y.1.1 a.1.1 := congrArg Prod.snd e
    have e1 := wei_add s i v.1.1 u.1.1 (h2.1.1.trans h1.1.1.symm)
    have e2 := wei_add s i y.1.1 a.1.1 (hy.1.1.trans ha.1.1.symm)
    rw [ee, e2, h2.1.1, hy.1.1] at e1
    obtain ⟨m1, m1'⟩ := le1 u hu
    obtain ⟨m2, m2'⟩ := le2 v hv
    have w1 : wei s i a.1.1 = wei s i u.1.1 := by omega
    have w2 : wei s i y.1.1 = wei s i v.1.1 := by omega
    have k1 : u.1.1 = a.1.1 := wei_inj (i := i) hs (h1.1.1.trans ha.1.1.symm) h1.1.2 ha.1.2 (by omega) w1.symm
    have k2 : v.1.1 = y.1.1 := wei_inj (i := i) hs (h2.1.1.trans hy.1.1.symm) h2.1.2 hy.1.2 (by omega) w2.symm
    rw [k1, k2] at eh
    have q1 := m1' w1
    have q2 := m2' w2
    have ku : u.1 = a.1 := Prod.ext k1 (by omega)
    have kv : v.1 = y.1 := Prod.ext k2 (by omega)
    have c1 := co_single qOrd hO hu
    have c2 := co_single qOrd hO haO
    have c3 := co_single qOrd hg hv
    have c4 := co_single qOrd hg hyg
    rw [ku] at c1
    rw [kv] at c3
    exact ⟨Prod.ext ku (c1.symm.trans c2), Prod.ext kv (c3.symm.trans c4)⟩
  have hc := co_pair2 (mul := qmul fm) qOrd hO hg haO hyg huniq
  have hnz : co (qmul fm a.1 y.1) F ≠ 0 := by
    rw [hF, hc]
    exact Int.mul_ne_zero (hOz a haO) (hgz y hyg)
  obtain ⟨t, ht, et⟩ := co_mem hnz
  refine ⟨t, ht, y, hyg, fun z hz => wei_le hs hy.1.2 (hgD z hz).1.2 (by omega) (by have := (hgD z hz).1.1; omega) (le2 z hz).1, ?_⟩
  have et1 : t.1.1 = addE 1 y.1.1 a.1.1 := congrArg Prod.fst et
  rw [et1, getD_addE 1 i _ _ (hy.1.1.trans ha.1.1.symm)]
  have := wei_le hs ha.1.2 (hOD x hx).1.2 (by omega) (by have := (hOD x hx).1.1; omega) (le1 x hx).1
  rw [Int.one_mul, Int.mul_add]
  omega
/-! ### The two divisions -/
def tT (t : Qtm) : Trm := ⟨t.e, t.c⟩
def chkIQ (e : QK) (q : Int) : Bool := decide ((∀ x ∈ e.1, -20 ≤ x ∧ x ≤ 20) ∧ (-200 ≤ e.2 ∧ e.2 ≤ 200) ∧ q ≠ 0 ∧ -1000000 ≤ q ∧ q ≤ 1000000)
def inBoxQ (f g : Qsm) (n : Nat) (e : List Int) : Prop := ∀ i, i < n → (lowL (f.ts.map tT) n).getD i 0 - (lowL (g.ts.map tT) n).getD i 0 ≤ e.getD i 0 ∧ e.getD i 0 ≤ (highL (f.ts.map tT) n).getD i 0 - (highL (g.ts.map tT) n).getD i 0
instance (f g : Qsm) (n : Nat) (e : List Int) : Decidable (inBoxQ f g n e) := Nat.decidableBallLT n _
def chkSQ (f g : Qsm) (n : Nat) (e : QK) (q : Int) : Bool := decide (inBoxQ f g n e.1 ∧ (-200 ≤ e.2 ∧ e.2 ≤ 200) ∧ -1000000 ≤ q ∧ q ≤ 1000000)
def leadQ (g : Qsm) : QK := match g.ts with | [] => ([], 0) | t :: _ => (t.e, t.h)
def leadQC (g : Qsm) : Int := match g.ts with | [] => 1 | t :: _ => t.c
def divQ (fm : List (List Int)) (chk : QK → Int → Bool) (g : Qsm) (k : Nat) (R : List (QK × Int)) : Option (List (QK × Int)) := divGo qlt (qmul fm) (qdv fm) chk (g.ts.map qp) (leadQ g) (leadQC g) k R
noncomputable def endQd (v : Int) : Option (List (QK × Int)) → Qsm × Bool
  | some O => enQ v (O.map qt)
  | none => (zeroQ, false)
def QFit (fm : List (List Int)) (f g : Qsm) : Prop := (FormOk fm ∧ QRight f ∧ QRight g ∧ f.v = fm.length ∧ g.v = fm.length) ∧ g.ts ≠ []
noncomputable instance (fm : List (List Int)) (f g : Qsm) : Decidable (QFit fm f g) := Classical.propDecidable _
noncomputable def divQF (fm : List (List Int)) (f g : Qsm) : Qsm × Bool := if QFit fm f g then endQd f.v (divQ fm chkIQ g 600 (f.ts.map qp)) else (zeroQ, false)
noncomputable def divQS (fm : List (List Int)) (f g : Qsm) : Qsm × Bool := if QFit fm f g then endQd f.v (divQ fm (chkSQ f g fm.length) g 600 (f.ts.map qp)) else (zeroQ, false)
theorem qp_desc {f : Qsm} (h : QRight f) : Desc qlt (f.ts.map qp) := by
  unfold Desc
  rw [List.pairwise_map]
  exact h.2.2.2
theorem qp_nz {f : Qsm} (h : QRight f) : Nz (f.ts.map qp) := fun x hx => by
  obtain ⟨t, ht, rfl⟩ := List.mem_map.1 hx
  exact (h.2.2.1 t ht).2.1
theorem qright_he {f : Qsm} {n : Nat} (h : QRight f) (hn : f.v = n) : ∀ t ∈ f.ts, t.e.length = n ∧ (∀ x ∈ t.e, -20 ≤ x ∧ x ≤ 20) ∧ (-200 ≤ t.h ∧ t.h ≤ 200) ∧ -1000000 ≤ t.c ∧ t.c ≤ 1000000 ∧ t.c ≠ 0 := fun t ht => by
  obtain ⟨h1, h2, h3, h4, h5⟩ := h.2.2.1 t ht
  exact ⟨by omega, h5, h4, h3.1, h3.2, h2⟩
theorem qp_dig {f : Qsm} {n : Nat} (h : QRight f) (hn : f.v = n) : ∀ x ∈ f.ts.map qp, (x.1.1.length = n ∧ Dig x.1.1) ∧ -200 ≤ x.1.2 ∧ x.1.2 ≤ 200 := fun x hx => by
  obtain ⟨t, ht, rfl⟩ := List.mem_map.1 hx
  have := qright_he h hn t ht
  exact ⟨⟨this.1, fun y hy => by have := this.2.1 y hy; omega⟩, this.2.2.1⟩
theorem leadQ_map {g : Qsm} (hne : g.ts ≠ []) : g.ts.map qp = (leadQ g, leadQC g) :: (g.ts.tail.map qp) := by
  unfold leadQ leadQC
  match hh : g.ts, hne with
  | t :: ts, _ => rfl
theorem divGo_nz {K : Type} [DecidableEq K] {lt : K → K → Bool} {mul dv : K → K → K} {chk : K → Int → Bool} {g : List (K × Int)} {b : K} {d : Int} : ∀ (k : Nat) (R O : List (K × Int)), divGo lt mul dv chk g b d k R = some O → Nz R → Nz O
  | k, [], O, h, _ => by
    have e : O = [] := by cases k <;> simp [divGo] at h <;> exact h
    subst e
    simp [Nz]
  | 0, x :: R, O, h, _ => by simp [divGo] at h
  | k + 1, x :: R, O, h, hR => by
    simp only [divGo] at h
    split at h
    · rename_i h1
      obtain ⟨O', h2, h3⟩ := Option.map_eq_some_iff.1 h
      subst h3
      have h4 := divGo_nz k _ O' h2 (nf_nz _)
      intro y hy
      rcases List.mem_cons.1 hy with rfl | hy
      · have h5 := tmod_tdiv h1.1
        have h6 := hR x (by simp)
        dsimp only
        intro e
        rw [e] at h5
        simp at h5
        exact h6 h5.symm
      · exact h4 y hy
    · simp at h
theorem divQ_good {fm : List (List Int)} {chk : QK → Int → Bool} {f g : Qsm} (h : QFit fm f g) {O : List (QK × Int)} (hd : divQ fm chk g 600 (f.ts.map qp) = some O) : Desc qlt O ∧ Nz O ∧ (∀ x ∈ O, x.1.1.length = fm.length) ∧ (∀ x ∈ O, chk x.1 x.2 = true) ∧ O.length ≤ 600 ∧ ∀ q, co q (f.ts.map qp) = co q (prodK (qmul fm) O (g.ts.map qp)) := by
  obtain ⟨⟨hfm, hf, hg, hn, hgn⟩, hne⟩ := h
  have hgd := qp_desc hg
  have hgD := qp_dig hg hgn
  unfold divQ at hd
  have h1 := divGo_all _ _ _ hd
  have h2 := divGo_exact _ _ _ hd
  have h3 := divGo_nz _ _ _ hd (qp_nz hf)
  rw [leadQ_map hne] at hgd hgD hd
  have h4 := divGo_desc (chk := chk) qOrd (qAct fm fm.length) hgd (fun y hy => (hgD y hy).1.1) 600 _ O hd (qp_desc hf) fun y hy => (qp_dig hf hn y hy).1.1
  exact ⟨h4.1, h3, h4.2.1, h1.1, h1.2, h2⟩
theorem tT_he {f : Qsm} {n : Nat} (h : QRight f) (hn : f.v = n) : ∀ t ∈ f.ts.map tT, t.e.length = n ∧ ∀ x ∈ t.e, -20 ≤ x ∧ x ≤ 20 := fun t ht => by
  obtain ⟨u, hu, rfl⟩ := List.mem_map.1 ht
  have := qright_he h hn u hu
  exact ⟨this.1, this.2.1⟩
theorem divQS_eq (fm : List (List Int)) (f g : Qsm) : divQS fm f g = divQF fm f g := by
  unfold divQS divQF
  split
  · rename_i hfit
    have hfit' := hfit
    obtain ⟨⟨hfm, hf, hg, hn, hgn⟩, hne⟩ := hfit
    have h8 : fm.length ≤ 8 := by have := hfm.1; omega
    cases hI : divQ fm chkIQ g 600 (f.ts.map qp) with
    | some O =>
      obtain ⟨hOd, hOz, hOl, hch, _, hex⟩ := divQ_good hfit' hI
      have hS : divQ fm (chkSQ f g fm.length) g 600 (f.ts.map qp) = some O := by
        refine divGo_chk _ _ _ hI fun x hx => ?_
        have hcx := hch x hx
        simp only [chkIQ, decide_eq_true_eq] at hcx
        simp only [chkSQ, decide_eq_true_eq]
        refine ⟨fun i hi => ?_, hcx.2.1, hcx.2.2.2⟩
        have hOD : ∀ x ∈ O, (x.1.1.length = fm.length ∧ Dig x.1.1) ∧ -200 ≤ x.1.2 ∧ x.1.2 ≤ 200 := fun x hx => by
          have := hch x hx
          simp only [chkIQ, decide_eq_true_eq] at this
          exact ⟨⟨hOl x hx, fun z hz => by have := this.1 z hz; omega⟩, this.2.1⟩
        have hgnp : g.ts.map qp ≠ [] := by simpa using hne
        have hfne : f.ts.map tT ≠ [] := by
          rintro e
          have := outerQ fm (s := 1) (i := i) (.inl rfl) h8 hOd (qp_desc hg) hOz (qp_nz hg) hgnp hOD (qp_dig hg hgn) hex x hx
          obtain ⟨t, ht, _⟩ := this
          simp only [List.map_eq_nil_iff] at e
          rw [e] at ht
          simp at ht
        have hgne : g.ts.map tT ≠ [] := by simpa using hne
        obtain ⟨lf1, _⟩ := lowL_at hfne hi
        obtain ⟨_, tl, htl, lg2⟩ := lowL_at hgne hi
        obtain ⟨hf1, _⟩ := highL_at hfne hi
        obtain ⟨_, th, hth, hg2⟩ := highL_at hgne hi
        obtain ⟨t, ht, y, hy, m1, m2⟩ := outerQ fm (s := 1) (i := i) (.inl rfl) h8 hOd (qp_desc hg) hOz (qp_nz hg) hgnp hOD (qp_dig hg hgn) hex x hx
        obtain ⟨t', ht', y', hy', m1', m2'⟩ := outerQ fm (s := -1) (i := i) (.inr rfl) h8 hOd (qp_desc hg) hOz (qp_nz hg) hgnp hOD (qp_dig hg hgn) hex x hx
        obtain ⟨u, hu, rfl⟩ := List.mem_map.1 ht
        obtain ⟨u', hu', rfl⟩ := List.mem_map.1 ht'
        obtain ⟨ul, hul, rfl⟩ := List.mem_map.1 htl
        obtain ⟨uh, huh, rfl⟩ := List.mem_map.1 hth
        have a1 := lf1 (tT u) (List.mem_map.2 ⟨u, hu, rfl⟩)
        have a2 := m1 (qp ul) (List.mem_map.2 ⟨ul, hul, rfl⟩)
        have a3 := hf1 (tT u') (List.mem_map.2 ⟨u', hu', rfl⟩)
        have a4 := m1' (qp uh) (List.mem_map.2 ⟨uh, huh, rfl⟩)
        simp only [qp, qk, tT] at m2 m2' a1 a2 a3 a4 lg2 hg2
        constructor <;> omega
      rw [hS]
    | none =>
      cases hS : divQ fm (chkSQ f g fm.length) g 600 (f.ts.map qp) with
      | none => rfl
      | some O =>
        simp only [endQd]
        unfold enQ
        rw [if_neg]
        intro hr
        have : divQ fm chkIQ g 600 (f.ts.map qp) = some O := by
          refine divGo_chk _ _ _ hS fun x hx => ?_
          obtain ⟨h1, h2, h3, h4, h5⟩ := hr.2.2.1 (qt x) (List.mem_map.2 ⟨x, hx, rfl⟩)
          simp only [chkIQ, decide_eq_true_eq]
          exact ⟨h5, h4, h2, h3⟩
        rw [hI] at this
        simp at this
  · rfl
theorem enQ_ga {v : Int} {O : List (QK × Int)} (hd : Desc qlt O) (hz : Nz O) : enQ v (gaQ (O.map qt)) = endQd v (some O) := by
  simp only [endQd, gaQ]
  rw [map_qp, ← nf_unique qOrd hd hz fun k => rfl]
end Go.Proofs.Ytocknokodgnlbaa.Ab
namespace Go.Proofs.Ytocknokodgnlbaa.Ab
open Go
set_option linter.unusedSimpArgs false
set_option linter.unusedVariables false
structure DivJQ (fm : List (List Int)) (chk : QK → Int → Bool) (f g : Qsm) (n : Nat) (R O : List (QK × Int)) : Prop where
  run : divQ fm chk g 600 (f.ts.map qp) = (divQ fm chk g (600 - O.length) R).map (O ++ ·)
  ol : O.length ≤ 600
  rd : Desc qlt R
  rz : Nz R
  rl : ∀ y ∈ R, (y.1.1.length = n ∧ ∀ z ∈ y.1.1, -60 ≤ z ∧ z ≤ 60) ∧ -100000000000 ≤ y.1.2 ∧ y.1.2 ≤ 100000000000
  ra : absQK R ≤ 600000000 + O.length * 600000000000000
  rn : R.length ≤ 600 + O.length * 600
  od : ∀ x ∈ O, (x.1.1.length = n ∧ ∀ z ∈ x.1.1, -40 ≤ z ∧ z ≤ 40) ∧ (-200 ≤ x.1.2 ∧ x.1.2 ≤ 200) ∧ -1000000 ≤ x.2 ∧ x.2 ≤ 1000000
theorem absQK_le {l : List (QK × Int)} {B : Nat} (h : ∀ x ∈ l, x.2.natAbs ≤ B) : absQK l ≤ l.length * B := by
  induction l with
  | nil => simp [absQK]
  | cons x l ih =>
    have h1 := h x (by simp)
    have h2 := ih fun y hy => h y (by simp [hy])
    simp only [absQK, List.map_cons, List.sum_cons, List.length_cons, Nat.add_mul, Nat.one_mul] at h2 ⊢
    omega
theorem absQK_K (l : List (QK × Int)) : absQK l = absK l := rfl
theorem qright_absK {f : Qsm} (h : QRight f) : absQK (f.ts.map qp) ≤ 600000000 := by
  have h1 : absQK (f.ts.map qp) ≤ (f.ts.map qp).length * 1000000 := absQK_le fun x hx => by
    obtain ⟨t, ht, rfl⟩ := List.mem_map.1 hx
    have := (h.2.2.1 t ht).2.2.1
    simp only [qp]
    omega
  have h2 := h.2.1
  simp only [List.length_map] at h1
  exact Nat.le_trans h1 (by omega)
theorem DivJQ.start (fm : List (List Int)) (chk : QK → Int → Bool) {f g : Qsm} {n : Nat} (hf : QRight f) (hn : f.v = n) : DivJQ fm chk f g n (f.ts.map qp) [] := by
  refine ⟨?_, by simp, qp_desc hf, qp_nz hf, fun y hy => ?_, by simpa using qright_absK hf, by simpa using hf.2.1, by simp⟩
  · simp only [List.length_nil, Nat.sub_zero, List.nil_append]
    cases divQ fm chk g 600 (f.ts.map qp) <;> rfl
  · obtain ⟨t, ht, rfl⟩ := List.mem_map.1 hy
    have := qright_he hf hn t ht
    simp only [qp, qk]
    exact ⟨⟨this.1, fun z hz => by have := this.2.1 z hz; omega⟩, by have := this.2.2.1; omega⟩
theorem DivJQ.done {fm : List (List Int)} {chk : QK → Int → Bool} {f g : Qsm} {n : Nat} {O : List (QK × Int)} (h : DivJQ fm chk f g n [] O) : divQ fm chk g 600 (f.ts.map qp) = some O := by
  rw [h.run]
  cases 600 - O.length <;> simp [divQ, divGo]
theorem DivJQ.fail {fm : List (List Int)} {chk : QK → Int → Bool} {f g : Qsm} {n : Nat} {x : QK × Int} {R O : List (QK × Int)} (h : DivJQ fm chk f g n (x :: R) O) (hc : ¬ (x.2.tmod (leadQC g) = 0 ∧ chk (qdv fm x.1 (leadQ g)) (x.2.tdiv (leadQC g)) = true) ∨ O.length = 600) : divQ fm chk g 600 (f.ts.map qp) = none := by
  rw [h.run]
  rcases Nat.eq_zero_or_pos (600 - O.length) with e | e
  · rw [e]; rfl
  · obtain ⟨k, hk⟩ : ∃ k, 600 - O.length = k + 1 := ⟨600 - O.length - 1, by omega⟩
    rw [hk]
    rcases hc with hc | hc
    · simp only [divQ, divGo]
      rw [if_neg hc]
      rfl
    · omega
def stepQ (fm : List (List Int)) (g : Qsm) (x : QK × Int) (R : List (QK × Int)) : List (QK × Int) := x :: R ++ mulT (qmul fm) (qdv fm x.1 (leadQ g)) (-(x.2.tdiv (leadQC g))) (g.ts.map qp)
theorem SkOk.mk' {fm : List (List Int)} {a b : List Int} {p q : Int} (hfm : FormOk fm) (ha : a.length = fm.length ∧ ∀ z ∈ a, -p ≤ z ∧ z ≤ p) (hb : b.length = fm.length ∧ ∀ z ∈ b, -q ≤ z ∧ z ≤ q) (hp : p ≤ 1000) (hq : q ≤ 1000) : SkOk fm a b :=
  ⟨hfm, ha.1, hb.1, fun x hx => by have := ha.2 x hx; omega, fun x hx => by have := hb.2 x hx; omega⟩
theorem DivJQ.step {fm : List (List Int)} {chk : QK → Int → Bool} {f g : Qsm} {n : Nat} {x : QK × Int} {R O : List (QK × Int)} (h : DivJQ fm chk f g n (x :: R) O) (hfm : FormOk fm) (hfn : fm.length = n) (hg : QRight g) (hgn : g.v = n) (hm : x.2.tmod (leadQC g) = 0) (hc : chk (qdv fm x.1 (leadQ g)) (x.2.tdiv (leadQC g)) = true) (h6 : O.length < 600)
    (hel : (qdv fm x.1 (leadQ g)).1.length = n) (hb : ∀ z ∈ (qdv fm x.1 (leadQ g)).1, -40 ≤ z ∧ z ≤ 40) (hh : -200 ≤ (qdv fm x.1 (leadQ g)).2 ∧ (qdv fm x.1 (leadQ g)).2 ≤ 200) (hq : -1000000 ≤ x.2.tdiv (leadQC g) ∧ x.2.tdiv (leadQC g) ≤ 1000000) :
    DivJQ fm chk f g n (nf qlt (stepQ fm g x R)) (O ++ [(qdv fm x.1 (leadQ g), x.2.tdiv (leadQC g))]) := by
  have hga := qright_absK hg
  have hgl := hg.2.1
  have hab := nf_abs (lt := qlt) (stepQ fm g x R)
  have hlen : (O ++ [(qdv fm x.1 (leadQ g), x.2.tdiv (leadQC g))]).length = O.length + 1 := by simp
  refine ⟨?_, by omega, nf_desc qOrd _, nf_nz _, fun y hy => ?_, ?_, ?_, fun y hy => ?_⟩
  · rw [h.run]
    obtain ⟨k, hk⟩ : ∃ k, 600 - O.length = k + 1 := ⟨600 - O.length - 1, by omega⟩
    rw [hlen, hk, show 600 - (O.length + 1) = k by omega]
    simp only [divQ, divGo]
    rw [if_pos ⟨hm, hc⟩]
    simp only [Option.map_map, stepQ]
    congr 1
    funext z
    simp
  · obtain ⟨z, hz, e⟩ := nf_mem hy
    rw [← e]
    unfold stepQ at hz
    rcases List.mem_append.1 hz with hz | hz
    · exact h.rl z hz
    · obtain ⟨u, hu, rfl⟩ := List.mem_map.1 hz
      obtain ⟨t, ht, rfl⟩ := List.mem_map.1 hu
      have ht2 := qright_he hg hgn t ht
      have hsk := (SkOk.mk' (p := 20) (q := 40) hfm ⟨ht2.1.trans hfn.symm, ht2.2.1⟩ ⟨hel.trans hfn.symm, hb⟩ (by omega) (by omega)).bd
      simp only [qmul, qp, qk]
      refine ⟨⟨by rw [addE_length _ _ _ (ht2.1.trans hel.symm)]; exact ht2.1, ?_⟩, ?_⟩
      · exact addE_bd (B := 20) (C := 40) (.inl rfl) (ht2.1.trans hel.symm) ht2.2.1 hb
      · have := ht2.2.2.1
        omega
  · rw [absQK_K]
    refine Nat.le_trans hab.1 ?_
    unfold stepQ
    rw [absK_append, mulT_abs, hlen]
    have h1 := h.ra
    rw [absQK_K] at h1 hga
    have h2 : (-(x.2.tdiv (leadQC g))).natAbs * absK (g.ts.map qp) ≤ 1000000 * 600000000 := Nat.mul_le_mul (by omega) hga
    omega
  · refine Nat.le_trans hab.2 ?_
    unfold stepQ
    rw [List.length_append, mulT_length, List.length_map, hlen]
    have h1 := h.rn
    omega
  · rcases List.mem_append.1 hy with hy | hy
    · exact h.od y hy
    · simp only [List.mem_singleton] at hy
      subst hy
      exact ⟨⟨hel, hb⟩, hh, hq⟩
theorem lowL_bdQ {f : Qsm} {n : Nat} (hf : QRight f) (hn : f.v = n) (hne : f.ts ≠ []) {i : Nat} (hi : i < n) : (-20 ≤ (lowL (f.ts.map tT) n).getD i 0 ∧ (lowL (f.ts.map tT) n).getD i 0 ≤ 20) ∧ -20 ≤ (highL (f.ts.map tT) n).getD i 0 ∧ (highL (f.ts.map tT) n).getD i 0 ≤ 20 := by
  have hne' : f.ts.map tT ≠ [] := by simpa using hne
  obtain ⟨_, t1, ht1, q1⟩ := lowL_at hne' hi
  obtain ⟨_, t3, ht3, q3⟩ := highL_at hne' hi
  have b : ∀ {t : Trm} (ht : t ∈ f.ts.map tT), -20 ≤ t.e.getD i 0 ∧ t.e.getD i 0 ≤ 20 := fun {t} ht => by
    have := tT_he hf hn t ht
    rw [getD_eq (by omega)]
    exact this.2 _ (List.getElem_mem _)
  rw [q1, q3]
  exact ⟨b ht1, b ht3⟩
theorem inBoxQ_bd {f g : Qsm} {n : Nat} (hf : QRight f) (hg : QRight g) (hn : f.v = n) (hgn : g.v = n) (hfne : f.ts ≠ []) (hgne : g.ts ≠ []) {e : List Int} (hl : e.length = n) (hb : inBoxQ f g n e) : ∀ z ∈ e, -40 ≤ z ∧ z ≤ 40 := by
  intro z hz
  obtain ⟨i, hi, rfl⟩ := List.getElem_of_mem hz
  have h1 := hb i (by omega)
  have b1 := lowL_bdQ hf hn hfne (show i < n by omega)
  have b2 := lowL_bdQ hg hgn hgne (show i < n by omega)
  rw [getD_eq hi] at h1
  omega
theorem leadQ_get {g : Qsm} (h : 0 < g.ts.length) : ((g.ts[0]'h).e, (g.ts[0]'h).h) = leadQ g ∧ (g.ts[0]'h).c = leadQC g := by
  unfold leadQ leadQC
  match hh : g.ts, h with
  | t :: ts, _ => simp
/-- The rest behind a step, as the reference reckons it. -/
theorem step_gaQ {fm : List (List Int)} {g : Qsm} {x : QK × Int} {R : List (QK × Int)} :
    gaQ ((x :: R).map qt ++ (gaQ (prodQ fm g.ts [⟨(qdv fm x.1 (leadQ g)).1, (qdv fm x.1 (leadQ g)).2, x.2.tdiv (leadQC g)⟩])).map (fun t => ⟨t.e, t.h, 0 - t.c⟩)) = (nf qlt (stepQ fm g x R)).map qt := by
  generalize he : qdv fm x.1 (leadQ g) = e
  generalize hq : x.2.tdiv (leadQC g) = q
  unfold gaQ
  congr 1
  refine nf_unique qOrd (nf_desc qOrd _) (nf_nz _) fun k => ?_
  rw [nf_co, stepQ, he, hq, co_append, co_mulT_neg, List.map_append, co_append, map_qp]
  congr 1
  have hneg : ∀ l : List (QK × Int), co k (((l.map qt).map (fun t : Qtm => (⟨t.e, t.h, 0 - t.c⟩ : Qtm))).map qp) = -co k l := fun l => by
    induction l with
    | nil => rfl
    | cons y l ih =>
      simp only [List.map_cons, co, ih]
      have e1 : (qp (⟨(qt y).e, (qt y).h, 0 - (qt y).c⟩ : Qtm)).1 = y.1 := rfl
      have e2 : (qp (⟨(qt y).e, (qt y).h, 0 - (qt y).c⟩ : Qtm)).2 = 0 - y.2 := rfl
      rw [e1, e2]
      split <;> omega
  rw [hneg, nf_co]
  congr 1
  unfold prodQ mulT
  have : ∀ l : List Qtm, co k ((l.flatMap fun x => [(⟨e.1, e.2, q⟩ : Qtm)].map (mulT2 fm x)).map qp) = co k ((l.map qp).map fun y => (qmul fm e y.1, q * y.2)) := fun l => by
    induction l with
    | nil => rfl
    | cons y l ih =>
      simp only [List.map_cons, List.map_nil] at ih ⊢
      simp only [List.flatMap_cons, List.map_append, co_append, ih, List.map_cons, List.map_nil, co]
      have e1 : (qp (mulT2 fm y ⟨e.1, e.2, q⟩)).1 = qmul fm e (qp y).1 := rfl
      have e2 : (qp (mulT2 fm y ⟨e.1, e.2, q⟩)).2 = q * (qp y).2 := Int.mul_comm _ _
      rw [e1, e2]
      omega
  exact this g.ts
/-! ### The program's side -/
def q9 (x : List Int) : QK := (x.take 8, x.getD 8 0)
theorem q9_kq {k : QK} (h : k.1.length ≤ 8) : q9 (kq k) = (pad k.1, k.2) := by
  have hp := pad_length h
  unfold q9 kq
  rw [List.take_append_of_le_length (by omega), List.take_of_length_le (by omega), List.getD_eq_getElem?_getD, List.getElem?_append_right (by omega), hp]
  rfl
theorem qlt_pad {a b : QK} (h : a.1.length = b.1.length) : qlt (pad a.1, a.2) (pad b.1, b.2) = qlt a b := by
  rw [Bool.eq_iff_iff, qlt_iff, qlt_iff]
  simp only
  rw [lexlt_pad h]
  constructor
  · rintro (⟨e, q⟩ | q)
    · exact .inl ⟨pad_inj h e, q⟩
    · exact .inr q
  · rintro (⟨e, q⟩ | q)
    · exact .inl ⟨by rw [e], q⟩
    · exact .inr q
structure TopQ (P : List (List Int × Int)) (top : List Int) : Prop where
  len : top.length = 9
  mem : P ≠ [] → ∃ c, (top, c) ∈ P
  max : ∀ y ∈ P, qlt (q9 top) (q9 y.1) = false
theorem TopQ.keep {P : List (List Int × Int)} {top : List Int} (h : TopQ P top) {y : List Int × Int} (hne : P ≠ []) (hy : qlt (q9 top) (q9 y.1) = false) : TopQ (P ++ [y]) top := by
  obtain ⟨c, hc⟩ := h.mem hne
  refine ⟨h.len, fun _ => ⟨c, by simp [hc]⟩, fun z hz => ?_⟩
  rcases List.mem_append.1 hz with hz | hz
  · exact h.max z hz
  · simp only [List.mem_singleton] at hz
    subst hz; exact hy
theorem TopQ.next {P : List (List Int × Int)} {top : List Int} (h : TopQ P top) {y : List Int × Int} (hl : y.1.length = 9) (hy : P = [] ∨ qlt (q9 top) (q9 y.1) = true) : TopQ (P ++ [y]) y.1 := by
  refine ⟨hl, fun _ => ⟨y.2, by simp⟩, fun z hz => ?_⟩
  rcases List.mem_append.1 hz with hz | hz
  · rcases hy with rfl | hy
    · simp at hz
    · cases hq : qlt (q9 y.1) (q9 z.1) with
      | false => rfl
      | true =>
        have h1 := h.max z hz
        have h2 := qOrd.tr _ _ _ hy hq
        rw [h1] at h2; simp at h2
  · simp only [List.mem_singleton] at hz
    subst hz; exact qOrd.irr _
theorem top_headQ {n : Nat} {es : List (List Int × Int)} {l : List (QK × Int)} {P : List (List Int × Int)} {top : List Int} {a : QK} {c : Int} {R : List (QK × Int)} (h : MapQ n es l) (h8 : n ≤ 8) (hl : ∀ x ∈ l, x.1.1.length = n) (hP : P.Perm es) (hT : TopQ P top) (hR : nf qlt l = (a, c) :: R) :
    top = kq a ∧ mget top es = some c := by
  have hal : a.1.length = n := by
    obtain ⟨x, hx, e⟩ := nf_mem (y := (a, c)) (by rw [hR]; simp)
    have h9 := hl x hx
    rw [e] at h9
    exact h9
  have hd := nf_desc qOrd l
  have hc := co_single qOrd hd (x := (a, c)) (by rw [hR]; simp)
  rw [nf_co] at hc
  have hcz : c ≠ 0 := nf_nz l (a, c) (by rw [hR]; simp)
  have hva := h.val a hal
  have hga : mget (kq a) es = some c := by
    rw [hc] at hva
    cases hg : mget (kq a) es with
    | none => rw [hg] at hva; simp at hva; exact absurd hva.symm hcz
    | some v => rw [hg] at hva; simp at hva; rw [hva]
  have hmem := mget_some hga
  have hmP := hP.mem_iff.2 hmem
  obtain ⟨v, hv⟩ := hT.mem (by intro e; rw [e] at hmP; simp at hmP)
  have hvE := hP.mem_iff.1 hv
  obtain ⟨hvz, e, hel, he⟩ := h.nz _ hvE
  simp only at he hvz
  have hlt := hT.max _ hmP
  simp only at hlt
  rw [he, q9_kq (by omega), q9_kq (by omega), qlt_pad (hel.trans hal.symm)] at hlt
  have hget := mget_mem h.nod hvE
  have hve := h.val e hel
  rw [← he, hget] at hve
  simp only [Option.getD_some] at hve
  have hco : co e (nf qlt l) ≠ 0 := by rw [nf_co, ← hve]; exact hvz
  obtain ⟨z, hz, ez⟩ := co_mem hco
  have hea : e = a := by
    rw [hR] at hz hd
    rcases List.mem_cons.1 hz with rfl | hz
    · exact ez.symm
    · have h1 := List.rel_of_pairwise_cons hd hz
      simp only at h1
      rw [ez, hlt] at h1
      simp at h1
  subst hea
  exact ⟨he, by rw [he]; exact hga⟩
structure DivOQ (fm : List (List Int)) (g : Qsm) (n : Nat) (R O : List (QK × Int)) : Prop where
  od : Desc qlt O
  oz : Nz O
  ol : ∀ x ∈ O, x.1.1.length = n
  sep : ∀ x ∈ O, ∀ y ∈ R, qlt y.1 (qmul fm x.1 (leadQ g)) = true
theorem qdv_mul {fm : List (List Int)} {e b : QK} (h : e.1.length = b.1.length) : qdv fm (qmul fm e b) b = e := by
  have h1 : addE (-1) (addE 1 b.1 e.1) b.1 = e.1 := by rw [addE_com _ _ h.symm, addE_dv2 _ _ h]
  unfold qdv qmul
  refine Prod.ext h1 ?_
  simp only
  rw [h1]
  omega
theorem DivOQ.step {fm : List (List Int)} {g : Qsm} {n : Nat} {x : QK × Int} {R O : List (QK × Int)} (h : DivOQ fm g n (x :: R) O) (hR : Desc qlt (x :: R)) (hRl : ∀ y ∈ x :: R, y.1.1.length = n) (hg : QRight g) (hgn : g.v = n) (hne : g.ts ≠ []) (hm : x.2.tmod (leadQC g) = 0) (hq : x.2.tdiv (leadQC g) ≠ 0) :
    DivOQ fm g n (nf qlt (stepQ fm g x R)) (O ++ [(qdv fm x.1 (leadQ g), x.2.tdiv (leadQC g))]) := by
  have hgm := leadQ_map hne
  have hgd := qp_desc hg
  have hgD := qp_dig hg hgn
  rw [hgm] at hgd hgD
  have hbl : (leadQ g).1.length = n := (hgD (leadQ g, leadQC g) (by simp)).1.1
  have hxl := hRl x (by simp)
  have hA := qAct fm n
  have hless := step_less qOrd hA hR hRl hgd (fun y hy => (hgD y hy).1.1) hm
  rw [← hgm] at hless
  have hel : (qdv fm x.1 (leadQ g)).1.length = n := hA.ddv x.1 _ hxl hbl
  have hback := hA.mul_dv x.1 (leadQ g) hxl hbl
  refine ⟨?_, fun y hy => ?_, fun y hy => ?_, fun y hy z hz => ?_⟩
  · refine List.pairwise_append.2 ⟨h.od, List.pairwise_singleton .., fun y hy z hz => ?_⟩
    simp only [List.mem_singleton] at hz
    subst hz
    have h1 := h.sep y hy x (by simp)
    have hyl := h.ol y hy
    have h2 := hA.dv_lt x.1 _ (leadQ g) hxl (hA.dmul y.1 _ hyl hbl) hbl h1
    rw [qdv_mul (hyl.trans hbl.symm)] at h2
    exact h2
  · rcases List.mem_append.1 hy with hy | hy
    · exact h.oz y hy
    · simp only [List.mem_singleton] at hy
      subst hy; exact hq
  · rcases List.mem_append.1 hy with hy | hy
    · exact h.ol y hy
    · simp only [List.mem_singleton] at hy
      subst hy; exact hel
  · have h1 := (hless z hz).1
    rcases List.mem_append.1 hy with hy | hy
    · exact qOrd.tr _ _ _ h1 (h.sep y hy x (by simp))
    · simp only [List.mem_singleton] at hy
      subst hy
      show qlt z.1 (qmul fm (qdv fm x.1 (leadQ g)) (leadQ g)) = true
      rw [hback]
      exact h1
theorem DivOQ.nf {fm : List (List Int)} {g : Qsm} {n : Nat} {R O : List (QK × Int)} (h : DivOQ fm g n R O) : Ab.nf qlt O = O := (nf_unique qOrd h.od h.oz fun k => rfl).symm
/-- What a step of division has put behind the rest so far. -/
def negQ (fm : List (List Int)) (e : QK) (q : Int) (g : List Qtm) : List (QK × Int) := g.map fun t => (qmul fm e (qk t), -q * t.c)
theorem negQ_step {fm : List (List Int)} {e : QK} {q : Int} {g : List Qtm} {i : Nat} (h : i < g.length) : negQ fm e q (g.take (i + 1)) = negQ fm e q (g.take i) ++ [(qmul fm e (qk g[i]), -q * g[i].c)] := by
  unfold negQ
  rw [List.take_succ_eq_append_getElem h, List.map_append]
  rfl
theorem step_nfQ {fm : List (List Int)} {g : Qsm} {x : QK × Int} {R l l2 : List (QK × Int)} (hR : nf qlt l = x :: R) (hl2 : l2.Perm (l ++ negQ fm (qdv fm x.1 (leadQ g)) (x.2.tdiv (leadQC g)) g.ts)) : nf qlt l2 = nf qlt (stepQ fm g x R) := by
  refine nf_unique qOrd (nf_desc qOrd _) (nf_nz _) fun k => ?_
  rw [nf_co, co_perm k hl2, stepQ, co_append, co_append, ← hR, nf_co]
  congr 1
  unfold negQ mulT
  rw [List.map_map]
  rfl
end Go.Proofs.Ytocknokodgnlbaa.Ab
namespace Go.Proofs.Ytocknokodgnlbaa.Ab
open Go Go.Shelf
set_option linter.unusedSimpArgs false
set_option linter.unusedVariables false
end Go.Proofs.Ytocknokodgnlbaa.Ab
namespace Go.Proofs.Ytocknokodgnlbaa.Ab
open Go Go.Proofs
end Go.Proofs.Ytocknokodgnlbaa.Ab
namespace Go.Proofs.Ytocknokodgnlbaa.Ab
open Go
set_option linter.unusedSimpArgs false
set_option linter.unusedVariables false
set_option maxRecDepth 10000
set_option maxHeartbeats 2000000
end Go.Proofs.Ytocknokodgnlbaa.Ab
namespace Go.Proofs.Ytocknokodgnlbaa.Ab
open Go
set_option linter.unusedSimpArgs false
set_option linter.unusedVariables false
set_option maxRecDepth 10000
set_option maxHeartbeats 2000000
def gQ (l : List Qtm) : List D := [.sh 3 l.length (rows qtS l)]
theorem gQ_one (l : List Qtm) : (gQ l).length = 1 := rfl
@[simp] theorem gQ_length (l : List (List Qtm)) : (rows gQ l).length = l.length := by rw [rows_length gQ_one l, Nat.one_mul]
def absKK (l : List (QK × Int)) : Nat := (l.map fun x => x.2.natAbs).sum
theorem coKK_abs (k : QK) : ∀ l : List (QK × Int), (co k l).natAbs ≤ absKK l
  | [] => by simp [co]
  | x :: l => by
    have := coKK_abs k l
    simp only [co, absKK, List.map_cons, List.sum_cons] at this ⊢
    split <;> omega
end Go.Proofs.Ytocknokodgnlbaa.Ab
namespace Go.Proofs.Ytocknokodgnlbaa.Ab
open Go
set_option linter.unusedSimpArgs false
set_option linter.unusedVariables false
set_option maxRecDepth 10000
set_option maxHeartbeats 2000000
end Go.Proofs.Ytocknokodgnlbaa.Ab
namespace Go.Proofs.Ytocknokodgnlbaa.Ab
open Go
set_option linter.unusedSimpArgs false
set_option linter.unusedVariables false
set_option maxRecDepth 10000
set_option maxHeartbeats 2000000
attribute [local simp] mapKV flatInt tileB
end Go.Proofs.Ytocknokodgnlbaa.Ab
namespace Go.Proofs.Ytocknokodgnlbaa.Ab
open Go
set_option linter.unusedSimpArgs false
set_option linter.unusedVariables false
set_option maxRecDepth 10000
set_option maxHeartbeats 2000000
attribute [local simp] mapKV flatInt tileB
structure LJQ (n : Nat) (es : List (List Int × Int)) (l : List (QK × Int)) (B : Nat) : Prop where
  map : MapQ n es l
  len : ∀ x ∈ l, x.1.1.length = n
  abs : absKK l ≤ B
theorem LJQ.add {n : Nat} {es : List (List Int × Int)} {l : List (QK × Int)} {B : Nat} (h : LJQ n es l B) {e : QK} (he : e.1.length = n) {c : Int} {X : Nat} (hc : c.natAbs ≤ X) : LJQ n (madd es (kq e) c) ((e, c) :: l) (B + X) := by
  refine ⟨h.map.add he c, fun x hx => ?_, ?_⟩
  · rcases List.mem_cons.1 hx with rfl | hx
    · exact he
    · exact h.len x hx
  · have := h.abs
    simp only [absKK, List.map_cons, List.sum_cons] at *
    omega
theorem LJQ.val {n : Nat} {es : List (List Int × Int)} {l : List (QK × Int)} {B : Nat} (h : LJQ n es l B) {e : QK} (he : e.1.length = n) {c : Int} {X : Nat} (hc : c.natAbs ≤ X) (hB : B + X ≤ 4000000000000000000) : -9223372036854775808 ≤ c + (mget (kq e) es).getD 0 ∧ c + (mget (kq e) es).getD 0 < 9223372036854775808 := by
  have h1 := h.map.val e he
  have h2 := coKK_abs e l
  have h3 := h.abs
  rw [h1]
  omega
theorem LJQ.mono {n : Nat} {es : List (List Int × Int)} {l : List (QK × Int)} {B C : Nat} (h : LJQ n es l B) (hB : B ≤ C) : LJQ n es l C := ⟨h.map, h.len, Nat.le_trans h.abs hB⟩
theorem divQF_some {fm : List (List Int)} {f g : Qsm} (h : FormOk fm ∧ QRight f ∧ QRight g ∧ f.v = fm.length ∧ g.v = fm.length) (hne : g.ts ≠ []) : divQF fm f g = endQd fm.length (divQ fm chkIQ g 600 (f.ts.map qp)) := by
  unfold divQF
  rw [if_pos ⟨h, hne⟩, h.2.2.2.1]
theorem impl_DivideQSums_l1 (fm : List (List Int)) (f g : Qsm) (n : Nat) (hn : f.v = n) (hv : n ≤ 8) (hf : QRight f) (hfl : f.ts.length ≤ 600) (Q0 : AEx → St → Prop) (hX0 : ∀ es l, LJQ n es l 600000000 → l.Perm (f.ts.map qp) → Q0 (.exit 0) ⟨ofL [(0, .d (.sh 1 fm.length (rows lS fm))), (4, .pt (4, 0) [] 0), (5, .pt (5, 0) [] 0), (6, .pt (6, 0) [] 0), (8, .pt (8, 0) [] 0), (38, .d (.sh 3 f.ts.length (rows qtS f.ts))), (39, .int f.ts.length), (40, .int f.ts.length), (41, .bool false)], ofRO [((4, 0), some (.bx (qS f))), ((5, 0), some (.bx (qS g))), ((6, 0), some (.bx [D.int 0, .v (.slice none 0 0)])), ((8, 0), some (.bx [D.int n, .mp es]))]⟩) : AWp C.impl_DivideQSums (codeAt Try.f31 [1, 1, 1, 0, 1, 0]) 0 Q0 ⟨ofL [(0, .d (.sh 1 fm.length (rows lS fm))), (4, .pt (4, 0) [] 0), (5, .pt (5, 0) [] 0), (6, .pt (6, 0) [] 0), (8, .pt (8, 0) [] 0), (38, .d (.sh 3 f.ts.length (rows qtS f.ts))), (39, .int f.ts.length), (40, .int 0)], ofRO [((4, 0), some (.bx (qS f))), ((5, 0), some (.bx (qS g))), ((6, 0), some (.bx [D.int 0, .v (.slice none 0 0)])), ((8, 0), some (.bx [D.int n, .mp []]))]⟩ := by
  simp only [codeAt, Try.f31, walkCode]
  refine wloop (fun x : Nat × List (List Int × Int) × List (QK × Int) => ⟨ofL [(0, .d (.sh 1 fm.length (rows lS fm))), (4, .pt (4, 0) [] 0), (5, .pt (5, 0) [] 0), (6, .pt (6, 0) [] 0), (8, .pt (8, 0) [] 0), (38, .d (.sh 3 f.ts.length (rows qtS f.ts))), (39, .int f.ts.length), (40, .int x.1)], ofRO [((4, 0), some (.bx (qS f))), ((5, 0), some (.bx (qS g))), ((6, 0), some (.bx [D.int 0, .v (.slice none 0 0)])), ((8, 0), some (.bx [D.int n, .mp x.2.1]))]⟩) (fun x => x.1 ≤ f.ts.length ∧ LJQ n x.2.1 x.2.2 (x.1 * 1000000) ∧ x.2.2.Perm ((f.ts.map qp).take x.1)) (fun x => f.ts.length - x.1) (0, [], []) (by simp [C.impl_DivideQSums, qS, hn]) ⟨by simp, ⟨MapQ.nil n, by simp, by simp [absKK]⟩, by simp⟩ ?_
  intro x1 hx1 R1 hR1
  obtain ⟨i, es, l⟩ := x1
  obtain ⟨hi, hLJ, hP⟩ := hx1
  dsimp only at hi hLJ hP ⊢
  refine wseq ?_
  refine wreg fun K hK => ?_
  simp [C.impl_DivideQSums, qS]
  refine hK _ ?_; clear hK K
  show AWp _ _ _ _ _
  refine wseq ?_
  refine wcond _ rfl (fun hc2 => ?_) (fun hc2 => ?_)
  · have hif : i < f.ts.length := by have := d_t hc2; omega
    have hT := qright_he hf hn _ (List.getElem_mem hif)
    refine wskip ?_
    show AWp _ _ _ _ _
    refine wseq ?_
    refine wblock ?_
    refine wseq ?_
    refine wreg fun K hK => ?_
    simp [C.impl_DivideQSums, qS, hif, qtS_0 hif, qtS_1 hif, qtS_2 hif]
    refine hK _ ?_; clear hK K
    show AWp _ _ _ _ _
    obtain ⟨a0, a1, a2, a3, a4, a5, a6, a7, hpa⟩ := eight (pad_length (e := f.ts[i].e) (by omega))
    have hk : [a0, a1, a2, a3, a4, a5, a6, a7, f.ts[i].h] = kq (qk f.ts[i]) := by
      simp only [kq, qk, hpa]
      rfl
    have hval := hLJ.val (e := qk f.ts[i]) hT.1 (c := f.ts[i].c) (X := 1000000) (by omega) (by omega)
    rw [← hk] at hval
    refine wdrawI [(true, 0), (true, 1), (true, 2), (true, 4), (true, 5), (true, 7), (true, 8), (false, 3), (true, 6), (false, 9)] ⟨by kernel_rfl, by kernel_rfl⟩ ([0, 1, 2, 4, 5, 7, 8, 3] ++ ([6, 9] ++ ([]))) rfl fun K hK => ?_
    refine opsI_seg fun L hL => ?_
    simp [C.impl_DivideQSums, qS, qtS]
    refine wcall1 (impl_keyOf_calls f.ts[i].e (by omega) a0 a1 a2 a3 a4 a5 a6 a7 hpa) (by simp) (by simp) ?_
    simp [C.impl_DivideQSums, qS, qtS]
    refine hL _ ?_; clear hL L
    refine opsI_seg fun L hL => ?_
    simp [C.impl_DivideQSums, qS, qtS]
    refine wcall1 (impl_qbuilding_add_calls n f.ts[i].c es a0 a1 a2 a3 a4 a5 a6 a7 f.ts[i].h (hLJ.map.len9 hv) hval) (by simp) (by simp) ?_
    simp [C.impl_DivideQSums, qS, qtS]
    refine hL _ ?_; clear hL L
    refine opsI_end fun L hL => ?_
    simp only [AOpsI]
    refine hL _ ?_; clear hL L
    simp [C.impl_DivideQSums, qS, qtS]
    rw [hk]
    refine hK _ ?_; clear hK K
    show AWp _ _ _ _ _
    refine wreg fun K hK => ?_
    simp [C.impl_DivideQSums, qS, wrap_succ (show i < 4611686018427387904 by omega)]
    refine hK _ ?_; clear hK K
    simp [C.impl_DivideQSums, qS]
    refine cast (congrArg R1 ?_) (hR1 (i + 1, madd es (kq (qk f.ts[i])) f.ts[i].c, (qk f.ts[i], f.ts[i].c) :: l) ⟨hif, ?_, ?_⟩ (by dsimp only; omega))
    · simp [qS, hn]
    · have := hLJ.add (e := qk f.ts[i]) hT.1 (c := f.ts[i].c) (X := 1000000) (by omega)
      dsimp only
      rwa [Nat.add_mul, Nat.one_mul]
    · dsimp only
      rw [List.take_succ_eq_append_getElem (by simpa using hif)]
      refine (List.Perm.cons _ hP).trans ?_
      simp only [List.getElem_map, qp]
      exact (List.perm_append_singleton _ _).symm
  · have hif : i = f.ts.length := by have := d_f hc2; omega
    have hall : l.Perm (f.ts.map qp) := by
      rw [List.take_of_length_le (by simp; omega)] at hP
      exact hP
    refine wexit ?_
    refine cast (congrArg (Q0 (.exit 0)) ?_) (hX0 es l (hLJ.mono (by rw [hif]; omega)) hall)
    simp [qS, hn, hif]

theorem impl_DivideQSums_r21 (fm : List (List Int)) (f g : Qsm) (n : Nat) (hn : f.v = n) (es eo P rest : List (List Int × Int)) (le : List Int) (lh lc : Int) (k0 k1 k2 k3 k4 k5 k6 k7 k8 t0 t1 t2 t3 t4 t5 t6 t7 t8 xc : Int) (i : Nat) (i0 : Nat) (Q0 : AEx → St → Prop) (hJ0 : Q0 .normal ⟨ofL [(0, .d (.sh 1 fm.length (rows lS fm))), (4, .pt (4, 0) [] 0), (5, .pt (5, 0) [] 0), (6, .pt (6, 0) [] 0), (8, .pt (8, 0) [] 0), (11, .pt (11, 0) [] 0), (12, .pt (12, 0) [] 0), (13, .pt (13, 0) [] 0), (14, .bool (decide (P = []))), (15, .pt (15, 0) [] 0), (72, .it (72, 0) (8, 0) [1] (rest.eraseIdx i) (some ([k0, k1, k2, k3, k4, k5, k6, k7, k8], xc))), (89, .bool (decide (P = [] ∨ qlt (q9 [t0, t1, t2, t3, t4, t5, t6, t7, t8]) (q9 [k0, k1, k2, k3, k4, k5, k6, k7, k8]) = true)))], ofRO [((4, 0), some (.bx (qS f))), ((5, 0), some (.bx (qS g))), ((6, 0), some (.bx [D.int 0, .v (.slice none 0 0)])), ((8, 0), some (.bx [D.int n, .mp es])), ((11, 0), some (.bx [D.int n, .mp eo])), ((12, 0), some (.bx [shI le, D.int lh, D.int lc])), ((13, 0), some (.bx [D.int t0, D.int t1, D.int t2, D.int t3, D.int t4, D.int t5, D.int t6, D.int t7, D.int t8])), ((15, 0), some (.bx [D.int k0, D.int k1, D.int k2, D.int k3, D.int k4, D.int k5, D.int k6, D.int k7, D.int k8])), ((72, 0), some .itr)]⟩) : AWp C.impl_DivideQSums (codeAt Try.f31 [1, 1, 1, 1, 1, 1, 0, 0, 0, 1, 0, 1, 1, 0, 1, 0, 0, 1, 1, 0, 1, 0]) i0 Q0 ⟨ofL [(0, .d (.sh 1 fm.length (rows lS fm))), (4, .pt (4, 0) [] 0), (5, .pt (5, 0) [] 0), (6, .pt (6, 0) [] 0), (8, .pt (8, 0) [] 0), (11, .pt (11, 0) [] 0), (12, .pt (12, 0) [] 0), (13, .pt (13, 0) [] 0), (14, .bool (decide (P = []))), (15, .pt (15, 0) [] 0), (72, .it (72, 0) (8, 0) [1] (rest.eraseIdx i) (some ([k0, k1, k2, k3, k4, k5, k6, k7, k8], xc)))], ofRO [((4, 0), some (.bx (qS f))), ((5, 0), some (.bx (qS g))), ((6, 0), some (.bx [D.int 0, .v (.slice none 0 0)])), ((8, 0), some (.bx [D.int n, .mp es])), ((11, 0), some (.bx [D.int n, .mp eo])), ((12, 0), some (.bx [shI le, D.int lh, D.int lc])), ((13, 0), some (.bx [D.int t0, D.int t1, D.int t2, D.int t3, D.int t4, D.int t5, D.int t6, D.int t7, D.int t8])), ((15, 0), some (.bx [D.int k0, D.int k1, D.int k2, D.int k3, D.int k4, D.int k5, D.int k6, D.int k7, D.int k8])), ((72, 0), some .itr)]⟩ := by
  simp only [codeAt, Try.f31, walkCode]
  refine wdrawI [(true, 0), (true, 1), (true, 2), (true, 3), (true, 4), (true, 5), (true, 6), (true, 7), (true, 8), (true, 9), (false, 10), (true, 11), (true, 12)] ⟨by kernel_rfl, by kernel_rfl⟩ ([0, 1, 2, 3, 4, 5, 6, 7, 8, 9, 10] ++ ([11, 12])) rfl fun K hK => ?_
  have hJ : K ⟨ofL [(0, .d (.sh 1 fm.length (rows lS fm))), (4, .pt (4, 0) [] 0), (5, .pt (5, 0) [] 0), (6, .pt (6, 0) [] 0), (8, .pt (8, 0) [] 0), (11, .pt (11, 0) [] 0), (12, .pt (12, 0) [] 0), (13, .pt (13, 0) [] 0), (14, .bool (decide (P = []))), (15, .pt (15, 0) [] 0), (72, .it (72, 0) (8, 0) [1] (rest.eraseIdx i) (some ([k0, k1, k2, k3, k4, k5, k6, k7, k8], xc))), (89, .bool (decide (P = [] ∨ qlt (q9 [t0, t1, t2, t3, t4, t5, t6, t7, t8]) (q9 [k0, k1, k2, k3, k4, k5, k6, k7, k8]) = true)))], ofRO [((4, 0), some (.bx (qS f))), ((5, 0), some (.bx (qS g))), ((6, 0), some (.bx [D.int 0, .v (.slice none 0 0)])), ((8, 0), some (.bx [D.int n, .mp es])), ((11, 0), some (.bx [D.int n, .mp eo])), ((12, 0), some (.bx [shI le, D.int lh, D.int lc])), ((13, 0), some (.bx [D.int t0, D.int t1, D.int t2, D.int t3, D.int t4, D.int t5, D.int t6, D.int t7, D.int t8])), ((15, 0), some (.bx [D.int k0, D.int k1, D.int k2, D.int k3, D.int k4, D.int k5, D.int k6, D.int k7, D.int k8])), ((72, 0), some .itr)]⟩ := by
    refine hK _ ?_; clear hK K
    exact hJ0
  clear hK
  by_cases hp : P = []
  · refine opsI_seg fun L hL => ?_
    simp [C.impl_DivideQSums, qS, ints, sh8, hp]
    refine hL _ ?_; clear hL L
    refine opsI_end fun L hL => ?_
    simp [C.impl_DivideQSums, qS, ints, sh8, hp]
    refine hL _ ?_; clear hL L
    simp [C.impl_DivideQSums, qS, ints, sh8, hp]
    refine cast (congrArg K ?_) hJ
    simp [cmpQ_neg, q9, hn, qS, hp]
  · refine opsI_seg fun L hL => ?_
    simp [C.impl_DivideQSums, qS, ints, sh8, hp]
    refine wcall1 (impl_descending_calls [k0, k1, k2, k3, k4, k5, k6, k7] k8 [t0, t1, t2, t3, t4, t5, t6, t7] t8 (by simp)) (by simp [qS, ints, sh8]) (by simp) ?_
    simp [C.impl_DivideQSums, qS, ints, sh8, hp]
    refine hL _ ?_; clear hL L
    refine opsI_end fun L hL => ?_
    simp [C.impl_DivideQSums, qS, ints, sh8, hp]
    refine hL _ ?_; clear hL L
    simp [C.impl_DivideQSums, qS, ints, sh8, hp]
    refine cast (congrArg K ?_) hJ
    simp [cmpQ_neg, q9, hn, qS, hp]

theorem impl_DivideQSums_l3 (fm : List (List Int)) (f g : Qsm) (n : Nat) (hn : f.v = n) (es eo : List (List Int × Int)) (le : List Int) (lh lc : Int) (hm9 : mapLen 9 es) (Q0 : AEx → St → Prop) (hX0 : ∀ P top cur, P.Perm es → TopQ P top → Q0 (.exit 4) ⟨ofL [(0, .d (.sh 1 fm.length (rows lS fm))), (4, .pt (4, 0) [] 0), (5, .pt (5, 0) [] 0), (6, .pt (6, 0) [] 0), (8, .pt (8, 0) [] 0), (11, .pt (11, 0) [] 0), (12, .pt (12, 0) [] 0), (13, .pt (13, 0) [] 0), (14, .bool (decide (P = []))), (72, .it (72, 0) (8, 0) [1] [] cur), (74, .bool false)], ofRO [((4, 0), some (.bx (qS f))), ((5, 0), some (.bx (qS g))), ((6, 0), some (.bx [D.int 0, .v (.slice none 0 0)])), ((8, 0), some (.bx [D.int n, .mp es])), ((11, 0), some (.bx [D.int n, .mp eo])), ((12, 0), some (.bx [shI le, D.int lh, D.int lc])), ((13, 0), some (.bx (ints top))), ((72, 0), some .itr)]⟩) : AWp C.impl_DivideQSums (codeAt Try.f31 [1, 1, 1, 1, 1, 1, 0, 0, 0, 1, 0, 1, 1, 0, 1, 0]) 4 Q0 ⟨ofL [(0, .d (.sh 1 fm.length (rows lS fm))), (4, .pt (4, 0) [] 0), (5, .pt (5, 0) [] 0), (6, .pt (6, 0) [] 0), (8, .pt (8, 0) [] 0), (11, .pt (11, 0) [] 0), (12, .pt (12, 0) [] 0), (13, .pt (13, 0) [] 0), (14, .bool (decide (([] : List (List Int × Int)) = []))), (72, .it (72, 0) (8, 0) [1] es none)], ofRO [((4, 0), some (.bx (qS f))), ((5, 0), some (.bx (qS g))), ((6, 0), some (.bx [D.int 0, .v (.slice none 0 0)])), ((8, 0), some (.bx [D.int n, .mp es])), ((11, 0), some (.bx [D.int n, .mp eo])), ((12, 0), some (.bx [shI le, D.int lh, D.int lc])), ((13, 0), some (.bx (ints [0, 0, 0, 0, 0, 0, 0, 0, 0]))), ((72, 0), some .itr)]⟩ := by
  simp only [codeAt, Try.f31, walkCode]
  refine wloop (fun x : List (List Int × Int) × List Int × List (List Int × Int) × Option (List Int × Int) => ⟨ofL [(0, .d (.sh 1 fm.length (rows lS fm))), (4, .pt (4, 0) [] 0), (5, .pt (5, 0) [] 0), (6, .pt (6, 0) [] 0), (8, .pt (8, 0) [] 0), (11, .pt (11, 0) [] 0), (12, .pt (12, 0) [] 0), (13, .pt (13, 0) [] 0), (14, .bool (decide (x.1 = []))), (72, .it (72, 0) (8, 0) [1] x.2.2.1 x.2.2.2)], ofRO [((4, 0), some (.bx (qS f))), ((5, 0), some (.bx (qS g))), ((6, 0), some (.bx [D.int 0, .v (.slice none 0 0)])), ((8, 0), some (.bx [D.int n, .mp es])), ((11, 0), some (.bx [D.int n, .mp eo])), ((12, 0), some (.bx [shI le, D.int lh, D.int lc])), ((13, 0), some (.bx (ints x.2.1))), ((72, 0), some .itr)]⟩) (fun x => (x.1 ++ x.2.2.1).Perm es ∧ TopQ x.1 x.2.1) (fun x => x.2.2.1.length) ([], [0, 0, 0, 0, 0, 0, 0, 0, 0], es, none) (by simp [C.impl_DivideQSums, qS, hn, ints]) ⟨by simp, ⟨rfl, by simp, by simp⟩⟩ ?_
  intro x3 hx3 R3 hR3
  obtain ⟨P, top, rest, cur⟩ := x3
  obtain ⟨hq, hT⟩ := hx3
  dsimp only at hq hT ⊢
  refine wseq ?_
  refine wreg fun K hK => ?_
  simp [C.impl_DivideQSums, qS]
  refine ⟨fun hrest => ?_, fun i xk xc hxi => ?_⟩
  · refine hK _ ?_; clear hK K
    show AWp _ _ _ _ _
    refine wseq ?_
    refine wcond _ rfl (fun hc4 => ?_) (fun hc4 => ?_)
    · simp at hc4
    · subst hrest
      have hqe : P.Perm es := by simpa using hq
      refine wexit ?_
      refine cast (congrArg (Q0 (.exit 4)) ?_) (hX0 P top cur hqe hT)
      simp [qS, hn]
  · refine hK _ ?_; clear hK K
    show AWp _ _ _ _ _
    refine wseq ?_
    refine wcond _ rfl (fun hc6 => ?_) (fun hc6 => ?_)
    · have hxm : (xk, xc) ∈ rest := List.mem_of_getElem? hxi
      have hxl := hm9 _ (hq.subset (List.mem_append_right P hxm))
      dsimp only at hxl
      obtain ⟨k0, k1, k2, k3, k4, k5, k6, k7, k8, rfl⟩ := nine hxl
      obtain ⟨t0, t1, t2, t3, t4, t5, t6, t7, t8, rfl⟩ := nine hT.len
      have hil : i < rest.length := by
        rcases Nat.lt_or_ge i rest.length with h | h
        · exact h
        · rw [List.getElem?_eq_none h] at hxi; simp at hxi
      have hper : (P ++ [([k0, k1, k2, k3, k4, k5, k6, k7, k8], xc)] ++ rest.eraseIdx i).Perm es := by
        have hget : rest[i] = ([k0, k1, k2, k3, k4, k5, k6, k7, k8], xc) := by
          rw [List.getElem?_eq_getElem hil] at hxi
          injection hxi
        have h9 := erase_perm rest i hil
        rw [hget] at h9
        refine List.Perm.trans ?_ hq
        rw [List.append_assoc]
        exact List.Perm.append_left _ h9
      refine wskip ?_
      show AWp _ _ _ _ _
      refine wblock ?_
      refine wseq ?_
      refine wreg fun K hK => ?_
      simp [C.impl_DivideQSums, qS, ints]
      refine hK _ ?_; clear hK K
      show AWp _ _ _ _ _
      refine wseq ?_
      refine wcode (c' := codeAt Try.f31 [1, 1, 1, 1, 1, 1, 0, 0, 0, 1, 0, 1, 1, 0, 1, 0, 0, 1, 1, 0, 1, 0]) (by kernel_rfl) ?_
      refine impl_DivideQSums_r21 fm f g n hn es eo P rest le lh lc k0 k1 k2 k3 k4 k5 k6 k7 k8 t0 t1 t2 t3 t4 t5 t6 t7 t8 xc i _ _ ?_
      show AWp _ _ _ _ _
      refine wcond _ rfl (fun hc7 => ?_) (fun hc7 => ?_)
      · have hcm := d_t hc7
        refine wreg fun K hK => ?_
        simp [C.impl_DivideQSums, qS]
        refine hK _ ?_; clear hK K
        simp [C.impl_DivideQSums, qS]
        refine cast (congrArg R3 ?_) (hR3 (P ++ [([k0, k1, k2, k3, k4, k5, k6, k7, k8], xc)], [k0, k1, k2, k3, k4, k5, k6, k7, k8], rest.eraseIdx i, some ([k0, k1, k2, k3, k4, k5, k6, k7, k8], xc)) ⟨hper, hT.next rfl hcm⟩ (by dsimp only; rw [List.length_eraseIdx_of_lt hil]; omega))
        simp [qS, hn, ints]
      · have hcm := d_f hc7
        have hPn : P ≠ [] := fun e => hcm (.inl e)
        have hlt : qlt (q9 [t0, t1, t2, t3, t4, t5, t6, t7, t8]) (q9 [k0, k1, k2, k3, k4, k5, k6, k7, k8]) = false := by
          cases hh : qlt (q9 [t0, t1, t2, t3, t4, t5, t6, t7, t8]) (q9 [k0, k1, k2, k3, k4, k5, k6, k7, k8]) with
          | false => rfl
          | true => exact absurd (.inr hh) hcm
        refine wskip ?_
        simp [C.impl_DivideQSums, qS]
        refine cast (congrArg R3 ?_) (hR3 (P ++ [([k0, k1, k2, k3, k4, k5, k6, k7, k8], xc)], [t0, t1, t2, t3, t4, t5, t6, t7, t8], rest.eraseIdx i, some ([k0, k1, k2, k3, k4, k5, k6, k7, k8], xc)) ⟨hper, hT.keep hPn hlt⟩ (by dsimp only; rw [List.length_eraseIdx_of_lt hil]; omega))
        simp [qS, hn, ints, hPn]
    · simp at hc6

theorem impl_DivideQSums_r24 (fm : List (List Int)) (f g : Qsm) (n : Nat) (es eo : List (List Int × Int)) (le : List Int) (lh lc : Int) (a0 a1 a2 a3 a4 a5 a6 a7 b0 b1 b2 b3 b4 b5 b6 b7 ah c : Int) (hgl8 : le.length ≤ 8) (hpb : pad le = [b0, b1, b2, b3, b4, b5, b6, b7]) (hba : ∀ x ∈ [a0, a1, a2, a3, a4, a5, a6, a7], -1000000 ≤ x ∧ x ≤ 1000000) (hbb : ∀ x ∈ [b0, b1, b2, b3, b4, b5, b6, b7], -1000000 ≤ x ∧ x ≤ 1000000) (i0 : Nat) (Q0 : AEx → St → Prop) (hJ0 : Q0 .normal ⟨ofL [(0, .d (.sh 1 fm.length (rows lS fm))), (4, .pt (4, 0) [] 0), (5, .pt (5, 0) [] 0), (6, .pt (6, 0) [] 0), (8, .pt (8, 0) [] 0), (11, .pt (11, 0) [] 0), (12, .pt (12, 0) [] 0), (13, .pt (13, 0) [] 0), (16, .int c), (17, .pt (17, 0) [] 0)], ofRO [((4, 0), some (.bx (qS f))), ((5, 0), some (.bx (qS g))), ((6, 0), some (.bx [D.int 0, .v (.slice none 0 0)])), ((8, 0), some (.bx [D.int n, .mp es])), ((11, 0), some (.bx [D.int n, .mp eo])), ((12, 0), some (.bx [shI le, D.int lh, D.int lc])), ((13, 0), some (.bx (ints [a0, a1, a2, a3, a4, a5, a6, a7, ah]))), ((17, 0), some (.bx [D.int (a0 + -1 * b0), D.int (a1 + -1 * b1), D.int (a2 + -1 * b2), D.int (a3 + -1 * b3), D.int (a4 + -1 * b4), D.int (a5 + -1 * b5), D.int (a6 + -1 * b6), D.int (a7 + -1 * b7)]))]⟩) : AWp C.impl_DivideQSums (codeAt Try.f31 [1, 1, 1, 1, 1, 1, 0, 0, 0, 1, 0, 1, 1, 1, 1, 0]) i0 Q0 ⟨ofL [(0, .d (.sh 1 fm.length (rows lS fm))), (4, .pt (4, 0) [] 0), (5, .pt (5, 0) [] 0), (6, .pt (6, 0) [] 0), (8, .pt (8, 0) [] 0), (11, .pt (11, 0) [] 0), (12, .pt (12, 0) [] 0), (13, .pt (13, 0) [] 0), (16, .int c)], ofRO [((4, 0), some (.bx (qS f))), ((5, 0), some (.bx (qS g))), ((6, 0), some (.bx [D.int 0, .v (.slice none 0 0)])), ((8, 0), some (.bx [D.int n, .mp es])), ((11, 0), some (.bx [D.int n, .mp eo])), ((12, 0), some (.bx [shI le, D.int lh, D.int lc])), ((13, 0), some (.bx (ints [a0, a1, a2, a3, a4, a5, a6, a7, ah])))]⟩ := by
  simp only [codeAt, Try.f31, walkCode]
  refine wdraw (.take 0 (.take 1 (.take 2 (.take 3 (.all [(4, .all [(5, .all [(6, .all [(7, .done)])]), (6, .all [(5, .all [(7, .done)])])]), (6, .all [(4, .all [(5, .all [(7, .done)])])])]))))) ⟨by kernel_rfl, by kernel_rfl⟩ fun K hK => ?_
  have hJ : K ⟨ofL [(0, .d (.sh 1 fm.length (rows lS fm))), (4, .pt (4, 0) [] 0), (5, .pt (5, 0) [] 0), (6, .pt (6, 0) [] 0), (8, .pt (8, 0) [] 0), (11, .pt (11, 0) [] 0), (12, .pt (12, 0) [] 0), (13, .pt (13, 0) [] 0), (16, .int c), (17, .pt (17, 0) [] 0)], ofRO [((4, 0), some (.bx (qS f))), ((5, 0), some (.bx (qS g))), ((6, 0), some (.bx [D.int 0, .v (.slice none 0 0)])), ((8, 0), some (.bx [D.int n, .mp es])), ((11, 0), some (.bx [D.int n, .mp eo])), ((12, 0), some (.bx [shI le, D.int lh, D.int lc])), ((13, 0), some (.bx (ints [a0, a1, a2, a3, a4, a5, a6, a7, ah]))), ((17, 0), some (.bx [D.int (a0 + -1 * b0), D.int (a1 + -1 * b1), D.int (a2 + -1 * b2), D.int (a3 + -1 * b3), D.int (a4 + -1 * b4), D.int (a5 + -1 * b5), D.int (a6 + -1 * b6), D.int (a7 + -1 * b7)]))]⟩ := by
    refine hK _ ?_; clear hK K
    exact hJ0
  clear hK
  have hk1 := impl_keyOf_calls le (by omega) b0 b1 b2 b3 b4 b5 b6 b7 hpb
  have hk2 := impl_plusExp_calls (-1) a0 a1 a2 a3 a4 a5 a6 a7 b0 b1 b2 b3 b4 b5 b6 b7 (by omega) hba hbb
  simp [C.impl_DivideQSums, qS, ints]
  repeat' first
    | (refine wcall1 hk1 (by simp) (by simp) ?_; simp [C.impl_DivideQSums, qS])
    | (refine wcall1 hk2 (by simp) (by simp) ?_; simp [C.impl_DivideQSums, qS])
    | (refine cast (congrArg K ?_) hJ; simp [qS, ints]; done)
    | refine ⟨?_, ?_⟩

theorem impl_DivideQSums_r27 (fm : List (List Int)) (f g : Qsm) (n : Nat) (hn : f.v = n) (hv : n ≤ 8) (es eo : List (List Int × Int)) (O : List (QK × Int)) (le : List Int) (lh lc : Int) (E : List Int) (e0 e1 e2 e3 e4 e5 e6 e7 c q H : Int) (hgc0 : lc ≠ 0) (hsh : shareL (List.take n [D.v (.int .i64 e0), D.v (.int .i64 e1), D.v (.int .i64 e2), D.v (.int .i64 e3), D.v (.int .i64 e4), D.v (.int .i64 e5), D.v (.int .i64 e6), D.v (.int .i64 e7)]) = ints E) (hEl : E.length = n) (heol : eo.length = O.length) (i0 : Nat) (Q0 : AEx → St → Prop) (hJ0 : Q0 .normal ⟨ofL [(0, .d (.sh 1 fm.length (rows lS fm))), (4, .pt (4, 0) [] 0), (5, .pt (5, 0) [] 0), (6, .pt (6, 0) [] 0), (8, .pt (8, 0) [] 0), (11, .pt (11, 0) [] 0), (12, .pt (12, 0) [] 0), (17, .pt (17, 0) [] 0), (18, .int H), (19, .int q), (151, .bool (!decide ((((c.tmod lc = 0 ∧ okE E n = true) ∧ (-200 ≤ H ∧ H ≤ 200)) ∧ (q ≠ 0 ∧ -1000000 ≤ q ∧ q ≤ 1000000)) ∧ ¬ O.length = 600)))], ofRO [((4, 0), some (.bx (qS f))), ((5, 0), some (.bx (qS g))), ((6, 0), some (.bx [D.int 0, .v (.slice none 0 0)])), ((8, 0), some (.bx [D.int n, .mp es])), ((11, 0), some (.bx [D.int n, .mp eo])), ((12, 0), some (.bx [shI le, D.int lh, D.int lc])), ((17, 0), some (.bx [D.int e0, D.int e1, D.int e2, D.int e3, D.int e4, D.int e5, D.int e6, D.int e7]))]⟩) : AWp C.impl_DivideQSums (codeAt Try.f31 [1, 1, 1, 1, 1, 1, 0, 0, 0, 1, 0, 1, 1, 1, 1, 1, 1, 1, 0, 0]) i0 Q0 ⟨ofL [(0, .d (.sh 1 fm.length (rows lS fm))), (4, .pt (4, 0) [] 0), (5, .pt (5, 0) [] 0), (6, .pt (6, 0) [] 0), (8, .pt (8, 0) [] 0), (11, .pt (11, 0) [] 0), (12, .pt (12, 0) [] 0), (16, .int c), (17, .pt (17, 0) [] 0), (18, .int H), (19, .int q)], ofRO [((4, 0), some (.bx (qS f))), ((5, 0), some (.bx (qS g))), ((6, 0), some (.bx [D.int 0, .v (.slice none 0 0)])), ((8, 0), some (.bx [D.int n, .mp es])), ((11, 0), some (.bx [D.int n, .mp eo])), ((12, 0), some (.bx [shI le, D.int lh, D.int lc])), ((17, 0), some (.bx [D.int e0, D.int e1, D.int e2, D.int e3, D.int e4, D.int e5, D.int e6, D.int e7]))]⟩ := by
  simp only [codeAt, Try.f31, walkCode]
  refine wdrawI [(true, 0), (true, 1), (true, 2), (true, 3), (true, 4), (true, 5), (true, 6), (true, 7), (true, 8), (true, 9), (true, 10), (false, 11), (true, 12), (true, 13), (true, 14), (true, 15), (false, 16), (true, 17), (true, 18), (true, 19), (true, 20), (false, 21), (true, 22), (true, 23), (true, 24), (true, 25), (true, 26), (true, 27), (true, 28), (true, 29), (true, 30), (true, 31)] ⟨by kernel_rfl, by kernel_rfl⟩ ([0, 1, 2, 3, 4, 5, 6, 7, 8, 9, 10, 11] ++ ([12, 13, 14, 15, 16] ++ ([17, 18, 19, 20, 21] ++ ([22, 23, 24, 25, 26, 27, 28, 29, 30, 31])))) rfl fun K hK => ?_
  have hJ : K ⟨ofL [(0, .d (.sh 1 fm.length (rows lS fm))), (4, .pt (4, 0) [] 0), (5, .pt (5, 0) [] 0), (6, .pt (6, 0) [] 0), (8, .pt (8, 0) [] 0), (11, .pt (11, 0) [] 0), (12, .pt (12, 0) [] 0), (17, .pt (17, 0) [] 0), (18, .int H), (19, .int q), (151, .bool (!decide ((((c.tmod lc = 0 ∧ okE E n = true) ∧ (-200 ≤ H ∧ H ≤ 200)) ∧ (q ≠ 0 ∧ -1000000 ≤ q ∧ q ≤ 1000000)) ∧ ¬ O.length = 600)))], ofRO [((4, 0), some (.bx (qS f))), ((5, 0), some (.bx (qS g))), ((6, 0), some (.bx [D.int 0, .v (.slice none 0 0)])), ((8, 0), some (.bx [D.int n, .mp es])), ((11, 0), some (.bx [D.int n, .mp eo])), ((12, 0), some (.bx [shI le, D.int lh, D.int lc])), ((17, 0), some (.bx [D.int e0, D.int e1, D.int e2, D.int e3, D.int e4, D.int e5, D.int e6, D.int e7]))]⟩ := by
    refine hK _ ?_; clear hK K
    exact hJ0
  clear hK
  by_cases g1 : c.tmod lc = 0
  · by_cases g2 : okE E n = true
    · by_cases g2h : (-200 ≤ H ∧ H ≤ 200)
      · by_cases g3 : (q ≠ 0 ∧ -1000000 ≤ q ∧ q ≤ 1000000)
        · refine opsI_seg fun L hL => ?_
          simp [C.impl_DivideQSums, qS, hgc0, hn, show ((n : Int) ≤ 8) by omega, hv, Nat.min_eq_left hv, hsh, hEl, heol, g1, g2, g2h, g3]
          refine wcall1 (impl_expOk_calls E n (by omega)) (by simp [qS, hgc0, hn, show ((n : Int) ≤ 8) by omega, hv, Nat.min_eq_left hv, hsh, hEl, heol]) (by simp) ?_
          simp [C.impl_DivideQSums, qS, hgc0, hn, show ((n : Int) ≤ 8) by omega, hv, Nat.min_eq_left hv, hsh, hEl, heol, g1, g2, g2h, g3]
          refine hL _ ?_; clear hL L
          refine opsI_seg fun L hL => ?_
          simp [C.impl_DivideQSums, qS, hgc0, hn, show ((n : Int) ≤ 8) by omega, hv, Nat.min_eq_left hv, hsh, hEl, heol, g1, g2, g2h, g3]
          refine wcall1 (impl_within_calls H (-200) 200) (by simp) (by simp) ?_
          simp [C.impl_DivideQSums, qS, hgc0, hn, show ((n : Int) ≤ 8) by omega, hv, Nat.min_eq_left hv, hsh, hEl, heol, g1, g2, g2h, g3]
          refine hL _ ?_; clear hL L
          refine opsI_seg fun L hL => ?_
          simp [C.impl_DivideQSums, qS, hgc0, hn, show ((n : Int) ≤ 8) by omega, hv, Nat.min_eq_left hv, hsh, hEl, heol, g1, g2, g2h, g3]
          refine wcall1 (impl_coefOk_calls q) (by simp) (by simp) ?_
          simp [C.impl_DivideQSums, qS, hgc0, hn, show ((n : Int) ≤ 8) by omega, hv, Nat.min_eq_left hv, hsh, hEl, heol, g1, g2, g2h, g3]
          refine hL _ ?_; clear hL L
          refine opsI_end fun L hL => ?_
          simp [C.impl_DivideQSums, qS, hgc0, hn, show ((n : Int) ≤ 8) by omega, hv, Nat.min_eq_left hv, hsh, hEl, heol, g1, g2, g2h, g3]
          refine hL _ ?_; clear hL L
          simp [C.impl_DivideQSums, qS, hgc0, hn, show ((n : Int) ≤ 8) by omega, hv, Nat.min_eq_left hv, hsh, hEl, heol, g1, g2, g2h, g3]
          refine cast (congrArg K ?_) hJ
          simp [ieq600, hn, qS, g1, g2, g2h, g3]
        · refine opsI_seg fun L hL => ?_
          simp [C.impl_DivideQSums, qS, hgc0, hn, show ((n : Int) ≤ 8) by omega, hv, Nat.min_eq_left hv, hsh, hEl, heol, g1, g2, g2h, g3]
          refine wcall1 (impl_expOk_calls E n (by omega)) (by simp [qS, hgc0, hn, show ((n : Int) ≤ 8) by omega, hv, Nat.min_eq_left hv, hsh, hEl, heol]) (by simp) ?_
          simp [C.impl_DivideQSums, qS, hgc0, hn, show ((n : Int) ≤ 8) by omega, hv, Nat.min_eq_left hv, hsh, hEl, heol, g1, g2, g2h, g3]
          refine hL _ ?_; clear hL L
          refine opsI_seg fun L hL => ?_
          simp [C.impl_DivideQSums, qS, hgc0, hn, show ((n : Int) ≤ 8) by omega, hv, Nat.min_eq_left hv, hsh, hEl, heol, g1, g2, g2h, g3]
          refine wcall1 (impl_within_calls H (-200) 200) (by simp) (by simp) ?_
          simp [C.impl_DivideQSums, qS, hgc0, hn, show ((n : Int) ≤ 8) by omega, hv, Nat.min_eq_left hv, hsh, hEl, heol, g1, g2, g2h, g3]
          refine hL _ ?_; clear hL L
          refine opsI_seg fun L hL => ?_
          simp [C.impl_DivideQSums, qS, hgc0, hn, show ((n : Int) ≤ 8) by omega, hv, Nat.min_eq_left hv, hsh, hEl, heol, g1, g2, g2h, g3]
          refine wcall1 (impl_coefOk_calls q) (by simp) (by simp) ?_
          simp [C.impl_DivideQSums, qS, hgc0, hn, show ((n : Int) ≤ 8) by omega, hv, Nat.min_eq_left hv, hsh, hEl, heol, g1, g2, g2h, g3]
          refine hL _ ?_; clear hL L
          refine opsI_end fun L hL => ?_
          simp [C.impl_DivideQSums, qS, hgc0, hn, show ((n : Int) ≤ 8) by omega, hv, Nat.min_eq_left hv, hsh, hEl, heol, g1, g2, g2h, g3]
          refine hL _ ?_; clear hL L
          simp [C.impl_DivideQSums, qS, hgc0, hn, show ((n : Int) ≤ 8) by omega, hv, Nat.min_eq_left hv, hsh, hEl, heol, g1, g2, g2h, g3]
          refine cast (congrArg K ?_) hJ
          simp [ieq600, hn, qS, g1, g2, g2h, g3]
      · refine opsI_seg fun L hL => ?_
        simp [C.impl_DivideQSums, qS, hgc0, hn, show ((n : Int) ≤ 8) by omega, hv, Nat.min_eq_left hv, hsh, hEl, heol, g1, g2, g2h]
        refine wcall1 (impl_expOk_calls E n (by omega)) (by simp [qS, hgc0, hn, show ((n : Int) ≤ 8) by omega, hv, Nat.min_eq_left hv, hsh, hEl, heol]) (by simp) ?_
        simp [C.impl_DivideQSums, qS, hgc0, hn, show ((n : Int) ≤ 8) by omega, hv, Nat.min_eq_left hv, hsh, hEl, heol, g1, g2, g2h]
        refine hL _ ?_; clear hL L
        refine opsI_seg fun L hL => ?_
        simp [C.impl_DivideQSums, qS, hgc0, hn, show ((n : Int) ≤ 8) by omega, hv, Nat.min_eq_left hv, hsh, hEl, heol, g1, g2, g2h]
        refine wcall1 (impl_within_calls H (-200) 200) (by simp) (by simp) ?_
        simp [C.impl_DivideQSums, qS, hgc0, hn, show ((n : Int) ≤ 8) by omega, hv, Nat.min_eq_left hv, hsh, hEl, heol, g1, g2, g2h]
        refine hL _ ?_; clear hL L
        refine opsI_seg fun L hL => ?_
        simp [C.impl_DivideQSums, qS, hgc0, hn, show ((n : Int) ≤ 8) by omega, hv, Nat.min_eq_left hv, hsh, hEl, heol, g1, g2, g2h]
        refine hL _ ?_; clear hL L
        refine opsI_end fun L hL => ?_
        simp [C.impl_DivideQSums, qS, hgc0, hn, show ((n : Int) ≤ 8) by omega, hv, Nat.min_eq_left hv, hsh, hEl, heol, g1, g2, g2h]
        refine hL _ ?_; clear hL L
        simp [C.impl_DivideQSums, qS, hgc0, hn, show ((n : Int) ≤ 8) by omega, hv, Nat.min_eq_left hv, hsh, hEl, heol, g1, g2, g2h]
        refine cast (congrArg K ?_) hJ
        simp [ieq600, hn, qS, g1, g2, g2h]
    · refine opsI_seg fun L hL => ?_
      simp [C.impl_DivideQSums, qS, hgc0, hn, show ((n : Int) ≤ 8) by omega, hv, Nat.min_eq_left hv, hsh, hEl, heol, g1, g2]
      refine wcall1 (impl_expOk_calls E n (by omega)) (by simp [qS, hgc0, hn, show ((n : Int) ≤ 8) by omega, hv, Nat.min_eq_left hv, hsh, hEl, heol]) (by simp) ?_
      simp [C.impl_DivideQSums, qS, hgc0, hn, show ((n : Int) ≤ 8) by omega, hv, Nat.min_eq_left hv, hsh, hEl, heol, g1, g2]
      refine hL _ ?_; clear hL L
      refine opsI_seg fun L hL => ?_
      simp [C.impl_DivideQSums, qS, hgc0, hn, show ((n : Int) ≤ 8) by omega, hv, Nat.min_eq_left hv, hsh, hEl, heol, g1, g2]
      refine hL _ ?_; clear hL L
      refine opsI_seg fun L hL => ?_
      simp [C.impl_DivideQSums, qS, hgc0, hn, show ((n : Int) ≤ 8) by omega, hv, Nat.min_eq_left hv, hsh, hEl, heol, g1, g2]
      refine hL _ ?_; clear hL L
      refine opsI_end fun L hL => ?_
      simp [C.impl_DivideQSums, qS, hgc0, hn, show ((n : Int) ≤ 8) by omega, hv, Nat.min_eq_left hv, hsh, hEl, heol, g1, g2]
      refine hL _ ?_; clear hL L
      simp [C.impl_DivideQSums, qS, hgc0, hn, show ((n : Int) ≤ 8) by omega, hv, Nat.min_eq_left hv, hsh, hEl, heol, g1, g2]
      refine cast (congrArg K ?_) hJ
      simp [ieq600, hn, qS, g1, g2]
  · refine opsI_seg fun L hL => ?_
    simp [C.impl_DivideQSums, qS, hgc0, hn, show ((n : Int) ≤ 8) by omega, hv, Nat.min_eq_left hv, hsh, hEl, heol, g1]
    refine hL _ ?_; clear hL L
    refine opsI_seg fun L hL => ?_
    simp [C.impl_DivideQSums, qS, hgc0, hn, show ((n : Int) ≤ 8) by omega, hv, Nat.min_eq_left hv, hsh, hEl, heol, g1]
    refine hL _ ?_; clear hL L
    refine opsI_seg fun L hL => ?_
    simp [C.impl_DivideQSums, qS, hgc0, hn, show ((n : Int) ≤ 8) by omega, hv, Nat.min_eq_left hv, hsh, hEl, heol, g1]
    refine hL _ ?_; clear hL L
    refine opsI_end fun L hL => ?_
    simp [C.impl_DivideQSums, qS, hgc0, hn, show ((n : Int) ≤ 8) by omega, hv, Nat.min_eq_left hv, hsh, hEl, heol, g1]
    refine hL _ ?_; clear hL L
    simp [C.impl_DivideQSums, qS, hgc0, hn, show ((n : Int) ≤ 8) by omega, hv, Nat.min_eq_left hv, hsh, hEl, heol, g1]
    refine cast (congrArg K ?_) hJ
    simp [ieq600, hn, qS, g1]

theorem impl_DivideQSums_l4 (fm : List (List Int)) (hok : FormOk fm) (f g : Qsm) (n : Nat) (hnn : fm.length = n) (hn : f.v = n) (hgn : g.v = n) (hv : n ≤ 8) (hg : QRight g) (hgl : g.ts.length ≤ 600) (es : List (List Int × Int)) (l : List (QK × Int)) (eo2 : List (List Int × Int)) (O : List (QK × Int)) (hOl : O.length ≤ 600) (le : List Int) (lh lc : Int) (hLr : LJQ n es l (600000000 + O.length * 600000000000000)) (E : List Int) (hEl : E.length = n) (hE20 : ∀ x ∈ E, -20 ≤ x ∧ x ≤ 20) (e0 e1 e2 e3 e4 e5 e6 e7 q H : Int) (hpe : pad E = [e0, e1, e2, e3, e4, e5, e6, e7]) (hsh : shareL (List.take n [D.v (.int .i64 e0), D.v (.int .i64 e1), D.v (.int .i64 e2), D.v (.int .i64 e3), D.v (.int .i64 e4), D.v (.int .i64 e5), D.v (.int .i64 e6), D.v (.int .i64 e7)]) = ints E) (hbe : ∀ x ∈ [e0, e1, e2, e3, e4, e5, e6, e7], -1000000 ≤ x ∧ x ≤ 1000000) (g2h : -200 ≤ H ∧ H ≤ 200) (g3 : q ≠ 0 ∧ -1000000 ≤ q ∧ q ≤ 1000000) (Q0 : AEx → St → Prop) (hX0 : ∀ es2 l2, LJQ n es2 l2 (600000000 + O.length * 600000000000000 + 600000000000000) → l2.Perm (l ++ negQ fm (E, H) q g.ts) → Q0 (.exit 6) ⟨ofL [(0, .d (.sh 1 fm.length (rows lS fm))), (4, .pt (4, 0) [] 0), (5, .pt (5, 0) [] 0), (6, .pt (6, 0) [] 0), (8, .pt (8, 0) [] 0), (11, .pt (11, 0) [] 0), (12, .pt (12, 0) [] 0), (17, .pt (17, 0) [] 0), (18, .int H), (19, .int q), (160, .d (.sh 3 g.ts.length (rows qtS g.ts))), (161, .int g.ts.length), (162, .int g.ts.length), (163, .bool false)], ofRO [((4, 0), some (.bx (qS f))), ((5, 0), some (.bx (qS g))), ((6, 0), some (.bx [D.int 0, .v (.slice none 0 0)])), ((8, 0), some (.bx [D.int n, .mp es2])), ((11, 0), some (.bx [D.int n, .mp eo2])), ((12, 0), some (.bx [shI le, D.int lh, D.int lc])), ((17, 0), some (.bx [D.int e0, D.int e1, D.int e2, D.int e3, D.int e4, D.int e5, D.int e6, D.int e7]))]⟩) : AWp C.impl_DivideQSums (codeAt Try.f31 [1, 1, 1, 1, 1, 1, 0, 0, 0, 1, 0, 1, 1, 1, 1, 1, 1, 1, 1, 1, 1, 0]) 6 Q0 ⟨ofL [(0, .d (.sh 1 fm.length (rows lS fm))), (4, .pt (4, 0) [] 0), (5, .pt (5, 0) [] 0), (6, .pt (6, 0) [] 0), (8, .pt (8, 0) [] 0), (11, .pt (11, 0) [] 0), (12, .pt (12, 0) [] 0), (17, .pt (17, 0) [] 0), (18, .int H), (19, .int q), (160, .d (.sh 3 g.ts.length (rows qtS g.ts))), (161, .int g.ts.length), (162, .int 0)], ofRO [((4, 0), some (.bx (qS f))), ((5, 0), some (.bx (qS g))), ((6, 0), some (.bx [D.int 0, .v (.slice none 0 0)])), ((8, 0), some (.bx [D.int n, .mp es])), ((11, 0), some (.bx [D.int n, .mp eo2])), ((12, 0), some (.bx [shI le, D.int lh, D.int lc])), ((17, 0), some (.bx [D.int e0, D.int e1, D.int e2, D.int e3, D.int e4, D.int e5, D.int e6, D.int e7]))]⟩ := by
  simp only [codeAt, Try.f31, walkCode]
  refine wloop (fun x : Nat × List (List Int × Int) × List (QK × Int) => ⟨ofL [(0, .d (.sh 1 fm.length (rows lS fm))), (4, .pt (4, 0) [] 0), (5, .pt (5, 0) [] 0), (6, .pt (6, 0) [] 0), (8, .pt (8, 0) [] 0), (11, .pt (11, 0) [] 0), (12, .pt (12, 0) [] 0), (17, .pt (17, 0) [] 0), (18, .int H), (19, .int q), (160, .d (.sh 3 g.ts.length (rows qtS g.ts))), (161, .int g.ts.length), (162, .int x.1)], ofRO [((4, 0), some (.bx (qS f))), ((5, 0), some (.bx (qS g))), ((6, 0), some (.bx [D.int 0, .v (.slice none 0 0)])), ((8, 0), some (.bx [D.int n, .mp x.2.1])), ((11, 0), some (.bx [D.int n, .mp eo2])), ((12, 0), some (.bx [shI le, D.int lh, D.int lc])), ((17, 0), some (.bx [D.int e0, D.int e1, D.int e2, D.int e3, D.int e4, D.int e5, D.int e6, D.int e7]))]⟩) (fun x => x.1 ≤ g.ts.length ∧ LJQ n x.2.1 x.2.2 (600000000 + O.length * 600000000000000 + x.1 * 1000000000000) ∧ x.2.2.Perm (l ++ negQ fm (E, H) q (g.ts.take x.1))) (fun x => g.ts.length - x.1) (0, es, l) (by simp [C.impl_DivideQSums, qS, hn, hgn, hpe]) ⟨by simp, hLr.mono (by dsimp only; omega), by simp [negQ]⟩ ?_
  intro x4 hx4 R4 hR4
  obtain ⟨j, es2, l2⟩ := x4
  obtain ⟨hj, hL2, hP2⟩ := hx4
  dsimp only at hj hL2 hP2 ⊢
  refine wseq ?_
  refine wreg fun K hK => ?_
  simp [C.impl_DivideQSums, qS]
  refine hK _ ?_; clear hK K
  show AWp _ _ _ _ _
  refine wseq ?_
  refine wcond _ rfl (fun hc9 => ?_) (fun hc9 => ?_)
  · have hjg : j < g.ts.length := by have := d_t hc9; omega
    have hU := qright_he hg hgn _ (List.getElem_mem hjg)
    refine wskip ?_
    show AWp _ _ _ _ _
    refine wseq ?_
    refine wblock ?_
    refine wseq ?_
    refine wreg fun K hK => ?_
    simp [C.impl_DivideQSums, qS, hjg, qtS_0 hjg, qtS_1 hjg, qtS_2 hjg]
    refine hK _ ?_; clear hK K
    show AWp _ _ _ _ _
    obtain ⟨u0, u1, u2, u3, u4, u5, u6, u7, hpu⟩ := eight (pad_length (e := g.ts[j].e) (by omega))
    have hbu := pad_bd hU.2.1
    rw [hpu] at hbu
    have hSk : SkOk fm g.ts[j].e E := SkOk.mk' (p := 20) (q := 20) hok ⟨by omega, hU.2.1⟩ ⟨by omega, hE20⟩ (by omega) (by omega)
    have hSb := hSk.bd
    have hpair := impl_paired_calls fm g.ts[j].e E hSk
    have hw1 : IntKind.i64.wrap (g.ts[j].h + H) = g.ts[j].h + H := wrapOk (by omega) (by omega)
    have hw2 : IntKind.i64.wrap (g.ts[j].h + H + skw fm g.ts[j].e E) = g.ts[j].h + H + skw fm g.ts[j].e E := wrapOk (by omega) (by omega)
    have hadd : [e0 + 1 * u0, e1 + 1 * u1, e2 + 1 * u2, e3 + 1 * u3, e4 + 1 * u4, e5 + 1 * u5, e6 + 1 * u6, e7 + 1 * u7, g.ts[j].h + H + skw fm g.ts[j].e E] = kq (qmul fm (E, H) (qk g.ts[j])) := by
      simp only [kq, qmul, qk]
      rw [addE_com _ _ (by omega), ← pad_add (by omega), hpe, hpu]
      simp [addE]
    have hnl : (qmul fm (E, H) (qk g.ts[j])).1.length = n := by simp only [qmul, qk]; rw [addE_length _ _ _ (by omega)]; exact hU.1
    have hcc := mul_bd (x := -q) (y := g.ts[j].c) (by omega) ⟨hU.2.2.2.1, hU.2.2.2.2.1⟩
    have hvj := hL2.val (e := qmul fm (E, H) (qk g.ts[j])) hnl (c := -q * g.ts[j].c) (X := 1000000000000) (by omega) (by omega)
    rw [← hadd] at hvj
    refine wdrawI [(true, 0), (true, 1), (true, 2), (true, 3), (true, 6), (true, 7), (true, 8), (true, 9), (true, 10), (true, 11), (true, 12), (true, 13), (true, 14), (true, 15), (true, 19), (true, 20), (true, 21), (true, 22), (true, 23), (false, 4), (false, 5), (false, 16), (true, 17), (true, 18), (false, 24)] ⟨by kernel_rfl, by kernel_rfl⟩ ([0, 1, 2, 3, 6, 7, 8, 9, 10, 11, 12, 13, 14, 15, 19, 20, 21, 22, 23, 4] ++ ([5] ++ ([16] ++ ([17, 18, 24] ++ ([]))))) rfl fun K hK => ?_
    refine opsI_seg fun L hL => ?_
    simp [C.impl_DivideQSums, qS, qtS, hw1, hw2, hn, hv, Nat.min_eq_left hv, hsh, hEl, show ((n : Int) ≤ 8) by omega, wrapOk (x := -q) (by omega) (by omega), wrapOk (x := -q * g.ts[j].c) (by omega) (by omega)]
    refine wcall1 (impl_keyOf_calls g.ts[j].e (by omega) u0 u1 u2 u3 u4 u5 u6 u7 hpu) (by simp) (by simp) ?_
    simp [C.impl_DivideQSums, qS, qtS, hw1, hw2, hn, hv, Nat.min_eq_left hv, hsh, hEl, show ((n : Int) ≤ 8) by omega, wrapOk (x := -q) (by omega) (by omega), wrapOk (x := -q * g.ts[j].c) (by omega) (by omega)]
    refine hL _ ?_; clear hL L
    refine opsI_seg fun L hL => ?_
    simp [C.impl_DivideQSums, qS, qtS, hw1, hw2, hn, hv, Nat.min_eq_left hv, hsh, hEl, show ((n : Int) ≤ 8) by omega, wrapOk (x := -q) (by omega) (by omega), wrapOk (x := -q * g.ts[j].c) (by omega) (by omega)]
    refine wcall1 (impl_plusExp_calls 1 e0 e1 e2 e3 e4 e5 e6 e7 u0 u1 u2 u3 u4 u5 u6 u7 (by omega) hbe hbu) (by simp) (by simp) ?_
    simp [C.impl_DivideQSums, qS, qtS, hw1, hw2, hn, hv, Nat.min_eq_left hv, hsh, hEl, show ((n : Int) ≤ 8) by omega, wrapOk (x := -q) (by omega) (by omega), wrapOk (x := -q * g.ts[j].c) (by omega) (by omega)]
    refine hL _ ?_; clear hL L
    refine opsI_seg fun L hL => ?_
    simp [C.impl_DivideQSums, qS, qtS, hw1, hw2, hn, hv, Nat.min_eq_left hv, hsh, hEl, show ((n : Int) ≤ 8) by omega, wrapOk (x := -q) (by omega) (by omega), wrapOk (x := -q * g.ts[j].c) (by omega) (by omega)]
    refine wcall1 (hpair) (by simp [qS, qtS, hw1, hw2, hn, hv, Nat.min_eq_left hv, hsh, hEl, show ((n : Int) ≤ 8) by omega, wrapOk (x := -q) (by omega) (by omega), wrapOk (x := -q * g.ts[j].c) (by omega) (by omega)]) (by simp) ?_
    simp [C.impl_DivideQSums, qS, qtS, hw1, hw2, hn, hv, Nat.min_eq_left hv, hsh, hEl, show ((n : Int) ≤ 8) by omega, wrapOk (x := -q) (by omega) (by omega), wrapOk (x := -q * g.ts[j].c) (by omega) (by omega)]
    refine hL _ ?_; clear hL L
    refine opsI_seg fun L hL => ?_
    simp [C.impl_DivideQSums, qS, qtS, hw1, hw2, hn, hv, Nat.min_eq_left hv, hsh, hEl, show ((n : Int) ≤ 8) by omega, wrapOk (x := -q) (by omega) (by omega), wrapOk (x := -q * g.ts[j].c) (by omega) (by omega)]
    refine wcall1 (impl_qbuilding_add_calls n (-q * g.ts[j].c) es2 (e0 + 1 * u0) (e1 + 1 * u1) (e2 + 1 * u2) (e3 + 1 * u3) (e4 + 1 * u4) (e5 + 1 * u5) (e6 + 1 * u6) (e7 + 1 * u7) (g.ts[j].h + H + skw fm g.ts[j].e E) (hL2.map.len9 hv) hvj) (by simp) (by simp) ?_
    simp [C.impl_DivideQSums, qS, qtS, hw1, hw2, hn, hv, Nat.min_eq_left hv, hsh, hEl, show ((n : Int) ≤ 8) by omega, wrapOk (x := -q) (by omega) (by omega), wrapOk (x := -q * g.ts[j].c) (by omega) (by omega)]
    refine hL _ ?_; clear hL L
    refine opsI_end fun L hL => ?_
    simp only [AOpsI]
    refine hL _ ?_; clear hL L
    simp [C.impl_DivideQSums, qS, qtS, hw1, hw2, hn, hv, Nat.min_eq_left hv, hsh, hEl, show ((n : Int) ≤ 8) by omega, wrapOk (x := -q) (by omega) (by omega), wrapOk (x := -q * g.ts[j].c) (by omega) (by omega)]
    simp only [Int.one_mul] at hadd
    rw [hadd]
    refine hK _ ?_; clear hK K
    show AWp _ _ _ _ _
    refine wreg fun K hK => ?_
    simp [C.impl_DivideQSums, qS, wrap_succ (show j < 4611686018427387904 by omega)]
    refine hK _ ?_; clear hK K
    simp [C.impl_DivideQSums, qS]
    refine cast (congrArg R4 ?_) (hR4 (j + 1, madd es2 (kq (qmul fm (E, H) (qk g.ts[j]))) (-q * g.ts[j].c), (qmul fm (E, H) (qk g.ts[j]), -q * g.ts[j].c) :: l2) ⟨hjg, ?_, ?_⟩ (by dsimp only; omega))
    · simp [qS, hn, hgn]
    · have := hL2.add (e := qmul fm (E, H) (qk g.ts[j])) hnl (c := -q * g.ts[j].c) (X := 1000000000000) (by omega)
      exact this.mono (by dsimp only; omega)
    · dsimp only
      rw [negQ_step hjg, ← List.append_assoc]
      exact (List.Perm.cons _ hP2).trans (List.perm_append_singleton _ _).symm
  · have hjg : j = g.ts.length := by have := d_f hc9; omega
    rw [hjg, List.take_length] at hP2
    refine wexit ?_
    refine cast (congrArg (Q0 (.exit 6)) ?_) (hX0 es2 l2 (hL2.mono (by omega)) hP2)
    simp [qS, hn, hgn, hjg]

theorem impl_DivideQSums_calls (fm : List (List Int)) (f g : Qsm) (h0 : fm.length < 4611686018427387904) (hI : I64 fm) (hx : f.ts.length < 4611686018427387904) (hxe : ∀ t ∈ f.ts, t.e.length < 4611686018427387904) (hy : g.ts.length < 4611686018427387904) (hye : ∀ t ∈ g.ts, t.e.length < 4611686018427387904) : ACalls Try.prog F.impl_DivideQSums [.d (.sh 1 fm.length (rows lS fm)), aQ f, aQ g] [] true (fun outs res => outs = [] ∧ WkRs res [.ag (qO (divQF fm f g).1), .one (D.bool (divQF fm f g).2)]) := by
  have hcall := impl_multipliable_calls fm f g h0 hI hx hxe hy hye
  generalize hB : decide (FormOk fm ∧ QRight f ∧ QRight g ∧ f.v = fm.length ∧ g.v = fm.length) = B at hcall
  refine ACalls.of_body (C := C.impl_DivideQSums) (n := Try.f31.ntmps) tabT folT Try.func31 rfl (by kernel_rfl) rfl (Nat.le_of_ble_eq_true rfl) (by decide) (by kernel_rfl) (by kernel_rfl) rfl (by simp) (by simp) ?_
  simp only [Try.f31]
  refine wseq ?_
  refine wreg fun K hK => ?_
  simp [C.impl_DivideQSums, qS]
  refine hK _ ?_; clear hK K
  show AWp _ _ _ _ _
  refine wseq ?_
  refine wseq ?_
  refine wregI ([0, 1, 2, 3] ++ ([4, 5, 6, 7, 8, 9, 10])) rfl fun K hK => ?_
  have hJ : K ⟨ofL [(0, .d (.sh 1 fm.length (rows lS fm))), (4, .pt (4, 0) [] 0), (5, .pt (5, 0) [] 0), (6, .pt (6, 0) [] 0), (32, .bool (!(B && !decide (g.ts = []))))], ofRO [((4, 0), some (.bx (qS f))), ((5, 0), some (.bx (qS g))), ((6, 0), some (.bx [D.int 0, .v (.slice none 0 0)]))]⟩ := by
    refine hK _ ?_; clear hK K
    show AWp _ _ _ _ _
    refine wcond _ rfl (fun hc1 => ?_) (fun hc1 => ?_)
    · have hr : ¬ QFit fm f g := by
        rintro ⟨h1, h2⟩
        rw [← hB, decide_eq_true h1] at hc1
        simp [h2] at hc1
      have hm : divQF fm f g = (zeroQ, false) := if_neg hr
      refine wseq ?_
      refine wreg fun K hK => ?_
      simp [C.impl_DivideQSums, qS]
      refine hK _ ?_; clear hK K
      show AWp _ _ _ _ _
      refine wret ?_
      simp [C.impl_DivideQSums, qS, hm, qO, zeroQ, rows]
    · have hr : (FormOk fm ∧ QRight f ∧ QRight g ∧ f.v = fm.length ∧ g.v = fm.length) ∧ g.ts ≠ [] := by
        rw [← hB] at hc1
        simpa using hc1
      have hm := divQF_some hr.1 hr.2
      obtain ⟨⟨hok, hf, hg, hn, hgn⟩, hgne⟩ := hr
      obtain ⟨n, hnn⟩ : ∃ n : Nat, fm.length = n := ⟨_, rfl⟩
      rw [hnn] at hn hgn hm
      have hv0 := hf.1
      have hv : n ≤ 8 := by omega
      have hfl := hf.2.1
      have hgl := hg.2.1
      have he := qright_he hf hn
      have heg := qright_he hg hgn
      have hG0 : 0 < g.ts.length := List.length_pos_iff.2 hgne
      obtain ⟨hl1, hl2⟩ := leadQ_get hG0
      have hgle := heg _ (List.getElem_mem hG0)
      generalize hlq : leadQ g = lk at hl1
      obtain ⟨le, lh⟩ := lk
      generalize hlc : leadQC g = lc at hl2
      have hl1e : g.ts[0].e = le := congrArg Prod.fst hl1
      have hl1h : g.ts[0].h = lh := congrArg Prod.snd hl1
      rw [hl1e, hl1h, hl2] at hgle
      obtain ⟨hgle1, hgle2, hgle3, hgle4, hgle6, hgle5⟩ := hgle
      obtain ⟨b0, b1, b2, b3, b4, b5, b6, b7, hpb⟩ := eight (pad_length (e := le) (by omega))
      have hbb := pad_bd hgle2
      rw [hpb] at hbb
      refine wskip ?_
      show AWp _ _ _ _ _
      refine wseq ?_
      refine wregI ([0, 1, 2] ++ ([3])) rfl fun K hK => ?_
      refine opsI_seg fun L hL => ?_
      simp [C.impl_DivideQSums, qS, hn]
      refine wcall1 (impl_newQBuilding_calls n) (by simp) (by simp) ?_
      simp [C.impl_DivideQSums, qS, hn]
      refine hL _ ?_; clear hL L
      refine opsI_end fun L hL => ?_
      simp [C.impl_DivideQSums, qS, hn]
      refine hL _ ?_; clear hL L
      simp [C.impl_DivideQSums, qS, hn]
      refine hK _ ?_; clear hK K
      show AWp _ _ _ _ _
      refine wseq ?_
      refine wseq ?_
      refine wreg fun K hK => ?_
      simp [C.impl_DivideQSums, qS]
      refine hK _ ?_; clear hK K
      show AWp _ _ _ _ _
      refine wblock ?_
      refine wcode (c' := codeAt Try.f31 [1, 1, 1, 0, 1, 0]) (by kernel_rfl) ?_
      refine wst (σ2 := ⟨ofL [(0, .d (.sh 1 fm.length (rows lS fm))), (4, .pt (4, 0) [] 0), (5, .pt (5, 0) [] 0), (6, .pt (6, 0) [] 0), (8, .pt (8, 0) [] 0), (38, .d (.sh 3 f.ts.length (rows qtS f.ts))), (39, .int f.ts.length), (40, .int 0)], ofRO [((4, 0), some (.bx (qS f))), ((5, 0), some (.bx (qS g))), ((6, 0), some (.bx [D.int 0, .v (.slice none 0 0)])), ((8, 0), some (.bx [D.int n, .mp []]))]⟩) (by simp [qS, hn]) ?_
      refine impl_DivideQSums_l1 fm f g n hn hv hf hfl _ ?_
      intro es l hLJ hall
      have hnf0 : nf qlt l = f.ts.map qp :=
        (nf_unique qOrd (qp_desc hf) (qp_nz hf) fun k => (co_perm k hall).symm).symm
      show AWp _ _ _ _ _
      refine wseq ?_
      refine wregI ([0, 1, 2] ++ ([3])) rfl fun K hK => ?_
      refine opsI_seg fun L hL => ?_
      simp [C.impl_DivideQSums, qS, hn]
      refine wcall1 (impl_newQBuilding_calls n) (by simp) (by simp) ?_
      simp [C.impl_DivideQSums, qS, hn]
      refine hL _ ?_; clear hL L
      refine opsI_end fun L hL => ?_
      simp [C.impl_DivideQSums, qS, hn]
      refine hL _ ?_; clear hL L
      simp [C.impl_DivideQSums, qS, hn]
      refine hK _ ?_; clear hK K
      show AWp _ _ _ _ _
      refine wseq ?_
      refine wreg fun K hK => ?_
      simp [C.impl_DivideQSums, qS, hG0, qtS_0 hG0, qtS_1 hG0, qtS_2 hG0, hl1e, hl1h, hl2]
      refine hK _ ?_; clear hK K
      show AWp _ _ _ _ _
      refine wseq ?_
      refine wblock ?_
      refine wloop (fun x : (List (List Int × Int) × List (QK × Int)) × (List (List Int × Int) × List (QK × Int)) × List (QK × Int) => ⟨ofL [(0, .d (.sh 1 fm.length (rows lS fm))), (4, .pt (4, 0) [] 0), (5, .pt (5, 0) [] 0), (6, .pt (6, 0) [] 0), (8, .pt (8, 0) [] 0), (11, .pt (11, 0) [] 0), (12, .pt (12, 0) [] 0)], ofRO [((4, 0), some (.bx (qS f))), ((5, 0), some (.bx (qS g))), ((6, 0), some (.bx [D.int 0, .v (.slice none 0 0)])), ((8, 0), some (.bx [D.int n, .mp x.1.1])), ((11, 0), some (.bx [D.int n, .mp x.2.1.1])), ((12, 0), some (.bx [shI le, D.int lh, D.int lc]))]⟩) (fun x => LJQ n x.1.1 x.1.2 (600000000 + x.2.2.length * 600000000000000) ∧ LJQ n x.2.1.1 x.2.1.2 (x.2.2.length * 1000000) ∧ x.2.1.2.Perm x.2.2 ∧ DivJQ fm chkIQ f g n (nf qlt x.1.2) x.2.2 ∧ DivOQ fm g n (nf qlt x.1.2) x.2.2) (fun x => 600 - x.2.2.length) ((es, l), ([], []), []) (by simp [C.impl_DivideQSums, qS, hn]) ⟨hLJ.mono (by dsimp only [List.length_nil]; omega), ⟨MapQ.nil n, by simp, by simp [absKK]⟩, by simp, by dsimp only; rw [hnf0]; exact DivJQ.start _ _ hf hn, ⟨List.Pairwise.nil, by simp [Nz], by simp, by simp⟩⟩ ?_
      intro x2 hx2 R2 hR2
      obtain ⟨⟨es, l⟩, ⟨eo, lo⟩, O⟩ := x2
      obtain ⟨hLr, hLo, hPo, hJ1, hJ2⟩ := hx2
      dsimp only at hLr hLo hPo hJ1 hJ2 ⊢
      have hOl := hJ1.ol
      have helen := unpadQ_len hLr.map hv hLr.len
      have hnfo : nf qlt lo = O := by
        rw [← hJ2.nf]
        exact nf_unique qOrd (nf_desc qOrd _) (nf_nz _) fun k => by rw [nf_co, co_perm k hPo]
      have heol : eo.length = O.length := by
        have h1 := unpadQ_len hLo.map hv hLo.len
        rw [hnfo] at h1
        exact h1.symm
      refine wseq ?_
      refine wseq ?_
      refine wreg fun K hK => ?_
      simp [C.impl_DivideQSums, qS]
      refine hK _ ?_; clear hK K
      show AWp _ _ _ _ _
      refine wcond _ rfl (fun hc3 => ?_) (fun hc3 => ?_)
      · have hes : 0 < es.length := by have := d_t hc3; omega
        obtain ⟨⟨⟨a, ah⟩, c⟩, R', hR⟩ : ∃ y R', nf qlt l = y :: R' := by
          cases hh : nf qlt l with
          | nil => rw [hh] at helen; simp at helen; omega
          | cons y R' => exact ⟨y, R', rfl⟩
        rw [hR] at hJ1 hJ2
        refine wskip ?_
        show AWp _ _ _ _ _
        refine wblock ?_
        refine wseq ?_
        refine wreg fun K hK => ?_
        simp [C.impl_DivideQSums, qS]
        refine hK _ ?_; clear hK K
        show AWp _ _ _ _ _
        refine wseq ?_
        refine wreg fun K hK => ?_
        simp [C.impl_DivideQSums, qS]
        refine hK _ ?_; clear hK K
        show AWp _ _ _ _ _
        refine wseq ?_
        refine wseq ?_
        refine wreg fun K hK => ?_
        simp [C.impl_DivideQSums, qS]
        refine hK _ ?_; clear hK K
        show AWp _ _ _ _ _
        refine wblock ?_
        refine wcode (c' := codeAt Try.f31 [1, 1, 1, 1, 1, 1, 0, 0, 0, 1, 0, 1, 1, 0, 1, 0]) (by kernel_rfl) ?_
        refine impl_DivideQSums_l3 fm f g n hn es eo le lh lc (hLr.map.len9 hv) _ ?_
        intro P top cur hqe hT
        have hPne : P ≠ [] := by intro e; rw [e] at hqe; have := hqe.length_eq; simp at this; omega
        obtain ⟨htop, hget⟩ := top_headQ hLr.map hv hLr.len hqe hT hR
        have ha := hJ1.rl ((a, ah), c) (by simp)
        obtain ⟨⟨hal, ha60⟩, hah⟩ := ha
        dsimp only at hal ha60 hah
        obtain ⟨a0, a1, a2, a3, a4, a5, a6, a7, hpa⟩ := eight (pad_length (e := a) (by omega))
        have hba := pad_bd60 (B := 60) (by omega) (by omega) ha60
        rw [hpa] at hba
        have hkt : kq (a, ah) = [a0, a1, a2, a3, a4, a5, a6, a7, ah] := by
          simp only [kq, hpa]
          rfl
        rw [hkt] at htop
        subst htop
        have hcb : -1000000000000000000 ≤ c ∧ c ≤ 1000000000000000000 := by
          have h1 := hJ1.ra
          simp only [absQK, List.map_cons, List.sum_cons] at h1
          omega
        have hEl : (addE (-1) a le).length = n := by rw [addE_length _ _ _ (by omega)]; exact hal
        have hE80 := addE_bd (B := 60) (C := 20) (k := -1) (.inr rfl) (hal.trans hgle1.symm) ha60 hgle2
        have hpe0 : [a0 + -1 * b0, a1 + -1 * b1, a2 + -1 * b2, a3 + -1 * b3, a4 + -1 * b4, a5 + -1 * b5, a6 + -1 * b6, a7 + -1 * b7] = pad (addE (-1) a le) := by
          rw [← pad_add (by omega), hpa, hpb]
          simp [addE]
        show AWp _ _ _ _ _
        refine wseq ?_
        refine wdraw (.take 0 (.take 1 (.take 2 (.take 3 (.take 4 (.take 5 (.take 6 (.done)))))))) ⟨by kernel_rfl, by kernel_rfl⟩ fun K hK => ?_
        simp [C.impl_DivideQSums, qS, hget, hLr.map.len9 hv]
        refine hK _ ?_; clear hK K
        show AWp _ _ _ _ _
        refine wseq ?_
        refine wcode (c' := codeAt Try.f31 [1, 1, 1, 1, 1, 1, 0, 0, 0, 1, 0, 1, 1, 1, 1, 0]) (by kernel_rfl) ?_
        refine impl_DivideQSums_r24 fm f g n es eo le lh lc a0 a1 a2 a3 a4 a5 a6 a7 b0 b1 b2 b3 b4 b5 b6 b7 ah c (by omega) hpb hba hbb _ _ ?_
        show AWp _ _ _ _ _
        refine wseq ?_
        obtain ⟨e0, e1, e2, e3, e4, e5, e6, e7, hpe⟩ := eight (pad_length (e := addE (-1) a le) (by omega))
        rw [hpe] at hpe0
        simp only [List.cons.injEq, and_true] at hpe0
        obtain ⟨k0, k1, k2, k3, k4, k5, k6, k7⟩ := hpe0
        simp only [k0, k1, k2, k3, k4, k5, k6, k7]
        have hqb : -1000000000000000000 ≤ c.tdiv lc ∧ c.tdiv lc ≤ 1000000000000000000 := by
          have h1 : (c.tdiv lc).natAbs ≤ c.natAbs := by
            rw [Int.natAbs_tdiv]
            exact Nat.div_le_self _ _
          omega
        generalize hQ : c.tdiv lc = q at hqb
        have htkE : List.take n [e0, e1, e2, e3, e4, e5, e6, e7] = addE (-1) a le := by
          rw [← hpe]
          have := pad_take (e := addE (-1) a le)
          rwa [hEl] at this
        have hsh := sh8 n e0 e1 e2 e3 e4 e5 e6 e7
        rw [htkE] at hsh
        have hSk : SkOk fm le (addE (-1) a le) := SkOk.mk' (p := 20) (q := 80) hok ⟨by omega, hgle2⟩ ⟨by omega, fun z hz => by have := hE80 z hz; omega⟩ (by omega) (by omega)
        have hSb := hSk.bd
        have hpair := impl_paired_calls fm le (addE (-1) a le) hSk
        obtain ⟨H, hH⟩ : ∃ H, H = ah - lh - skw fm le (addE (-1) a le) := ⟨_, rfl⟩
        have hw1 : IntKind.i64.wrap (ah - lh) = ah - lh := wrapOk (by omega) (by omega)
        have hw2 : IntKind.i64.wrap (ah - lh - skw fm le (addE (-1) a le)) = H := by rw [hH]; exact wrapOk (by omega) (by omega)
        have hqd : qdv fm (a, ah) (le, lh) = (addE (-1) a le, H) := by rw [hH]; rfl
        refine wdrawI [(true, 0), (true, 1), (true, 2), (true, 3), (true, 4), (true, 5), (true, 6), (true, 7), (true, 8), (true, 9), (true, 10), (false, 11), (true, 12), (true, 13)] ⟨by kernel_rfl, by kernel_rfl⟩ ([0, 1, 2, 3, 4, 5, 6, 7, 8, 9, 10, 11] ++ ([12, 13])) rfl fun K hK => ?_
        refine opsI_seg fun L hL => ?_
        simp [C.impl_DivideQSums, qS, hw1, hw2, hn, hv, Nat.min_eq_left hv, hsh, show ((n : Int) ≤ 8) by omega, hEl, ints]
        refine wcall1 (hpair) (by simp [qS, hw1, hw2, hn, hv, Nat.min_eq_left hv, hsh, show ((n : Int) ≤ 8) by omega, hEl, ints]) (by simp) ?_
        simp [C.impl_DivideQSums, qS, hw1, hw2, hn, hv, Nat.min_eq_left hv, hsh, show ((n : Int) ≤ 8) by omega, hEl, ints]
        refine hL _ ?_; clear hL L
        refine opsI_end fun L hL => ?_
        simp [C.impl_DivideQSums, qS, hw1, hw2, hn, hv, Nat.min_eq_left hv, hsh, show ((n : Int) ≤ 8) by omega, hEl, ints]
        refine hL _ ?_; clear hL L
        simp [C.impl_DivideQSums, qS, hw1, hw2, hn, hv, Nat.min_eq_left hv, hsh, show ((n : Int) ≤ 8) by omega, hEl, ints]
        refine hK _ ?_; clear hK K
        show AWp _ _ _ _ _
        refine wseq ?_
        refine wreg fun K hK => ?_
        simp [C.impl_DivideQSums, qS, hgle5, hQ, wrapOk (x := q) (by omega) (by omega)]
        refine hK _ ?_; clear hK K
        show AWp _ _ _ _ _
        refine wseq ?_
        refine wseq ?_
        refine wcode (c' := codeAt Try.f31 [1, 1, 1, 1, 1, 1, 0, 0, 0, 1, 0, 1, 1, 1, 1, 1, 1, 1, 0, 0]) (by kernel_rfl) ?_
        refine wst (σ2 := ⟨ofL [(0, .d (.sh 1 fm.length (rows lS fm))), (4, .pt (4, 0) [] 0), (5, .pt (5, 0) [] 0), (6, .pt (6, 0) [] 0), (8, .pt (8, 0) [] 0), (11, .pt (11, 0) [] 0), (12, .pt (12, 0) [] 0), (16, .int c), (17, .pt (17, 0) [] 0), (18, .int H), (19, .int q)], ofRO [((4, 0), some (.bx (qS f))), ((5, 0), some (.bx (qS g))), ((6, 0), some (.bx [D.int 0, .v (.slice none 0 0)])), ((8, 0), some (.bx [D.int n, .mp es])), ((11, 0), some (.bx [D.int n, .mp eo])), ((12, 0), some (.bx [shI le, D.int lh, D.int lc])), ((17, 0), some (.bx [D.int e0, D.int e1, D.int e2, D.int e3, D.int e4, D.int e5, D.int e6, D.int e7]))]⟩) (by simp [qS, hn]) ?_
        refine impl_DivideQSums_r27 fm f g n hn hv es eo O le lh lc (addE (-1) a le) e0 e1 e2 e3 e4 e5 e6 e7 c q H hgle5 hsh hEl heol _ _ ?_
        show AWp _ _ _ _ _
        refine wcond _ rfl (fun hc8 => ?_) (fun hc8 => ?_)
        · have hr := nd_t hc8
          have hfail := hJ1.fail (by
            rcases Classical.em (O.length = 600) with h | h
            · exact .inr h
            · refine .inl fun h2 => hr ⟨?_, h⟩
              dsimp only at h2
              rw [hlq, hlc, hQ, hqd] at h2
              simp only [chkIQ, decide_eq_true_eq] at h2
              exact ⟨⟨⟨h2.1, okE_iff.2 ⟨by omega, h2.2.1⟩⟩, h2.2.2.1⟩, h2.2.2.2⟩)
          refine wseq ?_
          refine wreg fun K hK => ?_
          simp [C.impl_DivideQSums, qS]
          refine hK _ ?_; clear hK K
          show AWp _ _ _ _ _
          refine wret ?_
          simp [C.impl_DivideQSums, qS, hm, hfail, endQd, zeroQ, qO, rows]
        · obtain ⟨⟨⟨⟨g1, g2⟩, g2h⟩, g3⟩, g4⟩ := nd_f hc8
          have hE20 := (okE_iff.1 g2).2
          have hchk : chkIQ (addE (-1) a le, H) q = true := by simp only [chkIQ, decide_eq_true_eq]; exact ⟨hE20, g2h, g3⟩
          have hJ1s := hJ1.step hok hnn hg hgn (by dsimp only; rw [hlc]; exact g1) (by dsimp only; rw [hlq, hlc, hQ, hqd]; exact hchk) (by omega) (by dsimp only; rw [hlq, hqd]; exact hEl) (by dsimp only; rw [hlq, hqd]; exact fun z hz => by have := hE20 z hz; omega) (by dsimp only; rw [hlq, hqd]; exact g2h) (by dsimp only; rw [hlc, hQ]; exact g3.2)
          have hJ2s := hJ2.step hJ1.rd (fun y hy => (hJ1.rl y hy).1.1) hg hgn hgne (by dsimp only; rw [hlc]; exact g1) (by dsimp only; rw [hlc, hQ]; exact g3.1)
          dsimp only at hJ1s hJ2s
          rw [hlq, hlc, hQ, hqd] at hJ1s hJ2s
          have hko : kq (addE (-1) a le, H) = [e0, e1, e2, e3, e4, e5, e6, e7, H] := by
            simp only [kq, hpe]
            rfl
          have hvo := hLo.val (e := (addE (-1) a le, H)) hEl (c := q) (X := 1000000) (by omega) (by omega)
          rw [hko] at hvo
          have hbe := pad_bd hE20
          rw [hpe] at hbe
          refine wskip ?_
          show AWp _ _ _ _ _
          refine wseq ?_
          refine wregI ([0, 1, 2, 3, 4, 5] ++ ([])) rfl fun K hK => ?_
          refine opsI_seg fun L hL => ?_
          simp [C.impl_DivideQSums, qS]
          refine wcall1 (impl_qbuilding_add_calls n q eo e0 e1 e2 e3 e4 e5 e6 e7 H (hLo.map.len9 hv) hvo) (by simp) (by simp) ?_
          simp [C.impl_DivideQSums, qS]
          refine hL _ ?_; clear hL L
          refine opsI_end fun L hL => ?_
          simp only [AOpsI]
          refine hL _ ?_; clear hL L
          simp [C.impl_DivideQSums, qS]
          rw [← hko]
          refine hK _ ?_; clear hK K
          show AWp _ _ _ _ _
          refine wseq ?_
          refine wreg fun K hK => ?_
          simp [C.impl_DivideQSums, qS]
          refine hK _ ?_; clear hK K
          show AWp _ _ _ _ _
          refine wblock ?_
          refine wcode (c' := codeAt Try.f31 [1, 1, 1, 1, 1, 1, 0, 0, 0, 1, 0, 1, 1, 1, 1, 1, 1, 1, 1, 1, 1, 0]) (by kernel_rfl) ?_
          refine impl_DivideQSums_l4 fm hok f g n hnn hn hgn hv hg hgl es l (madd eo (kq (addE (-1) a le, H)) q) O hOl le lh lc hLr (addE (-1) a le) hEl hE20 e0 e1 e2 e3 e4 e5 e6 e7 q H hpe hsh hbe g2h g3 _ ?_
          intro es2 l2 hL2 hP2
          have hnf2 : nf qlt l2 = nf qlt (stepQ fm g ((a, ah), c) R') := step_nfQ hR (by dsimp only; rw [hlq, hlc, hQ, hqd]; exact hP2)
          simp [C.impl_DivideQSums, qS]
          refine cast (congrArg R2 ?_) (hR2 ((es2, l2), (madd eo (kq (addE (-1) a le, H)) q, ((addE (-1) a le, H), q) :: lo), O ++ [((addE (-1) a le, H), q)]) ⟨?_, ?_, ?_, ?_, ?_⟩ (by simp; omega))
          · simp [qS, hn, hgn]
          · exact hL2.mono (by simp; omega)
          · exact (hLo.add (e := (addE (-1) a le, H)) hEl (c := q) (X := 1000000) (by omega)).mono (by simp; omega)
          · exact (List.Perm.cons _ hPo).trans (List.perm_append_singleton _ _).symm
          · dsimp only
            rw [hnf2]
            exact hJ1s
          · dsimp only
            rw [hnf2]
            exact hJ2s
      · have hes : es.length = 0 := by have := d_f hc3; omega
        have hR0 : nf qlt l = [] := List.eq_nil_of_length_eq_zero (by omega)
        rw [hR0] at hJ1 hJ2
        have hdone := hJ1.done
        have hfin : enQ n ((nf qlt lo).map qt) = divQF fm f g := by
          rw [hm, hdone, hnfo]
          rfl
        refine wexit ?_
        show AWp _ _ _ _ _
        refine wseq ?_
        refine wregI ([0, 1] ++ ([2, 3, 4, 5])) rfl fun K hK => ?_
        refine opsI_seg fun L hL => ?_
        simp [C.impl_DivideQSums, qS, hn]
        refine wcall1 (doneOkQ n eo lo hLo.map hLo.len (by omega) hv (by have := hPo.length_eq; omega)) (by simp) (by simp) ?_
        simp [C.impl_DivideQSums, qS, hn]
        refine hL _ ?_; clear hL L
        refine opsI_end fun L hL => ?_
        simp [C.impl_DivideQSums, qS, hn]
        refine hL _ ?_; clear hL L
        simp [C.impl_DivideQSums, qS, hn]
        refine hK _ ?_; clear hK K
        show AWp _ _ _ _ _
        refine wret ?_
        simp [C.impl_DivideQSums, qS, hfin, qO]
  clear hK
  by_cases hb : B = true
  · refine opsI_seg fun L hL => ?_
    simp [C.impl_DivideQSums, qS, hb]
    refine wcall1 (hcall) (by simp) (by simp) ?_
    simp [C.impl_DivideQSums, qS, hb]
    refine hL _ ?_; clear hL L
    refine opsI_end fun L hL => ?_
    simp [C.impl_DivideQSums, qS, hb]
    refine hL _ ?_; clear hL L
    simp [C.impl_DivideQSums, qS, hb]
    refine cast (congrArg K ?_) hJ
    simp [ieq0, qS, hb]
  · refine opsI_seg fun L hL => ?_
    simp [C.impl_DivideQSums, qS, hb]
    refine wcall1 (hcall) (by simp) (by simp) ?_
    simp [C.impl_DivideQSums, qS, hb]
    refine hL _ ?_; clear hL L
    refine opsI_end fun L hL => ?_
    simp [C.impl_DivideQSums, qS, hb]
    refine hL _ ?_; clear hL L
    simp [C.impl_DivideQSums, qS, hb]
    refine cast (congrArg K ?_) hJ
    simp [ieq0, qS, hb]
theorem iDivQ_calls (fm : List (List Int)) (f g : Qsm) (h0 : fm.length < 4611686018427387904) (hI : I64 fm) (hx : f.ts.length < 4611686018427387904) (hxe : ∀ t ∈ f.ts, t.e.length < 4611686018427387904) (hy : g.ts.length < 4611686018427387904) (hye : ∀ t ∈ g.ts, t.e.length < 4611686018427387904) : ACalls Try.prog F.impl_DivideQSums [.d (.sh 1 fm.length (rows lS fm)), aQ f, aQ g] [] true (fun outs res => outs = [] ∧ res = [.ag (qO (divQF fm f g).1), .one (D.bool (divQF fm f g).2)]) := (impl_DivideQSums_calls fm f g h0 hI hx hxe hy hye).weak1

end Go.Proofs.Ytocknokodgnlbaa.Ab
namespace Go.Proofs.Ytocknokodgnlbaa.Ab
open Go
set_option linter.unusedSimpArgs false
set_option linter.unusedVariables false
set_option maxRecDepth 10000
set_option maxHeartbeats 2000000
theorem tT_at {l : List Qtm} {i : Nat} (h : i < l.length) : (l.map tT)[i]'(by simpa using h) = tT l[i] := by simp
theorem spec_l8Bounds_calls (l : List Qtm) (n : Nat) (hn8 : n ≤ 8) (h0 : 0 < l.length) (hl : l.length ≤ 1000000) (he : ∀ t ∈ l, t.e.length = n) : ACalls Try.prog F.spec_l8Bounds [.d (.sh 3 l.length (rows qtS l))] [] true (fun outs res => outs = [] ∧ res = [.one (owI (lowL (l.map tT) n)), .one (owI (highL (l.map tT) n))]) := by
  have h0e := he _ (List.getElem_mem h0)
  have h0' : 0 < (l.map tT).length := by simpa using h0
  have he' : ∀ t ∈ l.map tT, t.e.length = n := fun t ht => by
    obtain ⟨u, hu, rfl⟩ := List.mem_map.1 ht
    exact he u hu
  have hs1 := lowA_start (l.map tT) n h0' he'
  have hs2 := highA_start (l.map tT) n h0' he'
  rw [tT_at h0] at hs1 hs2
  simp only [tT] at hs1 hs2
  refine ACalls.of_body (C := C.spec_l8Bounds) (n := Try.f139.ntmps) tabT folT Try.func139 rfl (by kernel_rfl) rfl (Nat.le_of_ble_eq_true rfl) (by decide) (by kernel_rfl) (by kernel_rfl) rfl (by simp) (by simp) ?_
  simp only [Try.f139]
  refine wseq ?_
  refine wreg fun K hK => ?_
  simp [C.spec_l8Bounds]
  refine hK _ ?_; clear hK K
  show AWp _ _ _ _ _
  refine wseq ?_
  refine wdrawI [(true, 0), (true, 1), (true, 2), (true, 3), (true, 5), (true, 6), (true, 7), (true, 8), (false, 4), (false, 9), (true, 10), (true, 11)] ⟨by kernel_rfl, by kernel_rfl⟩ ([0, 1, 2, 3, 5, 6, 7, 8, 4] ++ ([9] ++ ([10, 11]))) rfl fun K hK => ?_
  refine opsI_seg fun L hL => ?_
  simp [C.spec_l8Bounds, h0, qtS_0 h0]
  refine wcall1 (spec_l1Ints_calls l[0].e (by omega)) (by simp) (by simp) ?_
  simp [C.spec_l8Bounds, h0, qtS_0 h0]
  refine hL _ ?_; clear hL L
  refine opsI_seg fun L hL => ?_
  simp [C.spec_l8Bounds, h0, qtS_0 h0]
  refine wcall1 (spec_l1Ints_calls l[0].e (by omega)) (by simp) (by simp) ?_
  simp [C.spec_l8Bounds, h0, qtS_0 h0]
  refine hL _ ?_; clear hL L
  refine opsI_end fun L hL => ?_
  simp [C.spec_l8Bounds, h0, qtS_0 h0]
  refine hL _ ?_; clear hL L
  simp [C.spec_l8Bounds, h0, qtS_0 h0]
  refine hK _ ?_; clear hK K
  show AWp _ _ _ _ _
  refine wseq ?_
  refine wseq ?_
  refine wreg fun K hK => ?_
  simp [C.spec_l8Bounds]
  refine hK _ ?_; clear hK K
  show AWp _ _ _ _ _
  refine wblock ?_
  refine wloop (fun x : Nat => ⟨ofL [(0, .d (.sh 3 l.length (rows qtS l))), (4, .al (4, 0) [] 0 n), (5, .al (5, 0) [] 0 n), (6, .int x)], ofRO [((4, 0), some (.ow 1 n (ints (lowA (headE (l.map tT)) ((l.map tT).take x) n)))), ((5, 0), some (.ow 1 n (ints (highA (headE (l.map tT)) ((l.map tT).take x) n))))]⟩) (fun x => x ≤ l.length) (fun x => l.length - x) 0 (by simp [C.spec_l8Bounds, hs1, hs2, h0e]) (by simp) ?_
  intro x1 hx1 R1 hR1
  refine wseq ?_
  refine wseq ?_
  refine wreg fun K hK => ?_
  simp [C.spec_l8Bounds]
  refine hK _ ?_; clear hK K
  show AWp _ _ _ _ _
  refine wcond _ rfl (fun hc1 => ?_) (fun hc1 => ?_)
  · have h1 : x1 < l.length := by have := d_t hc1; omega
    have h1e := he _ (List.getElem_mem h1)
    have h1' : x1 < (l.map tT).length := by simpa using h1
    have htk : (l.map tT).take (x1 + 1) = (l.map tT).take x1 ++ [tT l[x1]] := by rw [List.take_succ_eq_append_getElem h1', tT_at h1]
    refine wskip ?_
    show AWp _ _ _ _ _
    refine wseq ?_
    refine wblock ?_
    refine wseq ?_
    refine wreg fun K hK => ?_
    simp [C.spec_l8Bounds]
    refine hK _ ?_; clear hK K
    show AWp _ _ _ _ _
    refine wblock ?_
    refine wloop (fun x : Nat => ⟨ofL [(0, .d (.sh 3 l.length (rows qtS l))), (4, .al (4, 0) [] 0 n), (5, .al (5, 0) [] 0 n), (6, .int x1), (7, .int x)], ofRO [((4, 0), some (.ow 1 n (ints ((lowA (headE (l.map tT)) ((l.map tT).take (x1 + 1)) n).take x ++ (lowA (headE (l.map tT)) ((l.map tT).take x1) n).drop x)))), ((5, 0), some (.ow 1 n (ints ((highA (headE (l.map tT)) ((l.map tT).take (x1 + 1)) n).take x ++ (highA (headE (l.map tT)) ((l.map tT).take x1) n).drop x))))]⟩) (fun x => x ≤ n) (fun x => n - x) 0 (by simp [C.spec_l8Bounds]) (by simp) ?_
    intro x2 hx2 R2 hR2
    refine wseq ?_
    refine wseq ?_
    refine wreg fun K hK => ?_
    simp [C.spec_l8Bounds]
    refine hK _ ?_; clear hK K
    show AWp _ _ _ _ _
    refine wcond _ rfl (fun hc2 => ?_) (fun hc2 => ?_)
    · have h2 : x2 < n := by have := d_t hc2; omega
      have hge : x2 < l[x1].e.length := by omega
      have hset1 : ∃ M : List Int, (lowA (headE (l.map tT)) ((l.map tT).take (x1 + 1)) n).take x2 ++ (lowA (headE (l.map tT)) ((l.map tT).take x1) n).drop x2 = M ∧ M.length = n ∧ ∀ h : x2 < M.length, M.set x2 (min M[x2] l[x1].e[x2]) = (lowA (headE (l.map tT)) ((l.map tT).take (x1 + 1)) n).take (x2 + 1) ++ (lowA (headE (l.map tT)) ((l.map tT).take x1) n).drop (x2 + 1) := by
        refine ⟨_, rfl, by simp; omega, fun h => ?_⟩
        have hg1 := mix_get (lowA (headE (l.map tT)) ((l.map tT).take (x1 + 1)) n) (lowA (headE (l.map tT)) ((l.map tT).take x1) n) x2 (by simpa using h2) (by simp)
        have hset := mix_set (lowA (headE (l.map tT)) ((l.map tT).take (x1 + 1)) n) (lowA (headE (l.map tT)) ((l.map tT).take x1) n) x2 (by simpa using h2) (by simp)
        rw [← hset]
        congr 1
        rw [lowA_get _ _ _ _ h2] at hg1 ⊢
        rw [List.getElem?_eq_getElem h] at hg1
        injection hg1 with hg1
        rw [hg1, htk, minF_snoc]
        simp only [tT]
        rw [getD_eq hge]
      have hset2 : ∃ M : List Int, (highA (headE (l.map tT)) ((l.map tT).take (x1 + 1)) n).take x2 ++ (highA (headE (l.map tT)) ((l.map tT).take x1) n).drop x2 = M ∧ M.length = n ∧ ∀ h : x2 < M.length, M.set x2 (max M[x2] l[x1].e[x2]) = (highA (headE (l.map tT)) ((l.map tT).take (x1 + 1)) n).take (x2 + 1) ++ (highA (headE (l.map tT)) ((l.map tT).take x1) n).drop (x2 + 1) := by
        refine ⟨_, rfl, by simp; omega, fun h => ?_⟩
        have hg1 := mix_get (highA (headE (l.map tT)) ((l.map tT).take (x1 + 1)) n) (highA (headE (l.map tT)) ((l.map tT).take x1) n) x2 (by simpa using h2) (by simp)
        have hset := mix_set (highA (headE (l.map tT)) ((l.map tT).take (x1 + 1)) n) (highA (headE (l.map tT)) ((l.map tT).take x1) n) x2 (by simpa using h2) (by simp)
        rw [← hset]
        congr 1
        rw [highA_get _ _ _ _ h2] at hg1 ⊢
        rw [List.getElem?_eq_getElem h] at hg1
        injection hg1 with hg1
        rw [hg1, htk, maxF_snoc]
        simp only [tT]
        rw [getD_eq hge]
      obtain ⟨M1, m1, m2, m3⟩ := hset1
      obtain ⟨M2, p1, p2, p3⟩ := hset2
      rw [m1, p1]
      have hM1 : x2 < M1.length := by omega
      have hM2 : x2 < M2.length := by omega
      have m4 := m3 hM1
      have p4 := p3 hM2
      refine wskip ?_
      show AWp _ _ _ _ _
      refine wseq ?_
      refine wblock ?_
      refine wseq ?_
      refine wdrawI [(true, 0), (true, 1), (true, 2), (true, 3), (true, 4), (true, 5), (true, 6), (true, 7), (true, 8), (true, 9), (true, 10), (true, 11), (true, 12), (true, 13), (true, 14), (true, 15), (false, 16)] ⟨by kernel_rfl, by kernel_rfl⟩ ([0, 1, 2, 3, 4, 5, 6, 7, 8, 9, 10, 11, 12, 13, 14, 15, 16]) rfl fun K hK => ?_
      refine opsI_end fun L hL => ?_
      simp [C.spec_l8Bounds, h1, qtS_0 h1, h1e, h2, m2, get_ints, hM1, modify_const, ints_set, m4]
      refine hL _ ?_; clear hL L
      simp [C.spec_l8Bounds, h1, qtS_0 h1, h1e, h2, m2, get_ints, hM1, modify_const, ints_set, m4]
      refine hK _ ?_; clear hK K
      show AWp _ _ _ _ _
      refine wdrawI [(true, 0), (true, 1), (true, 2), (true, 3), (true, 4), (true, 5), (true, 6), (true, 7), (true, 8), (true, 9), (true, 10), (true, 11), (true, 12), (true, 13), (true, 14), (true, 15), (false, 16)] ⟨by kernel_rfl, by kernel_rfl⟩ ([0, 1, 2, 3, 4, 5, 6, 7, 8, 9, 10, 11, 12, 13, 14, 15, 16]) rfl fun K hK => ?_
      refine opsI_end fun L hL => ?_
      simp [C.spec_l8Bounds, h1, qtS_0 h1, h1e, h2, p2, get_ints, hM2, modify_const, ints_set, p4]
      refine hL _ ?_; clear hL L
      simp [C.spec_l8Bounds, h1, qtS_0 h1, h1e, h2, p2, get_ints, hM2, modify_const, ints_set, p4]
      refine hK _ ?_; clear hK K
      show AWp _ _ _ _ _
      refine wreg fun K hK => ?_
      simp [C.spec_l8Bounds, wrap_succ (show x2 < 4611686018427387904 by omega)]
      refine hK _ ?_; clear hK K
      simp [C.spec_l8Bounds]
      refine cast (congrArg R2 ?_) (hR2 (x2 + 1) h2 (by omega))
      simp
    · have h2 : x2 = n := by have := d_f hc2; omega
      refine wexit ?_
      show AWp _ _ _ _ _
      refine wreg fun K hK => ?_
      simp [C.spec_l8Bounds, wrap_succ (show x1 < 4611686018427387904 by omega)]
      refine hK _ ?_; clear hK K
      simp [C.spec_l8Bounds]
      refine cast (congrArg R1 ?_) (hR1 (x1 + 1) h1 (by omega))
      simp [h2, List.take_of_length_le, List.drop_of_length_le]
  · have h1 : x1 = l.length := by have := d_f hc1; omega
    refine wexit ?_
    show AWp _ _ _ _ _
    refine wseq ?_
    refine wreg fun K hK => ?_
    simp [C.spec_l8Bounds]
    refine hK _ ?_; clear hK K
    show AWp _ _ _ _ _
    refine wret ?_
    simp [C.spec_l8Bounds, h1, lowL, highL, show (l.map tT).take l.length = l.map tT from List.take_of_length_le (by simp)]

end Go.Proofs.Ytocknokodgnlbaa.Ab
namespace Go.Proofs.Ytocknokodgnlbaa.Ab
open Go
set_option linter.unusedSimpArgs false
set_option linter.unusedVariables false
set_option maxRecDepth 10000
set_option maxHeartbeats 2000000
def resQ : Option (List (QK × Int)) → List RV
  | some O => [.one (.ow 3 O.length (rows qtS (O.map qt))), .one (D.bool true)]
  | none => [.one (.v (.slice none 0 0)), .one (D.bool false)]
theorem shareL_app : ∀ a b : List D, shareL (a ++ b) = shareL a ++ shareL b
  | [], _ => rfl
  | x :: a, b => by simp only [List.cons_append, shareL, shareL_app a b]
def ngT (t : Qtm) : Qtm := ⟨t.e, t.h, -t.c⟩
theorem absQ_qt (l : List (QK × Int)) : absQ (l.map qt) = absK l := by
  simp only [absQ, absK, List.map_map]
  rfl
theorem absQ_qp (l : List Qtm) : absQ l = absK (l.map qp) := by
  simp only [absQ, absK, List.map_map]
  rfl
theorem absQ_ga (l : List Qtm) : absQ (gaQ l) ≤ absQ l := by
  unfold gaQ
  rw [absQ_qt, absQ_qp]
  exact (nf_abs _).1
theorem absQ_ng (l : List Qtm) : absQ (l.map ngT) = absQ l := by
  simp only [absQ, List.map_map]
  congr 1
  refine List.map_congr_left fun t _ => ?_
  simp [ngT]
theorem qtO_solid2 : ∀ l : List Qtm, solidL (rows qtO l)
  | [] => trivial
  | t :: l => by
    simp only [rows, qtO, List.cons_append, List.nil_append, solidL]
    exact ⟨rfl, rfl, rfl, qtO_solid2 l⟩
theorem coQ_abs (k : QK) : ∀ l : List Qtm, (co k (l.map qp)).natAbs ≤ absQ l
  | [] => by simp [co, absQ]
  | x :: l => by
    have := coQ_abs k l
    simp only [List.map_cons, co, absQ, List.sum_cons] at this ⊢
    have e : (qp x).2 = x.c := rfl
    rw [e]
    split <;> omega
theorem co_at2 {lt : QK → QK → Bool} (ho : Ord lt) : ∀ {l : List (QK × Int)}, Desc lt l → ∀ x ∈ l, co x.1 l = x.2 := fun hd x hx => co_single ho hd hx
theorem gaQ_c {l : List Qtm} {t : Qtm} (h : t ∈ gaQ l) : t.c.natAbs ≤ absQ l := by
  unfold gaQ at h
  obtain ⟨x, hx, rfl⟩ := List.mem_map.1 h
  have h1 := co_at2 qOrd (nf_desc qOrd _) x hx
  rw [nf_co] at h1
  have h2 := coQ_abs x.1 l
  simp only [qt]
  omega
theorem ng_step (P : List Qtm) (x : Nat) (h : x < P.length) : ∃ M : List Qtm, (P.map ngT).take x ++ P.drop x = M ∧ M.length = P.length ∧ (∀ h' : x < M.length, M[x] = P[x]) ∧ M.set x (ngT P[x]) = (P.map ngT).take (x + 1) ++ P.drop (x + 1) := by
  refine ⟨_, rfl, by simp; omega, fun h' => ?_, ?_⟩
  · have := mix_get (P.map ngT) P x h (by simp)
    rw [List.getElem?_eq_getElem h'] at this
    injection this
  · have := mix_set (P.map ngT) P x (by simpa using h) (by simp)
    rw [List.getElem_map] at this
    exact this
theorem spec_l8Divide_calls (fm : List (List Int)) (f g : Qsm) (hok : FormOk fm) (hf : QRight f) (hg : QRight g) (hn : f.v = fm.length) (hgn : g.v = fm.length) (hgne : g.ts ≠ []) : ACalls Try.prog F.spec_l8Divide [.d (.sh 1 fm.length (rows lS fm)), .d (.sh 3 g.ts.length (rows qtS g.ts)), .d (.sh 3 f.ts.length (rows qtS f.ts))] [] false (fun outs res => outs = [] ∧ res = resQ (divQ fm (chkSQ f g fm.length) g 600 (f.ts.map qp))) := by
  obtain ⟨n, hnn⟩ : ∃ n : Nat, fm.length = n := ⟨_, rfl⟩
  rw [hnn] at hn hgn ⊢
  have hv : n ≤ 8 := by have := hf.1; omega
  have hfl := hf.2.1
  have hgl := hg.2.1
  have he := qright_he hf hn
  have heg := qright_he hg hgn
  have hG0 : 0 < g.ts.length := List.length_pos_iff.2 hgne
  obtain ⟨hl1, hl2⟩ := leadQ_get hG0
  have hgle := heg _ (List.getElem_mem hG0)
  generalize hlq : leadQ g = lk at hl1
  obtain ⟨le, lh⟩ := lk
  generalize hlc : leadQC g = lc at hl2
  have hl1e : g.ts[0].e = le := congrArg Prod.fst hl1
  have hl1h : g.ts[0].h = lh := congrArg Prod.snd hl1
  rw [hl1e, hl1h, hl2] at hgle
  obtain ⟨hgle1, hgle2, hgle3, hgle4, hgle6, hgle5⟩ := hgle
  refine ACalls.of_body (C := C.spec_l8Divide) (n := Try.f87.ntmps) tabT folT Try.func87 rfl (by kernel_rfl) rfl (Nat.le_of_ble_eq_true rfl) (by decide) (by kernel_rfl) (by kernel_rfl) rfl (by simp) (by simp) ?_
  simp only [Try.f87]
  refine wseq ?_
  refine wreg fun K hK => ?_
  simp [C.spec_l8Divide]
  refine hK _ ?_; clear hK K
  show AWp _ _ _ _ _
  refine wseq ?_
  refine wreg fun K hK => ?_
  simp [C.spec_l8Divide]
  refine hK _ ?_; clear hK K
  show AWp _ _ _ _ _
  refine wseq ?_
  refine wseq ?_
  refine wreg fun K hK => ?_
  simp [C.spec_l8Divide]
  refine hK _ ?_; clear hK K
  show AWp _ _ _ _ _
  refine wcond _ rfl (fun hc1 => ?_) (fun hc1 => ?_)
  · have hf0 : f.ts = [] := by simpa using hc1
    have hd0 : divQ fm (chkSQ f g n) g 600 (f.ts.map qp) = some [] := by rw [hf0]; rfl
    refine wseq ?_
    refine wreg fun K hK => ?_
    simp [C.spec_l8Divide]
    refine hK _ ?_; clear hK K
    show AWp _ _ _ _ _
    refine wret ?_
    simp [C.spec_l8Divide, hd0, resQ, rows]
  · have hfne : f.ts ≠ [] := by intro e; simp [e] at hc1
    have hF0 : 0 < f.ts.length := List.length_pos_iff.2 hfne
    refine wskip ?_
    show AWp _ _ _ _ _
    refine wseq ?_
    refine wregI ([0, 1] ++ ([2, 3, 4, 5, 6])) rfl fun K hK => ?_
    refine opsI_seg fun L hL => ?_
    simp [C.spec_l8Divide]
    refine wcall1 (spec_l8Bounds_calls f.ts n hv hF0 (by omega) (fun t ht => (he t ht).1)) (by simp) (by simp) ?_
    simp [C.spec_l8Divide]
    refine hL _ ?_; clear hL L
    refine opsI_end fun L hL => ?_
    simp [C.spec_l8Divide]
    refine hL _ ?_; clear hL L
    simp [C.spec_l8Divide]
    refine hK _ ?_; clear hK K
    show AWp _ _ _ _ _
    refine wseq ?_
    refine wregI ([0, 1] ++ ([2, 3, 4, 5, 6])) rfl fun K hK => ?_
    refine opsI_seg fun L hL => ?_
    simp [C.spec_l8Divide]
    refine wcall1 (spec_l8Bounds_calls g.ts n hv hG0 (by omega) (fun t ht => (heg t ht).1)) (by simp) (by simp) ?_
    simp [C.spec_l8Divide]
    refine hL _ ?_; clear hL L
    refine opsI_end fun L hL => ?_
    simp [C.spec_l8Divide]
    refine hL _ ?_; clear hL L
    simp [C.spec_l8Divide]
    refine hK _ ?_; clear hK K
    show AWp _ _ _ _ _
    refine wseq ?_
    refine wblock ?_
    refine wloop (fun x : List (QK × Int) × List (QK × Int) => ⟨ofL [(0, .d (.sh 1 n (rows lS fm))), (1, .d (.sh 3 g.ts.length (rows qtS g.ts))), (2, .d (.sh 3 x.1.length (rows qtS (x.1.map qt)))), (8, .al (8, 0) [] 0 x.2.length), (9, .al (9, 0) [] 0 n), (10, .al (10, 0) [] 0 n), (11, .al (11, 0) [] 0 n), (12, .al (12, 0) [] 0 n)], ofRO [((8, 0), some (.ow 3 x.2.length (rows qtS (x.2.map qt)))), ((9, 0), some (.ow 1 n (ints (lowL (f.ts.map tT) n)))), ((10, 0), some (.ow 1 n (ints (highL (f.ts.map tT) n)))), ((11, 0), some (.ow 1 n (ints (lowL (g.ts.map tT) n)))), ((12, 0), some (.ow 1 n (ints (highL (g.ts.map tT) n))))]⟩) (fun x => DivJQ fm (chkSQ f g n) f g n x.1 x.2) (fun x => 600 - x.2.length) (f.ts.map qp, []) (by simp [C.spec_l8Divide, rows, show qt ∘ qp = id from rfl]) (DivJQ.start _ _ hf hn) ?_
    intro x1 hx1 R1 hR1
    obtain ⟨R, O⟩ := x1
    dsimp only at hx1 ⊢
    refine wseq ?_
    refine wseq ?_
    refine wreg fun K hK => ?_
    simp [C.spec_l8Divide]
    refine hK _ ?_; clear hK K
    show AWp _ _ _ _ _
    refine wcond _ rfl (fun hc2 => ?_) (fun hc2 => ?_)
    · obtain ⟨⟨⟨a, ah⟩, c⟩, R', rfl⟩ : ∃ y R', R = y :: R' := by
        cases R with
        | nil => simp at hc2
        | cons y R' => exact ⟨y, R', rfl⟩
      have ha := hx1.rl ((a, ah), c) (by simp)
      obtain ⟨⟨hal, hab⟩, hah⟩ := ha
      dsimp only at hal hab hah
      have hOl := hx1.ol
      have hcb : -1000000000000000000 ≤ c ∧ c ≤ 1000000000000000000 := by
        have h1 := hx1.ra
        simp only [absQK, List.map_cons, List.sum_cons] at h1
        omega
      have q0 := qtS_0 (l := qt ((a, ah), c) :: R'.map qt) (i := 0) (by simp)
      have q1 := qtS_1 (l := qt ((a, ah), c) :: R'.map qt) (i := 0) (by simp)
      have q2 := qtS_2 (l := qt ((a, ah), c) :: R'.map qt) (i := 0) (by simp)
      simp only [List.getElem_cons_zero, Nat.mul_zero, Nat.zero_add] at q0 q1 q2
      rw [show (qt ((a, ah), c)).e = a from rfl] at q0
      rw [show (qt ((a, ah), c)).h = ah from rfl] at q1
      rw [show (qt ((a, ah), c)).c = c from rfl] at q2
      have g0 := qtS_0 hG0
      have g1 := qtS_1 hG0
      have g2 := qtS_2 hG0
      rw [hl1e] at g0
      rw [hl1h] at g1
      rw [hl2] at g2
      simp only [Nat.mul_zero, Nat.zero_add] at g0 g1 g2
      have hEl : (addE (-1) a le).length = n := by rw [addE_length _ _ _ (by omega)]; exact hal
      have hEg : ∀ (i : Nat) (h : i < n), (addE (-1) a le)[i]'(by omega) = a[i]'(by omega) - le[i]'(by omega) := fun i h => by
        have := getD_addE (-1) i a le (by omega)
        rw [getD_eq (by omega), getD_eq (by omega), getD_eq (by omega)] at this
        omega
      refine wskip ?_
      show AWp _ _ _ _ _
      refine wblock ?_
      refine wseq ?_
      refine wreg fun K hK => ?_
      simp [C.spec_l8Divide]
      refine hK _ ?_; clear hK K
      show AWp _ _ _ _ _
      refine wseq ?_
      refine wseq ?_
      refine wreg fun K hK => ?_
      simp [C.spec_l8Divide]
      refine hK _ ?_; clear hK K
      show AWp _ _ _ _ _
      refine wblock ?_
      refine wloop (fun x : Nat => ⟨ofL [(0, .d (.sh 1 n (rows lS fm))), (1, .d (.sh 3 g.ts.length (rows qtS g.ts))), (2, .d (.sh 3 (R'.length + 1) (rows qtS ((((a, ah), c) :: R').map qt)))), (8, .al (8, 0) [] 0 O.length), (9, .al (9, 0) [] 0 n), (10, .al (10, 0) [] 0 n), (11, .al (11, 0) [] 0 n), (12, .al (12, 0) [] 0 n), (13, .al (13, 0) [] 0 x), (14, .int x)], ofRO [((8, 0), some (.ow 3 O.length (rows qtS (O.map qt)))), ((9, 0), some (.ow 1 n (ints (lowL (f.ts.map tT) n)))), ((10, 0), some (.ow 1 n (ints (highL (f.ts.map tT) n)))), ((11, 0), some (.ow 1 n (ints (lowL (g.ts.map tT) n)))), ((12, 0), some (.ow 1 n (ints (highL (g.ts.map tT) n)))), ((13, 0), some (.ow 1 x (ints ((addE (-1) a le).take x))))]⟩) (fun x => x ≤ n ∧ ∀ i, i < x → (lowL (f.ts.map tT) n).getD i 0 - (lowL (g.ts.map tT) n).getD i 0 ≤ (addE (-1) a le).getD i 0 ∧ (addE (-1) a le).getD i 0 ≤ (highL (f.ts.map tT) n).getD i 0 - (highL (g.ts.map tT) n).getD i 0) (fun x => n - x) 0 (by simp [C.spec_l8Divide, ints]) (by simp) ?_
      intro x2 hx2 R2 hR2
      obtain ⟨hj1, hj2⟩ := hx2
      refine wseq ?_
      refine wseq ?_
      refine wreg fun K hK => ?_
      simp [C.spec_l8Divide]
      refine hK _ ?_; clear hK K
      show AWp _ _ _ _ _
      refine wcond _ rfl (fun hc3 => ?_) (fun hc3 => ?_)
      · have h4 : x2 < n := by have := d_t hc3; omega
        have e1 := hEg x2 h4
        have bd1 := hab _ (List.getElem_mem (show x2 < a.length by omega))
        have bd2 := hgle2 _ (List.getElem_mem (show x2 < le.length by omega))
        have bd3 := lowL_bdQ hf hn hfne h4
        have bd4 := lowL_bdQ hg hgn hgne h4
        rw [getD_eq (by simpa using h4), getD_eq (by simpa using h4)] at bd3 bd4
        have hsn : ints ((addE (-1) a le).take x2) ++ [D.v (.int .i64 (a[x2] - le[x2]))] = ints ((addE (-1) a le).take (x2 + 1)) := by
          rw [List.take_succ_eq_append_getElem (by omega), e1]
          simp [ints]
        have hln : ((addE (-1) a le).take (x2 + 1)).length = x2 + 1 := by simp; omega
        have hgt : ((addE (-1) a le).take (x2 + 1))[x2]'(by omega) = a[x2] - le[x2] := by rw [List.getElem_take]; exact e1
        refine wskip ?_
        show AWp _ _ _ _ _
        refine wseq ?_
        refine wblock ?_
        refine wseq ?_
        refine wdrawI [(true, 0), (true, 1), (true, 2), (true, 3), (true, 4), (true, 5), (true, 6), (true, 7), (true, 8), (true, 9), (true, 10), (true, 11), (true, 12), (true, 13), (true, 14), (true, 15), (false, 16), (false, 17), (true, 18)] ⟨by kernel_rfl, by kernel_rfl⟩ ([0, 1, 2, 3, 4, 5, 6, 7, 8, 9, 10, 11, 12, 13, 14, 15, 16, 17, 18]) rfl fun K hK => ?_
        refine opsI_end fun L hL => ?_
        simp [C.spec_l8Divide, h4, hal, hgle1, get_ints, hG0, q0, g0, wrapOk (x := a[x2] - le[x2]) (by omega) (by omega), hsn, show (x2 + 1) * 8 ≤ 140737488355328 by omega]
        refine hL _ ?_; clear hL L
        simp [C.spec_l8Divide, h4, hal, hgle1, get_ints, hG0, q0, g0, wrapOk (x := a[x2] - le[x2]) (by omega) (by omega), hsn, show (x2 + 1) * 8 ≤ 140737488355328 by omega]
        refine hK _ ?_; clear hK K
        show AWp _ _ _ _ _
        refine wseq ?_
        refine wdrawI [(true, 0), (true, 1), (true, 2), (true, 3), (true, 4), (true, 5), (true, 6), (true, 7), (true, 8), (true, 9), (true, 10), (true, 11), (true, 12), (true, 13), (true, 14), (true, 15), (true, 16), (true, 17), (true, 18), (true, 19), (true, 20), (true, 21), (false, 22), (true, 23)] ⟨by kernel_rfl, by kernel_rfl⟩ ([0, 1, 2, 3, 4, 5, 6, 7, 8, 9, 10, 11, 12, 13, 14, 15, 16, 17, 18, 19, 20, 21, 22] ++ ([23])) rfl fun K hK => ?_
        refine opsI_seg fun L hL => ?_
        simp [C.spec_l8Divide, show ((x2 : Int) < (x2 : Int) + 1) by omega, h4, get_ints, hln, hgt, wrapOk (x := (lowL (f.ts.map tT) n)[x2]'(by simpa using h4) - (lowL (g.ts.map tT) n)[x2]'(by simpa using h4)) (by omega) (by omega), wrapOk (x := (highL (f.ts.map tT) n)[x2]'(by simpa using h4) - (highL (g.ts.map tT) n)[x2]'(by simpa using h4)) (by omega) (by omega)]
        refine wcall1 (spec_l1In_calls (a[x2] - le[x2]) ((lowL (f.ts.map tT) n)[x2]'(by simpa using h4) - (lowL (g.ts.map tT) n)[x2]'(by simpa using h4)) ((highL (f.ts.map tT) n)[x2]'(by simpa using h4) - (highL (g.ts.map tT) n)[x2]'(by simpa using h4))) (by simp) (by simp) ?_
        simp [C.spec_l8Divide, show ((x2 : Int) < (x2 : Int) + 1) by omega, h4, get_ints, hln, hgt, wrapOk (x := (lowL (f.ts.map tT) n)[x2]'(by simpa using h4) - (lowL (g.ts.map tT) n)[x2]'(by simpa using h4)) (by omega) (by omega), wrapOk (x := (highL (f.ts.map tT) n)[x2]'(by simpa using h4) - (highL (g.ts.map tT) n)[x2]'(by simpa using h4)) (by omega) (by omega)]
        refine hL _ ?_; clear hL L
        refine opsI_end fun L hL => ?_
        simp [C.spec_l8Divide, show ((x2 : Int) < (x2 : Int) + 1) by omega, h4, get_ints, hln, hgt, wrapOk (x := (lowL (f.ts.map tT) n)[x2]'(by simpa using h4) - (lowL (g.ts.map tT) n)[x2]'(by simpa using h4)) (by omega) (by omega), wrapOk (x := (highL (f.ts.map tT) n)[x2]'(by simpa using h4) - (highL (g.ts.map tT) n)[x2]'(by simpa using h4)) (by omega) (by omega)]
        refine hL _ ?_; clear hL L
        simp [C.spec_l8Divide, show ((x2 : Int) < (x2 : Int) + 1) by omega, h4, get_ints, hln, hgt, wrapOk (x := (lowL (f.ts.map tT) n)[x2]'(by simpa using h4) - (lowL (g.ts.map tT) n)[x2]'(by simpa using h4)) (by omega) (by omega), wrapOk (x := (highL (f.ts.map tT) n)[x2]'(by simpa using h4) - (highL (g.ts.map tT) n)[x2]'(by simpa using h4)) (by omega) (by omega)]
        refine hK _ ?_; clear hK K
        show AWp _ _ _ _ _
        refine wcond _ rfl (fun hc4 => ?_) (fun hc4 => ?_)
        · have hfail := hx1.fail (.inl fun h => by
            have h5 := h.2
            rw [hlq] at h5
            simp only [chkSQ, qdv] at h5
            have h6 := of_decide_eq_true h5
            have := h6.1 x2 h4
            rw [getD_eq (by simpa using h4), getD_eq (by simpa using h4), getD_eq (by omega), getD_eq (by simpa using h4), getD_eq (by simpa using h4), e1] at this
            simp [this.1, this.2] at hc4)
          refine wseq ?_
          refine wreg fun K hK => ?_
          simp [C.spec_l8Divide]
          refine hK _ ?_; clear hK K
          show AWp _ _ _ _ _
          refine wret ?_
          simp [C.spec_l8Divide, hfail, resQ]
        · have hbx : ((lowL (f.ts.map tT) n)[x2]'(by simpa using h4) - (lowL (g.ts.map tT) n)[x2]'(by simpa using h4) ≤ a[x2] - le[x2]) ∧ (a[x2] - le[x2] ≤ (highL (f.ts.map tT) n)[x2]'(by simpa using h4) - (highL (g.ts.map tT) n)[x2]'(by simpa using h4)) := by simpa using hc4
          refine wskip ?_
          show AWp _ _ _ _ _
          refine wreg fun K hK => ?_
          simp [C.spec_l8Divide, wrap_succ (show x2 < 4611686018427387904 by omega)]
          refine hK _ ?_; clear hK K
          simp [C.spec_l8Divide]
          refine cast (congrArg R2 ?_) (hR2 (x2 + 1) ⟨h4, fun i hi => ?_⟩ (by omega))
          · simp
          · rcases Nat.lt_succ_iff_lt_or_eq.1 hi with h | rfl
            · exact hj2 i h
            · rw [getD_eq (by simpa using h4), getD_eq (by simpa using h4), getD_eq (by omega), getD_eq (by simpa using h4), getD_eq (by simpa using h4), e1]
              exact hbx
      · have h4 : x2 = n := by have := d_f hc3; omega
        have hbox : inBoxQ f g n (addE (-1) a le) := fun i hi => hj2 i (by omega)
        have hb40 := inBoxQ_bd hf hg hn hgn hfne hgne hEl hbox
        have htk : (addE (-1) a le).take n = addE (-1) a le := List.take_of_length_le (by omega)
        have hqb : -1000000000000000000 ≤ c.tdiv lc ∧ c.tdiv lc ≤ 1000000000000000000 := by
          have h1 : (c.tdiv lc).natAbs ≤ c.natAbs := by
            rw [Int.natAbs_tdiv]
            exact Nat.div_le_self _ _
          omega
        generalize hQ : c.tdiv lc = q at hqb
        have hSk : SkOk fm le (addE (-1) a le) := SkOk.mk' (p := 20) (q := 40) hok ⟨by omega, hgle2⟩ ⟨by omega, hb40⟩ (by omega) (by omega)
        have hSb := hSk.bd
        have hpair := spec_l8Skew_calls fm le (addE (-1) a le) hSk
        rw [hnn] at hpair
        obtain ⟨H, hH⟩ : ∃ H, H = ah - lh - skw fm le (addE (-1) a le) := ⟨_, rfl⟩
        have hw1 : IntKind.i64.wrap (ah - lh) = ah - lh := wrapOk (by omega) (by omega)
        have hw2 : IntKind.i64.wrap (ah - lh - skw fm le (addE (-1) a le)) = H := by rw [hH]; exact wrapOk (by omega) (by omega)
        have hqd : qdv fm (a, ah) (le, lh) = (addE (-1) a le, H) := by rw [hH]; rfl
        refine wexit ?_
        show AWp _ _ _ _ _
        refine wseq ?_
        refine wdraw (.take 0 (.take 1 (.take 2 (.take 3 (.take 4 (.take 5 (.take 6 (.take 7 (.take 8 (.take 9 (.take 10 (.take 11 (.take 12 (.take 13 (.take 14 (.take 15 (.take 18 (.take 19 (.take 20 (.take 21 (.take 22 (.take 23 (.take 24 (.take 25 (.take 26 (.all [(16, .take 17 (.take 27 (.all [(28, .all [(29, .done)])]))), (28, .all [(16, .take 17 (.take 27 (.all [(29, .done)])))])])))))))))))))))))))))))))) ⟨by kernel_rfl, by kernel_rfl⟩ fun K hK => ?_
        have hJ : K ⟨ofL [(0, .d (.sh 1 n (rows lS fm))), (1, .d (.sh 3 g.ts.length (rows qtS g.ts))), (2, .d (.sh 3 (R'.length + 1) (rows qtS ((((a, ah), c) :: R').map qt)))), (8, .al (8, 0) [] 0 O.length), (9, .al (9, 0) [] 0 n), (10, .al (10, 0) [] 0 n), (11, .al (11, 0) [] 0 n), (12, .al (12, 0) [] 0 n), (15, .pt (15, 0) [] 0)], ofRO [((8, 0), some (.ow 3 O.length (rows qtS (O.map qt)))), ((9, 0), some (.ow 1 n (ints (lowL (f.ts.map tT) n)))), ((10, 0), some (.ow 1 n (ints (highL (f.ts.map tT) n)))), ((11, 0), some (.ow 1 n (ints (lowL (g.ts.map tT) n)))), ((12, 0), some (.ow 1 n (ints (highL (g.ts.map tT) n)))), ((15, 0), some (.bx [shI (addE (-1) a le), D.int H, D.int q]))]⟩ := by
          refine hK _ ?_; clear hK K
          show AWp _ _ _ _ _
          refine wseq ?_
          refine wseq ?_
          refine wdrawI [(true, 0), (true, 1), (true, 2), (true, 3), (true, 4), (true, 5), (true, 6), (true, 7), (true, 8), (true, 9), (true, 10), (true, 11), (true, 12), (false, 13), (true, 14), (true, 15), (true, 16), (true, 17), (true, 18), (false, 19), (true, 20), (true, 21), (true, 22), (true, 23), (true, 24), (true, 25), (true, 26)] ⟨by kernel_rfl, by kernel_rfl⟩ ([0, 1, 2, 3, 4, 5, 6, 7, 8, 9, 10, 11, 12, 13] ++ ([14, 15, 16, 17, 18, 19] ++ ([20, 21, 22, 23, 24, 25, 26]))) rfl fun K hK => ?_
          have hJ : K ⟨ofL [(0, .d (.sh 1 n (rows lS fm))), (1, .d (.sh 3 g.ts.length (rows qtS g.ts))), (2, .d (.sh 3 (R'.length + 1) (rows qtS ((((a, ah), c) :: R').map qt)))), (8, .al (8, 0) [] 0 O.length), (9, .al (9, 0) [] 0 n), (10, .al (10, 0) [] 0 n), (11, .al (11, 0) [] 0 n), (12, .al (12, 0) [] 0 n), (15, .pt (15, 0) [] 0), (139, .bool (!decide (((c.tmod lc = 0 ∧ (-1000000 ≤ q ∧ q ≤ 1000000)) ∧ (-200 ≤ H ∧ H ≤ 200)) ∧ ¬ O.length = 600)))], ofRO [((8, 0), some (.ow 3 O.length (rows qtS (O.map qt)))), ((9, 0), some (.ow 1 n (ints (lowL (f.ts.map tT) n)))), ((10, 0), some (.ow 1 n (ints (highL (f.ts.map tT) n)))), ((11, 0), some (.ow 1 n (ints (lowL (g.ts.map tT) n)))), ((12, 0), some (.ow 1 n (ints (highL (g.ts.map tT) n)))), ((15, 0), some (.bx [shI (addE (-1) a le), D.int H, D.int q]))]⟩ := by
            refine hK _ ?_; clear hK K
            show AWp _ _ _ _ _
            refine wcond _ rfl (fun hc5 => ?_) (fun hc5 => ?_)
            · have hr := nd_t hc5
              have hfail := hx1.fail (by
                rcases Classical.em (O.length = 600) with h | h
                · exact .inr h
                · refine .inl fun h2 => hr ⟨?_, h⟩
                  dsimp only at h2
                  rw [hlq, hlc, hQ, hqd] at h2
                  simp only [chkSQ, decide_eq_true_eq] at h2
                  exact ⟨⟨h2.1, h2.2.2.2⟩, h2.2.2.1⟩)
              refine wseq ?_
              refine wreg fun K hK => ?_
              simp [C.spec_l8Divide]
              refine hK _ ?_; clear hK K
              show AWp _ _ _ _ _
              refine wret ?_
              simp [C.spec_l8Divide, hfail, resQ]
            · obtain ⟨⟨⟨k1, k2⟩, k3⟩, k4⟩ := nd_f hc5
              have hchk : chkSQ f g n (addE (-1) a le, H) q = true := by simp only [chkSQ, decide_eq_true_eq]; exact ⟨hbox, k3, k2⟩
              have hstep := hx1.step hok hnn hg hgn (by dsimp only; rw [hlc]; exact k1) (by dsimp only; rw [hlq, hlc, hQ, hqd]; exact hchk) (by omega) (by dsimp only; rw [hlq, hqd]; exact hEl) (by dsimp only; rw [hlq, hqd]; exact hb40) (by dsimp only; rw [hlq, hqd]; exact k3) (by dsimp only; rw [hlc, hQ]; exact k2)
              dsimp only at hstep
              rw [hlq, hlc, hQ, hqd] at hstep
              have hga := step_gaQ (fm := fm) (g := g) (x := ((a, ah), c)) (R := R')
              dsimp only at hga
              rw [hlq, hlc, hQ, hqd] at hga
              dsimp only at hga
              have hQg : QL fm.length g.ts := qright_ql hg (by omega)
              have hQ1 : QL fm.length [⟨addE (-1) a le, H, q⟩] := ⟨by simp, fun t ht => by
                simp only [List.mem_singleton] at ht
                subst ht
                exact ⟨by dsimp only; omega, fun z hz => by have := hb40 z hz; omega, ⟨by dsimp only; omega, by dsimp only; omega⟩, k2⟩⟩
              have htm := spec_l8Times_calls fm g.ts [⟨addE (-1) a le, H, q⟩] hok hQg hQ1
              have hPA := prodQ_abs (fm := fm) hQg hQ1
              have hPE := prodQ_e (fm := fm) hQg hQ1
              have hPL := prodQ_len fm g.ts [⟨addE (-1) a le, H, q⟩]
              generalize hPR : prodQ fm g.ts [⟨addE (-1) a le, H, q⟩] = PP at htm hPA hPE hPL hga
              simp only [List.length_cons, List.length_nil, rows, qtS, List.append_nil, Nat.zero_add] at htm
              rw [hnn] at htm
              have hsnO : rows qtS (O.map qt) ++ [shI (addE (-1) a le), D.v (.int .i64 H), D.v (.int .i64 q)] = rows qtS ((O ++ [((addE (-1) a le, H), q)]).map qt) := by
                have := qtS_snoc (O.map qt) ⟨addE (-1) a le, H, q⟩
                rw [this, List.map_append]
                rfl
              refine wskip ?_
              show AWp _ _ _ _ _
              refine wseq ?_
              refine wreg fun K hK => ?_
              simp [C.spec_l8Divide, hsnO, show (O.length + 1) * 40 ≤ 140737488355328 by omega]
              refine hK _ ?_; clear hK K
              show AWp _ _ _ _ _
              refine wseq ?_
              refine wregI ([0, 1, 2, 3, 4] ++ ([5])) rfl fun K hK => ?_
              refine opsI_seg fun L hL => ?_
              simp [C.spec_l8Divide, hEl]
              refine wcall1 (htm) (by simp [hEl]) (by simp) ?_
              simp [C.spec_l8Divide, hEl]
              refine hL _ ?_; clear hL L
              refine opsI_end fun L hL => ?_
              simp [C.spec_l8Divide, hEl]
              refine hL _ ?_; clear hL L
              simp [C.spec_l8Divide, hEl]
              refine hK _ ?_; clear hK K
              show AWp _ _ _ _ _
              refine wseq ?_
              refine wseq ?_
              refine wreg fun K hK => ?_
              simp [C.spec_l8Divide]
              refine hK _ ?_; clear hK K
              show AWp _ _ _ _ _
              refine wblock ?_
              have hPl : (gaQ PP).length ≤ 600 := by
                have h1 := gaQ_len PP
                simp only [List.length_cons, List.length_nil] at hPL
                omega
              have hPA2 : absQ PP ≤ 600000000000000 := by
                have h1 := absQ_le (l := PP) (B := 1000000000000) fun t ht => by
                  rw [← hPR] at ht
                  obtain ⟨x, hx, y, hy, rfl⟩ := prodQ_mem ht
                  simp only [List.mem_singleton] at hy
                  subst hy
                  have := mul_bd (hQg.2 x hx).2.2.2 k2
                  simp only [mulT2]
                  omega
                simp only [List.length_cons, List.length_nil] at hPL
                have h2 : PP.length * 1000000000000 ≤ 600 * 1000000000000 := Nat.mul_le_mul_right _ (by omega)
                omega
              have hrn := hx1.rn
              simp only [List.length_cons] at hrn
              refine wloop (fun x : Nat => ⟨ofL [(0, .d (.sh 1 n (rows lS fm))), (1, .d (.sh 3 g.ts.length (rows qtS g.ts))), (2, .d (.sh 3 (R'.length + 1) (rows qtS ((((a, ah), c) :: R').map qt)))), (8, .al (8, 0) [] 0 (O.length + 1)), (9, .al (9, 0) [] 0 n), (10, .al (10, 0) [] 0 n), (11, .al (11, 0) [] 0 n), (12, .al (12, 0) [] 0 n), (16, .al (16, 0) [] 0 (gaQ PP).length), (17, .int x)], ofRO [((8, 0), some (.ow 3 (O.length + 1) (rows qtS ((O ++ [((addE (-1) a le, H), q)]).map qt)))), ((9, 0), some (.ow 1 n (ints (lowL (f.ts.map tT) n)))), ((10, 0), some (.ow 1 n (ints (highL (f.ts.map tT) n)))), ((11, 0), some (.ow 1 n (ints (lowL (g.ts.map tT) n)))), ((12, 0), some (.ow 1 n (ints (highL (g.ts.map tT) n)))), ((16, 0), some (.ow 3 (gaQ PP).length (rows qtO (((gaQ PP).map ngT).take x ++ (gaQ PP).drop x))))]⟩) (fun x => x ≤ (gaQ PP).length) (fun x => (gaQ PP).length - x) 0 (by simp [C.spec_l8Divide]) (by simp) ?_
              intro x3 hx3 R3 hR3
              refine wseq ?_
              refine wseq ?_
              refine wreg fun K hK => ?_
              simp [C.spec_l8Divide]
              refine hK _ ?_; clear hK K
              show AWp _ _ _ _ _
              refine wcond _ rfl (fun hc6 => ?_) (fun hc6 => ?_)
              · have h6 : x3 < (gaQ PP).length := by have := d_t hc6; omega
                obtain ⟨M, m1, m2, m3, m4⟩ := ng_step (gaQ PP) x3 h6
                rw [m1]
                have hM : x3 < M.length := by omega
                have hcm : (gaQ PP)[x3].c.natAbs < 4611686018427387904 := Nat.lt_of_le_of_lt (gaQ_c (List.getElem_mem h6)) hPA
                have hwc : IntKind.i64.wrap (-(gaQ PP)[x3].c) = -(gaQ PP)[x3].c := wrapOk (by omega) (by omega)
                have hset : (rows qtO M).set (3 * x3 + 2) (.v (.int .i64 (-(gaQ PP)[x3].c))) = rows qtO (((gaQ PP).map ngT).take (x3 + 1) ++ (gaQ PP).drop (x3 + 1)) := by
                  rw [qtO_set2 hM, m3 hM, ← m4]
                  rfl
                refine wskip ?_
                show AWp _ _ _ _ _
                refine wseq ?_
                refine wblock ?_
                refine wreg fun K hK => ?_
                simp [C.spec_l8Divide, h6, qtO_2 hM, m3 hM, m2, hwc, hset, modify_const]
                refine hK _ ?_; clear hK K
                show AWp _ _ _ _ _
                refine wreg fun K hK => ?_
                simp [C.spec_l8Divide, wrap_succ (show x3 < 4611686018427387904 by omega)]
                refine hK _ ?_; clear hK K
                simp [C.spec_l8Divide]
                refine cast (congrArg R3 ?_) (hR3 (x3 + 1) h6 (by omega))
                simp
              · have h6 : x3 = (gaQ PP).length := by have := d_f hc6; omega
                have hall : ((gaQ PP).map ngT).take x3 ++ (gaQ PP).drop x3 = (gaQ PP).map ngT := by rw [h6, List.drop_length, List.append_nil, List.take_of_length_le (by simp)]
                rw [hall]
                have hng : (gaQ PP).map (fun t => (⟨t.e, t.h, 0 - t.c⟩ : Qtm)) = (gaQ PP).map ngT := List.map_congr_left fun t _ => by simp [ngT]
                rw [hng] at hga
                have hgt := spec_l8Gather_calls ((((a, ah), c) :: R').map qt ++ (gaQ PP).map ngT) (by simp; omega) (by
                  rw [absQ_append, absQ_ng, absQ_qt]
                  have h1 := hx1.ra
                  rw [absQK_K] at h1
                  have h2 := absQ_ga PP
                  omega) (fun t ht => by
                  rcases List.mem_append.1 ht with ht | ht
                  · obtain ⟨x, hx, rfl⟩ := List.mem_map.1 ht
                    have := (hx1.rl x hx).1.1
                    simp only [qt]
                    omega
                  · obtain ⟨u, hu, rfl⟩ := List.mem_map.1 ht
                    have := gaQ_e (p := fun e => e.length = fm.length) (fun t ht => hPE t ht) u hu
                    simp only [ngT]
                    omega)
                rw [hga] at hgt
                have hgl3 : ((((a, ah), c) :: R').map qt ++ (gaQ PP).map ngT).length = R'.length + 1 + (gaQ PP).length := by simp; omega
                rw [hgl3, rows_append] at hgt
                refine wexit ?_
                show AWp _ _ _ _ _
                refine wregI ([0, 1, 2, 3, 4, 5] ++ ([6])) rfl fun K hK => ?_
                have hJ : K ⟨ofL [(0, .d (.sh 1 n (rows lS fm))), (1, .d (.sh 3 g.ts.length (rows qtS g.ts))), (2, .d (.sh 3 (nf qlt (stepQ fm g ((a, ah), c) R')).length (rows qtS ((nf qlt (stepQ fm g ((a, ah), c) R')).map qt)))), (8, .al (8, 0) [] 0 (O.length + 1)), (9, .al (9, 0) [] 0 n), (10, .al (10, 0) [] 0 n), (11, .al (11, 0) [] 0 n), (12, .al (12, 0) [] 0 n)], ofRO [((8, 0), some (.ow 3 (O.length + 1) (rows qtS ((O ++ [((addE (-1) a le, H), q)]).map qt)))), ((9, 0), some (.ow 1 n (ints (lowL (f.ts.map tT) n)))), ((10, 0), some (.ow 1 n (ints (highL (f.ts.map tT) n)))), ((11, 0), some (.ow 1 n (ints (lowL (g.ts.map tT) n)))), ((12, 0), some (.ow 1 n (ints (highL (g.ts.map tT) n))))]⟩ := by
                  refine hK _ ?_; clear hK K
                  simp [C.spec_l8Divide]
                  refine cast (congrArg R1 ?_) (hR1 (nf qlt (stepQ fm g ((a, ah), c) R'), O ++ [((addE (-1) a le, H), q)]) hstep (by simp; omega))
                  simp
                clear hK
                refine opsI_seg fun L hL => ?_
                simp [C.spec_l8Divide, shareL_app, qtS_share2, qtO_solid2, show (R'.length + 1) * 40 ≤ 140737488355328 by omega, show (R'.length + 1 + (gaQ PP).length) * 40 ≤ 140737488355328 by omega]
                refine ⟨fun hlf => ?_, fun hlf => ?_⟩
                all_goals try simp only [if_true, true_and]
                all_goals
                  refine wcall1 hgt (by simp [C.spec_l8Divide, shareL_app, qtS_share2, qtO_solid2, show (R'.length + 1) * 40 ≤ 140737488355328 by omega, show (R'.length + 1 + (gaQ PP).length) * 40 ≤ 140737488355328 by omega]) (by simp) ?_
                  simp [C.spec_l8Divide, shareL_app, qtS_share2, qtO_solid2, show (R'.length + 1) * 40 ≤ 140737488355328 by omega, show (R'.length + 1 + (gaQ PP).length) * 40 ≤ 140737488355328 by omega]
                  refine hL _ ?_
                  refine opsI_end fun L2 hL2 => ?_
                  simp [C.spec_l8Divide, shareL_app, qtS_share2, qtO_solid2, show (R'.length + 1) * 40 ≤ 140737488355328 by omega, show (R'.length + 1 + (gaQ PP).length) * 40 ≤ 140737488355328 by omega]
                  refine hL2 _ ?_
                  simp [C.spec_l8Divide, shareL_app, qtS_share2, qtO_solid2, show (R'.length + 1) * 40 ≤ 140737488355328 by omega, show (R'.length + 1 + (gaQ PP).length) * 40 ≤ 140737488355328 by omega]
                  refine cast (congrArg K ?_) hJ
                  simp [C.spec_l8Divide, shareL_app, qtS_share2, qtO_solid2, show (R'.length + 1) * 40 ≤ 140737488355328 by omega, show (R'.length + 1 + (gaQ PP).length) * 40 ≤ 140737488355328 by omega]
          clear hK
          by_cases k1 : c.tmod lc = 0
          · by_cases k2 : (-1000000 ≤ q ∧ q ≤ 1000000)
            · by_cases k3 : (-200 ≤ H ∧ H ≤ 200)
              · refine opsI_seg fun L hL => ?_
                simp [C.spec_l8Divide, q2, g2, hgle5, hG0, k1, k2, k3]
                refine wcall1 (spec_l1In_calls q (-1000000) 1000000) (by simp) (by simp) ?_
                simp [C.spec_l8Divide, q2, g2, hgle5, hG0, k1, k2, k3]
                refine hL _ ?_; clear hL L
                refine opsI_seg fun L hL => ?_
                simp [C.spec_l8Divide, q2, g2, hgle5, hG0, k1, k2, k3]
                refine wcall1 (spec_l1In_calls H (-200) 200) (by simp) (by simp) ?_
                simp [C.spec_l8Divide, q2, g2, hgle5, hG0, k1, k2, k3]
                refine hL _ ?_; clear hL L
                refine opsI_end fun L hL => ?_
                simp [C.spec_l8Divide, q2, g2, hgle5, hG0, k1, k2, k3]
                refine hL _ ?_; clear hL L
                simp [C.spec_l8Divide, q2, g2, hgle5, hG0, k1, k2, k3]
                refine cast (congrArg K ?_) hJ
                simp [ieq600, k1, k2, k3]
              · refine opsI_seg fun L hL => ?_
                simp [C.spec_l8Divide, q2, g2, hgle5, hG0, k1, k2, k3]
                refine wcall1 (spec_l1In_calls q (-1000000) 1000000) (by simp) (by simp) ?_
                simp [C.spec_l8Divide, q2, g2, hgle5, hG0, k1, k2, k3]
                refine hL _ ?_; clear hL L
                refine opsI_seg fun L hL => ?_
                simp [C.spec_l8Divide, q2, g2, hgle5, hG0, k1, k2, k3]
                refine wcall1 (spec_l1In_calls H (-200) 200) (by simp) (by simp) ?_
                simp [C.spec_l8Divide, q2, g2, hgle5, hG0, k1, k2, k3]
                refine hL _ ?_; clear hL L
                refine opsI_end fun L hL => ?_
                simp [C.spec_l8Divide, q2, g2, hgle5, hG0, k1, k2, k3]
                refine hL _ ?_; clear hL L
                simp [C.spec_l8Divide, q2, g2, hgle5, hG0, k1, k2, k3]
                refine cast (congrArg K ?_) hJ
                simp [ieq600, k1, k2, k3]
            · refine opsI_seg fun L hL => ?_
              simp [C.spec_l8Divide, q2, g2, hgle5, hG0, k1, k2]
              refine wcall1 (spec_l1In_calls q (-1000000) 1000000) (by simp) (by simp) ?_
              simp [C.spec_l8Divide, q2, g2, hgle5, hG0, k1, k2]
              refine hL _ ?_; clear hL L
              refine opsI_seg fun L hL => ?_
              simp [C.spec_l8Divide, q2, g2, hgle5, hG0, k1, k2]
              refine hL _ ?_; clear hL L
              refine opsI_end fun L hL => ?_
              simp [C.spec_l8Divide, q2, g2, hgle5, hG0, k1, k2]
              refine hL _ ?_; clear hL L
              simp [C.spec_l8Divide, q2, g2, hgle5, hG0, k1, k2]
              refine cast (congrArg K ?_) hJ
              simp [ieq600, k1, k2]
          · refine opsI_seg fun L hL => ?_
            simp [C.spec_l8Divide, q2, g2, hgle5, hG0, k1]
            refine hL _ ?_; clear hL L
            refine opsI_seg fun L hL => ?_
            simp [C.spec_l8Divide, q2, g2, hgle5, hG0, k1]
            refine hL _ ?_; clear hL L
            refine opsI_end fun L hL => ?_
            simp [C.spec_l8Divide, q2, g2, hgle5, hG0, k1]
            refine hL _ ?_; clear hL L
            simp [C.spec_l8Divide, q2, g2, hgle5, hG0, k1]
            refine cast (congrArg K ?_) hJ
            simp [ieq600, k1]
        clear hK
        simp [C.spec_l8Divide, q0, q1, q2, g0, g1, g2, hw1, hw2, hgle5, hQ, wrapOk (x := q) (by omega) (by omega), htk, hEl, hG0, h4]
        repeat' first
          | (refine wcall1 hpair (by simp [hEl]) (by simp) ?_; simp [C.spec_l8Divide, q0, q1, q2, g0, g1, g2, hw1, hw2, hgle5, hQ, wrapOk (x := q) (by omega) (by omega), htk, hEl, hG0, h4])
          | exact hJ
          | (refine cast (congrArg K ?_) hJ; simp; done)
          | (refine cast (congrArg K ?_) hJ; simp [hEl]; done)
          | (refine cast (congrArg K ?_) hJ; simp [shI, hEl]; done)
          | (refine cast (congrArg K ?_) hJ; simp [shI, hEl]; trace_state; fail)
          | refine And.intro ?_ ?_
    · have hR0 : R = [] := by
        cases R with
        | nil => rfl
        | cons y R' => simp at hc2
      subst hR0
      have hdone := hx1.done
      refine wexit ?_
      show AWp _ _ _ _ _
      refine wseq ?_
      refine wreg fun K hK => ?_
      simp [C.spec_l8Divide]
      refine hK _ ?_; clear hK K
      show AWp _ _ _ _ _
      refine wret ?_
      simp [C.spec_l8Divide, hdone, resQ]

end Go.Proofs.Ytocknokodgnlbaa.Ab
namespace Go.Proofs.Ytocknokodgnlbaa.Ab
open Go
set_option linter.unusedSimpArgs false
set_option linter.unusedVariables false
set_option maxRecDepth 10000
set_option maxHeartbeats 2000000
theorem sl8Div_calls (fm : List (List Int)) (f g : Qsm) (hok : FormOk fm) (hf : QRight f) (hg : QRight g) (hn : f.v = fm.length) (hgn : g.v = fm.length) (hgne : g.ts ≠ []) (o : Option (List (QK × Int))) (ho : divQ fm (chkSQ f g fm.length) g 600 (f.ts.map qp) = o) : ACalls Try.prog F.spec_l8Divide [.d (.sh 1 fm.length (rows lS fm)), .d (.sh 3 g.ts.length (rows qtS g.ts)), .d (.sh 3 f.ts.length (rows qtS f.ts))] [] false (fun outs res => outs = [] ∧ res = [.one (.ow 3 ((o.getD []).map qt).length (rows qtS ((o.getD []).map qt))), .one (D.bool o.isSome)]) := by
  refine ACalls.weak1 (ACalls.mono (spec_l8Divide_calls fm f g hok hf hg hn hgn hgne) ?_)
  rintro outs res ⟨h1, h2⟩
  refine ⟨h1, ?_⟩
  rw [h2, ho]
  cases o with
  | none => simp [resQ, rows]
  | some O => simp [resQ]
theorem spec_DivideQSums_calls (fm : List (List Int)) (f g : Qsm) (h0 : fm.length < 4611686018427387904) (hI : I64 fm) (hx : f.ts.length < 4611686018427387904) (hxe : ∀ t ∈ f.ts, t.e.length < 4611686018427387904) (hy : g.ts.length < 4611686018427387904) (hye : ∀ t ∈ g.ts, t.e.length < 4611686018427387904) : ACalls Try.prog F.spec_DivideQSums [.d (.sh 1 fm.length (rows lS fm)), aQ f, aQ g] [] true (fun outs res => outs = [] ∧ WkRs res [.ag (qO (divQF fm f g).1), .one (D.bool (divQF fm f g).2)]) := by
  have hcall := spec_l8Two_calls fm f g h0 hI hx hxe hy hye
  generalize hB : decide (FormOk fm ∧ QRight f ∧ QRight g ∧ f.v = fm.length ∧ g.v = fm.length) = B at hcall
  refine ACalls.of_body (C := C.spec_DivideQSums) (n := Try.f32.ntmps) tabT folT Try.func32 rfl (by kernel_rfl) rfl (Nat.le_of_ble_eq_true rfl) (by decide) (by kernel_rfl) (by kernel_rfl) rfl (by simp) (by simp) ?_
  simp only [Try.f32]
  refine wseq ?_
  refine wreg fun K hK => ?_
  simp [C.spec_DivideQSums, qS]
  refine hK _ ?_; clear hK K
  show AWp _ _ _ _ _
  refine wseq ?_
  refine wseq ?_
  refine wregI ([0, 1, 2, 3] ++ ([4, 5, 6, 7, 8, 9, 10])) rfl fun K hK => ?_
  have hJ : K ⟨ofL [(0, .d (.sh 1 fm.length (rows lS fm))), (4, .pt (4, 0) [] 0), (5, .pt (5, 0) [] 0), (6, .pt (6, 0) [] 0), (20, .bool (!(B && !decide (g.ts = []))))], ofRO [((4, 0), some (.bx (qS f))), ((5, 0), some (.bx (qS g))), ((6, 0), some (.bx [D.int 0, .v (.slice none 0 0)]))]⟩ := by
    refine hK _ ?_; clear hK K
    show AWp _ _ _ _ _
    refine wcond _ rfl (fun hc1 => ?_) (fun hc1 => ?_)
    · have hr : ¬ QFit fm f g := by
        rintro ⟨h1, h2⟩
        rw [← hB, decide_eq_true h1] at hc1
        simp [h2] at hc1
      have hm : divQF fm f g = (zeroQ, false) := if_neg hr
      refine wseq ?_
      refine wreg fun K hK => ?_
      simp [C.spec_DivideQSums, qS]
      refine hK _ ?_; clear hK K
      show AWp _ _ _ _ _
      refine wret ?_
      simp [C.spec_DivideQSums, qS, hm, qO, zeroQ, rows]
    · have hr : (FormOk fm ∧ QRight f ∧ QRight g ∧ f.v = fm.length ∧ g.v = fm.length) ∧ g.ts ≠ [] := by
        rw [← hB] at hc1
        simpa using hc1
      have hfit : QFit fm f g := hr
      obtain ⟨⟨hok, hf, hg, hn, hgn⟩, hgne⟩ := hr
      have hm : divQF fm f g = endQd f.v (divQ fm (chkSQ f g fm.length) g 600 (f.ts.map qp)) := by
        rw [← divQS_eq]
        exact if_pos hfit
      have hgood := fun O (ho : divQ fm (chkSQ f g fm.length) g 600 (f.ts.map qp) = some O) => divQ_good hfit ho
      obtain ⟨o, ho⟩ : ∃ o, divQ fm (chkSQ f g fm.length) g 600 (f.ts.map qp) = o := ⟨_, rfl⟩
      have hDiv := sl8Div_calls fm f g hok hf hg hn hgn hgne o ho
      rw [ho] at hm hgood
      refine wskip ?_
      show AWp _ _ _ _ _
      refine wseq ?_
      refine wregI ([0, 1, 2, 3, 4, 5] ++ ([6, 7, 8, 9, 10])) rfl fun K hK => ?_
      refine opsI_seg fun L hL => ?_
      simp [C.spec_DivideQSums, qS]
      refine wcall (hDiv) (by simp) (by simp) (by simp) ?_
      rintro outs res ⟨rfl, rfl⟩
      simp [C.spec_DivideQSums, qS]
      refine hL _ ?_; clear hL L
      refine opsI_end fun L hL => ?_
      simp [C.spec_DivideQSums, qS]
      refine hL _ ?_; clear hL L
      simp [C.spec_DivideQSums, qS]
      refine hK _ ?_; clear hK K
      show AWp _ _ _ _ _
      refine wseq ?_
      refine wseq ?_
      refine wreg fun K hK => ?_
      simp [C.spec_DivideQSums, qS]
      refine hK _ ?_; clear hK K
      show AWp _ _ _ _ _
      refine wcond _ rfl (fun hc2 => ?_) (fun hc2 => ?_)
      · have hno : o = none := by
          cases o with
          | none => rfl
          | some O => simp at hc2
        subst hno
        refine wseq ?_
        refine wreg fun K hK => ?_
        simp [C.spec_DivideQSums, qS]
        refine hK _ ?_; clear hK K
        show AWp _ _ _ _ _
        refine wret ?_
        simp [C.spec_DivideQSums, qS, hm, endQd, zeroQ, qO, rows]
      · obtain ⟨O, rfl⟩ : ∃ O, o = some O := by
          cases o with
          | none => simp at hc2
          | some O => exact ⟨O, rfl⟩
        obtain ⟨hd, hz, hl, hch, hO, _⟩ := hgood O rfl
        have hn8 : fm.length ≤ 8 := by have := hok.1; omega
        have hcb : ∀ t ∈ O.map qt, t.c.natAbs ≤ 1000000 := fun t ht => by
          obtain ⟨x, hx, rfl⟩ := List.mem_map.1 ht
          have h1 := hch x hx
          simp only [chkSQ] at h1
          have h2 := (of_decide_eq_true h1).2.2
          simp only [qt]
          omega
        have hel : ∀ t ∈ O.map qt, t.e.length = fm.length := fun t ht => by
          obtain ⟨x, hx, rfl⟩ := List.mem_map.1 ht
          exact hl x hx
        have hab := absQ_le hcb
        have hll : (O.map qt).length ≤ 600 := by simpa using hO
        have hga := enQ_ga (v := f.v) hd hz
        rw [← hm] at hga
        have hgl := gaQ_len (O.map qt)
        have hgat := spec_l8Gather_calls (O.map qt) (by omega) (by have h9 : (O.map qt).length * 1000000 ≤ 600 * 1000000 := Nat.mul_le_mul_right _ hll; omega) (fun t ht => by have := hel t ht; omega)
        simp only [List.length_map] at hgat
        refine wskip ?_
        show AWp _ _ _ _ _
        refine wseq ?_
        refine wdrawI [(true, 0), (true, 2), (true, 3), (false, 1), (false, 4), (true, 5), (true, 6), (false, 7), (true, 8)] ⟨by kernel_rfl, by kernel_rfl⟩ ([0, 2, 3, 1] ++ ([4] ++ ([5, 6, 7, 8]))) rfl fun K hK => ?_
        refine opsI_seg fun L hL => ?_
        simp [C.spec_DivideQSums, qS, hO]
        refine wcall1 (hgat) (by simp [qS, hO]) (by simp) ?_
        simp [C.spec_DivideQSums, qS, hO]
        refine hL _ ?_; clear hL L
        refine opsI_seg fun L hL => ?_
        simp [C.spec_DivideQSums, qS, hO]
        refine wcall1 (l8Shut_calls (gaQ (O.map qt)) f.v (by omega) (gaQ_e (p := fun e => e.length < 4611686018427387904) fun t ht => by have := hel t ht; omega)) (by simp) (by simp) ?_
        simp [C.spec_DivideQSums, qS, hO]
        refine hL _ ?_; clear hL L
        refine opsI_end fun L hL => ?_
        simp [C.spec_DivideQSums, qS, hO]
        refine hL _ ?_; clear hL L
        simp [C.spec_DivideQSums, qS, hO]
        refine hK _ ?_; clear hK K
        show AWp _ _ _ _ _
        refine wret ?_
        simp [C.spec_DivideQSums, qS, hga, qO]
  clear hK
  by_cases hb : B = true
  · refine opsI_seg fun L hL => ?_
    simp [C.spec_DivideQSums, qS, hb]
    refine wcall1 (hcall) (by simp) (by simp) ?_
    simp [C.spec_DivideQSums, qS, hb]
    refine hL _ ?_; clear hL L
    refine opsI_end fun L hL => ?_
    simp [C.spec_DivideQSums, qS, hb]
    refine hL _ ?_; clear hL L
    simp [C.spec_DivideQSums, qS, hb]
    refine cast (congrArg K ?_) hJ
    simp [ieq0, qS, hb]
  · refine opsI_seg fun L hL => ?_
    simp [C.spec_DivideQSums, qS, hb]
    refine wcall1 (hcall) (by simp) (by simp) ?_
    simp [C.spec_DivideQSums, qS, hb]
    refine hL _ ?_; clear hL L
    refine opsI_end fun L hL => ?_
    simp [C.spec_DivideQSums, qS, hb]
    refine hL _ ?_; clear hL L
    simp [C.spec_DivideQSums, qS, hb]
    refine cast (congrArg K ?_) hJ
    simp [ieq0, qS, hb]
theorem sDivQ_calls (fm : List (List Int)) (f g : Qsm) (h0 : fm.length < 4611686018427387904) (hI : I64 fm) (hx : f.ts.length < 4611686018427387904) (hxe : ∀ t ∈ f.ts, t.e.length < 4611686018427387904) (hy : g.ts.length < 4611686018427387904) (hye : ∀ t ∈ g.ts, t.e.length < 4611686018427387904) : ACalls Try.prog F.spec_DivideQSums [.d (.sh 1 fm.length (rows lS fm)), aQ f, aQ g] [] true (fun outs res => outs = [] ∧ res = [.ag (qO (divQF fm f g).1), .one (D.bool (divQF fm f g).2)]) := (spec_DivideQSums_calls fm f g h0 hI hx hxe hy hye).weak1

end Go.Proofs.Ytocknokodgnlbaa.Ab
namespace Go.Proofs.Ytocknokodgnlbaa.Ab
open Go
set_option linter.unusedSimpArgs false
set_option linter.unusedVariables false
set_option maxRecDepth 10000
set_option maxHeartbeats 2000000
theorem divQF_small (fm : List (List Int)) (f g : Qsm) : SmallQ (divQF fm f g).1 := by
  unfold divQF
  split
  · cases divQ fm chkIQ g 600 (f.ts.map qp) with
    | none => exact ⟨by simp [endQd, zeroQ], by simp [endQd, zeroQ], by simp [endQd, zeroQ, cntL]⟩
    | some O => exact enQ_small _ _
  · exact ⟨by simp [endQd, zeroQ], by simp [endQd, zeroQ], by simp [endQd, zeroQ, cntL]⟩
theorem laws_FnExactDivideQSums_calls (fm : List (List Int)) (fm1 : fm.length < 4611686018427387904) (fm2 : ∀ t ∈ fm, t.length < 4611686018427387904) (fm3 : I64 fm) (f : Qsm) (f1 : f.ts.length < 4611686018427387904) (f2 : ∀ t ∈ f.ts, t.e.length < 4611686018427387904) (h : Qsm) (h1 : h.ts.length < 4611686018427387904) (h2 : ∀ t ∈ h.ts, t.e.length < 4611686018427387904) : ACalls Try.prog F.laws_FnExactDivideQSums [.d (.sh 1 fm.length (rows lS fm)), aQ f, aQ h] [] true (fun outs res => outs = [] ∧ res = [.one (D.bool true)]) := by
  have hgs := divQF_small fm f h
  have hw := sDivQ_calls fm f h fm1 fm3 f1 f2 h1 h2
  have hg := iDivQ_calls fm f h fm1 fm3 f1 f2 h1 h2
  generalize divQF fm f h = g at hgs hw hg
  obtain ⟨g, b⟩ := g
  obtain ⟨hg1, hg2, hg3⟩ := hgs
  dsimp only at hg1 hg2 hg3
  dsimp only at hw hg
  refine ACalls.of_body (C := C.laws_FnExactDivideQSums) (n := Try.f7.ntmps) tabT folT Try.func7 rfl (by kernel_rfl) rfl (Nat.le_of_ble_eq_true rfl) (by decide) (by kernel_rfl) (by kernel_rfl) rfl (by simp) (by simp) ?_
  simp only [Try.f7]
  refine wseq ?_
  refine wreg fun K hK => ?_
  simp [C.laws_FnExactDivideQSums, qO, qS]
  refine hK _ ?_; clear hK K
  show AWp _ _ _ _ _
  refine wseq ?_
  refine wreg fun K hK => ?_
  simp [C.laws_FnExactDivideQSums, qO, qS]
  refine hK _ ?_; clear hK K
  show AWp _ _ _ _ _
  refine wseq ?_
  refine wregI ([0, 1, 2] ++ ([3])) rfl fun K hK => ?_
  refine opsI_seg fun L hL => ?_
  simp [C.laws_FnExactDivideQSums, qO, qS]
  refine wcall (laws_szIntSS_calls fm 1048576 (by omega) (by omega) fm1 fm2) (by simp) (by simp) (by simp) ?_
  rintro outs res ⟨rfl, r1, rfl, hr1⟩
  simp [C.laws_FnExactDivideQSums, qO, qS]
  refine hL _ ?_; clear hL L
  refine opsI_end fun L hL => ?_
  simp [C.laws_FnExactDivideQSums, qO, qS]
  refine hL _ ?_; clear hL L
  simp [C.laws_FnExactDivideQSums, qO, qS]
  refine hK _ ?_; clear hK K
  show AWp _ _ _ _ _
  refine wseq ?_
  refine wseq ?_
  refine wreg fun K hK => ?_
  simp [C.laws_FnExactDivideQSums, qO, qS]
  refine hK _ ?_; clear hK K
  show AWp _ _ _ _ _
  refine wcond _ rfl (fun hc1 => ?_) (fun hc1 => ?_)
  · refine wseq ?_
    refine wreg fun K hK => ?_
    simp [C.laws_FnExactDivideQSums, qO, qS]
    refine hK _ ?_; clear hK K
    show AWp _ _ _ _ _
    refine wret ?_
    simp [C.laws_FnExactDivideQSums, qO, qS]
  · have q1 : 0 ≤ r1 := by have := d_f hc1; omega
    refine wskip ?_
    show AWp _ _ _ _ _
    refine wseq ?_
    refine wregI ([0, 1, 2] ++ ([3])) rfl fun K hK => ?_
    refine opsI_seg fun L hL => ?_
    simp [C.laws_FnExactDivideQSums, qO, qS]
    refine wcall (laws_szQSum_calls f r1 (by omega) (by omega) f1 f2) (by simp) (by simp) (by simp) ?_
    rintro outs res ⟨rfl, r2, rfl, hr2⟩
    simp [C.laws_FnExactDivideQSums, qO, qS]
    refine hL _ ?_; clear hL L
    refine opsI_end fun L hL => ?_
    simp [C.laws_FnExactDivideQSums, qO, qS]
    refine hL _ ?_; clear hL L
    simp [C.laws_FnExactDivideQSums, qO, qS]
    refine hK _ ?_; clear hK K
    show AWp _ _ _ _ _
    refine wseq ?_
    refine wseq ?_
    refine wreg fun K hK => ?_
    simp [C.laws_FnExactDivideQSums, qO, qS]
    refine hK _ ?_; clear hK K
    show AWp _ _ _ _ _
    refine wcond _ rfl (fun hc2 => ?_) (fun hc2 => ?_)
    · refine wseq ?_
      refine wreg fun K hK => ?_
      simp [C.laws_FnExactDivideQSums, qO, qS]
      refine hK _ ?_; clear hK K
      show AWp _ _ _ _ _
      refine wret ?_
      simp [C.laws_FnExactDivideQSums, qO, qS]
    · have q2 : 0 ≤ r2 := by have := d_f hc2; omega
      refine wskip ?_
      show AWp _ _ _ _ _
      refine wseq ?_
      refine wregI ([0, 1, 2] ++ ([3])) rfl fun K hK => ?_
      refine opsI_seg fun L hL => ?_
      simp [C.laws_FnExactDivideQSums, qO, qS]
      refine wcall (laws_szQSum_calls h r2 (by omega) (by omega) h1 h2) (by simp) (by simp) (by simp) ?_
      rintro outs res ⟨rfl, r3, rfl, hr3⟩
      simp [C.laws_FnExactDivideQSums, qO, qS]
      refine hL _ ?_; clear hL L
      refine opsI_end fun L hL => ?_
      simp [C.laws_FnExactDivideQSums, qO, qS]
      refine hL _ ?_; clear hL L
      simp [C.laws_FnExactDivideQSums, qO, qS]
      refine hK _ ?_; clear hK K
      show AWp _ _ _ _ _
      refine wseq ?_
      refine wseq ?_
      refine wreg fun K hK => ?_
      simp [C.laws_FnExactDivideQSums, qO, qS]
      refine hK _ ?_; clear hK K
      show AWp _ _ _ _ _
      refine wcond _ rfl (fun hc3 => ?_) (fun hc3 => ?_)
      · refine wseq ?_
        refine wreg fun K hK => ?_
        simp [C.laws_FnExactDivideQSums, qO, qS]
        refine hK _ ?_; clear hK K
        show AWp _ _ _ _ _
        refine wret ?_
        simp [C.laws_FnExactDivideQSums, qO, qS]
      · have q3 : 0 ≤ r3 := by have := d_f hc3; omega
        obtain ⟨fml, fme⟩ := szL_small2 (ls := fm) q1 (by omega)
        have fmk : cntL List.length fm ≤ 1048576 := szL_cnt2 q1 (by omega)
        obtain ⟨fl, fe⟩ := szQ_small2 (ts := f.ts) q2 (by omega)
        have fk : cntL cntQT f.ts ≤ 3145728 := szQ_cnt2 q2 (by omega)
        obtain ⟨hl, he⟩ := szQ_small2 (ts := h.ts) q3 (by omega)
        have hk : cntL cntQT h.ts ≤ 3145728 := szQ_cnt2 q3 (by omega)
        refine wskip ?_
        show AWp _ _ _ _ _
        refine wseq ?_
        refine wdraw (.take 0 (.take 2 (.take 4 (.all [(1, .all [(3, .all [(5, .all [(6, .take 7 (.take 8 (.take 9 (.all [(10, .all [(11, .take 12 (.done))])])))), (10, .all [(6, .take 7 (.take 8 (.take 9 (.all [(11, .take 12 (.done))]))))])]), (10, .all [(5, .all [(6, .take 7 (.take 8 (.take 9 (.all [(11, .take 12 (.done))]))))])])]), (10, .all [(3, .all [(5, .all [(6, .take 7 (.take 8 (.take 9 (.all [(11, .take 12 (.done))]))))])])])]), (10, .all [(1, .all [(3, .all [(5, .all [(6, .take 7 (.take 8 (.take 9 (.all [(11, .take 12 (.done))]))))])])])])])))) ⟨by kernel_rfl, by kernel_rfl⟩ fun K hK => ?_
        have hJ : K ⟨ofL [(0, .d (.sh 1 fm.length (rows lS fm))), (4, .pt (4, 0) [] 0), (5, .pt (5, 0) [] 0), (8, .pt (8, 0) [] 0), (9, .bool b)], ofRO [((4, 0), some (.bx (qS f))), ((5, 0), some (.bx (qS h))), ((8, 0), some (.bx (qO g)))]⟩ := by
          refine hK _ ?_; clear hK K
          show AWp _ _ _ _ _
          refine wseq ?_
          refine wregI ([0, 1] ++ ([2])) rfl fun K hK => ?_
          refine opsI_seg fun L hL => ?_
          simp [C.laws_FnExactDivideQSums, qO, qS]
          refine wcall1 (laws_toIntSS_calls fm fml fme) (by simp) (by simp) ?_
          simp [C.laws_FnExactDivideQSums, qO, qS]
          refine hL _ ?_; clear hL L
          refine opsI_end fun L hL => ?_
          simp [C.laws_FnExactDivideQSums, qO, qS]
          refine hL _ ?_; clear hL L
          simp [C.laws_FnExactDivideQSums, qO, qS]
          refine hK _ ?_; clear hK K
          show AWp _ _ _ _ _
          refine wseq ?_
          refine wregI ([0, 1] ++ ([2, 3])) rfl fun K hK => ?_
          refine opsI_seg fun L hL => ?_
          simp [C.laws_FnExactDivideQSums, qO, qS]
          refine wcall1 (laws_toQSum_calls f fl fe) (by simp) (by simp) ?_
          simp [C.laws_FnExactDivideQSums, qO, qS]
          refine hL _ ?_; clear hL L
          refine opsI_end fun L hL => ?_
          simp [C.laws_FnExactDivideQSums, qO, qS]
          refine hL _ ?_; clear hL L
          simp [C.laws_FnExactDivideQSums, qO, qS]
          refine hK _ ?_; clear hK K
          show AWp _ _ _ _ _
          refine wseq ?_
          refine wregI ([0, 1] ++ ([2, 3])) rfl fun K hK => ?_
          refine opsI_seg fun L hL => ?_
          simp [C.laws_FnExactDivideQSums, qO, qS]
          refine wcall1 (laws_toQSum_calls h hl he) (by simp) (by simp) ?_
          simp [C.laws_FnExactDivideQSums, qO, qS]
          refine hL _ ?_; clear hL L
          refine opsI_end fun L hL => ?_
          simp [C.laws_FnExactDivideQSums, qO, qS]
          refine hL _ ?_; clear hL L
          simp [C.laws_FnExactDivideQSums, qO, qS]
          refine hK _ ?_; clear hK K
          show AWp _ _ _ _ _
          refine wseq ?_
          refine wregI ([0, 1, 2, 3] ++ ([4, 5, 6, 7, 8, 9])) rfl fun K hK => ?_
          refine opsI_seg fun L hL => ?_
          simp [C.laws_FnExactDivideQSums, qO, qS]
          refine wcall1 (hg) (by simp) (by simp) ?_
          simp [C.laws_FnExactDivideQSums, qO, qS]
          refine hL _ ?_; clear hL L
          refine opsI_end fun L hL => ?_
          simp [C.laws_FnExactDivideQSums, qO, qS]
          refine hL _ ?_; clear hL L
          simp [C.laws_FnExactDivideQSums, qO, qS]
          refine hK _ ?_; clear hK K
          show AWp _ _ _ _ _
          refine wseq ?_
          refine wseq ?_
          refine wregI ([0, 1, 2] ++ ([3, 4, 5, 6, 7, 8])) rfl fun K hK => ?_
          refine opsI_seg fun L hL => ?_
          simp [C.laws_FnExactDivideQSums, qO, qS]
          refine wcall1 (laws_eqQSum_calls g g (by omega) (fun t ht => by have := hg2 t ht; omega)) (by simp) (by simp) ?_
          simp [C.laws_FnExactDivideQSums, qO, qS]
          refine hL _ ?_; clear hL L
          refine opsI_end fun L hL => ?_
          simp [C.laws_FnExactDivideQSums, qO, qS]
          refine hL _ ?_; clear hL L
          simp [C.laws_FnExactDivideQSums, qO, qS]
          refine hK _ ?_; clear hK K
          show AWp _ _ _ _ _
          refine wcond _ rfl (fun hc4 => ?_) (fun hc4 => ?_)
          · simp at hc4
          · refine wskip ?_
            show AWp _ _ _ _ _
            refine wseq ?_
            refine wseq ?_
            refine wregI ([0, 1, 2] ++ ([3] ++ ([4]))) rfl fun K hK => ?_
            refine opsI_seg fun L hL => ?_
            simp [C.laws_FnExactDivideQSums, qO, qS]
            refine wcall1 (laws_toIntSS_calls fm fml fme) (by simp) (by simp) ?_
            simp [C.laws_FnExactDivideQSums, qO, qS]
            refine hL _ ?_; clear hL L
            refine opsI_seg fun L hL => ?_
            simp [C.laws_FnExactDivideQSums, qO, qS]
            refine wcall1 (laws_eqIntSS_calls fm fm fm1 fm2) (by simp) (by simp) ?_
            simp [C.laws_FnExactDivideQSums, qO, qS]
            refine hL _ ?_; clear hL L
            refine opsI_end fun L hL => ?_
            simp [C.laws_FnExactDivideQSums, qO, qS]
            refine hL _ ?_; clear hL L
            simp [C.laws_FnExactDivideQSums, qO, qS]
            refine hK _ ?_; clear hK K
            show AWp _ _ _ _ _
            refine wcond _ rfl (fun hc5 => ?_) (fun hc5 => ?_)
            · simp at hc5
            · refine wskip ?_
              show AWp _ _ _ _ _
              refine wseq ?_
              refine wseq ?_
              refine wdrawI [(true, 0), (true, 1), (false, 2), (false, 3), (true, 4)] ⟨by kernel_rfl, by kernel_rfl⟩ ([0, 1, 2] ++ ([3] ++ ([4]))) rfl fun K hK => ?_
              refine opsI_seg fun L hL => ?_
              simp [C.laws_FnExactDivideQSums, qO, qS]
              refine wcall1 (laws_toQSum_calls f fl fe) (by simp) (by simp) ?_
              simp [C.laws_FnExactDivideQSums, qO, qS]
              refine hL _ ?_; clear hL L
              refine opsI_seg fun L hL => ?_
              simp [C.laws_FnExactDivideQSums, qO, qS]
              refine wcall1 (laws_eqQSum_calls f f f1 f2) (by simp) (by simp) ?_
              simp [C.laws_FnExactDivideQSums, qO, qS]
              refine hL _ ?_; clear hL L
              refine opsI_end fun L hL => ?_
              simp [C.laws_FnExactDivideQSums, qO, qS]
              refine hL _ ?_; clear hL L
              simp [C.laws_FnExactDivideQSums, qO, qS]
              refine hK _ ?_; clear hK K
              show AWp _ _ _ _ _
              refine wcond _ rfl (fun hc6 => ?_) (fun hc6 => ?_)
              · simp at hc6
              · refine wskip ?_
                show AWp _ _ _ _ _
                refine wseq ?_
                refine wseq ?_
                refine wdrawI [(true, 0), (true, 1), (false, 2), (false, 3), (true, 4)] ⟨by kernel_rfl, by kernel_rfl⟩ ([0, 1, 2] ++ ([3] ++ ([4]))) rfl fun K hK => ?_
                refine opsI_seg fun L hL => ?_
                simp [C.laws_FnExactDivideQSums, qO, qS]
                refine wcall1 (laws_toQSum_calls h hl he) (by simp) (by simp) ?_
                simp [C.laws_FnExactDivideQSums, qO, qS]
                refine hL _ ?_; clear hL L
                refine opsI_seg fun L hL => ?_
                simp [C.laws_FnExactDivideQSums, qO, qS]
                refine wcall1 (laws_eqQSum_calls h h h1 h2) (by simp) (by simp) ?_
                simp [C.laws_FnExactDivideQSums, qO, qS]
                refine hL _ ?_; clear hL L
                refine opsI_end fun L hL => ?_
                simp [C.laws_FnExactDivideQSums, qO, qS]
                refine hL _ ?_; clear hL L
                simp [C.laws_FnExactDivideQSums, qO, qS]
                refine hK _ ?_; clear hK K
                show AWp _ _ _ _ _
                refine wcond _ rfl (fun hc7 => ?_) (fun hc7 => ?_)
                · simp at hc7
                · refine wskip ?_
                  show AWp _ _ _ _ _
                  refine wseq ?_
                  refine wreg fun K hK => ?_
                  simp [C.laws_FnExactDivideQSums, qO, qS]
                  refine hK _ ?_; clear hK K
                  show AWp _ _ _ _ _
                  refine wseq ?_
                  refine wregI ([0, 1, 2] ++ ([3])) rfl fun K hK => ?_
                  refine opsI_seg fun L hL => ?_
                  simp [C.laws_FnExactDivideQSums, qO, qS]
                  refine wcall1 (laws_markIntSS_calls fm 1 (by omega) (by omega) fm1) (by simp) (by simp) ?_
                  simp [C.laws_FnExactDivideQSums, qO, qS]
                  refine hL _ ?_; clear hL L
                  refine opsI_end fun L hL => ?_
                  simp [C.laws_FnExactDivideQSums, qO, qS]
                  refine hL _ ?_; clear hL L
                  simp [C.laws_FnExactDivideQSums, qO, qS]
                  refine hK _ ?_; clear hK K
                  show AWp _ _ _ _ _
                  refine wseq ?_
                  refine wregI ([0, 1, 2] ++ ([3])) rfl fun K hK => ?_
                  refine opsI_seg fun L hL => ?_
                  simp [C.laws_FnExactDivideQSums, qO, qS]
                  refine wcall1 (laws_markQSum_calls f ((1 : Int) + (cntL List.length fm : Nat)) (by omega) (by omega) f1) (by simp) (by simp) ?_
                  simp [C.laws_FnExactDivideQSums, qO, qS]
                  refine hL _ ?_; clear hL L
                  refine opsI_end fun L hL => ?_
                  simp [C.laws_FnExactDivideQSums, qO, qS]
                  refine hL _ ?_; clear hL L
                  simp [C.laws_FnExactDivideQSums, qO, qS]
                  refine hK _ ?_; clear hK K
                  show AWp _ _ _ _ _
                  refine wseq ?_
                  refine wregI ([0, 1, 2] ++ ([3])) rfl fun K hK => ?_
                  refine opsI_seg fun L hL => ?_
                  simp [C.laws_FnExactDivideQSums, qO, qS]
                  refine wcall1 (laws_markQSum_calls h ((1 : Int) + (cntL List.length fm : Nat) + (cntL cntQT f.ts : Nat)) (by omega) (by omega) h1) (by simp) (by simp) ?_
                  simp [C.laws_FnExactDivideQSums, qO, qS]
                  refine hL _ ?_; clear hL L
                  refine opsI_end fun L hL => ?_
                  simp [C.laws_FnExactDivideQSums, qO, qS]
                  refine hL _ ?_; clear hL L
                  simp [C.laws_FnExactDivideQSums, qO, qS]
                  refine hK _ ?_; clear hK K
                  show AWp _ _ _ _ _
                  refine wseq ?_
                  refine wseq ?_
                  refine wregI ([0, 1, 2, 3, 4, 5] ++ ([6, 7, 8, 9, 10, 11, 12])) rfl fun K hK => ?_
                  refine opsI_seg fun L hL => ?_
                  simp [C.laws_FnExactDivideQSums, qO, qS, show (0 : Int) ≤ (1 : Int) + (cntL List.length fm : Nat) + (cntL cntQT f.ts : Nat) + (cntL cntQT h.ts : Nat) by omega, show ¬ ((1 : Int) + (cntL List.length fm : Nat) + (cntL cntQT f.ts : Nat) + (cntL cntQT h.ts : Nat) < 0) by omega]
                  refine wcall1 (laws_eqQSum_calls g g (by omega) (fun t ht => by have := hg2 t ht; omega)) (by simp) (by simp) ?_
                  simp [C.laws_FnExactDivideQSums, qO, qS, show (0 : Int) ≤ (1 : Int) + (cntL List.length fm : Nat) + (cntL cntQT f.ts : Nat) + (cntL cntQT h.ts : Nat) by omega, show ¬ ((1 : Int) + (cntL List.length fm : Nat) + (cntL cntQT f.ts : Nat) + (cntL cntQT h.ts : Nat) < 0) by omega]
                  refine hL _ ?_; clear hL L
                  refine opsI_end fun L hL => ?_
                  simp [C.laws_FnExactDivideQSums, qO, qS, show (0 : Int) ≤ (1 : Int) + (cntL List.length fm : Nat) + (cntL cntQT f.ts : Nat) + (cntL cntQT h.ts : Nat) by omega, show ¬ ((1 : Int) + (cntL List.length fm : Nat) + (cntL cntQT f.ts : Nat) + (cntL cntQT h.ts : Nat) < 0) by omega]
                  refine hL _ ?_; clear hL L
                  simp [C.laws_FnExactDivideQSums, qO, qS, show (0 : Int) ≤ (1 : Int) + (cntL List.length fm : Nat) + (cntL cntQT f.ts : Nat) + (cntL cntQT h.ts : Nat) by omega, show ¬ ((1 : Int) + (cntL List.length fm : Nat) + (cntL cntQT f.ts : Nat) + (cntL cntQT h.ts : Nat) < 0) by omega]
                  refine hK _ ?_; clear hK K
                  show AWp _ _ _ _ _
                  refine wcond _ rfl (fun hc8 => ?_) (fun hc8 => ?_)
                  · simp at hc8
                  · refine wskip ?_
                    show AWp _ _ _ _ _
                    refine wseq ?_
                    refine wreg fun K hK => ?_
                    simp [C.laws_FnExactDivideQSums, qO, qS]
                    refine hK _ ?_; clear hK K
                    show AWp _ _ _ _ _
                    refine wseq ?_
                    refine wregI ([0, 1, 2] ++ ([3])) rfl fun K hK => ?_
                    refine opsI_seg fun L hL => ?_
                    simp [C.laws_FnExactDivideQSums, qO, qS]
                    refine wcall1 (laws_markQSum_calls g 1 (by omega) (by omega) (by omega)) (by simp) (by simp) ?_
                    simp [C.laws_FnExactDivideQSums, qO, qS]
                    refine hL _ ?_; clear hL L
                    refine opsI_end fun L hL => ?_
                    simp [C.laws_FnExactDivideQSums, qO, qS]
                    refine hL _ ?_; clear hL L
                    simp [C.laws_FnExactDivideQSums, qO, qS]
                    refine hK _ ?_; clear hK K
                    show AWp _ _ _ _ _
                    refine wseq ?_
                    refine wreg fun K hK => ?_
                    simp [C.laws_FnExactDivideQSums, qO, qS]
                    refine hK _ ?_; clear hK K
                    show AWp _ _ _ _ _
                    refine wseq ?_
                    refine wregI ([0, 1, 2] ++ ([3])) rfl fun K hK => ?_
                    refine opsI_seg fun L hL => ?_
                    simp [C.laws_FnExactDivideQSums, qO, qS]
                    refine wcall1 (laws_heldQSum_calls g.v g.ts 1 (by omega) (by omega) (by omega)) (by simp) (by simp) ?_
                    simp [C.laws_FnExactDivideQSums, qO, qS]
                    refine hL _ ?_; clear hL L
                    refine opsI_end fun L hL => ?_
                    simp [C.laws_FnExactDivideQSums, qO, qS]
                    refine hL _ ?_; clear hL L
                    simp [C.laws_FnExactDivideQSums, qO, qS]
                    refine hK _ ?_; clear hK K
                    show AWp _ _ _ _ _
                    refine wseq ?_
                    refine wseq ?_
                    refine wreg fun K hK => ?_
                    simp [C.laws_FnExactDivideQSums, qO, qS]
                    refine hK _ ?_; clear hK K
                    show AWp _ _ _ _ _
                    refine wcond _ rfl (fun hc9 => ?_) (fun hc9 => ?_)
                    · have := d_t hc9; omega
                    · refine wskip ?_
                      show AWp _ _ _ _ _
                      refine wseq ?_
                      refine wseq ?_
                      refine wreg fun K hK => ?_
                      simp [C.laws_FnExactDivideQSums, qO, qS]
                      refine hK _ ?_; clear hK K
                      show AWp _ _ _ _ _
                      refine wcond _ rfl (fun hc10 => ?_) (fun hc10 => ?_)
                      · simp at hc10
                      · refine wskip ?_
                        show AWp _ _ _ _ _
                        refine wseq ?_
                        refine wdraw (.take 0 (.take 2 (.take 4 (.all [(1, .all [(3, .all [(5, .all [(6, .take 7 (.take 8 (.take 9 (.all [(10, .all [(11, .take 12 (.done))])])))), (10, .all [(6, .take 7 (.take 8 (.take 9 (.all [(11, .take 12 (.done))]))))])]), (10, .all [(5, .all [(6, .take 7 (.take 8 (.take 9 (.all [(11, .take 12 (.done))]))))])])]), (10, .all [(3, .all [(5, .all [(6, .take 7 (.take 8 (.take 9 (.all [(11, .take 12 (.done))]))))])])])]), (10, .all [(1, .all [(3, .all [(5, .all [(6, .take 7 (.take 8 (.take 9 (.all [(11, .take 12 (.done))]))))])])])])])))) ⟨by kernel_rfl, by kernel_rfl⟩ fun K hK => ?_
                        have hJ : K ⟨ofL [(8, .pt (8, 0) [] 0), (9, .bool b), (13, .pt (13, 0) [] 0), (16, .int (1 + (cntL cntQT g.ts : Nat))), (18, .pt (18, 0) [] 0), (19, .bool b)], ofRO [((8, 0), some (.bx (qO g))), ((13, 0), some (.bx [D.int g.v, .ow 3 g.ts.length (rows qtO (mkL cntQT mkQT g.ts 1))])), ((18, 0), some (.bx (qO g)))]⟩ := by
                          refine hK _ ?_; clear hK K
                          show AWp _ _ _ _ _
                          refine wseq ?_
                          refine wseq ?_
                          refine wregI ([0, 1, 2] ++ ([3, 4, 5, 6, 7, 8])) rfl fun K hK => ?_
                          refine opsI_seg fun L hL => ?_
                          simp [C.laws_FnExactDivideQSums, qO, qS]
                          refine wcall1 (laws_eqQSum_calls g g (by omega) (fun t ht => by have := hg2 t ht; omega)) (by simp) (by simp) ?_
                          simp [C.laws_FnExactDivideQSums, qO, qS]
                          refine hL _ ?_; clear hL L
                          refine opsI_end fun L hL => ?_
                          simp [C.laws_FnExactDivideQSums, qO, qS]
                          refine hL _ ?_; clear hL L
                          simp [C.laws_FnExactDivideQSums, qO, qS]
                          refine hK _ ?_; clear hK K
                          show AWp _ _ _ _ _
                          refine wcond _ rfl (fun hc11 => ?_) (fun hc11 => ?_)
                          · simp at hc11
                          · refine wskip ?_
                            show AWp _ _ _ _ _
                            refine wseq ?_
                            refine wreg fun K hK => ?_
                            simp [C.laws_FnExactDivideQSums, qO, qS]
                            refine hK _ ?_; clear hK K
                            show AWp _ _ _ _ _
                            refine wseq ?_
                            refine wregI ([0, 1, 2] ++ ([3])) rfl fun K hK => ?_
                            refine opsI_seg fun L hL => ?_
                            simp [C.laws_FnExactDivideQSums, qO, qS]
                            refine wcall1 (laws_heldQSum_calls g.v g.ts 1 (by omega) (by omega) (by omega)) (by simp) (by simp) ?_
                            simp [C.laws_FnExactDivideQSums, qO, qS]
                            refine hL _ ?_; clear hL L
                            refine opsI_end fun L hL => ?_
                            simp [C.laws_FnExactDivideQSums, qO, qS]
                            refine hL _ ?_; clear hL L
                            simp [C.laws_FnExactDivideQSums, qO, qS]
                            refine hK _ ?_; clear hK K
                            show AWp _ _ _ _ _
                            refine wseq ?_
                            refine wseq ?_
                            refine wreg fun K hK => ?_
                            simp [C.laws_FnExactDivideQSums, qO, qS]
                            refine hK _ ?_; clear hK K
                            show AWp _ _ _ _ _
                            refine wcond _ rfl (fun hc12 => ?_) (fun hc12 => ?_)
                            · have := d_t hc12; omega
                            · refine wskip ?_
                              show AWp _ _ _ _ _
                              refine wseq ?_
                              refine wseq ?_
                              refine wreg fun K hK => ?_
                              simp [C.laws_FnExactDivideQSums, qO, qS]
                              refine hK _ ?_; clear hK K
                              show AWp _ _ _ _ _
                              refine wcond _ rfl (fun hc13 => ?_) (fun hc13 => ?_)
                              · simp at hc13
                              · refine wskip ?_
                                show AWp _ _ _ _ _
                                refine wseq ?_
                                refine wreg fun K hK => ?_
                                simp [C.laws_FnExactDivideQSums, qO, qS]
                                refine hK _ ?_; clear hK K
                                show AWp _ _ _ _ _
                                refine wret ?_
                                simp [C.laws_FnExactDivideQSums, qO, qS]
                        clear hK
                        simp [C.laws_FnExactDivideQSums, qO, qS]
                        repeat' first
                          | (refine wcall1 (laws_toIntSS_calls fm fml fme) ?_ (by simp) ?_; (focus (simp; done)); simp [C.laws_FnExactDivideQSums, qO, qS])
                          | (refine wcall1 (laws_toQSum_calls f fl fe) ?_ (by simp) ?_; (focus (simp; done)); simp [C.laws_FnExactDivideQSums, qO, qS])
                          | (refine wcall1 (laws_toQSum_calls h hl he) ?_ (by simp) ?_; (focus (simp; done)); simp [C.laws_FnExactDivideQSums, qO, qS])
                          | (refine wcall1 (hg) ?_ (by simp) ?_; (focus (simp; done)); simp [C.laws_FnExactDivideQSums, qO, qS])
                          | (refine cast (congrArg K ?_) hJ; simp [qO, qS]; done)
                          | refine And.intro ?_ ?_
        clear hK
        simp [C.laws_FnExactDivideQSums, qO, qS]
        repeat' first
          | (refine wcall1 (laws_toIntSS_calls fm fml fme) ?_ (by simp) ?_; (focus (simp; done)); simp [C.laws_FnExactDivideQSums, qO, qS])
          | (refine wcall1 (laws_toQSum_calls f fl fe) ?_ (by simp) ?_; (focus (simp; done)); simp [C.laws_FnExactDivideQSums, qO, qS])
          | (refine wcall1 (laws_toQSum_calls h hl he) ?_ (by simp) ?_; (focus (simp; done)); simp [C.laws_FnExactDivideQSums, qO, qS])
          | (refine wcall1 (hw) ?_ (by simp) ?_; (focus (simp; done)); simp [C.laws_FnExactDivideQSums, qO, qS])
          | (refine cast (congrArg K ?_) hJ; simp [qO, qS]; done)
          | refine And.intro ?_ ?_

end Go.Proofs.Ytocknokodgnlbaa.Ab
namespace Go.Proofs.Ytocknokodgnlbaa.Ab
open Go Go.ChangeShapes Go.WideShapes Go.ChangeAt Go.RowKit
set_option linter.unusedSimpArgs false
set_option linter.unusedVariables false
set_option maxRecDepth 100000
section
variable {H : Type} {enc : TypeId × Value → H} {W : World}
def IntSSB (l : List (List Int)) : Prop := (∀ x ∈ l, IntsB x) ∧ l.length * 24 ≤ 140737488351232
theorem opIntSS : Opens enc Try.prog W 39 1 (List (List Int)) (fun l => [.sh 1 l.length (rows lS l)]) IntSSB :=
  (Opens.slice opInts (by omega) Try.underlying39 (by kernel_rfl) (by kernel_rfl)).to id (fun l => rfl) (fun _ => rfl) (fun _ h => h)
theorem argIntSS : Arg enc Try.prog W 39 (List (List Int)) (fun l => .d (.sh 1 l.length (rows lS l))) IntSSB := Arg.one opIntSS (by kernel_rfl) (of_decide_eq_true (by kernel_rfl)) (by kernel_rfl)
theorem IntSSB.small {l : List (List Int)} (h : IntSSB l) : l.length < 4611686018427387904 ∧ ∀ t ∈ l, t.length < 4611686018427387904 := by
  refine ⟨by have := h.2; omega, fun t ht => ?_⟩
  have := (h.1 t ht).2
  omega
def QtmB (t : Qtm) : Prop := IntsB t.e ∧ i64b t.h ∧ i64b t.c
theorem opQtm : Opens enc Try.prog W 158 3 Qtm qtS QtmB :=
  (Opens.struct3 opInts opInt opInt Try.underlying158 ⟨rfl, rfl⟩ ⟨rfl, rfl⟩ ⟨rfl, rfl⟩ (by kernel_rfl)).to (fun a => ⟨a.1, a.2.1, a.2.2⟩) (fun a => rfl) (fun _ => rfl) (fun _ h => ⟨h.1, h.2.1, h.2.2⟩)
def QtmsB (l : List Qtm) : Prop := (∀ x ∈ l, QtmB x) ∧ l.length * 40 ≤ 140737488351232
theorem opQtms : Opens enc Try.prog W 53 1 (List Qtm) (fun l => [.sh 3 l.length (rows qtS l)]) QtmsB :=
  Opens.slice opQtm (by omega) Try.underlying53 (by kernel_rfl) (by kernel_rfl)
def QsmB (f : Qsm) : Prop := i64b f.v ∧ QtmsB f.ts
theorem opQ : Opens enc Try.prog W 55 2 Qsm qS QsmB :=
  (Opens.struct2 opInt opQtms Try.underlying55 ⟨rfl, rfl⟩ ⟨rfl, rfl⟩ (by kernel_rfl)).to (fun a => ⟨a.1, a.2⟩) (fun a => rfl) (fun _ => rfl) (fun _ h => ⟨h.1, h.2⟩)
theorem argQ : Arg enc Try.prog W 55 Qsm (fun f => .ag ((qS f).map .d)) QsmB := Arg.agg opQ (by kernel_rfl) (of_decide_eq_true (by kernel_rfl)) Try.underlying55
theorem QsmB.small {f : Qsm} (h : QsmB f) : f.ts.length < 4611686018427387904 ∧ ∀ t ∈ f.ts, t.e.length < 4611686018427387904 := by
  refine ⟨by have := h.2.2; omega, fun t ht => ?_⟩
  have := (h.2.1 t ht).1.2
  omega
end
end Go.Proofs.Ytocknokodgnlbaa.Ab
namespace Go.Proofs.Ytocknokodgnlbaa.Ab
open Go
theorem IntSSB.i64 {l : List (List Int)} (h : IntSSB l) : I64 l := fun r hr x hx => (h.1 r hr).1 x hx
theorem lawDivQ (fm : List (List Int)) (fm1 : fm.length < 4611686018427387904) (fm2 : ∀ t ∈ fm, t.length < 4611686018427387904) (fm3 : I64 fm) (f : Qsm) (f1 : f.ts.length < 4611686018427387904) (f2 : ∀ t ∈ f.ts, t.e.length < 4611686018427387904) (h : Qsm) (h1 : h.ts.length < 4611686018427387904) (h2 : ∀ t ∈ h.ts, t.e.length < 4611686018427387904) : ACalls Try.prog F.laws_FnExactDivideQSums [.d (.sh 1 fm.length (rows lS fm)), aQ f, aQ h] [] true (fun outs res => outs = [] ∧ res = [.one (D.bool true)]) := laws_FnExactDivideQSums_calls fm fm1 fm2 fm3 f f1 f2 h h1 h2
end Go.Proofs.Ytocknokodgnlbaa.Ab
