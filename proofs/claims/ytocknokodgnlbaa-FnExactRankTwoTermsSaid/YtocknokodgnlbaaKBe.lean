/- slices.SortFunc in the calculus: from a contract over worlds to a contract over trees. The end of a building, over a sort. The sort of terms by their exponents, greatest first, at this program. The program's sums: all contracts without a premise left. The program's sums of sums. The reference's sums of sums. Division by maps: the greatest key, and what a step does. Division: both sides. Division of the program's sums. Division: the law over both sides. Sequences of rank two: both sides make the same. Sequences of rank two: the law. No condition. -/
import Derived.Shelf.SlSortCmp.InsertionK
import Derived.Shelf.SlSortFuncK.ComposeK
import Derived.Test.YtocknokodgnlbaaKBc
import Derived.Test.YtocknokodgnlbaaKBd
import Derived.Shelf.SlSortCmp.NoneTotal
set_option linter.unusedVariables false
set_option linter.unusedSimpArgs false
namespace Go.Proofs.Ytocknokodgnlbaa.Ab
open Go
set_option linter.unusedSimpArgs false
set_option linter.unusedVariables false
set_option linter.unusedSectionVars false

/-- What a function that sorts promises over worlds. -/
def SfOk (P : Program) (sf k : Nat) : Prop :=
  (∀ (p : Option Addr) (cap : Nat) (fv : Value) (w : World), Calls P sf #[.slice p 0 cap, fv] w fun e w' => e = .returned (.tuple #[]) ∧ w' = w) ∧
  ∀ (α : Type) [Inhabited α] (enc : α → List Value) (hk : ∀ x, (enc x).length = k) (h1 : ∀ x, ∀ v ∈ enc x, v.oneCell' = true) (cf : α → α → Int) (hO : Go.Sort.SWO (ltOf cf)) (g : Nat) (blk off cap : Nat) (d : Array α) (w : World)
    (eg : ∀ args w, (callFunc g args).run P w = .ok (.enter g args) w) (hcmp : CmpLays P g #[] enc k cf blk off d.size w) (hH : Go.Sort.HoldsK enc k w blk off d) (hblk : blk < w.heap.size) (hsz : d.size < 4611686018427387904),
    Calls P sf #[.slice (some ⟨blk, off, none⟩) d.size cap, .func (.func g) #[] #[]] w fun e w' =>
      e = .returned (.tuple #[]) ∧ ∃ d' n os, Go.Sort.PermIn 0 d.size d d' ∧ Go.Sort.SortedIn (ltOf cf) 0 d.size d' ∧ w' = sortWorldK enc k w blk off n d' os

/-! ### Elements -/
structure El (τ : Type) where
  us : List Value
  fp : List Nat
  t : τ
section
variable {τ : Type} {f : τ → List D} {k : Nat} {w : World} {ok : Nat → Prop}
theorem rows_els (hk : ∀ t, (f t).length = k) : ∀ (ts : List τ) (us : List Value) (fp : List Nat), OwVs w ok (rows f ts) us fp →
    ∃ els : List (El τ), els.map (·.t) = ts ∧ us = els.flatMap (·.us) ∧ fp = els.flatMap (·.fp) ∧ ∀ x ∈ els, OwVs w ok (f x.t) x.us x.fp
  | [], us, fp, h => by
    simp only [rows, OwVs] at h
    exact ⟨[], rfl, by simp [h.1], by simp [h.2], by simp⟩
  | t :: ts, us, fp, h => by
    have hl := OwVs_length h
    obtain ⟨f1, f2, e, h1, h2⟩ := OwVs_split k h
    have e1 : (rows f (t :: ts)).take k = f t := by
      simp only [rows]
      rw [List.take_append_of_le_length (by rw [hk]; exact Nat.le_refl _), List.take_of_length_le (by rw [hk]; exact Nat.le_refl _)]
    have e2 : (rows f (t :: ts)).drop k = rows f ts := by
      simp only [rows]
      rw [← hk t, List.drop_left]
    rw [e1] at h1
    rw [e2] at h2
    obtain ⟨els, g1, g2, g3, g4⟩ := rows_els hk ts _ _ h2
    refine ⟨⟨us.take k, f1, t⟩ :: els, by simp [g1], ?_, ?_, fun x hx => ?_⟩
    · simp only [List.flatMap_cons]
      rw [← g2, List.take_append_drop]
    · simp only [List.flatMap_cons]
      rw [← g3, e]
    · rcases List.mem_cons.1 hx with rfl | hx
      · exact h1
      · exact g4 x hx
theorem els_rows : ∀ (els : List (El τ)), (∀ x ∈ els, OwVs w ok (f x.t) x.us x.fp) → OwVs w ok (rows f (els.map (·.t))) (els.flatMap (·.us)) (els.flatMap (·.fp))
  | [], _ => by simp [rows, OwVs]
  | x :: els, h => by
    simp only [List.map_cons, rows, List.flatMap_cons]
    exact OwVs_append (h x (by simp)) (els_rows els fun y hy => h y (by simp [hy]))
end
theorem flat_get {α β : Type} {g : α → List β} {k : Nat} (hk : ∀ x, (g x).length = k) : ∀ (l : List α) (j : Nat) (h : j / k < l.length) (h0 : 0 < k), (l.flatMap g)[j]? = (g (l[j / k]'h))[j % k]?
  | [], j, h, _ => by simp at h
  | x :: l, j, h, h0 => by
    simp only [List.flatMap_cons]
    rcases Nat.lt_or_ge j k with hj | hj
    · rw [List.getElem?_append_left (by rw [hk]; exact hj)]
      simp only [Nat.div_eq_of_lt hj, Nat.mod_eq_of_lt hj, List.getElem_cons_zero]
    · rw [List.getElem?_append_right (by rw [hk]; exact hj), hk]
      obtain ⟨m, rfl⟩ : ∃ m, j = m + k := ⟨j - k, by omega⟩
      simp only [Nat.add_sub_cancel, Nat.add_div_right _ h0, Nat.add_mod_right, Nat.succ_eq_add_one, List.getElem_cons_succ]
      exact flat_get hk l m (by rw [Nat.add_div_right _ h0] at h; simpa using h) h0
theorem flat_len {α β : Type} {g : α → List β} {k : Nat} (hk : ∀ x, (g x).length = k) : ∀ l : List α, (l.flatMap g).length = l.length * k
  | [] => by simp
  | x :: l => by simp only [List.flatMap_cons, List.length_append, hk, flat_len hk l, List.length_cons, Nat.add_mul, Nat.one_mul]; omega
theorem flatK_get {α : Type} [Inhabited α] {enc : α → List Value} {k : Nat} (hk : ∀ x, (enc x).length = k) (d : Array α) (j : Nat) (h : j < d.size * k) : (d.toList.flatMap enc)[j]? = some ((Go.Sort.flatK enc k d)[j]!) := by
  have h0 : 0 < k := by
    rcases Nat.eq_zero_or_pos k with e | e
    · subst e; simp at h
    · exact e
  have hd : j / k < d.size := (Nat.div_lt_iff_lt_mul h0).2 h
  have hm : j % k < k := Nat.mod_lt _ h0
  rw [flat_get hk d.toList j (by simpa using hd) h0, Go.Sort.get_flatK _ _ _ _ h]
  rw [getElem!_pos d (j / k) hd, List.getElem?_eq_getElem (by rw [hk]; exact hm), getElem!_pos _ (j % k) (by rw [hk]; exact hm)]
  simp

theorem done1 {w w' : World} {ok : Nat → Prop} {ρ : Rn → Value} {fp0 : List Nat} {d : D} {fp' : List Nat} (hns : noSh d) (ho : Ow w' ok d (ρ (0, 0)) fp') (hnd : fp'.Nodup)
    (hb : ∀ b ∈ fp', ¬ ok b ∧ (b ∈ fp0 ∨ w.heap.size ≤ b) ∧ b < w'.heap.size) (hf : Keeps w fp0 w') (hok : ∀ b, ok b → b < w.heap.size) :
    Done w ok ρ fp0 [(0, 0)] true [d] [] (.tuple #[]) w' ok (fun _ => fp') [] := by
  have key : ∀ {r : Rn} {e : D}, ofR ([((0, 0) : Rn)].zip [d]) r = some e → r = (0, 0) ∧ e = d := fun {r e} h => by
    simp only [List.zip_cons_cons, List.zip_nil_left, ofR] at h
    split at h
    · rename_i e2
      simp only [Option.some.injEq] at h
      exact ⟨by first | exact e2 | exact e2.symm, h.symm⟩
    · simp at h
  refine ⟨rfl, fun r e he => ?_, fun r r' e e' hne he he' => ?_, ⟨[], rfl, by simp [OwRs]⟩, List.nodup_nil, by simp, by simp, hf, fun _ h => h, fun b h => ⟨.inl h, Nat.lt_of_lt_of_le (hok b h) hf.size⟩⟩
  · obtain ⟨rfl, rfl⟩ := key he
    exact ⟨by simpa using Ow_nosh _ _ _ hns ho, hnd, hb⟩
  · exact absurd ((key he).1.trans (key he').1.symm) hne

/-! ### A comparison in the midst of a sort -/
theorem ShV_d {w : World} {ok : Nat → Prop} {σ : St} {ρ : Rn → Value} : ∀ {ds : List D} {us : List Value}, ShV w ok ds us → FRL w ok σ ρ (ds.map .d) us
  | [], us, h => by simpa [ShV, FRL] using h
  | d :: ds, us, h => by
    simp only [ShV] at h
    obtain ⟨u, vs, rfl, h1, h2⟩ := h
    simp only [List.map_cons, FRL]
    exact ⟨u, vs, rfl, by simpa [FR] using h1, ShV_d h2⟩
theorem ShV_share {w : World} {ok ok' : Nat → Prop} (hk : ∀ b, ok b → ok' b) : ∀ {ds : List D} {us : List Value} {fp : List Nat}, OwVs w ok ds us fp → (∀ b ∈ fp, ok' b) → ShV w ok' (shareL ds) us
  | [], us, fp, h, _ => by
    simp only [OwVs] at h
    simp [shareL, ShV, h.1]
  | d :: ds, us, fp, h, hf => by
    simp only [OwVs] at h
    obtain ⟨u, vs, f1, f2, rfl, rfl, h1, h2⟩ := h
    simp only [shareL, ShV]
    exact ⟨u, vs, rfl, Sh_share hk d u f1 (fun b hb => hf b (by simp [hb])) h1, ShV_share hk h2 fun b hb => hf b (by simp [hb])⟩
theorem OwVs_world {w w' : World} {ok : Nat → Prop} (hk : ∀ b, ok b → w'.heap[b]? = w.heap[b]?) : ∀ {ds : List D} {us : List Value} {fp : List Nat}, OwVs w ok ds us fp → (∀ b ∈ fp, w'.heap[b]? = w.heap[b]?) → OwVs w' ok ds us fp
  | [], us, fp, h, _ => by simpa only [OwVs] using h
  | d :: ds, us, fp, h, hf => by
    simp only [OwVs] at h ⊢
    obtain ⟨u, vs, f1, f2, rfl, rfl, h1, h2⟩ := h
    exact ⟨u, vs, f1, f2, rfl, rfl, Ow_mono (fun b hb => ⟨hb, hk b hb⟩) _ _ _ (fun b hb => hf b (by simp [hb])) h1, OwVs_world hk h2 fun b hb => hf b (by simp [hb])⟩
theorem grow_of_keeps {w w' : World} (h : Keeps w [] w') : ∃ q os', w' = Go.Sort.grow (w.drewN q) os' := by
  refine ⟨w'.drawn - w.drawn, w'.heap.extract w.heap.size w'.heap.size, ?_⟩
  have hh : w'.heap = w.heap ++ w'.heap.extract w.heap.size w'.heap.size := by
    apply Array.ext_getElem?
    intro i
    rw [Array.getElem?_append]
    split
    · rename_i hi
      exact h.old i hi (by simp)
    · rename_i hi
      rw [Array.getElem?_extract]
      have hs := h.size
      rcases Nat.lt_or_ge i w'.heap.size with h1 | h1
      · rw [if_pos (by omega), show w.heap.size + (i - w.heap.size) = i by omega]
      · rw [if_neg (by omega), Array.getElem?_eq_none (by omega)]
  have h1 := h.os
  have h2 := h.out
  have h3 := h.tape
  have h4 := h.drawn
  cases w' with
  | mk heap tape drawn os output =>
    cases w with
    | mk heap2 tape2 drawn2 os2 output2 =>
      simp only at h1 h2 h3 h4 hh
      subst h1; subst h2; subst h3
      simp only [Go.Sort.grow, World.drewN]
      congr 1
      omega
theorem cmp_call {P : Program} {g : Nat} {cx cy : List D} {c : Int} (h : ACalls P g [.ag ((shareL cx).map .d), .ag ((shareL cy).map .d)] [] true (fun outs res => outs = [] ∧ res = [.one (D.int c)])) {w : World} {ok : Nat → Prop} {ux uy : List Value} {fx fy : List Nat}
    (hx : OwVs w ok cx ux fx) (hy : OwVs w ok cy uy fy) (hfx : ∀ b ∈ fx, b < w.heap.size) (hfy : ∀ b ∈ fy, b < w.heap.size) (hok : ∀ b, ok b → b < w.heap.size) :
    Calls P g (#[.agg ux.toArray, .agg uy.toArray] ++ #[]) w fun e w' => e = .returned (.int .i64 c) ∧ ∃ q os', w' = Go.Sort.grow (w.drewN q) os' := by
  have h1 := ShV_share (ok' := fun b => ok b ∨ b ∈ fx ∨ b ∈ fy) (fun b hb => .inl hb) hx (fun b hb => .inr (.inl hb))
  have h2 := ShV_share (ok' := fun b => ok b ∨ b ∈ fx ∨ b ∈ fy) (fun b hb => .inl hb) hy (fun b hb => .inr (.inr hb))
  have := h.2 w [] (fun b => ok b ∨ b ∈ fx ∨ b ∈ fy) [.agg ux.toArray, .agg uy.toArray] (fun _ => undef) (fun _ => []) rfl ⟨fun r d hd => by simp [ofR] at hd, fun r r' d d' _ hd => by simp [ofR] at hd, fun t => by
    match t with
    | 0 =>
      simp only [argEnv, List.getD_cons_zero, FR]
      exact ⟨_, rfl, ShV_d (by simpa using h1)⟩
    | 1 =>
      simp only [argEnv, List.getD_cons_succ, List.getD_cons_zero, FR]
      exact ⟨_, rfl, ShV_d (by simpa using h2)⟩
    | t + 2 => simp [argEnv, FR], fun b hb => by rcases hb with hb | hb | hb; exact hok b hb; exact hfx b hb; exact hfy b hb, Keeps.refl w []⟩
  have e0 : (#[.agg ux.toArray, .agg uy.toArray] ++ #[] : Array Value) = [Value.agg ux.toArray, Value.agg uy.toArray].toArray := by simp
  rw [e0]
  refine Calls.mono this ?_
  rintro e w' ⟨v, outs, res, ok', φ', fr, rfl, ⟨rfl, rfl⟩, hd⟩
  obtain ⟨vs, e1, e2⟩ := hd.res
  simp only [OwRs, OwRV, if_true] at e2
  obtain ⟨u, us, f1, f2, rfl, _, k1, k2, _⟩ := e2
  subst k2
  simp only [Ow] at k1
  refine ⟨?_, grow_of_keeps hd.frm⟩
  rw [e1, k1.2]
  rfl

/-! ### The sort -/
section
variable {α : Type} [Inhabited α] {enc : α → List Value} {k : Nat} {w : World} {b o : Nat}
theorem srt_other (m : Nat) (d : Array α) (os : Array Obj) {c : Nat} (hc : c ≠ b) (hs : c < w.heap.size) : (sortWorldK enc k w b o m d os).heap[c]? = w.heap[c]? := by
  unfold sortWorldK
  rw [Go.Sort.heap_grow_old _ _ (by simpa [Go.Sort.putRowK] using hs)]
  simp [Go.Sort.putRowK, Go.Sort.putRow, Go.Sort.mapBlock, Array.getElem?_modify, Ne.symm hc]
theorem srt_blk (m : Nat) (d : Array α) (os : Array Obj) {arr : Array Value} {T : Nat} {fr : Nat × Nat} (h : w.heap[b]? = some (.cells arr T fr)) : ∃ arr', (sortWorldK enc k w b o m d os).heap[b]? = some (.cells arr' T fr) ∧ arr'.size = arr.size := by
  have hb : b < w.heap.size := by
    rcases Nat.lt_or_ge b w.heap.size with hh | hh
    · exact hh
    · rw [Array.getElem?_eq_none (by omega)] at h; simp at h
  refine ⟨Go.Sort.putCells id o (Go.Sort.flatK enc k d) arr, ?_, by simp [Go.Sort.putCells]⟩
  unfold sortWorldK
  rw [Go.Sort.heap_grow_old _ _ (by simpa [Go.Sort.putRowK] using hb)]
  simp [Go.Sort.putRowK, Go.Sort.putRow, Go.Sort.mapBlock, Array.getElem?_modify, h, Go.Sort.onCells]
theorem srt_keeps (m : Nat) (d : Array α) (os : Array Obj) {fp0 : List Nat} (hb : b ∈ fp0) : Keeps w fp0 (sortWorldK enc k w b o m d os) := by
  refine ⟨rfl, rfl, rfl, ?_, ?_, fun c hc hn => srt_other m d os (fun e => hn (e ▸ hb)) hc⟩
  · show w.drawn ≤ w.drawn + m
    omega
  · simp [sortWorldK, Go.Sort.putRowK]
end
theorem permIn_all {α : Type} [Inhabited α] {d d' : Array α} (h : Go.Sort.PermIn 0 d.size d d') : d'.toList.Perm d.toList := by
  obtain ⟨h1, _, h3⟩ := h
  have e1 : d'.extract 0 d.size = d' := by rw [← h1]; exact Array.extract_size
  rwa [e1, Array.extract_size] at h3
theorem sortedIn_all {α : Type} [Inhabited α] {lt : α → α → Bool} {d d' : Array α} (hs : d'.size = d.size) (h : Go.Sort.SortedIn lt 0 d.size d') : d'.toList.Pairwise fun a b => lt b a = false := by
  rw [List.pairwise_iff_getElem]
  intro i j hi hj hij
  simp only [Array.length_toList] at hi hj
  have := h i j (Nat.zero_le _) hij (by omega)
  rwa [getElem!_pos d' i hi, getElem!_pos d' j hj] at this

theorem ACalls.mono {P : Program} {f : Nat} {args : List FV} {ros : List (Rn × D)} {pure : Bool} {Q Q' : List D → List RV → Prop} (h : ACalls P f args ros pure Q) (hq : ∀ outs res, Q outs res → Q' outs res) : ACalls P f args ros pure Q' :=
  ⟨h.1, fun w fp0 ok vs ρ φ hl hR => (h.2 w fp0 ok vs ρ φ hl hR).mono fun e w' ⟨v, outs, res, ok', φ', fr, he, hQ, hD⟩ => ⟨v, outs, res, ok', φ', fr, he, hq _ _ hQ, hD⟩⟩

/-- **The sort, over a comparison's contract.** -/
theorem sort_calls {P : Program} {sf k g : Nat} (hcl : Callable P sf) (hS : SfOk P sf k) {τ : Type} {f : τ → List D} (hk : ∀ t, (f t).length = k) (hk0 : 0 < k) (hns : ∀ t, noShL (f t)) (hso : ∀ ts, solidL (rows f ts)) (cf : τ → τ → Int)
    (hO : Go.Sort.SWO (ltOf cf)) (ts : List τ) (hlen : ts.length < 4611686018427387904)
    (hcmp : ∀ x ∈ ts, ∀ y ∈ ts, ACalls P g [.ag ((shareL (f x)).map .d), .ag ((shareL (f y)).map .d)] [] true (fun outs res => outs = [] ∧ res = [.one (D.int (cf x y))])) :
    ACalls P sf [.al (0, 0) [] 0 ts.length, .d (.fn g [])] [((0, 0), .ow k ts.length (rows f ts))] true (fun outs res => ∃ r : List τ, r.Perm ts ∧ (r.Pairwise fun a b => ¬ cf b a < 0) ∧ outs = [.ow k ts.length (rows f r)] ∧ res = []) := by
  refine ⟨hcl, fun w fp0 ok vs ρ φ hl hR => ?_⟩
  match vs, hl with
  | [u, fv], _ =>
  have h0 := hR.env 0
  have h1 := hR.env 1
  simp only [argEnv, List.getD_cons_zero, List.getD_cons_succ, FR, Sh] at h0 h1
  obtain ⟨k1, N, cs, hv, ho, hh, hN, hsub⟩ := h0
  simp only [hdr, Option.some.injEq] at hh
  subst hh
  obtain ⟨lb, rfl, hlb⟩ := h1
  simp only [ShV] at hlb
  have hlb2 : lb = #[] := by
    apply Array.ext'
    simpa using hlb
  subst hlb2
  have hown := hR.own (0, 0) (.ow k ts.length (rows f ts)) (by simp [ofR])
  obtain ⟨how, hnd, hbl⟩ := hown
  have hsub2 : ∃ a M c, ρ (0, 0) = .slice a M c ∧ u = .slice a ts.length c := by
    rcases hsub with ⟨_, a, M, c, e1, e2⟩ | ⟨h, _⟩
    · exact ⟨a, M, c, e1, e2⟩
    · omega
  obtain ⟨a, M, c, e1, rfl⟩ := hsub2
  simp only [Ow] at how
  have hns2 : ∀ r : List τ, noSh (.ow k ts.length (rows f r)) := fun r => by
    simp only [noSh]
    exact rows_noSh hns r
  rcases how with ⟨hn0, hcs, hfp, a', e2⟩ | ⟨b, o, c', arr, T, fp', e2, hfp, hheap, hcap, harr, hlc, hOL⟩
  · -- nothing to sort
    have hts : ts = [] := List.eq_nil_of_length_eq_zero hn0
    subst hts
    rw [e1] at e2
    refine Calls.mono (hS.1 a c (.func (.func g) #[] #[]) w) ?_
    rintro e w' ⟨rfl, rfl⟩
    refine ⟨_, [.ow k 0 (rows f [])], [], ok, fun _ => [], [], rfl, ⟨[], List.Perm.nil, List.Pairwise.nil, rfl, rfl⟩, ?_⟩
    refine done1 (hns2 []) ?_ List.nodup_nil (by simp) (Keeps.refl _ fp0) hR.okb
    simp only [Ow, rows]
    exact .inl ⟨trivial, trivial, trivial, a', by rw [e1]; exact e2⟩
  · obtain ⟨us, hul, hus, hov⟩ := OwL_read hOL
    obtain ⟨els, het, heu, hef, heo⟩ := rows_els hk ts us fp' hov
    have hnl : els.length = ts.length := by rw [← het, List.length_map]
    rw [e1] at e2
    have e3 := Value.slice.inj e2
    obtain ⟨rfl, rfl, rfl⟩ := e3
    have hbm := hbl b (by rw [hfp]; simp)
    have hb0 : b ∈ fp0 := by
      rcases hbm.2.1 with h | h
      · exact h
      · omega
    rcases Nat.eq_zero_or_pos ts.length with hz | hpos
    · have hts : ts = [] := List.eq_nil_of_length_eq_zero hz
      subst hts
      refine Calls.mono (hS.1 (some ⟨b, o, none⟩) c (.func (.func g) #[] #[]) w) ?_
      rintro e w' ⟨rfl, rfl⟩
      refine ⟨_, [.ow k 0 (rows f [])], [], ok, fun _ => φ (0, 0), [], rfl, ⟨[], List.Perm.nil, List.Pairwise.nil, rfl, rfl⟩, ?_⟩
      refine done1 (hns2 []) ?_ hnd hbl (Keeps.refl _ fp0) hR.okb
      simp only [Ow]
      exact .inr ⟨b, o, c, arr, T, fp', by rw [e1]; rfl, hfp, hheap, hcap, harr, hlc, hOL⟩
    · have hinh : Inhabited (Fin els.length) := ⟨⟨0, by omega⟩⟩
      let enc : Fin els.length → List Value := fun i => els[i].us
      have henc : ∀ i, (enc i).length = k := fun i => by
        have := OwVs_length (heo els[i] (List.getElem_mem i.2))
        show els[i].us.length = k
        rw [this, hk]
      let d : Array (Fin els.length) := Array.ofFn id
      have hds : d.size = ts.length := by simp [d, hnl]
      have hdl : d.toList.flatMap enc = us := by
        rw [heu]
        show (Array.ofFn id).toList.flatMap enc = _
        rw [Array.toList_ofFn]
        conv => rhs; rw [← List.ofFn_getElem (xs := els)]
        simp only [List.flatMap, List.map_ofFn]
        rfl
      have hco : ∀ i : Fin els.length, cf els[i].t els[i].t = cf els[i].t els[i].t := fun _ => rfl
      have hmem : ∀ i : Fin els.length, els[i].t ∈ ts := fun i => by
        have h9 : els[i].t ∈ els.map (·.t) := List.mem_map.2 ⟨_, List.getElem_mem i.2, rfl⟩
        rwa [het] at h9
      have hO2 : Go.Sort.SWO (ltOf fun i j : Fin els.length => cf els[i].t els[j].t) := ⟨fun x => hO.irrefl _, fun x y z => hO.trans _ _ _, fun x y z => hO.ntrans _ _ _⟩
      have hkk : us.length = d.size * k := by rw [hul, hlc, hds, Nat.mul_comm]
      have hH : Go.Sort.HoldsK enc k w b o d := fun j hj => by
        rw [Go.Sort.size_flatK] at hj
        refine ⟨?_, not_frozen hheap⟩
        have := flatK_get henc d j hj
        rw [hdl] at this
        exact hus j _ this
      have hfne : ∀ x ∈ fp', x ≠ b := fun x hx e => by
        subst e
        rw [hfp] at hnd
        exact (List.nodup_cons.1 hnd).1 hx
      have hfb : ∀ x ∈ fp', x < w.heap.size := fun x hx => (hbl x (by rw [hfp]; simp [hx])).2.2
      have hC : CmpLays P g #[] enc k (fun i j : Fin els.length => cf els[i].t els[j].t) b o d.size w := fun m os dk hdk x y => by
        have hw : ∀ i : Fin els.length, OwVs (sortWorldK enc k w b o m dk os) ok (f els[i].t) (enc i) els[i].fp := fun i => by
          have hsub : ∀ q ∈ els[i].fp, q ∈ fp' := fun q hq => by rw [hef]; exact List.mem_flatMap.2 ⟨_, List.getElem_mem i.2, hq⟩
          refine OwVs_world (fun q hq => srt_other m dk os ?_ (hR.okb q hq)) (heo els[i] (List.getElem_mem i.2)) fun q hq => srt_other m dk os (hfne q (hsub q hq)) (hfb q (hsub q hq))
          rintro rfl
          exact hbm.1 hq
        have hgs := size_sortWorldK_c enc k w b o m dk os
        have hfi : ∀ i : Fin els.length, ∀ q ∈ els[i].fp, q < (sortWorldK enc k w b o m dk os).heap.size := fun i q hq => Nat.lt_of_lt_of_le (hfb q (by rw [hef]; exact List.mem_flatMap.2 ⟨_, List.getElem_mem i.2, hq⟩)) hgs
        exact cmp_call (hcmp _ (hmem x) _ (hmem y)) (hw x) (hw y) (hfi x) (hfi y) fun q hq => Nat.lt_of_lt_of_le (hR.okb q hq) hgs
      obtain ⟨fn, cd, hf1, hf2, hf3⟩ := (hcmp _ (hmem ⟨0, by omega⟩) _ (hmem ⟨0, by omega⟩)).1
      have h1c : ∀ x, ∀ v ∈ enc x, v.oneCell' = true := fun x v hv => by
        refine OwVs_solid ?_ (heo els[x] (List.getElem_mem x.2)) v hv
        have := hso [els[x].t]
        simpa [rows] using this
      have hcall := hS.2 (Fin els.length) enc henc h1c (fun i j => cf els[i].t els[j].t) hO2 g b o c d w (enters_of hf1 hf3 hf2) hC hH hbm.2.2 (by omega)
      rw [hds] at hcall
      refine Calls.mono hcall ?_
      rintro e w' ⟨rfl, d', m, os, hp, hsd, rfl⟩
      have hpl := permIn_all (d := d) (by rw [hds]; exact hp)
      have hdd : d.toList = List.finRange els.length := by
        show (Array.ofFn id).toList = _
        rw [Array.toList_ofFn]
        rfl
      have hsz' : d'.size = ts.length := hp.1.trans hds
      let el2 : List (El τ) := d'.toList.map fun i => els[i]
      have hpe : el2.Perm els := by
        have h2 := hpl.map fun i : Fin els.length => els[i]
        refine h2.trans (List.Perm.of_eq ?_)
        show (Array.ofFn id).toList.map _ = els
        rw [Array.toList_ofFn, List.map_ofFn]
        exact List.ofFn_getElem
      refine ⟨_, [.ow k ts.length (rows f (el2.map (·.t)))], [], ok, fun _ => b :: el2.flatMap (·.fp), [], rfl, ⟨el2.map (·.t), by rw [← het]; exact hpe.map _, ?_, rfl, rfl⟩, ?_⟩
      · have := sortedIn_all hp.1 (by rw [hds]; exact hsd)
        rw [List.pairwise_map, List.pairwise_map]
        refine this.imp fun h => ?_
        simpa [ltOf] using h
      · have hpf : (el2.flatMap (·.fp)).Perm fp' := by rw [hef]; exact hpe.flatMap_right _
        obtain ⟨arr', hb', hsa⟩ := srt_blk (enc := enc) (k := k) (o := o) m d' os hheap
        have hgs := size_sortWorldK_c enc k w b o m d' os
        refine done1 (hns2 _) ?_ ?_ ?_ (srt_keeps m d' os hb0) hR.okb
        · simp only [Ow]
          refine .inr ⟨b, o, c, arr', T, el2.flatMap (·.fp), e1, rfl, hb', hcap, by rw [hsa]; exact harr, ?_, ?_⟩
          · rw [rows_length hk, List.length_map, List.length_map, Array.length_toList, hsz']
          · have hov2 : OwVs w ok (rows f (el2.map (·.t))) (el2.flatMap (·.us)) (el2.flatMap (·.fp)) := els_rows el2 fun x hx => heo x (hpe.subset hx)
            have hflat : el2.flatMap (·.us) = d'.toList.flatMap enc := by
              show (d'.toList.map _).flatMap _ = _
              rw [List.flatMap_map]
            refine OwL_lay (fun q hq => srt_other m d' os ?_ (hR.okb q hq)) hov2 (fun j v hj => ?_) fun q hq => srt_other m d' os (hfne q (hpf.subset hq)) (hfb q (hpf.subset hq))
            · rintro rfl
              exact hbm.1 hq
            · have hHs := holdsK_sortWorldK_c enc k w b o d d' m os hH hbm.2.2 hp.1
              have hj2 : j < d'.size * k := by
                rcases Nat.lt_or_ge j (d'.toList.flatMap enc).length with h | h
                · rwa [flat_len henc, Array.length_toList] at h
                · rw [hflat, List.getElem?_eq_none h] at hj; simp at hj
              rw [hflat, flatK_get henc d' j hj2] at hj
              simp only [Option.some.injEq] at hj
              rw [← hj]
              exact (hHs j (by rw [Go.Sort.size_flatK]; exact hj2)).1
        · refine List.nodup_cons.2 ⟨fun h => hfne b (hpf.subset h) rfl, hpf.nodup_iff.2 ?_⟩
          rw [hfp] at hnd
          exact (List.nodup_cons.1 hnd).2
        · intro q hq
          rcases List.mem_cons.1 hq with rfl | hq
          · exact ⟨hbm.1, .inl hb0, Nat.lt_of_lt_of_le hbm.2.2 hgs⟩
          · have := hbl q (by rw [hfp]; simp [hpf.subset hq])
            exact ⟨this.1, this.2.1, Nat.lt_of_lt_of_le this.2.2 hgs⟩
end Go.Proofs.Ytocknokodgnlbaa.Ab
namespace Go.Proofs.Ytocknokodgnlbaa.Ab
open Go
set_option linter.unusedSimpArgs false
set_option linter.unusedVariables false
set_option maxRecDepth 10000
set_option maxHeartbeats 2000000
attribute [local simp] mapKV flatInt tileB
def SortOk : Prop := ∀ (ts : List Trm), (∀ t ∈ ts, t.e.length < 4611686018427387904) → (ts.map (·.e)).Nodup → ts.length < 4611686018427387904 →
  ACalls Try.prog F.slices_SortFunc_impl_Term_impl_Term [.al (0, 0) [] 0 ts.length, .d (.fn F.impl_building_done_1 [])] [((0, 0), .ow 2 ts.length (rows tO ts))] true (fun outs res => ∃ r : List Trm, r.Perm ts ∧ DescT r ∧ outs = [.ow 2 ts.length (rows tO r)] ∧ res = [])
theorem insK_len_eq {K : Type} [DecidableEq K] {lt : K → K → Bool} {k : K} {c : Int} (hc : c ≠ 0) : ∀ l : List (K × Int), (∀ x ∈ l, x.1 ≠ k) → (insK lt k c l).length = l.length + 1
  | [], _ => by simp [insK, hc]
  | x :: l, h => by
    simp only [insK]
    rw [if_neg (h x (by simp))]
    split
    · first | rfl | (rw [if_neg hc]; rfl)
    · simp [insK_len_eq hc l fun y hy => h y (by simp [hy])]
theorem nf_len_eq {K : Type} [DecidableEq K] {lt : K → K → Bool} : ∀ l : List (K × Int), (l.map (·.1)).Nodup → (∀ x ∈ l, x.2 ≠ 0) → (nf lt l).length = l.length
  | [], _, _ => rfl
  | x :: l, h, hz => by
    simp only [List.map_cons, List.nodup_cons] at h
    simp only [nf]
    rw [insK_len_eq (hz x (by simp)), nf_len_eq l h.2 fun y hy => hz y (by simp [hy])]
    · rfl
    · intro y hy e
      obtain ⟨z, hz, e2⟩ := nf_mem hy
      exact h.1 (List.mem_map.2 ⟨z, hz, by rw [e2, e]⟩)
theorem unpad_inj {n : Nat} {es l : List (List Int × Int)} (h : MapR n es l) : ((es.map (unpadT n)).map (·.1)).Nodup := by
  have : ∀ es : List (List Int × Int), (es.map (·.1)).Nodup → (∀ x ∈ es, ∃ e, e.length = n ∧ x.1 = pad e) → ((es.map (unpadT n)).map (·.1)).Nodup := by
    intro es
    induction es with
    | nil => intro _ _; simp
    | cons x es ih =>
      intro hn hp
      simp only [List.map_cons, List.nodup_cons] at hn ⊢
      refine ⟨fun hm => ?_, ih hn.2 fun y hy => hp y (by simp [hy])⟩
      obtain ⟨y, hy, e⟩ := List.mem_map.1 hm
      obtain ⟨z, hz, rfl⟩ := List.mem_map.1 hy
      obtain ⟨a, ha, e1⟩ := hp x (by simp)
      obtain ⟨b, hb, e2⟩ := hp z (by simp [hz])
      refine hn.1 (List.mem_map.2 ⟨z, hz, ?_⟩)
      simp only [unpadT] at e
      rw [e1, e2] at e ⊢
      have q1 : (pad a).take n = a := by rw [← ha]; exact pad_take
      have q2 : (pad b).take n = b := by rw [← hb]; exact pad_take
      rw [q1, q2] at e
      rw [e]
  exact this es h.nod fun x hx => (h.nz x hx).2
theorem unpad_nf2 {n : Nat} {es l : List (List Int × Int)} (h : MapR n es l) (hl : ∀ x ∈ l, x.1.length = n) : nf lexlt (es.map (unpadT n)) = nf lexlt l :=
  nf_unique lexOrd (nf_desc lexOrd _) (nf_nz _) fun k => by rw [nf_co, unpad_co h hl]
theorem unpad_len {n : Nat} {es l : List (List Int × Int)} (h : MapR n es l) (hl : ∀ x ∈ l, x.1.length = n) : (nf lexlt l).length = es.length := by
  rw [← unpad_nf2 h hl, nf_len_eq _ (unpad_inj h), List.length_map]
  intro x hx
  obtain ⟨y, hy, rfl⟩ := List.mem_map.1 hx
  exact (h.nz y hy).1
theorem shutF_many {n : Nat} {es l : List (List Int × Int)} (h : MapR n es l) (hl : ∀ x ∈ l, x.1.length = n) (hm : 600 < es.length) : shutF n l = (zeroF, false) := by
  unfold shutF
  rw [if_neg]
  intro hr
  have := hr.2.1
  simp only [List.length_map] at this
  rw [unpad_len h hl] at this
  omega
theorem erase_perm {α : Type} : ∀ (l : List α) (i : Nat) (h : i < l.length), (l[i] :: l.eraseIdx i).Perm l
  | [], i, h => by simp at h
  | x :: l, 0, h => by simp
  | x :: l, i + 1, h => by
    simp only [List.getElem_cons_succ, List.eraseIdx_cons_succ]
    exact (List.Perm.swap ..).trans (List.Perm.cons x (erase_perm l i (by simpa using h)))
theorem sh8 (n : Nat) (k0 k1 k2 k3 k4 k5 k6 k7 : Int) : shareL (List.take n [D.v (.int .i64 k0), D.v (.int .i64 k1), D.v (.int .i64 k2), D.v (.int .i64 k3), D.v (.int .i64 k4), D.v (.int .i64 k5), D.v (.int .i64 k6), D.v (.int .i64 k7)]) = ints (List.take n [k0, k1, k2, k3, k4, k5, k6, k7]) := by
  rw [show ([D.v (.int .i64 k0), D.v (.int .i64 k1), D.v (.int .i64 k2), D.v (.int .i64 k3), D.v (.int .i64 k4), D.v (.int .i64 k5), D.v (.int .i64 k6), D.v (.int .i64 k7)] : List D) = ints [k0, k1, k2, k3, k4, k5, k6, k7] from rfl, ints_take, shareL_ints]
theorem impl_building_done_1_calls (x y : Trm) (hx : x.e.length < 4611686018427387904) (hy : y.e.length < 4611686018427387904) : ACalls Try.prog F.impl_building_done_1 [.ag [.d (shI x.e), .int x.c], .ag [.d (shI y.e), .int y.c]] [] true (fun outs res => outs = [] ∧ res = [.one (D.int (cmpL y.e x.e))]) := by
  refine ACalls.of_body (C := C.impl_building_done_1) (n := Try.f118.ntmps) tabT folT Try.func118 rfl (by kernel_rfl) rfl (Nat.le_of_ble_eq_true rfl) (by decide) (by kernel_rfl) (by kernel_rfl) rfl (by simp) (by simp) ?_
  simp only [Try.f118]
  refine wseq ?_
  refine wreg fun K hK => ?_
  simp [C.impl_building_done_1]
  refine hK _ ?_; clear hK K
  show AWp _ _ _ _ _
  refine wseq ?_
  refine wregI ([0, 1, 2, 3, 4] ++ ([5])) rfl fun K hK => ?_
  refine opsI_seg fun L hL => ?_
  simp [C.impl_building_done_1]
  refine wcall1 (slices_Compare_int_int_calls y.e x.e hy) (by simp) (by simp) ?_
  simp [C.impl_building_done_1]
  refine hL _ ?_; clear hL L
  refine opsI_end fun L hL => ?_
  simp [C.impl_building_done_1]
  refine hL _ ?_; clear hL L
  simp [C.impl_building_done_1]
  refine hK _ ?_; clear hK K
  show AWp _ _ _ _ _
  refine wret ?_
  simp [C.impl_building_done_1]

theorem impl_building_done_calls (hSort : SortOk) (n : Nat) (es l : List (List Int × Int)) (hM : MapR n es l) (hl : ∀ x ∈ l, x.1.length = n) (h1 : 1 ≤ n) (h8 : n ≤ 8) (hL : l.length ≤ 1000000) : ACalls Try.prog F.impl_building_done [.pt (0, 0) [] 0] [((0, 0), .bx [D.int n, .mp es])] true (fun outs res => outs = [.bx [D.int n, .mp es]] ∧ WkRs res [.ag (fO (shutF n l).1), .one (D.bool (shutF n l).2)]) := by
  refine ACalls.of_body (C := C.impl_building_done) (n := Try.f57.ntmps) tabT folT Try.func57 rfl (by kernel_rfl) rfl (Nat.le_of_ble_eq_true rfl) (by decide) (by kernel_rfl) (by kernel_rfl) rfl (by simp) (by simp) ?_
  simp only [Try.f57]
  refine wseq ?_
  refine wreg fun K hK => ?_
  simp [C.impl_building_done]
  refine hK _ ?_; clear hK K
  show AWp _ _ _ _ _
  refine wseq ?_
  refine wreg fun K hK => ?_
  simp [C.impl_building_done]
  refine hK _ ?_; clear hK K
  show AWp _ _ _ _ _
  refine wseq ?_
  refine wseq ?_
  refine wreg fun K hK => ?_
  simp [C.impl_building_done]
  refine hK _ ?_; clear hK K
  show AWp _ _ _ _ _
  refine wcond _ rfl (fun hc1 => ?_) (fun hc1 => ?_)
  · have hm := shutF_many hM hl (by have := d_t hc1; omega)
    refine wseq ?_
    refine wreg fun K hK => ?_
    simp [C.impl_building_done]
    refine hK _ ?_; clear hK K
    show AWp _ _ _ _ _
    refine wret ?_
    simp [C.impl_building_done, hm, fO, zeroF, rows]
  · have h600 : es.length ≤ 600 := by have := d_f hc1; omega
    refine wskip ?_
    show AWp _ _ _ _ _
    refine wseq ?_
    refine wseq ?_
    refine wreg fun K hK => ?_
    simp [C.impl_building_done]
    refine hK _ ?_; clear hK K
    show AWp _ _ _ _ _
    refine wblock ?_
    refine wloopW (fun x : List Trm × List (List Int × Int) × Option (List Int × Int) => ⟨ofL [(0, .pt (0, 0) [] 0), (2, .pt (2, 0) [] 0), (4, .pt (4, 0) [] 0), (23, .it (23, 0) (0, 0) [1] x.2.1 x.2.2), (1000, .pt (0, 0) [] 0)], ofRO [((0, 0), some (.bx [D.int n, .mp es])), ((2, 0), some (.bx [D.int 0, .v (.slice none 0 0)])), ((4, 0), some (.bx [D.int n, .ow 2 x.1.length (rows tO x.1)])), ((23, 0), some .itr)]⟩) (fun x => (x.1.map pr ++ x.2.1.map (unpadT n)).Perm (es.map (unpadT n)) ∧ ∀ y ∈ x.2.1, y ∈ es) (fun x => x.2.1.length) ([], es, none) [.cell (4, 0) [] 1 2] (by simp [C.impl_building_done, rows]; funext q; by_cases e4 : q = (4, 0); (subst e4; rfl); by_cases e9 : q = (9999, 0); (subst e9; rfl); simp [ofRO, e4, e9, Ne.symm e4]) ⟨by simp, fun y hy => hy⟩ ?_
    intro x1 hx1 R1 hR1
    obtain ⟨q, rest, cur⟩ := x1
    obtain ⟨hq, hin⟩ := hx1
    dsimp only at hq hin ⊢
    refine wseq ?_
    refine wreg fun K hK => ?_
    simp [C.impl_building_done]
    refine ⟨fun hrest => ?_, fun i xk xc hx => ?_⟩
    · refine hK _ ?_; clear hK K
      show AWp _ _ _ _ _
      refine wseq ?_
      refine wcond _ rfl (fun hc2 => ?_) (fun hc2 => ?_)
      · simp at hc2
      · subst hrest
        have hq2 : (q.map pr).Perm (es.map (unpadT n)) := by simpa using hq
        have hqe : ∀ t ∈ q, t.e.length = n := fun t ht => by
          have h3 := hq2.subset (List.mem_map.2 ⟨t, ht, rfl⟩)
          obtain ⟨y, hy, e⟩ := List.mem_map.1 h3
          have e2 : t.e = y.1.take n := by
            have := congrArg Prod.fst e
            simpa [pr, unpadT] using this.symm
          rw [e2, List.length_take, hM.len8 h8 y hy]
          omega
        have hqn : (q.map (·.e)).Nodup := by
          have h3 := (hq2.map (·.1)).nodup_iff.2 (unpad_inj hM)
          rw [List.map_map] at h3
          exact h3
        have hql : q.length = es.length := by simpa using hq2.length_eq
        refine wexit ?_
        show AWp _ _ _ _ _
        refine wseq ?_
        refine wregI ([0, 1, 2] ++ ([])) rfl fun K hK => ?_
        refine opsI_seg fun L hL => ?_
        simp [C.impl_building_done]
        refine wcall (hSort q (fun t ht => by have := hqe t ht; omega) hqn (by omega)) (by simp) (by simp) (by simp) ?_
        rintro outs res ⟨r, hr, hd, rfl, rfl⟩
        simp [C.impl_building_done]
        refine hL _ ?_; clear hL L
        refine opsI_end fun L hL => ?_
        simp only [AOpsI]
        refine hL _ ?_; clear hL L
        simp [C.impl_building_done]
        refine hK _ ?_; clear hK K
        show AWp _ _ _ _ _
        refine wseq ?_
        refine wseq ?_
        have hrl : r.length = q.length := hr.length_eq
        have hrn : r.map pr = nf lexlt l := unpad_nf hM hl ((hr.map pr).trans hq2) (by
          unfold Desc
          rw [List.pairwise_map]
          exact hd)
        have hrt : (nf lexlt l).map tm = r := by
          rw [← hrn, List.map_map]
          have : tm ∘ pr = id := rfl
          rw [this, List.map_id]
        refine wregI ([0, 1] ++ ([2])) rfl fun K hK => ?_
        refine opsI_seg fun L hL => ?_
        simp [C.impl_building_done, hrl]
        refine wcall1 (impl_LaurentOk_calls ⟨n, r⟩ (by dsimp only; omega) (fun t ht => by have := hqe t (hr.subset ht); omega)) (by simp [hrl]) (by simp) ?_
        simp [C.impl_building_done, hrl]
        refine hL _ ?_; clear hL L
        refine opsI_end fun L hL => ?_
        simp [C.impl_building_done, hrl]
        refine hL _ ?_; clear hL L
        simp [C.impl_building_done, hrl]
        refine hK _ ?_; clear hK K
        show AWp _ _ _ _ _
        refine wcond _ rfl (fun hc3 => ?_) (fun hc3 => ?_)
        · have hR : ¬ Right ⟨n, r⟩ := by simpa using hc3
          have hm : shutF n l = (zeroF, false) := by unfold shutF; rw [hrt, if_neg hR]
          refine wseq ?_
          refine wreg fun K hK => ?_
          simp [C.impl_building_done]
          refine hK _ ?_; clear hK K
          show AWp _ _ _ _ _
          refine wret ?_
          simp [C.impl_building_done, hm, fO, zeroF, rows]
        · have hR : Right ⟨n, r⟩ := by simpa using hc3
          have hm : shutF n l = (⟨n, r⟩, true) := by unfold shutF; rw [hrt, if_pos hR]
          refine wskip ?_
          show AWp _ _ _ _ _
          refine wseq ?_
          refine wreg fun K hK => ?_
          simp [C.impl_building_done]
          refine hK _ ?_; clear hK K
          show AWp _ _ _ _ _
          refine wret ?_
          simp [C.impl_building_done, hm, fO, hrl]
    · refine hK _ ?_; clear hK K
      show AWp _ _ _ _ _
      refine wseq ?_
      refine wcond _ rfl (fun hc4 => ?_) (fun hc4 => ?_)
      · have hxm : (xk, xc) ∈ rest := List.mem_of_getElem? hx
        have hxl := hM.len8 h8 _ (hin _ hxm)
        dsimp only at hxl
        obtain ⟨k0, k1, k2, k3, k4, k5, k6, k7, rfl⟩ := eight hxl
        have hql : q.length + rest.length = es.length := by simpa using hq.length_eq
        have hil : i < rest.length := by
          rcases Nat.lt_or_ge i rest.length with h | h
          · exact h
          · rw [List.getElem?_eq_none h] at hx; simp at hx
        refine wskip ?_
        show AWp _ _ _ _ _
        refine wblock ?_
        refine wseq ?_
        refine wreg fun K hK => ?_
        simp [C.impl_building_done]
        refine hK _ ?_; clear hK K
        show AWp _ _ _ _ _
        refine wdrawI [(true, 0), (true, 1), (true, 2), (true, 3), (true, 4), (true, 5), (true, 6), (true, 8), (false, 7), (true, 9), (false, 10), (false, 11), (true, 12), (false, 13)] ⟨by kernel_rfl, by kernel_rfl⟩ ([0, 1, 2, 3, 4, 5, 6, 8, 7] ++ ([9, 10, 11, 12, 13])) rfl fun K hK => ?_
        refine opsI_seg fun L hL => ?_
        simp [C.impl_building_done, tO_snoc, show ((n : Int) ≤ 8) by omega, h8, Nat.min_eq_left h8, sh8, show (q.length + 1) * 32 ≤ 140737488355328 by omega]
        refine wcall1 (clone_calls ([k0, k1, k2, k3, k4, k5, k6, k7].take n) (by simp; omega)) (by simp [tO_snoc, show ((n : Int) ≤ 8) by omega, h8, Nat.min_eq_left h8, sh8, show (q.length + 1) * 32 ≤ 140737488355328 by omega]) (by simp) ?_
        simp [C.impl_building_done, tO_snoc, show ((n : Int) ≤ 8) by omega, h8, Nat.min_eq_left h8, sh8, show (q.length + 1) * 32 ≤ 140737488355328 by omega]
        refine hL _ ?_; clear hL L
        refine opsI_end fun L hL => ?_
        simp [C.impl_building_done, tO_snoc, show ((n : Int) ≤ 8) by omega, h8, Nat.min_eq_left h8, sh8, show (q.length + 1) * 32 ≤ 140737488355328 by omega]
        refine hL _ ?_; clear hL L
        simp [C.impl_building_done, tO_snoc, show ((n : Int) ≤ 8) by omega, h8, Nat.min_eq_left h8, sh8, show (q.length + 1) * 32 ≤ 140737488355328 by omega]
        refine hK _ ?_; clear hK K
        simp [C.impl_building_done]
        have htl : ([k0, k1, k2, k3, k4, k5, k6, k7].take n).length = n := by simp; omega
        have hrow : rows tO q ++ [D.ow 1 n (ints (List.take n [k0, k1, k2, k3, k4, k5, k6, k7])), D.v (.int .i64 xc)] = rows tO (q ++ [⟨List.take n [k0, k1, k2, k3, k4, k5, k6, k7], xc⟩]) := by
          rw [← tO_snoc]
          simp only [htl]
        refine cast (congrArg R1 ?_) (hR1 (q ++ [⟨List.take n [k0, k1, k2, k3, k4, k5, k6, k7], xc⟩], rest.eraseIdx i, some ([k0, k1, k2, k3, k4, k5, k6, k7], xc)) ⟨?_, ?_⟩ ?_)
        · simp [hrow]
        · dsimp only
          have hget : rest[i] = ([k0, k1, k2, k3, k4, k5, k6, k7], xc) := by
            rw [List.getElem?_eq_getElem hil] at hx
            injection hx
          have hper := erase_perm rest i hil
          rw [hget] at hper
          refine List.Perm.trans ?_ hq
          rw [List.map_append, List.append_assoc]
          exact List.Perm.append_left _ (hper.map (unpadT n))
        · exact fun y hy => hin y (List.mem_of_mem_eraseIdx hy)
        · dsimp only
          rw [List.length_eraseIdx_of_lt hil]
          omega
      · simp at hc4

end Go.Proofs.Ytocknokodgnlbaa.Ab
namespace Go.Proofs.Ytocknokodgnlbaa.Ab
open Go
set_option linter.unusedSimpArgs false
set_option linter.unusedVariables false
theorem sfTerm : SfOk Try.prog F.slices_SortFunc_impl_Term_impl_Term 2 := by
  refine ⟨fun p cap fv w => ?_, fun α _ enc hk h1 cf hO g blk off cap d w eg hcmp hH hblk hsz => ?_⟩
  · have h := AnyF.slices_SortFunc_none sortTerm p cap fv w
    rw [sortTerm_f6] at h
    exact h
  · have h := AnyQ.slices_SortFunc sortTerm 2 sortTerm_agg sortTerm_size enc hk h1 cf hO g #[] blk off cap d w eg hcmp hH hblk hsz
    rw [sortTerm_f6] at h
    exact h
theorem lexlt_ntrans (a b c : List Int) (h1 : lexlt a b = false) (h2 : lexlt b c = false) : lexlt a c = false := by
  cases h : lexlt a c with
  | false => rfl
  | true =>
    exfalso
    rcases lexlt_tot a b with h3 | h3 | h3
    · rw [h1] at h3; simp at h3
    · subst h3
      rw [h2] at h; simp at h
    · have := lexlt_tr b a c h3 h
      rw [h2] at this; simp at this
theorem swoTerm : Go.Sort.SWO (ltOf fun x y : Trm => cmpL y.e x.e) where
  irrefl x := by unfold ltOf; rw [cmpL_neg]; exact lexlt_irr _
  trans x y z h1 h2 := by
    unfold ltOf at *
    rw [cmpL_neg] at *
    exact lexlt_tr _ _ _ h2 h1
  ntrans x y z h1 h2 := by
    unfold ltOf at *
    rw [cmpL_neg] at *
    exact lexlt_ntrans _ _ _ h2 h1
theorem sortOk : SortOk := by
  intro ts hts hnd hlen
  have h := sort_calls (P := Try.prog) (g := F.impl_building_done_1) ⟨Try.f117, _, Try.func117, rfl, by kernel_rfl⟩ sfTerm tO_two (by omega) (fun t => by simp [tO, noShL, noSh]) (fun l => by
    induction l with
    | nil => trivial
    | cons x l ih =>
      simp only [rows, tO, List.cons_append, List.nil_append, solidL]
      exact ⟨rfl, rfl, ih⟩) (fun x y : Trm => cmpL y.e x.e) swoTerm ts hlen (fun x hx y hy => by
    have := impl_building_done_1_calls x y (hts x hx) (hts y hy)
    simpa [tO, shareL, share, shareL_ints] using this)
  refine ACalls.mono h ?_
  rintro outs res ⟨r, h1, h2, h3, h4⟩
  refine ⟨r, h1, ?_, h3, h4⟩
  have hnr : (r.map (·.e)).Nodup := (h1.map (·.e)).nodup_iff.2 hnd
  unfold DescT
  rw [List.Nodup, List.pairwise_map] at hnr
  refine (h2.and hnr).imp ?_
  rintro a b ⟨h5, h6⟩
  have h7 : lexlt a.e b.e = false := by
    rw [← cmpL_neg]
    simpa using h5
  rcases lexlt_tot a.e b.e with h8 | h8 | h8
  · rw [h7] at h8; simp at h8
  · exact absurd h8 h6
  · exact h8
end Go.Proofs.Ytocknokodgnlbaa.Ab
namespace Go.Proofs.Ytocknokodgnlbaa.Ab
open Go
theorem doneOk : DoneOk := fun n es l hM hl h1 h8 hL => (impl_building_done_calls sortOk n es l hM hl h1 h8 hL).weak1
theorem mulOk : MulOk := iMul_calls doneOk
end Go.Proofs.Ytocknokodgnlbaa.Ab
namespace Go.Proofs.Ytocknokodgnlbaa.Ab
open Go
set_option linter.unusedSimpArgs false
set_option linter.unusedVariables false
set_option maxRecDepth 10000
set_option maxHeartbeats 2000000
def prk (k : Int) (t : Trm) : List Int × Int := (t.e, k * t.c)
noncomputable def addF (f : Lau) (k : Int) (g : Lau) : Lau × Bool := if (Right f ∧ Right g ∧ f.v = g.v) ∧ (-1000 ≤ k ∧ k ≤ 1000) then shutF f.v (f.ts.map pr ++ g.ts.map (prk k)) else (zeroF, false)
theorem impl_AddLaurents_calls (f : Lau) (k : Int) (g : Lau) (hx : f.ts.length < 4611686018427387904) (hxe : ∀ t ∈ f.ts, t.e.length < 4611686018427387904) (hy : g.ts.length < 4611686018427387904) (hye : ∀ t ∈ g.ts, t.e.length < 4611686018427387904) : ACalls Try.prog F.impl_AddLaurents [aF f, .int k, aF g] [] true (fun outs res => outs = [] ∧ WkRs res [.ag (fO (addF f k g).1), .one (D.bool (addF f k g).2)]) := by
  refine ACalls.of_body (C := C.impl_AddLaurents) (n := Try.f18.ntmps) tabT folT Try.func18 rfl (by kernel_rfl) rfl (Nat.le_of_ble_eq_true rfl) (by decide) (by kernel_rfl) (by kernel_rfl) rfl (by simp) (by simp) ?_
  simp only [Try.f18]
  refine wseq ?_
  refine wreg fun K hK => ?_
  simp [C.impl_AddLaurents, fS]
  refine hK _ ?_; clear hK K
  show AWp _ _ _ _ _
  refine wseq ?_
  refine wseq ?_
  refine wregI ([0, 1, 2] ++ ([3, 4, 5, 6] ++ ([7, 8]))) rfl fun K hK => ?_
  have hJ : K ⟨ofL [(1, .int k), (3, .pt (3, 0) [] 0), (5, .pt (5, 0) [] 0), (6, .pt (6, 0) [] 0), (21, .bool (!decide ((Right f ∧ Right g ∧ f.v = g.v) ∧ (-1000 ≤ k ∧ k ≤ 1000))))], ofRO [((3, 0), some (.bx (fS f))), ((5, 0), some (.bx (fS g))), ((6, 0), some (.bx [D.int 0, .v (.slice none 0 0)]))]⟩ := by
    refine hK _ ?_; clear hK K
    show AWp _ _ _ _ _
    refine wcond _ rfl (fun hc1 => ?_) (fun hc1 => ?_)
    · have hr := nd_t hc1
      have hm : addF f k g = (zeroF, false) := if_neg hr
      refine wseq ?_
      refine wreg fun K hK => ?_
      simp [C.impl_AddLaurents, fS]
      refine hK _ ?_; clear hK K
      show AWp _ _ _ _ _
      refine wret ?_
      simp [C.impl_AddLaurents, fS, hm, fO, zeroF, rows]
    · have hr := nd_f hc1
      obtain ⟨⟨hf, hg, hfg⟩, hk⟩ := hr
      have hv := hf.1
      obtain ⟨n, hn⟩ : ∃ n : Nat, f.v = n := ⟨f.v.toNat, by omega⟩
      have hn2 : g.v = n := by omega
      have hn8 : n ≤ 8 := by omega
      have hfl := hf.2.1
      have hgl := hg.2.1
      have hm : addF f k g = shutF n (f.ts.map pr ++ g.ts.map (prk k)) := by
        unfold addF
        rw [if_pos ⟨⟨hf, hg, hfg⟩, hk⟩, hn]
      refine wskip ?_
      show AWp _ _ _ _ _
      refine wseq ?_
      refine wregI ([0, 1, 2] ++ ([3])) rfl fun K hK => ?_
      refine opsI_seg fun L hL => ?_
      simp [C.impl_AddLaurents, fS, hn]
      refine wcall1 (impl_newBuilding_calls n) (by simp) (by simp) ?_
      simp [C.impl_AddLaurents, fS, hn]
      refine hL _ ?_; clear hL L
      refine opsI_end fun L hL => ?_
      simp [C.impl_AddLaurents, fS, hn]
      refine hL _ ?_; clear hL L
      simp [C.impl_AddLaurents, fS, hn]
      refine hK _ ?_; clear hK K
      show AWp _ _ _ _ _
      refine wseq ?_
      refine wseq ?_
      refine wreg fun K hK => ?_
      simp [C.impl_AddLaurents, fS]
      refine hK _ ?_; clear hK K
      show AWp _ _ _ _ _
      refine wblock ?_
      refine wloop (fun x : Nat × List (List Int × Int) × List (List Int × Int) => ⟨ofL [(1, .int k), (5, .pt (5, 0) [] 0), (6, .pt (6, 0) [] 0), (8, .pt (8, 0) [] 0), (27, .d (.sh 2 f.ts.length (rows tS f.ts))), (28, .int f.ts.length), (29, .int x.1)], ofRO [((5, 0), some (.bx (fS g))), ((6, 0), some (.bx [D.int 0, .v (.slice none 0 0)])), ((8, 0), some (.bx [D.int n, .mp x.2.1]))]⟩) (fun x => x.1 ≤ f.ts.length ∧ MapR n x.2.1 x.2.2 ∧ x.2.2.Perm ((f.ts.take x.1).map pr) ∧ absE x.2.2 ≤ x.1 * 1000000) (fun x => f.ts.length - x.1) (0, [], []) (by simp [C.impl_AddLaurents, fS]) ⟨by simp, MapR.nil n, by simp, by simp [absE]⟩ ?_
      intro x1 hx1 R1 hR1
      obtain ⟨j, es, l⟩ := x1
      obtain ⟨hj, hM, hP, hA⟩ := hx1
      dsimp only at hj hM hP hA ⊢
      refine wseq ?_
      refine wreg fun K hK => ?_
      simp [C.impl_AddLaurents, fS]
      refine hK _ ?_; clear hK K
      show AWp _ _ _ _ _
      refine wseq ?_
      refine wcond _ rfl (fun hc2 => ?_) (fun hc2 => ?_)
      · have h1 : j < f.ts.length := by have := d_t hc2; omega
        have hT := right_dig hf hn _ (List.getElem_mem h1)
        refine wskip ?_
        show AWp _ _ _ _ _
        refine wseq ?_
        refine wblock ?_
        refine wseq ?_
        refine wreg fun K hK => ?_
        simp [C.impl_AddLaurents, fS, h1, tS_0 h1, tS_1 h1]
        refine hK _ ?_; clear hK K
        show AWp _ _ _ _ _
        obtain ⟨a0, a1, a2, a3, a4, a5, a6, a7, hpa⟩ := eight (pad_length (e := f.ts[j].e) (by omega))
        have hval := hM.val _ hT.1
        have hco := co_abs f.ts[j].e l
        refine wdrawI [(true, 0), (true, 1), (true, 2), (true, 4), (true, 5), (false, 3), (false, 6)] ⟨by kernel_rfl, by kernel_rfl⟩ ([0, 1, 2, 4, 5, 3] ++ ([6] ++ ([]))) rfl fun K hK => ?_
        refine opsI_seg fun L hL => ?_
        simp [C.impl_AddLaurents, fS, tS]
        refine wcall1 (impl_keyOf_calls f.ts[j].e (by omega) a0 a1 a2 a3 a4 a5 a6 a7 hpa) (by simp) (by simp) ?_
        simp [C.impl_AddLaurents, fS, tS]
        refine hL _ ?_; clear hL L
        refine opsI_seg fun L hL => ?_
        simp [C.impl_AddLaurents, fS, tS]
        refine wcall1 (impl_building_add_calls n f.ts[j].c es a0 a1 a2 a3 a4 a5 a6 a7 (hM.len8 hn8) (by rw [← hpa, hval]; have := hT.2.2.2; omega)) (by simp) (by simp) ?_
        simp [C.impl_AddLaurents, fS, tS]
        refine hL _ ?_; clear hL L
        refine opsI_end fun L hL => ?_
        simp only [AOpsI]
        refine hL _ ?_; clear hL L
        simp [C.impl_AddLaurents, fS, tS]
        rw [← hpa]
        refine hK _ ?_; clear hK K
        show AWp _ _ _ _ _
        refine wreg fun K hK => ?_
        simp [C.impl_AddLaurents, fS, wrap_succ (show j < 4611686018427387904 by omega)]
        refine hK _ ?_; clear hK K
        simp [C.impl_AddLaurents, fS]
        refine hR1 (j + 1, _, (f.ts[j].e, f.ts[j].c) :: l) ⟨h1, hM.add hT.1 _, ?_, ?_⟩ (by dsimp only; omega)
        · dsimp only
          rw [List.take_succ_eq_append_getElem h1, List.map_append]
          refine (List.Perm.cons _ hP).trans ?_
          exact (List.perm_append_singleton _ _).symm
        · have := hT.2.2.2
          have h3 : f.ts[j].c.natAbs ≤ 1000000 := by omega
          simp only [absE, List.map_cons, List.sum_cons] at hA ⊢
          omega
      · have h1 : j = f.ts.length := by have := d_f hc2; omega
        rw [h1, List.take_length] at hP
        refine wexit ?_
        show AWp _ _ _ _ _
        refine wseq ?_
        refine wseq ?_
        refine wreg fun K hK => ?_
        simp [C.impl_AddLaurents, fS]
        refine hK _ ?_; clear hK K
        show AWp _ _ _ _ _
        refine wblock ?_
        refine wloop (fun x : Nat × List (List Int × Int) × List (List Int × Int) => ⟨ofL [(1, .int k), (6, .pt (6, 0) [] 0), (8, .pt (8, 0) [] 0), (42, .d (.sh 2 g.ts.length (rows tS g.ts))), (43, .int g.ts.length), (44, .int x.1)], ofRO [((6, 0), some (.bx [D.int 0, .v (.slice none 0 0)])), ((8, 0), some (.bx [D.int n, .mp x.2.1]))]⟩) (fun x => x.1 ≤ g.ts.length ∧ MapR n x.2.1 x.2.2 ∧ x.2.2.Perm (f.ts.map pr ++ (g.ts.take x.1).map (prk k)) ∧ absE x.2.2 ≤ 600000000 + x.1 * 1000000000) (fun x => g.ts.length - x.1) (0, es, l) (by simp [C.impl_AddLaurents, fS]) ⟨by simp, hM, by simpa using hP, by dsimp only; omega⟩ ?_
        intro x2 hx2 R2 hR2
        obtain ⟨i, es2, l2⟩ := x2
        obtain ⟨hi, hM2, hP2, hA2⟩ := hx2
        dsimp only at hi hM2 hP2 hA2 ⊢
        refine wseq ?_
        refine wreg fun K hK => ?_
        simp [C.impl_AddLaurents, fS]
        refine hK _ ?_; clear hK K
        show AWp _ _ _ _ _
        refine wseq ?_
        refine wcond _ rfl (fun hc3 => ?_) (fun hc3 => ?_)
        · have h2 : i < g.ts.length := by have := d_t hc3; omega
          have hU := right_dig hg hn2 _ (List.getElem_mem h2)
          have hkc : (k * g.ts[i].c).natAbs ≤ 1000 * 1000000 := by
            rw [Int.natAbs_mul]
            exact Nat.mul_le_mul (by omega) (by have := hU.2.2.2; omega)
          refine wskip ?_
          show AWp _ _ _ _ _
          refine wseq ?_
          refine wblock ?_
          refine wseq ?_
          refine wreg fun K hK => ?_
          simp [C.impl_AddLaurents, fS, h2, tS_0 h2, tS_1 h2]
          refine hK _ ?_; clear hK K
          show AWp _ _ _ _ _
          obtain ⟨a0, a1, a2, a3, a4, a5, a6, a7, hpa⟩ := eight (pad_length (e := g.ts[i].e) (by omega))
          have hval := hM2.val _ hU.1
          have hco := co_abs g.ts[i].e l2
          refine wdrawI [(true, 0), (true, 1), (true, 2), (true, 4), (true, 5), (true, 6), (true, 7), (false, 3), (false, 8)] ⟨by kernel_rfl, by kernel_rfl⟩ ([0, 1, 2, 4, 5, 6, 7, 3] ++ ([8] ++ ([]))) rfl fun K hK => ?_
          refine opsI_seg fun L hL => ?_
          simp [C.impl_AddLaurents, fS, tS, wrapOk (x := k * g.ts[i].c) (by omega) (by omega)]
          refine wcall1 (impl_keyOf_calls g.ts[i].e (by omega) a0 a1 a2 a3 a4 a5 a6 a7 hpa) (by simp) (by simp) ?_
          simp [C.impl_AddLaurents, fS, tS, wrapOk (x := k * g.ts[i].c) (by omega) (by omega)]
          refine hL _ ?_; clear hL L
          refine opsI_seg fun L hL => ?_
          simp [C.impl_AddLaurents, fS, tS, wrapOk (x := k * g.ts[i].c) (by omega) (by omega)]
          refine wcall1 (impl_building_add_calls n (k * g.ts[i].c) es2 a0 a1 a2 a3 a4 a5 a6 a7 (hM2.len8 hn8) (by rw [← hpa, hval]; omega)) (by simp) (by simp) ?_
          simp [C.impl_AddLaurents, fS, tS, wrapOk (x := k * g.ts[i].c) (by omega) (by omega)]
          refine hL _ ?_; clear hL L
          refine opsI_end fun L hL => ?_
          simp only [AOpsI]
          refine hL _ ?_; clear hL L
          simp [C.impl_AddLaurents, fS, tS, wrapOk (x := k * g.ts[i].c) (by omega) (by omega)]
          rw [← hpa]
          refine hK _ ?_; clear hK K
          show AWp _ _ _ _ _
          refine wreg fun K hK => ?_
          simp [C.impl_AddLaurents, fS, wrap_succ (show i < 4611686018427387904 by omega)]
          refine hK _ ?_; clear hK K
          simp [C.impl_AddLaurents, fS]
          refine hR2 (i + 1, _, (g.ts[i].e, k * g.ts[i].c) :: l2) ⟨h2, hM2.add hU.1 _, ?_, ?_⟩ (by dsimp only; omega)
          · dsimp only
            rw [List.take_succ_eq_append_getElem h2, List.map_append, ← List.append_assoc]
            refine (List.Perm.cons _ hP2).trans ?_
            exact (List.perm_append_singleton _ _).symm
          · simp only [absE, List.map_cons, List.sum_cons] at hA2 ⊢
            omega
        · have h2 : i = g.ts.length := by have := d_f hc3; omega
          have hall : l2.Perm (f.ts.map pr ++ g.ts.map (prk k)) := by
            rw [h2, List.take_length] at hP2
            exact hP2
          have hlen : ∀ x ∈ l2, x.1.length = n := fun x hx => by
            rcases List.mem_append.1 (hall.subset hx) with h | h
            · obtain ⟨t, ht, rfl⟩ := List.mem_map.1 h
              exact (right_dig hf hn t ht).1
            · obtain ⟨t, ht, rfl⟩ := List.mem_map.1 h
              exact (right_dig hg hn2 t ht).1
          have hll : l2.length ≤ 1000000 := by rw [hall.length_eq, List.length_append, List.length_map, List.length_map]; omega
          have hs := shutF_perm hall n
          refine wexit ?_
          show AWp _ _ _ _ _
          refine wseq ?_
          refine wregI ([0, 1] ++ ([2, 3, 4, 5])) rfl fun K hK => ?_
          refine opsI_seg fun L hL => ?_
          simp [C.impl_AddLaurents, fS, fO]
          refine wcall1 (doneOk n es2 l2 hM2 hlen (by omega) hn8 hll) (by simp) (by simp) ?_
          simp [C.impl_AddLaurents, fS, fO]
          refine hL _ ?_; clear hL L
          refine opsI_end fun L hL => ?_
          simp [C.impl_AddLaurents, fS, fO]
          refine hL _ ?_; clear hL L
          simp [C.impl_AddLaurents, fS, fO]
          refine hK _ ?_; clear hK K
          show AWp _ _ _ _ _
          refine wret ?_
          simp [C.impl_AddLaurents, fS, hm, ← hs, fO]
  clear hK
  by_cases ha : Right f ∧ Right g ∧ f.v = g.v
  · have hvv := ha.2.2
    refine opsI_seg fun L hL => ?_
    simp [C.impl_AddLaurents, fS, ha]
    refine wcall1 (impl_bothOk_calls f g hx hxe hy hye) (by simp; omega) (by simp) ?_
    simp [C.impl_AddLaurents, fS, ha]
    refine hL _ ?_; clear hL L
    refine opsI_seg fun L hL => ?_
    simp [C.impl_AddLaurents, fS, ha]
    refine wcall1 (impl_within_calls k (-1000) 1000) (by simp) (by simp) ?_
    simp [C.impl_AddLaurents, fS, ha]
    refine hL _ ?_; clear hL L
    refine opsI_end fun L hL => ?_
    simp [C.impl_AddLaurents, fS, ha]
    refine hL _ ?_; clear hL L
    simp [C.impl_AddLaurents, fS, ha]
    refine cast (congrArg K ?_) hJ
    simp [fS, ha]
  · refine opsI_seg fun L hL => ?_
    simp [C.impl_AddLaurents, fS, ha]
    refine wcall1 (impl_bothOk_calls f g hx hxe hy hye) (by simp) (by simp) ?_
    simp [C.impl_AddLaurents, fS, ha]
    refine hL _ ?_; clear hL L
    refine opsI_seg fun L hL => ?_
    simp [C.impl_AddLaurents, fS, ha]
    refine hL _ ?_; clear hL L
    refine opsI_end fun L hL => ?_
    simp [C.impl_AddLaurents, fS, ha]
    refine hL _ ?_; clear hL L
    simp [C.impl_AddLaurents, fS, ha]
    refine cast (congrArg K ?_) hJ
    simp [fS, ha]
theorem iAdd_calls (f : Lau) (k : Int) (g : Lau) (hx : f.ts.length < 4611686018427387904) (hxe : ∀ t ∈ f.ts, t.e.length < 4611686018427387904) (hy : g.ts.length < 4611686018427387904) (hye : ∀ t ∈ g.ts, t.e.length < 4611686018427387904) : ACalls Try.prog F.impl_AddLaurents [aF f, .int k, aF g] [] true (fun outs res => outs = [] ∧ res = [.ag (fO (addF f k g).1), .one (D.bool (addF f k g).2)]) := (impl_AddLaurents_calls f k g hx hxe hy hye).weak1

end Go.Proofs.Ytocknokodgnlbaa.Ab
namespace Go.Proofs.Ytocknokodgnlbaa.Ab
open Go
set_option linter.unusedSimpArgs false
set_option linter.unusedVariables false
set_option maxRecDepth 10000
set_option maxHeartbeats 2000000
theorem sum_coded (f g : Lau) (k : Int) : f.ts.map kt ++ (g.ts.map kt).map (scM k) = (f.ts.map pr ++ g.ts.map (prk k)).map kc := by
  rw [List.map_append, List.map_map, List.map_map, List.map_map]
  rfl
theorem sum_exps {f g : Lau} (k : Int) (hf : Right f) (hg : Right g) {n : Nat} (h1 : f.v = n) (h2 : g.v = n) : Exps n (f.ts.map pr ++ g.ts.map (prk k)) := fun z hz => by
  rcases List.mem_append.1 hz with hz | hz
  · obtain ⟨t, ht, rfl⟩ := List.mem_map.1 hz
    have := right_dig hf h1 t ht
    exact ⟨this.1, this.2.1⟩
  · obtain ⟨t, ht, rfl⟩ := List.mem_map.1 hz
    have := right_dig hg h2 t ht
    exact ⟨this.1, this.2.1⟩
theorem mon_abs {l : List (Int × Int)} (h : MonOk l) (hl : l.length ≤ 600) : absL l ≤ 600000000 := by
  have := absL_le (l := l) (B := 1000000) fun x hx => by have := (h x hx).2; omega
  omega
theorem spec_AddLaurents_calls (f : Lau) (k : Int) (g : Lau) (hx : f.ts.length < 4611686018427387904) (hxe : ∀ t ∈ f.ts, t.e.length < 4611686018427387904) (hy : g.ts.length < 4611686018427387904) (hye : ∀ t ∈ g.ts, t.e.length < 4611686018427387904) : ACalls Try.prog F.spec_AddLaurents [aF f, .int k, aF g] [] true (fun outs res => outs = [] ∧ WkRs res [.ag (fO (addF f k g).1), .one (D.bool (addF f k g).2)]) := by
  have hcall := spec_l2Two_calls f g hx hxe hy hye
  generalize hB : decide (Right f ∧ Right g ∧ f.v = g.v) = B at hcall
  refine ACalls.of_body (C := C.spec_AddLaurents) (n := Try.f103.ntmps) tabT folT Try.func103 rfl (by kernel_rfl) rfl (Nat.le_of_ble_eq_true rfl) (by decide) (by kernel_rfl) (by kernel_rfl) rfl (by simp) (by simp) ?_
  simp only [Try.f103]
  refine wseq ?_
  refine wreg fun K hK => ?_
  simp [C.spec_AddLaurents, fS]
  refine hK _ ?_; clear hK K
  show AWp _ _ _ _ _
  refine wseq ?_
  refine wseq ?_
  refine wregI ([0, 1, 2] ++ ([3, 4, 5, 6] ++ ([7, 8]))) rfl fun K hK => ?_
  have hJ : K ⟨ofL [(1, .int k), (3, .pt (3, 0) [] 0), (5, .pt (5, 0) [] 0), (6, .pt (6, 0) [] 0), (16, .bool (!(B && decide (-1000 ≤ k ∧ k ≤ 1000))))], ofRO [((3, 0), some (.bx (fS f))), ((5, 0), some (.bx (fS g))), ((6, 0), some (.bx [D.int 0, .v (.slice none 0 0)]))]⟩ := by
    refine hK _ ?_; clear hK K
    show AWp _ _ _ _ _
    refine wcond _ rfl (fun hc1 => ?_) (fun hc1 => ?_)
    · have hr : ¬ ((Right f ∧ Right g ∧ f.v = g.v) ∧ (-1000 ≤ k ∧ k ≤ 1000)) := by
        rintro ⟨h1, h2⟩
        rw [← hB, decide_eq_true h1, decide_eq_true h2] at hc1
        simp at hc1
      have hm : addF f k g = (zeroF, false) := if_neg hr
      refine wseq ?_
      refine wreg fun K hK => ?_
      simp [C.spec_AddLaurents, fS]
      refine hK _ ?_; clear hK K
      show AWp _ _ _ _ _
      refine wret ?_
      simp [C.spec_AddLaurents, fS, hm, fO, zeroF, rows]
    · have hr : (Right f ∧ Right g ∧ f.v = g.v) ∧ (-1000 ≤ k ∧ k ≤ 1000) := by
        rw [← hB] at hc1
        simpa using hc1
      obtain ⟨⟨hf, hg, hfg⟩, hk⟩ := hr
      have hv := hf.1
      obtain ⟨n, hn⟩ : ∃ n : Nat, f.v = n := ⟨f.v.toNat, by omega⟩
      have hn2 : g.v = n := by omega
      have hn8 : n ≤ 8 := by omega
      have hfl := hf.2.1
      have hgl := hg.2.1
      have hE := sum_exps k hf hg hn hn2
      have hnf : nf ilt (f.ts.map kt ++ (g.ts.map kt).map (scM k)) = ((nf lexlt (f.ts.map pr ++ g.ts.map (prk k))).map tm).map kt := by
        rw [sum_coded, nf_key _ hE, List.map_map, kt_tm]
      obtain ⟨T, hT⟩ : ∃ T, T = (nf lexlt (f.ts.map pr ++ g.ts.map (prk k))).map tm := ⟨_, rfl⟩
      rw [← hT] at hnf
      have hTl : T.length ≤ 1000000 := by
        rw [hT, List.length_map]
        have h1 := nf_len (lt := lexlt) (f.ts.map pr ++ g.ts.map (prk k))
        rw [List.length_append, List.length_map, List.length_map] at h1
        omega
      have hTe : ∀ t ∈ T, Dig t.e ∧ t.e.length = n := fun t ht => by
        rw [hT] at ht
        obtain ⟨z, hz, rfl⟩ := List.mem_map.1 ht
        have := nf_exps hE z hz
        exact ⟨this.2, this.1⟩
      have hm : addF f k g = if Right ⟨f.v, T⟩ then (⟨f.v, T⟩, true) else (zeroF, false) := by
        unfold addF
        rw [if_pos ⟨⟨hf, hg, hfg⟩, hk⟩]
        unfold shutF
        rw [← hT]
      have hdf : ∀ t ∈ f.ts, Dig t.e ∧ t.e.length ≤ 8 := fun t ht => by have := right_dig hf hn t ht; exact ⟨this.2.1, by omega⟩
      have hdg : ∀ t ∈ g.ts, Dig t.e ∧ t.e.length ≤ 8 := fun t ht => by have := right_dig hg hn2 t ht; exact ⟨this.2.1, by omega⟩
      have hab1 := mon_abs (right_mon hf hn) (by simpa using hfl)
      have hab2 := mon_abs (right_mon hg hn2) (by simpa using hgl)
      have hab3 : k.natAbs * absL (g.ts.map kt) ≤ 1000 * 600000000 := Nat.mul_le_mul (by omega) hab2
      have hPlus := spec_l2Plus_calls (f.ts.map kt) (g.ts.map kt) k (by simp only [List.length_map]; omega) (by omega)
      rw [hnf] at hPlus
      simp only [List.length_map] at hPlus
      refine wskip ?_
      show AWp _ _ _ _ _
      refine wseq ?_
      refine wdrawI [(true, 0), (true, 2), (true, 3), (true, 6), (true, 7), (false, 1), (false, 4), (false, 5), (false, 8), (true, 9), (true, 10), (false, 11), (true, 12)] ⟨by kernel_rfl, by kernel_rfl⟩ ([0, 2, 3, 6, 7, 1] ++ ([4] ++ ([5] ++ ([8] ++ ([9, 10, 11, 12]))))) rfl fun K hK => ?_
      refine opsI_seg fun L hL => ?_
      simp [C.spec_AddLaurents, fS]
      refine wcall1 (spec_l2Open_calls f (by omega) hdf) (by simp) (by simp) ?_
      simp [C.spec_AddLaurents, fS]
      refine hL _ ?_; clear hL L
      refine opsI_seg fun L hL => ?_
      simp [C.spec_AddLaurents, fS]
      refine wcall1 (spec_l2Open_calls g (by omega) hdg) (by simp) (by simp) ?_
      simp [C.spec_AddLaurents, fS]
      refine hL _ ?_; clear hL L
      refine opsI_seg fun L hL => ?_
      simp [C.spec_AddLaurents, fS]
      refine wcall1 (hPlus) (by simp) (by simp) ?_
      simp [C.spec_AddLaurents, fS]
      refine hL _ ?_; clear hL L
      refine opsI_seg fun L hL => ?_
      simp [C.spec_AddLaurents, fS]
      refine wcall1 (l2Shut_calls T n hTl hTe hn8) (by simp; omega) (by simp) ?_
      simp [C.spec_AddLaurents, fS]
      refine hL _ ?_; clear hL L
      refine opsI_end fun L hL => ?_
      simp [C.spec_AddLaurents, fS]
      refine hL _ ?_; clear hL L
      simp [C.spec_AddLaurents, fS]
      refine hK _ ?_; clear hK K
      show AWp _ _ _ _ _
      refine wret ?_
      simp [C.spec_AddLaurents, fS]
      rw [hm, hn]
      by_cases hR : Right ⟨(n : Int), T⟩
      · simp [hR, fO]
      · simp [hR, fO]
  clear hK
  by_cases ha : B = true
  · refine opsI_seg fun L hL => ?_
    simp [C.spec_AddLaurents, fS, ha]
    refine wcall1 (hcall) (by simp) (by simp) ?_
    simp [C.spec_AddLaurents, fS, ha]
    refine hL _ ?_; clear hL L
    refine opsI_seg fun L hL => ?_
    simp [C.spec_AddLaurents, fS, ha]
    refine wcall1 (spec_l1In_calls k (-1000) 1000) (by simp) (by simp) ?_
    simp [C.spec_AddLaurents, fS, ha]
    refine hL _ ?_; clear hL L
    refine opsI_end fun L hL => ?_
    simp [C.spec_AddLaurents, fS, ha]
    refine hL _ ?_; clear hL L
    simp [C.spec_AddLaurents, fS, ha]
    refine cast (congrArg K ?_) hJ
    simp [fS, ha]
  · refine opsI_seg fun L hL => ?_
    simp [C.spec_AddLaurents, fS, ha]
    refine wcall1 (hcall) (by simp) (by simp) ?_
    simp [C.spec_AddLaurents, fS, ha]
    refine hL _ ?_; clear hL L
    refine opsI_seg fun L hL => ?_
    simp [C.spec_AddLaurents, fS, ha]
    refine hL _ ?_; clear hL L
    refine opsI_end fun L hL => ?_
    simp [C.spec_AddLaurents, fS, ha]
    refine hL _ ?_; clear hL L
    simp [C.spec_AddLaurents, fS, ha]
    refine cast (congrArg K ?_) hJ
    simp [fS, ha]
theorem sAdd_calls (f : Lau) (k : Int) (g : Lau) (hx : f.ts.length < 4611686018427387904) (hxe : ∀ t ∈ f.ts, t.e.length < 4611686018427387904) (hy : g.ts.length < 4611686018427387904) (hye : ∀ t ∈ g.ts, t.e.length < 4611686018427387904) : ACalls Try.prog F.spec_AddLaurents [aF f, .int k, aF g] [] true (fun outs res => outs = [] ∧ res = [.ag (fO (addF f k g).1), .one (D.bool (addF f k g).2)]) := (spec_AddLaurents_calls f k g hx hxe hy hye).weak1

end Go.Proofs.Ytocknokodgnlbaa.Ab
namespace Go.Proofs.Ytocknokodgnlbaa.Ab
open Go
set_option linter.unusedSimpArgs false
set_option linter.unusedVariables false
theorem lexlt_app : ∀ (a b z : List Int), a.length = b.length → lexlt (a ++ z) (b ++ z) = lexlt a b
  | [], [], z, _ => by simp [lexlt_irr, lexlt]
  | x :: a, y :: b, z, h => by simp [lexlt, lexlt_app a b z (by simpa using h)]
  | [], _ :: _, _, h => by simp at h
  | _ :: _, [], _, h => by simp at h
theorem lexlt_pad {a b : List Int} (h : a.length = b.length) : lexlt (pad a) (pad b) = lexlt a b := by
  unfold pad
  rw [← h]
  exact lexlt_app a b _ h
theorem mget_some {k : List Int} {v : Int} : ∀ {es : List (List Int × Int)}, mget k es = some v → (k, v) ∈ es
  | [], h => by simp [mget] at h
  | x :: es, h => by
    simp only [mget] at h
    split at h
    · rename_i e
      simp only [Option.some.injEq] at h
      subst h
      have : x = (k, x.2) := Prod.ext e rfl
      rw [← this]; simp
    · exact List.mem_cons_of_mem _ (mget_some h)
theorem mget_mem {k : List Int} {v : Int} : ∀ {es : List (List Int × Int)}, (es.map (·.1)).Nodup → (k, v) ∈ es → mget k es = some v
  | [], _, h => by simp at h
  | x :: es, hn, h => by
    simp only [List.map_cons, List.nodup_cons] at hn
    simp only [mget]
    rcases List.mem_cons.1 h with e | h
    · rw [← e]; simp
    · rw [if_neg]
      · exact mget_mem hn.2 h
      · rintro e
        exact hn.1 (List.mem_map.2 ⟨(k, v), h, e.symm⟩)
/-- The greatest key of what has come by. -/
structure TopJ (P : List (List Int × Int)) (top : List Int) : Prop where
  len : top.length = 8
  mem : P ≠ [] → ∃ c, (top, c) ∈ P
  max : ∀ y ∈ P, lexlt top y.1 = false
theorem TopJ.keep {P : List (List Int × Int)} {top : List Int} (h : TopJ P top) {y : List Int × Int} (hne : P ≠ []) (hy : lexlt top y.1 = false) : TopJ (P ++ [y]) top := by
  obtain ⟨c, hc⟩ := h.mem hne
  refine ⟨h.len, fun _ => ⟨c, by simp [hc]⟩, fun z hz => ?_⟩
  rcases List.mem_append.1 hz with hz | hz
  · exact h.max z hz
  · simp only [List.mem_singleton] at hz
    subst hz; exact hy
theorem TopJ.next {P : List (List Int × Int)} {top : List Int} (h : TopJ P top) {y : List Int × Int} (hl : y.1.length = 8) (hy : P = [] ∨ lexlt top y.1 = true) : TopJ (P ++ [y]) y.1 := by
  refine ⟨hl, fun _ => ⟨y.2, by simp⟩, fun z hz => ?_⟩
  rcases List.mem_append.1 hz with hz | hz
  · rcases hy with rfl | hy
    · simp at hz
    · cases hq : lexlt y.1 z.1 with
      | false => rfl
      | true =>
        have h1 := h.max z hz
        have h2 := lexlt_tr _ _ _ hy hq
        rw [h1] at h2; simp at h2
  · simp only [List.mem_singleton] at hz
    subst hz; exact lexlt_irr _
/-- The greatest key is that of the first term. -/
theorem top_head {n : Nat} {es l P : List (List Int × Int)} {top : List Int} {a : List Int} {c : Int} {R : List (List Int × Int)} (h : MapR n es l) (hl : ∀ x ∈ l, x.1.length = n) (hP : P.Perm es) (hT : TopJ P top) (hR : nf lexlt l = (a, c) :: R) :
    top = pad a ∧ mget top es = some c := by
  have hal : a.length = n := by
    obtain ⟨x, hx, e⟩ := nf_mem (y := (a, c)) (by rw [hR]; simp)
    have h9 := hl x hx
    rw [e] at h9
    exact h9
  have hd := nf_desc lexOrd l
  have hc := co_single lexOrd hd (x := (a, c)) (by rw [hR]; simp)
  rw [nf_co] at hc
  have hcz : c ≠ 0 := nf_nz l (a, c) (by rw [hR]; simp)
  have hva := h.val a hal
  have hga : mget (pad a) es = some c := by
    rw [hc] at hva
    cases hg : mget (pad a) es with
    | none => rw [hg] at hva; simp at hva; exact absurd hva.symm hcz
    | some v => rw [hg] at hva; simp at hva; rw [hva]
  have hmem := mget_some hga
  have hmP := hP.mem_iff.2 hmem
  obtain ⟨v, hv⟩ := hT.mem (by intro e; rw [e] at hmP; simp at hmP)
  have hvE := hP.mem_iff.1 hv
  obtain ⟨hvz, e, hel, he⟩ := h.nz _ hvE
  simp only at he hvz
  have hlt := hT.max _ hmP
  simp only at hlt
  rw [he, lexlt_pad (hel.trans hal.symm)] at hlt
  have hget := mget_mem h.nod hvE
  have hve := h.val e hel
  rw [← he, hget] at hve
  simp only [Option.getD_some] at hve
  have hco : co e (nf lexlt l) ≠ 0 := by rw [nf_co, ← hve]; exact hvz
  obtain ⟨z, hz, ez⟩ := co_mem hco
  have hea : e = a := by
    rw [hR] at hz hd
    rcases List.mem_cons.1 hz with rfl | hz
    · exact ez.symm
    · have h1 := List.rel_of_pairwise_cons hd hz
      simp only at h1
      rw [ez, hlt] at h1
      simp at h1
  subst hea
  exact ⟨he, by rw [he]; exact hga⟩
theorem pad_bd60 {e : List Int} {B : Int} (hB : 0 ≤ B) (hB2 : B ≤ 1000000) (h : ∀ x ∈ e, -B ≤ x ∧ x ≤ B) : ∀ x ∈ pad e, -1000000 ≤ x ∧ x ≤ 1000000 := fun x hx => by
  unfold pad at hx
  rcases List.mem_append.1 hx with hx | hx
  · have := h x hx; omega
  · have := List.eq_of_mem_replicate hx; omega
/-- What a step of division has put behind the rest so far. -/
def negT (e : List Int) (q : Int) (g : List Trm) : List (List Int × Int) := g.map fun t => (addE 1 e t.e, -q * t.c)
theorem negT_step {e : List Int} {q : Int} {g : List Trm} {i : Nat} (h : i < g.length) : negT e q (g.take (i + 1)) = negT e q (g.take i) ++ [(addE 1 e g[i].e, -q * g[i].c)] := by
  unfold negT
  rw [List.take_succ_eq_append_getElem h, List.map_append]
  rfl
theorem step_nf {g : Lau} {x : List Int × Int} {R l l2 : List (List Int × Int)} (hR : nf lexlt l = x :: R) (hl2 : l2.Perm (l ++ negT (addE (-1) x.1 (leadE g)) (x.2.tdiv (leadC g)) g.ts)) : nf lexlt l2 = nf lexlt (stepL g x R) := by
  refine nf_unique lexOrd (nf_desc lexOrd _) (nf_nz _) fun k => ?_
  rw [nf_co, co_perm k hl2, stepL, co_append, co_append, ← hR, nf_co]
  congr 1
  unfold negT mulT
  rw [List.map_map]
  rfl
end Go.Proofs.Ytocknokodgnlbaa.Ab
namespace Go.Proofs.Ytocknokodgnlbaa.Ab
open Go
theorem addE_dv2 : ∀ (a b : List Int), a.length = b.length → addE (-1) (addE 1 a b) b = a
  | [], [], _ => rfl
  | x :: a, y :: b, h => by
    simp only [addE, addE_dv2 a b (by simpa using h)]
    congr 1
    omega
  | [], _ :: _, h => by simp at h
  | _ :: _, [], h => by simp at h
structure DivO (g : Lau) (n : Nat) (R O : List (List Int × Int)) : Prop where
  od : Desc lexlt O
  oz : Nz O
  ol : ∀ x ∈ O, x.1.length = n
  sep : ∀ x ∈ O, ∀ y ∈ R, lexlt y.1 (addE 1 x.1 (leadE g)) = true
theorem DivO.step {g : Lau} {n : Nat} {x : List Int × Int} {R O : List (List Int × Int)} (h : DivO g n (x :: R) O) (hR : Desc lexlt (x :: R)) (hRl : ∀ y ∈ x :: R, y.1.length = n) (hg : Right g) (hgn : g.v = n) (hne : g.ts ≠ []) (hm : x.2.tmod (leadC g) = 0) (hq : x.2.tdiv (leadC g) ≠ 0) :
    DivO g n (nf lexlt (stepL g x R)) (O ++ [(addE (-1) x.1 (leadE g), x.2.tdiv (leadC g))]) := by
  have hgm : g.ts.map pr = (leadE g, leadC g) :: (g.ts.tail.map pr) := by
    unfold leadE leadC
    match hh : g.ts, hne with
    | t :: ts, _ => rfl
  have hgd := pr_desc hg
  have hgD := pr_dig hg hgn
  rw [hgm] at hgd hgD
  have hbl : (leadE g).length = n := (hgD (leadE g, leadC g) (by simp)).1
  have hxl := hRl x (by simp)
  have hless := step_less lexOrd (lauAct n) hR hRl hgd (fun y hy => (hgD y hy).1) hm
  rw [← hgm] at hless
  have hel : (addE (-1) x.1 (leadE g)).length = n := by rw [addE_length _ _ _ (hxl.trans hbl.symm)]; exact hxl
  have hback : addE 1 (addE (-1) x.1 (leadE g)) (leadE g) = x.1 := addE_dv _ _ (hxl.trans hbl.symm)
  refine ⟨?_, fun y hy => ?_, fun y hy => ?_, fun y hy z hz => ?_⟩
  · refine List.pairwise_append.2 ⟨h.od, List.pairwise_singleton .., fun y hy z hz => ?_⟩
    simp only [List.mem_singleton] at hz
    subst hz
    have h1 := h.sep y hy x (by simp)
    have hyl := h.ol y hy
    have h2 := lexlt_addE (-1) x.1 (addE 1 y.1 (leadE g)) (leadE g) (hxl.trans hbl.symm) (by rw [addE_length _ _ _ (hyl.trans hbl.symm)]; exact hyl.trans hbl.symm)
    rw [addE_dv2 _ _ (hyl.trans hbl.symm)] at h2
    show lexlt (addE (-1) x.1 (leadE g)) y.1 = true
    rw [h2]
    exact h1
  · rcases List.mem_append.1 hy with hy | hy
    · exact h.oz y hy
    · simp only [List.mem_singleton] at hy
      subst hy; exact hq
  · rcases List.mem_append.1 hy with hy | hy
    · exact h.ol y hy
    · simp only [List.mem_singleton] at hy
      subst hy; exact hel
  · have h1 := (hless z hz).1
    rcases List.mem_append.1 hy with hy | hy
    · exact lexlt_tr _ _ _ h1 (h.sep y hy x (by simp))
    · simp only [List.mem_singleton] at hy
      subst hy
      show lexlt z.1 (addE 1 (addE (-1) x.1 (leadE g)) (leadE g)) = true
      rw [hback]
      exact h1
theorem DivO.nf {g : Lau} {n : Nat} {R O : List (List Int × Int)} (h : DivO g n R O) : Ab.nf lexlt O = O := (nf_unique lexOrd h.od h.oz fun k => rfl).symm
theorem DivO.shut {g : Lau} {n : Nat} {R O : List (List Int × Int)} (h : DivO g n R O) (v : Int) : shutF v O = endF v (some O) := by
  unfold shutF endF
  rw [h.nf]
theorem cmpL_gt (a b : List Int) : decide (0 < cmpL a b) = lexlt b a := by
  have := cmpL_pos a b
  by_cases h : cmpL a b ≤ 0
  · rw [decide_eq_true h] at this
    rw [decide_eq_false (by omega)]
    cases hh : lexlt b a with
    | false => rfl
    | true => rw [hh] at this; simp at this
  · rw [decide_eq_false h] at this
    rw [decide_eq_true (by omega)]
    cases hh : lexlt b a with
    | true => rfl
    | false => rw [hh] at this; simp at this
end Go.Proofs.Ytocknokodgnlbaa.Ab
namespace Go.Proofs.Ytocknokodgnlbaa.Ab
open Go
set_option linter.unusedSimpArgs false
set_option linter.unusedVariables false
set_option maxRecDepth 10000
set_option maxHeartbeats 2000000
theorem spec_DivideLaurents_calls (f g : Lau) (hx : f.ts.length < 4611686018427387904) (hxe : ∀ t ∈ f.ts, t.e.length < 4611686018427387904) (hy : g.ts.length < 4611686018427387904) (hye : ∀ t ∈ g.ts, t.e.length < 4611686018427387904) : ACalls Try.prog F.spec_DivideLaurents [aF f, aF g] [] true (fun outs res => outs = [] ∧ WkRs res [.ag (fO (divF f g).1), .one (D.bool (divF f g).2)]) := by
  have hcall := spec_l2Two_calls f g hx hxe hy hye
  generalize hB : decide (Right f ∧ Right g ∧ f.v = g.v) = B at hcall
  refine ACalls.of_body (C := C.spec_DivideLaurents) (n := Try.f15.ntmps) tabT folT Try.func15 rfl (by kernel_rfl) rfl (Nat.le_of_ble_eq_true rfl) (by decide) (by kernel_rfl) (by kernel_rfl) rfl (by simp) (by simp) ?_
  simp only [Try.f15]
  refine wseq ?_
  refine wreg fun K hK => ?_
  simp [C.spec_DivideLaurents, fS]
  refine hK _ ?_; clear hK K
  show AWp _ _ _ _ _
  refine wseq ?_
  refine wseq ?_
  refine wregI ([0, 1, 2] ++ ([3, 4, 5, 6, 7, 8, 9])) rfl fun K hK => ?_
  have hJ : K ⟨ofL [(2, .pt (2, 0) [] 0), (3, .pt (3, 0) [] 0), (4, .pt (4, 0) [] 0), (15, .bool (!(B && !decide (g.ts = []))))], ofRO [((2, 0), some (.bx (fS f))), ((3, 0), some (.bx (fS g))), ((4, 0), some (.bx [D.int 0, .v (.slice none 0 0)]))]⟩ := by
    refine hK _ ?_; clear hK K
    show AWp _ _ _ _ _
    refine wcond _ rfl (fun hc1 => ?_) (fun hc1 => ?_)
    · have hr : ¬ ((Right f ∧ Right g ∧ f.v = g.v) ∧ g.ts ≠ []) := by
        rintro ⟨h1, h2⟩
        rw [← hB, decide_eq_true h1] at hc1
        simp [h2] at hc1
      have hm : divF f g = (zeroF, false) := if_neg hr
      refine wseq ?_
      refine wreg fun K hK => ?_
      simp [C.spec_DivideLaurents, fS]
      refine hK _ ?_; clear hK K
      show AWp _ _ _ _ _
      refine wret ?_
      simp [C.spec_DivideLaurents, fS, hm, fO, zeroF, rows]
    · have hr : (Right f ∧ Right g ∧ f.v = g.v) ∧ g.ts ≠ [] := by
        rw [← hB] at hc1
        simpa using hc1
      obtain ⟨⟨hf, hg, hfg⟩, hne⟩ := hr
      obtain ⟨n, hn⟩ : ∃ n : Nat, f.v = n := ⟨f.v.toNat, by have := hf.1; omega⟩
      have hgn : g.v = n := by omega
      have hm : divF f g = endF f.v (divL (chkS f g n) g 600 (f.ts.map pr)) := by
        rw [← divS_eq]
        unfold divS
        rw [if_pos ⟨⟨hf, hg, hfg⟩, hne⟩, hn]
        rfl
      refine wskip ?_
      show AWp _ _ _ _ _
      refine wseq ?_
      refine wregI ([0, 1, 2] ++ ([3, 4, 5, 6])) rfl fun K hK => ?_
      refine opsI_seg fun L hL => ?_
      simp [C.spec_DivideLaurents, fS]
      refine wcall1 ((spec_l2Divide_calls f g n hf hg hn hgn hne).weak1) (by simp) (by simp) ?_
      simp [C.spec_DivideLaurents, fS]
      refine hL _ ?_; clear hL L
      refine opsI_end fun L hL => ?_
      simp [C.spec_DivideLaurents, fS]
      refine hL _ ?_; clear hL L
      simp [C.spec_DivideLaurents, fS]
      refine hK _ ?_; clear hK K
      show AWp _ _ _ _ _
      refine wret ?_
      simp [C.spec_DivideLaurents, fS, hm, fO]
  clear hK
  by_cases hb : B = true
  · refine opsI_seg fun L hL => ?_
    simp [C.spec_DivideLaurents, fS, hb]
    refine wcall1 (hcall) (by simp) (by simp) ?_
    simp [C.spec_DivideLaurents, fS, hb]
    refine hL _ ?_; clear hL L
    refine opsI_end fun L hL => ?_
    simp [C.spec_DivideLaurents, fS, hb]
    refine hL _ ?_; clear hL L
    simp [C.spec_DivideLaurents, fS, hb]
    refine cast (congrArg K ?_) hJ
    simp [ieq0, fS, hb]
  · refine opsI_seg fun L hL => ?_
    simp [C.spec_DivideLaurents, fS, hb]
    refine wcall1 (hcall) (by simp) (by simp) ?_
    simp [C.spec_DivideLaurents, fS, hb]
    refine hL _ ?_; clear hL L
    refine opsI_end fun L hL => ?_
    simp [C.spec_DivideLaurents, fS, hb]
    refine hL _ ?_; clear hL L
    simp [C.spec_DivideLaurents, fS, hb]
    refine cast (congrArg K ?_) hJ
    simp [ieq0, fS, hb]
theorem sDiv_calls (f g : Lau) (hx : f.ts.length < 4611686018427387904) (hxe : ∀ t ∈ f.ts, t.e.length < 4611686018427387904) (hy : g.ts.length < 4611686018427387904) (hye : ∀ t ∈ g.ts, t.e.length < 4611686018427387904) : ACalls Try.prog F.spec_DivideLaurents [aF f, aF g] [] true (fun outs res => outs = [] ∧ res = [.ag (fO (divF f g).1), .one (D.bool (divF f g).2)]) := (spec_DivideLaurents_calls f g hx hxe hy hye).weak1

end Go.Proofs.Ytocknokodgnlbaa.Ab
namespace Go.Proofs.Ytocknokodgnlbaa.Ab
open Go
set_option linter.unusedSimpArgs false
set_option linter.unusedVariables false
set_option maxRecDepth 10000
set_option maxHeartbeats 2000000
attribute [local simp] mapKV flatInt tileB
structure LJ (n : Nat) (es l : List (List Int × Int)) (B : Nat) : Prop where
  map : MapR n es l
  len : ∀ x ∈ l, x.1.length = n
  abs : absE l ≤ B
theorem LJ.add {n : Nat} {es l : List (List Int × Int)} {B : Nat} (h : LJ n es l B) {e : List Int} (he : e.length = n) {c : Int} {X : Nat} (hc : c.natAbs ≤ X) : LJ n (madd es (pad e) c) ((e, c) :: l) (B + X) := by
  refine ⟨h.map.add he c, fun x hx => ?_, ?_⟩
  · rcases List.mem_cons.1 hx with rfl | hx
    · exact he
    · exact h.len x hx
  · have := h.abs
    simp only [absE, List.map_cons, List.sum_cons] at *
    omega
theorem LJ.val {n : Nat} {es l : List (List Int × Int)} {B : Nat} (h : LJ n es l B) {e : List Int} (he : e.length = n) {c : Int} {X : Nat} (hc : c.natAbs ≤ X) (hB : B + X ≤ 4000000000000000000) : -9223372036854775808 ≤ c + (mget (pad e) es).getD 0 ∧ c + (mget (pad e) es).getD 0 < 9223372036854775808 := by
  have h1 := h.map.val e he
  have h2 := co_abs e l
  have h3 := h.abs
  rw [h1]
  omega
theorem LJ.mono {n : Nat} {es l : List (List Int × Int)} {B C : Nat} (h : LJ n es l B) (hB : B ≤ C) : LJ n es l C := ⟨h.map, h.len, Nat.le_trans h.abs hB⟩
theorem divF_some {f g : Lau} {n : Nat} (hf : Right f) (hg : Right g) (hn : f.v = n) (hgn : g.v = n) (hne : g.ts ≠ []) : divF f g = endF n (divL chkI g 600 (f.ts.map pr)) := by
  unfold divF
  rw [if_pos ⟨⟨hf, hg, by omega⟩, hne⟩, hn]
theorem impl_DivideLaurents_l1 (f g : Lau) (n : Nat) (hn : f.v = n) (hv : n ≤ 8) (hf : Right f) (hfl : f.ts.length ≤ 600) (Q0 : AEx → St → Prop) (hX0 : ∀ es l, LJ n es l 600000000 → l.Perm (f.ts.map pr) → Q0 (.exit 0) ⟨ofL [(2, .pt (2, 0) [] 0), (3, .pt (3, 0) [] 0), (4, .pt (4, 0) [] 0), (6, .pt (6, 0) [] 0), (34, .d (.sh 2 f.ts.length (rows tS f.ts))), (35, .int f.ts.length), (36, .int f.ts.length), (37, .bool false)], ofRO [((2, 0), some (.bx (fS f))), ((3, 0), some (.bx (fS g))), ((4, 0), some (.bx [D.int 0, .v (.slice none 0 0)])), ((6, 0), some (.bx [D.int n, .mp es]))]⟩) : AWp C.impl_DivideLaurents (codeAt Try.f13 [1, 1, 1, 0, 1, 0]) 0 Q0 ⟨ofL [(2, .pt (2, 0) [] 0), (3, .pt (3, 0) [] 0), (4, .pt (4, 0) [] 0), (6, .pt (6, 0) [] 0), (34, .d (.sh 2 f.ts.length (rows tS f.ts))), (35, .int f.ts.length), (36, .int 0)], ofRO [((2, 0), some (.bx (fS f))), ((3, 0), some (.bx (fS g))), ((4, 0), some (.bx [D.int 0, .v (.slice none 0 0)])), ((6, 0), some (.bx [D.int n, .mp []]))]⟩ := by
  simp only [codeAt, Try.f13, walkCode]
  refine wloop (fun x : Nat × List (List Int × Int) × List (List Int × Int) => ⟨ofL [(2, .pt (2, 0) [] 0), (3, .pt (3, 0) [] 0), (4, .pt (4, 0) [] 0), (6, .pt (6, 0) [] 0), (34, .d (.sh 2 f.ts.length (rows tS f.ts))), (35, .int f.ts.length), (36, .int x.1)], ofRO [((2, 0), some (.bx (fS f))), ((3, 0), some (.bx (fS g))), ((4, 0), some (.bx [D.int 0, .v (.slice none 0 0)])), ((6, 0), some (.bx [D.int n, .mp x.2.1]))]⟩) (fun x => x.1 ≤ f.ts.length ∧ LJ n x.2.1 x.2.2 (x.1 * 1000000) ∧ x.2.2.Perm ((f.ts.map pr).take x.1)) (fun x => f.ts.length - x.1) (0, [], []) (by simp [C.impl_DivideLaurents, fS, hn]) ⟨by simp, ⟨MapR.nil n, by simp, by simp [absE]⟩, by simp⟩ ?_
  intro x1 hx1 R1 hR1
  obtain ⟨i, es, l⟩ := x1
  obtain ⟨hi, hLJ, hP⟩ := hx1
  dsimp only at hi hLJ hP ⊢
  refine wseq ?_
  refine wreg fun K hK => ?_
  simp [C.impl_DivideLaurents, fS]
  refine hK _ ?_; clear hK K
  show AWp _ _ _ _ _
  refine wseq ?_
  refine wcond _ rfl (fun hc2 => ?_) (fun hc2 => ?_)
  · have hif : i < f.ts.length := by have := d_t hc2; omega
    have hT := right_dig hf hn _ (List.getElem_mem hif)
    refine wskip ?_
    show AWp _ _ _ _ _
    refine wseq ?_
    refine wblock ?_
    refine wseq ?_
    refine wreg fun K hK => ?_
    simp [C.impl_DivideLaurents, fS, hif, tS_0 hif, tS_1 hif]
    refine hK _ ?_; clear hK K
    show AWp _ _ _ _ _
    obtain ⟨a0, a1, a2, a3, a4, a5, a6, a7, hpa⟩ := eight (pad_length (e := f.ts[i].e) (by omega))
    have hval := hLJ.val hT.1 (c := f.ts[i].c) (X := 1000000) (by omega) (by omega)
    rw [hpa] at hval
    refine wdrawI [(true, 0), (true, 1), (true, 2), (true, 4), (true, 5), (false, 3), (false, 6)] ⟨by kernel_rfl, by kernel_rfl⟩ ([0, 1, 2, 4, 5, 3] ++ ([6] ++ ([]))) rfl fun K hK => ?_
    refine opsI_seg fun L hL => ?_
    simp [C.impl_DivideLaurents, fS, tS]
    refine wcall1 (impl_keyOf_calls f.ts[i].e (by omega) a0 a1 a2 a3 a4 a5 a6 a7 hpa) (by simp) (by simp) ?_
    simp [C.impl_DivideLaurents, fS, tS]
    refine hL _ ?_; clear hL L
    refine opsI_seg fun L hL => ?_
    simp [C.impl_DivideLaurents, fS, tS]
    refine wcall1 (impl_building_add_calls n f.ts[i].c es a0 a1 a2 a3 a4 a5 a6 a7 (hLJ.map.len8 hv) hval) (by simp) (by simp) ?_
    simp [C.impl_DivideLaurents, fS, tS]
    refine hL _ ?_; clear hL L
    refine opsI_end fun L hL => ?_
    simp only [AOpsI]
    refine hL _ ?_; clear hL L
    simp [C.impl_DivideLaurents, fS, tS]
    rw [← hpa]
    refine hK _ ?_; clear hK K
    show AWp _ _ _ _ _
    refine wreg fun K hK => ?_
    simp [C.impl_DivideLaurents, fS, wrap_succ (show i < 4611686018427387904 by omega)]
    refine hK _ ?_; clear hK K
    simp [C.impl_DivideLaurents, fS]
    refine cast (congrArg R1 ?_) (hR1 (i + 1, madd es (pad f.ts[i].e) f.ts[i].c, (f.ts[i].e, f.ts[i].c) :: l) ⟨hif, ?_, ?_⟩ (by dsimp only; omega))
    · simp [fS, hn]
    · have := hLJ.add hT.1 (c := f.ts[i].c) (X := 1000000) (by omega)
      dsimp only
      rwa [Nat.add_mul, Nat.one_mul]
    · dsimp only
      rw [List.take_succ_eq_append_getElem (by simpa using hif)]
      refine (List.Perm.cons _ hP).trans ?_
      simp only [List.getElem_map, pr]
      exact (List.perm_append_singleton _ _).symm
  · have hif : i = f.ts.length := by have := d_f hc2; omega
    have hall : l.Perm (f.ts.map pr) := by
      rw [List.take_of_length_le (by simp; omega)] at hP
      exact hP
    refine wexit ?_
    refine cast (congrArg (Q0 (.exit 0)) ?_) (hX0 es l (hLJ.mono (by rw [hif]; omega)) hall)
    simp [fS, hn, hif]

theorem impl_DivideLaurents_r21 (f g : Lau) (n : Nat) (hn : f.v = n) (es eo P rest : List (List Int × Int)) (k0 k1 k2 k3 k4 k5 k6 k7 t0 t1 t2 t3 t4 t5 t6 t7 xc : Int) (i : Nat) (i0 : Nat) (Q0 : AEx → St → Prop) (hJ0 : Q0 .normal ⟨ofL [(2, .pt (2, 0) [] 0), (3, .pt (3, 0) [] 0), (4, .pt (4, 0) [] 0), (6, .pt (6, 0) [] 0), (9, .pt (9, 0) [] 0), (10, .pt (10, 0) [] 0), (11, .pt (11, 0) [] 0), (12, .bool (decide (P = []))), (13, .pt (13, 0) [] 0), (65, .it (65, 0) (6, 0) [1] (rest.eraseIdx i) (some ([k0, k1, k2, k3, k4, k5, k6, k7], xc))), (76, .bool (decide (P = [] ∨ lexlt [t0, t1, t2, t3, t4, t5, t6, t7] [k0, k1, k2, k3, k4, k5, k6, k7] = true)))], ofRO [((2, 0), some (.bx (fS f))), ((3, 0), some (.bx (fS g))), ((4, 0), some (.bx [D.int 0, .v (.slice none 0 0)])), ((6, 0), some (.bx [D.int n, .mp es])), ((9, 0), some (.bx [D.int n, .mp eo])), ((10, 0), some (.bx [shI (leadE g), D.int (leadC g)])), ((11, 0), some (.bx [D.int t0, D.int t1, D.int t2, D.int t3, D.int t4, D.int t5, D.int t6, D.int t7])), ((13, 0), some (.bx [D.int k0, D.int k1, D.int k2, D.int k3, D.int k4, D.int k5, D.int k6, D.int k7])), ((65, 0), some .itr)]⟩) : AWp C.impl_DivideLaurents (codeAt Try.f13 [1, 1, 1, 1, 1, 1, 0, 0, 0, 1, 0, 1, 1, 0, 1, 0, 0, 1, 1, 0, 1, 0]) i0 Q0 ⟨ofL [(2, .pt (2, 0) [] 0), (3, .pt (3, 0) [] 0), (4, .pt (4, 0) [] 0), (6, .pt (6, 0) [] 0), (9, .pt (9, 0) [] 0), (10, .pt (10, 0) [] 0), (11, .pt (11, 0) [] 0), (12, .bool (decide (P = []))), (13, .pt (13, 0) [] 0), (65, .it (65, 0) (6, 0) [1] (rest.eraseIdx i) (some ([k0, k1, k2, k3, k4, k5, k6, k7], xc)))], ofRO [((2, 0), some (.bx (fS f))), ((3, 0), some (.bx (fS g))), ((4, 0), some (.bx [D.int 0, .v (.slice none 0 0)])), ((6, 0), some (.bx [D.int n, .mp es])), ((9, 0), some (.bx [D.int n, .mp eo])), ((10, 0), some (.bx [shI (leadE g), D.int (leadC g)])), ((11, 0), some (.bx [D.int t0, D.int t1, D.int t2, D.int t3, D.int t4, D.int t5, D.int t6, D.int t7])), ((13, 0), some (.bx [D.int k0, D.int k1, D.int k2, D.int k3, D.int k4, D.int k5, D.int k6, D.int k7])), ((65, 0), some .itr)]⟩ := by
  simp only [codeAt, Try.f13, walkCode]
  refine wdrawI [(true, 0), (true, 1), (true, 2), (true, 3), (false, 4), (true, 5), (true, 6)] ⟨by kernel_rfl, by kernel_rfl⟩ ([0, 1, 2, 3, 4] ++ ([5, 6])) rfl fun K hK => ?_
  have hJ : K ⟨ofL [(2, .pt (2, 0) [] 0), (3, .pt (3, 0) [] 0), (4, .pt (4, 0) [] 0), (6, .pt (6, 0) [] 0), (9, .pt (9, 0) [] 0), (10, .pt (10, 0) [] 0), (11, .pt (11, 0) [] 0), (12, .bool (decide (P = []))), (13, .pt (13, 0) [] 0), (65, .it (65, 0) (6, 0) [1] (rest.eraseIdx i) (some ([k0, k1, k2, k3, k4, k5, k6, k7], xc))), (76, .bool (decide (P = [] ∨ lexlt [t0, t1, t2, t3, t4, t5, t6, t7] [k0, k1, k2, k3, k4, k5, k6, k7] = true)))], ofRO [((2, 0), some (.bx (fS f))), ((3, 0), some (.bx (fS g))), ((4, 0), some (.bx [D.int 0, .v (.slice none 0 0)])), ((6, 0), some (.bx [D.int n, .mp es])), ((9, 0), some (.bx [D.int n, .mp eo])), ((10, 0), some (.bx [shI (leadE g), D.int (leadC g)])), ((11, 0), some (.bx [D.int t0, D.int t1, D.int t2, D.int t3, D.int t4, D.int t5, D.int t6, D.int t7])), ((13, 0), some (.bx [D.int k0, D.int k1, D.int k2, D.int k3, D.int k4, D.int k5, D.int k6, D.int k7])), ((65, 0), some .itr)]⟩ := by
    refine hK _ ?_; clear hK K
    exact hJ0
  clear hK
  by_cases hp : P = []
  · refine opsI_seg fun L hL => ?_
    simp [C.impl_DivideLaurents, fS, ints, sh8, hp]
    refine hL _ ?_; clear hL L
    refine opsI_end fun L hL => ?_
    simp [C.impl_DivideLaurents, fS, ints, sh8, hp]
    refine hL _ ?_; clear hL L
    simp [C.impl_DivideLaurents, fS, ints, sh8, hp]
    refine cast (congrArg K ?_) hJ
    simp [cmpL_gt, hn, fS, hp]
  · refine opsI_seg fun L hL => ?_
    simp [C.impl_DivideLaurents, fS, ints, sh8, hp]
    refine wcall1 (slices_Compare_int_int_calls [k0, k1, k2, k3, k4, k5, k6, k7] [t0, t1, t2, t3, t4, t5, t6, t7] (by simp)) (by simp [fS, ints, sh8]) (by simp) ?_
    simp [C.impl_DivideLaurents, fS, ints, sh8, hp]
    refine hL _ ?_; clear hL L
    refine opsI_end fun L hL => ?_
    simp [C.impl_DivideLaurents, fS, ints, sh8, hp]
    refine hL _ ?_; clear hL L
    simp [C.impl_DivideLaurents, fS, ints, sh8, hp]
    refine cast (congrArg K ?_) hJ
    simp [cmpL_gt, hn, fS, hp]

theorem impl_DivideLaurents_l3 (f g : Lau) (n : Nat) (hn : f.v = n) (es eo : List (List Int × Int)) (hm8 : mapLen 8 es) (Q0 : AEx → St → Prop) (hX0 : ∀ P top cur, P.Perm es → TopJ P top → Q0 (.exit 4) ⟨ofL [(2, .pt (2, 0) [] 0), (3, .pt (3, 0) [] 0), (4, .pt (4, 0) [] 0), (6, .pt (6, 0) [] 0), (9, .pt (9, 0) [] 0), (10, .pt (10, 0) [] 0), (11, .pt (11, 0) [] 0), (12, .bool (decide (P = []))), (65, .it (65, 0) (6, 0) [1] [] cur), (67, .bool false)], ofRO [((2, 0), some (.bx (fS f))), ((3, 0), some (.bx (fS g))), ((4, 0), some (.bx [D.int 0, .v (.slice none 0 0)])), ((6, 0), some (.bx [D.int n, .mp es])), ((9, 0), some (.bx [D.int n, .mp eo])), ((10, 0), some (.bx [shI (leadE g), D.int (leadC g)])), ((11, 0), some (.bx (ints top))), ((65, 0), some .itr)]⟩) : AWp C.impl_DivideLaurents (codeAt Try.f13 [1, 1, 1, 1, 1, 1, 0, 0, 0, 1, 0, 1, 1, 0, 1, 0]) 4 Q0 ⟨ofL [(2, .pt (2, 0) [] 0), (3, .pt (3, 0) [] 0), (4, .pt (4, 0) [] 0), (6, .pt (6, 0) [] 0), (9, .pt (9, 0) [] 0), (10, .pt (10, 0) [] 0), (11, .pt (11, 0) [] 0), (12, .bool (decide (([] : List (List Int × Int)) = []))), (65, .it (65, 0) (6, 0) [1] es none)], ofRO [((2, 0), some (.bx (fS f))), ((3, 0), some (.bx (fS g))), ((4, 0), some (.bx [D.int 0, .v (.slice none 0 0)])), ((6, 0), some (.bx [D.int n, .mp es])), ((9, 0), some (.bx [D.int n, .mp eo])), ((10, 0), some (.bx [shI (leadE g), D.int (leadC g)])), ((11, 0), some (.bx (ints [0, 0, 0, 0, 0, 0, 0, 0]))), ((65, 0), some .itr)]⟩ := by
  simp only [codeAt, Try.f13, walkCode]
  refine wloop (fun x : List (List Int × Int) × List Int × List (List Int × Int) × Option (List Int × Int) => ⟨ofL [(2, .pt (2, 0) [] 0), (3, .pt (3, 0) [] 0), (4, .pt (4, 0) [] 0), (6, .pt (6, 0) [] 0), (9, .pt (9, 0) [] 0), (10, .pt (10, 0) [] 0), (11, .pt (11, 0) [] 0), (12, .bool (decide (x.1 = []))), (65, .it (65, 0) (6, 0) [1] x.2.2.1 x.2.2.2)], ofRO [((2, 0), some (.bx (fS f))), ((3, 0), some (.bx (fS g))), ((4, 0), some (.bx [D.int 0, .v (.slice none 0 0)])), ((6, 0), some (.bx [D.int n, .mp es])), ((9, 0), some (.bx [D.int n, .mp eo])), ((10, 0), some (.bx [shI (leadE g), D.int (leadC g)])), ((11, 0), some (.bx (ints x.2.1))), ((65, 0), some .itr)]⟩) (fun x => (x.1 ++ x.2.2.1).Perm es ∧ TopJ x.1 x.2.1) (fun x => x.2.2.1.length) ([], [0, 0, 0, 0, 0, 0, 0, 0], es, none) (by simp [C.impl_DivideLaurents, fS, hn, ints]) ⟨by simp, ⟨rfl, by simp, by simp⟩⟩ ?_
  intro x3 hx3 R3 hR3
  obtain ⟨P, top, rest, cur⟩ := x3
  obtain ⟨hq, hT⟩ := hx3
  dsimp only at hq hT ⊢
  refine wseq ?_
  refine wreg fun K hK => ?_
  simp [C.impl_DivideLaurents, fS]
  refine ⟨fun hrest => ?_, fun i xk xc hxi => ?_⟩
  · refine hK _ ?_; clear hK K
    show AWp _ _ _ _ _
    refine wseq ?_
    refine wcond _ rfl (fun hc4 => ?_) (fun hc4 => ?_)
    · simp at hc4
    · subst hrest
      have hqe : P.Perm es := by simpa using hq
      refine wexit ?_
      refine cast (congrArg (Q0 (.exit 4)) ?_) (hX0 P top cur hqe hT)
      simp [fS, hn]
  · refine hK _ ?_; clear hK K
    show AWp _ _ _ _ _
    refine wseq ?_
    refine wcond _ rfl (fun hc6 => ?_) (fun hc6 => ?_)
    · have hxm : (xk, xc) ∈ rest := List.mem_of_getElem? hxi
      have hxl := hm8 _ (hq.subset (List.mem_append_right P hxm))
      dsimp only at hxl
      obtain ⟨k0, k1, k2, k3, k4, k5, k6, k7, rfl⟩ := eight hxl
      obtain ⟨t0, t1, t2, t3, t4, t5, t6, t7, rfl⟩ := eight hT.len
      have hil : i < rest.length := by
        rcases Nat.lt_or_ge i rest.length with h | h
        · exact h
        · rw [List.getElem?_eq_none h] at hxi; simp at hxi
      have hper : (P ++ [([k0, k1, k2, k3, k4, k5, k6, k7], xc)] ++ rest.eraseIdx i).Perm es := by
        have hget : rest[i] = ([k0, k1, k2, k3, k4, k5, k6, k7], xc) := by
          rw [List.getElem?_eq_getElem hil] at hxi
          injection hxi
        have h9 := erase_perm rest i hil
        rw [hget] at h9
        refine List.Perm.trans ?_ hq
        rw [List.append_assoc]
        exact List.Perm.append_left _ h9
      refine wskip ?_
      show AWp _ _ _ _ _
      refine wblock ?_
      refine wseq ?_
      refine wreg fun K hK => ?_
      simp [C.impl_DivideLaurents, fS, ints]
      refine hK _ ?_; clear hK K
      show AWp _ _ _ _ _
      refine wseq ?_
      refine wcode (c' := codeAt Try.f13 [1, 1, 1, 1, 1, 1, 0, 0, 0, 1, 0, 1, 1, 0, 1, 0, 0, 1, 1, 0, 1, 0]) (by kernel_rfl) ?_
      refine impl_DivideLaurents_r21 f g n hn es eo P rest k0 k1 k2 k3 k4 k5 k6 k7 t0 t1 t2 t3 t4 t5 t6 t7 xc i _ _ ?_
      show AWp _ _ _ _ _
      refine wcond _ rfl (fun hc7 => ?_) (fun hc7 => ?_)
      · have hcm := d_t hc7
        refine wreg fun K hK => ?_
        simp [C.impl_DivideLaurents, fS]
        refine hK _ ?_; clear hK K
        simp [C.impl_DivideLaurents, fS]
        refine cast (congrArg R3 ?_) (hR3 (P ++ [([k0, k1, k2, k3, k4, k5, k6, k7], xc)], [k0, k1, k2, k3, k4, k5, k6, k7], rest.eraseIdx i, some ([k0, k1, k2, k3, k4, k5, k6, k7], xc)) ⟨hper, hT.next rfl hcm⟩ (by dsimp only; rw [List.length_eraseIdx_of_lt hil]; omega))
        simp [fS, hn, ints]
      · have hcm := d_f hc7
        have hPn : P ≠ [] := fun e => hcm (.inl e)
        have hlt : lexlt [t0, t1, t2, t3, t4, t5, t6, t7] [k0, k1, k2, k3, k4, k5, k6, k7] = false := by
          cases hh : lexlt [t0, t1, t2, t3, t4, t5, t6, t7] [k0, k1, k2, k3, k4, k5, k6, k7] with
          | false => rfl
          | true => exact absurd (.inr hh) hcm
        refine wskip ?_
        simp [C.impl_DivideLaurents, fS]
        refine cast (congrArg R3 ?_) (hR3 (P ++ [([k0, k1, k2, k3, k4, k5, k6, k7], xc)], [t0, t1, t2, t3, t4, t5, t6, t7], rest.eraseIdx i, some ([k0, k1, k2, k3, k4, k5, k6, k7], xc)) ⟨hper, hT.keep hPn hlt⟩ (by dsimp only; rw [List.length_eraseIdx_of_lt hil]; omega))
        simp [fS, hn, ints, hPn]
    · simp at hc6

theorem impl_DivideLaurents_r24 (f g : Lau) (n : Nat) (es eo : List (List Int × Int)) (a0 a1 a2 a3 a4 a5 a6 a7 b0 b1 b2 b3 b4 b5 b6 b7 c : Int) (hgl8 : (leadE g).length ≤ 8) (hpb : pad (leadE g) = [b0, b1, b2, b3, b4, b5, b6, b7]) (hba : ∀ x ∈ [a0, a1, a2, a3, a4, a5, a6, a7], -1000000 ≤ x ∧ x ≤ 1000000) (hbb : ∀ x ∈ [b0, b1, b2, b3, b4, b5, b6, b7], -1000000 ≤ x ∧ x ≤ 1000000) (i0 : Nat) (Q0 : AEx → St → Prop) (hJ0 : Q0 .normal ⟨ofL [(2, .pt (2, 0) [] 0), (3, .pt (3, 0) [] 0), (4, .pt (4, 0) [] 0), (6, .pt (6, 0) [] 0), (9, .pt (9, 0) [] 0), (10, .pt (10, 0) [] 0), (14, .int c), (15, .pt (15, 0) [] 0)], ofRO [((2, 0), some (.bx (fS f))), ((3, 0), some (.bx (fS g))), ((4, 0), some (.bx [D.int 0, .v (.slice none 0 0)])), ((6, 0), some (.bx [D.int n, .mp es])), ((9, 0), some (.bx [D.int n, .mp eo])), ((10, 0), some (.bx [shI (leadE g), D.int (leadC g)])), ((15, 0), some (.bx [D.int (a0 + -1 * b0), D.int (a1 + -1 * b1), D.int (a2 + -1 * b2), D.int (a3 + -1 * b3), D.int (a4 + -1 * b4), D.int (a5 + -1 * b5), D.int (a6 + -1 * b6), D.int (a7 + -1 * b7)]))]⟩) : AWp C.impl_DivideLaurents (codeAt Try.f13 [1, 1, 1, 1, 1, 1, 0, 0, 0, 1, 0, 1, 1, 1, 1, 0]) i0 Q0 ⟨ofL [(2, .pt (2, 0) [] 0), (3, .pt (3, 0) [] 0), (4, .pt (4, 0) [] 0), (6, .pt (6, 0) [] 0), (9, .pt (9, 0) [] 0), (10, .pt (10, 0) [] 0), (11, .pt (11, 0) [] 0), (14, .int c)], ofRO [((2, 0), some (.bx (fS f))), ((3, 0), some (.bx (fS g))), ((4, 0), some (.bx [D.int 0, .v (.slice none 0 0)])), ((6, 0), some (.bx [D.int n, .mp es])), ((9, 0), some (.bx [D.int n, .mp eo])), ((10, 0), some (.bx [shI (leadE g), D.int (leadC g)])), ((11, 0), some (.bx (ints [a0, a1, a2, a3, a4, a5, a6, a7])))]⟩ := by
  simp only [codeAt, Try.f13, walkCode]
  refine wdraw (.take 0 (.take 1 (.take 2 (.all [(3, .all [(4, .all [(5, .all [(6, .done)])]), (5, .all [(4, .all [(6, .done)])])]), (5, .all [(3, .all [(4, .all [(6, .done)])])])])))) ⟨by kernel_rfl, by kernel_rfl⟩ fun K hK => ?_
  have hJ : K ⟨ofL [(2, .pt (2, 0) [] 0), (3, .pt (3, 0) [] 0), (4, .pt (4, 0) [] 0), (6, .pt (6, 0) [] 0), (9, .pt (9, 0) [] 0), (10, .pt (10, 0) [] 0), (14, .int c), (15, .pt (15, 0) [] 0)], ofRO [((2, 0), some (.bx (fS f))), ((3, 0), some (.bx (fS g))), ((4, 0), some (.bx [D.int 0, .v (.slice none 0 0)])), ((6, 0), some (.bx [D.int n, .mp es])), ((9, 0), some (.bx [D.int n, .mp eo])), ((10, 0), some (.bx [shI (leadE g), D.int (leadC g)])), ((15, 0), some (.bx [D.int (a0 + -1 * b0), D.int (a1 + -1 * b1), D.int (a2 + -1 * b2), D.int (a3 + -1 * b3), D.int (a4 + -1 * b4), D.int (a5 + -1 * b5), D.int (a6 + -1 * b6), D.int (a7 + -1 * b7)]))]⟩ := by
    refine hK _ ?_; clear hK K
    exact hJ0
  clear hK
  have hk1 := impl_keyOf_calls (leadE g) (by omega) b0 b1 b2 b3 b4 b5 b6 b7 hpb
  have hk2 := impl_plusExp_calls (-1) a0 a1 a2 a3 a4 a5 a6 a7 b0 b1 b2 b3 b4 b5 b6 b7 (by omega) hba hbb
  simp [C.impl_DivideLaurents, fS, ints]
  repeat' first
    | (refine wcall1 hk1 (by simp) (by simp) ?_; simp [C.impl_DivideLaurents, fS])
    | (refine wcall1 hk2 (by simp) (by simp) ?_; simp [C.impl_DivideLaurents, fS])
    | (refine cast (congrArg K ?_) hJ; simp [fS]; done)
    | refine ⟨?_, ?_⟩

theorem impl_DivideLaurents_r26 (f g : Lau) (n : Nat) (hn : f.v = n) (hv : n ≤ 8) (es eo O : List (List Int × Int)) (E : List Int) (e0 e1 e2 e3 e4 e5 e6 e7 c q : Int) (hgc0 : leadC g ≠ 0) (hsh : shareL (List.take n [D.v (.int .i64 e0), D.v (.int .i64 e1), D.v (.int .i64 e2), D.v (.int .i64 e3), D.v (.int .i64 e4), D.v (.int .i64 e5), D.v (.int .i64 e6), D.v (.int .i64 e7)]) = ints E) (hEl : E.length = n) (heol : eo.length = O.length) (i0 : Nat) (Q0 : AEx → St → Prop) (hJ0 : Q0 .normal ⟨ofL [(2, .pt (2, 0) [] 0), (3, .pt (3, 0) [] 0), (4, .pt (4, 0) [] 0), (6, .pt (6, 0) [] 0), (9, .pt (9, 0) [] 0), (10, .pt (10, 0) [] 0), (15, .pt (15, 0) [] 0), (16, .int q), (119, .bool (!decide (((c.tmod (leadC g) = 0 ∧ okE E n = true) ∧ (q ≠ 0 ∧ -1000000 ≤ q ∧ q ≤ 1000000)) ∧ ¬ O.length = 600)))], ofRO [((2, 0), some (.bx (fS f))), ((3, 0), some (.bx (fS g))), ((4, 0), some (.bx [D.int 0, .v (.slice none 0 0)])), ((6, 0), some (.bx [D.int n, .mp es])), ((9, 0), some (.bx [D.int n, .mp eo])), ((10, 0), some (.bx [shI (leadE g), D.int (leadC g)])), ((15, 0), some (.bx [D.int e0, D.int e1, D.int e2, D.int e3, D.int e4, D.int e5, D.int e6, D.int e7]))]⟩) : AWp C.impl_DivideLaurents (codeAt Try.f13 [1, 1, 1, 1, 1, 1, 0, 0, 0, 1, 0, 1, 1, 1, 1, 1, 1, 0, 0]) i0 Q0 ⟨ofL [(2, .pt (2, 0) [] 0), (3, .pt (3, 0) [] 0), (4, .pt (4, 0) [] 0), (6, .pt (6, 0) [] 0), (9, .pt (9, 0) [] 0), (10, .pt (10, 0) [] 0), (14, .int c), (15, .pt (15, 0) [] 0), (16, .int q)], ofRO [((2, 0), some (.bx (fS f))), ((3, 0), some (.bx (fS g))), ((4, 0), some (.bx [D.int 0, .v (.slice none 0 0)])), ((6, 0), some (.bx [D.int n, .mp es])), ((9, 0), some (.bx [D.int n, .mp eo])), ((10, 0), some (.bx [shI (leadE g), D.int (leadC g)])), ((15, 0), some (.bx [D.int e0, D.int e1, D.int e2, D.int e3, D.int e4, D.int e5, D.int e6, D.int e7]))]⟩ := by
  simp only [codeAt, Try.f13, walkCode]
  refine wdrawI [(true, 0), (true, 1), (true, 2), (true, 3), (true, 4), (true, 5), (true, 6), (true, 7), (true, 8), (true, 9), (true, 10), (false, 11), (true, 12), (true, 13), (true, 14), (true, 15), (false, 16), (true, 17), (true, 18), (true, 19), (true, 20), (true, 21), (true, 22), (true, 23), (true, 24), (true, 25), (true, 26)] ⟨by kernel_rfl, by kernel_rfl⟩ ([0, 1, 2, 3, 4, 5, 6, 7, 8, 9, 10, 11] ++ ([12, 13, 14, 15, 16] ++ ([17, 18, 19, 20, 21, 22, 23, 24, 25, 26]))) rfl fun K hK => ?_
  have hJ : K ⟨ofL [(2, .pt (2, 0) [] 0), (3, .pt (3, 0) [] 0), (4, .pt (4, 0) [] 0), (6, .pt (6, 0) [] 0), (9, .pt (9, 0) [] 0), (10, .pt (10, 0) [] 0), (15, .pt (15, 0) [] 0), (16, .int q), (119, .bool (!decide (((c.tmod (leadC g) = 0 ∧ okE E n = true) ∧ (q ≠ 0 ∧ -1000000 ≤ q ∧ q ≤ 1000000)) ∧ ¬ O.length = 600)))], ofRO [((2, 0), some (.bx (fS f))), ((3, 0), some (.bx (fS g))), ((4, 0), some (.bx [D.int 0, .v (.slice none 0 0)])), ((6, 0), some (.bx [D.int n, .mp es])), ((9, 0), some (.bx [D.int n, .mp eo])), ((10, 0), some (.bx [shI (leadE g), D.int (leadC g)])), ((15, 0), some (.bx [D.int e0, D.int e1, D.int e2, D.int e3, D.int e4, D.int e5, D.int e6, D.int e7]))]⟩ := by
    refine hK _ ?_; clear hK K
    exact hJ0
  clear hK
  by_cases g1 : c.tmod (leadC g) = 0
  · by_cases g2 : okE E n = true
    · by_cases g3 : (q ≠ 0 ∧ -1000000 ≤ q ∧ q ≤ 1000000)
      · refine opsI_seg fun L hL => ?_
        simp [C.impl_DivideLaurents, fS, hgc0, hn, show ((n : Int) ≤ 8) by omega, hv, Nat.min_eq_left hv, hsh, hEl, heol, g1, g2, g3]
        refine wcall1 (impl_expOk_calls E n (by omega)) (by simp [fS, hgc0, hn, show ((n : Int) ≤ 8) by omega, hv, Nat.min_eq_left hv, hsh, hEl, heol]) (by simp) ?_
        simp [C.impl_DivideLaurents, fS, hgc0, hn, show ((n : Int) ≤ 8) by omega, hv, Nat.min_eq_left hv, hsh, hEl, heol, g1, g2, g3]
        refine hL _ ?_; clear hL L
        refine opsI_seg fun L hL => ?_
        simp [C.impl_DivideLaurents, fS, hgc0, hn, show ((n : Int) ≤ 8) by omega, hv, Nat.min_eq_left hv, hsh, hEl, heol, g1, g2, g3]
        refine wcall1 (impl_coefOk_calls q) (by simp) (by simp) ?_
        simp [C.impl_DivideLaurents, fS, hgc0, hn, show ((n : Int) ≤ 8) by omega, hv, Nat.min_eq_left hv, hsh, hEl, heol, g1, g2, g3]
        refine hL _ ?_; clear hL L
        refine opsI_end fun L hL => ?_
        simp [C.impl_DivideLaurents, fS, hgc0, hn, show ((n : Int) ≤ 8) by omega, hv, Nat.min_eq_left hv, hsh, hEl, heol, g1, g2, g3]
        refine hL _ ?_; clear hL L
        simp [C.impl_DivideLaurents, fS, hgc0, hn, show ((n : Int) ≤ 8) by omega, hv, Nat.min_eq_left hv, hsh, hEl, heol, g1, g2, g3]
        refine cast (congrArg K ?_) hJ
        simp [ieq600, hn, fS, g1, g2, g3]
      · refine opsI_seg fun L hL => ?_
        simp [C.impl_DivideLaurents, fS, hgc0, hn, show ((n : Int) ≤ 8) by omega, hv, Nat.min_eq_left hv, hsh, hEl, heol, g1, g2, g3]
        refine wcall1 (impl_expOk_calls E n (by omega)) (by simp [fS, hgc0, hn, show ((n : Int) ≤ 8) by omega, hv, Nat.min_eq_left hv, hsh, hEl, heol]) (by simp) ?_
        simp [C.impl_DivideLaurents, fS, hgc0, hn, show ((n : Int) ≤ 8) by omega, hv, Nat.min_eq_left hv, hsh, hEl, heol, g1, g2, g3]
        refine hL _ ?_; clear hL L
        refine opsI_seg fun L hL => ?_
        simp [C.impl_DivideLaurents, fS, hgc0, hn, show ((n : Int) ≤ 8) by omega, hv, Nat.min_eq_left hv, hsh, hEl, heol, g1, g2, g3]
        refine wcall1 (impl_coefOk_calls q) (by simp) (by simp) ?_
        simp [C.impl_DivideLaurents, fS, hgc0, hn, show ((n : Int) ≤ 8) by omega, hv, Nat.min_eq_left hv, hsh, hEl, heol, g1, g2, g3]
        refine hL _ ?_; clear hL L
        refine opsI_end fun L hL => ?_
        simp [C.impl_DivideLaurents, fS, hgc0, hn, show ((n : Int) ≤ 8) by omega, hv, Nat.min_eq_left hv, hsh, hEl, heol, g1, g2, g3]
        refine hL _ ?_; clear hL L
        simp [C.impl_DivideLaurents, fS, hgc0, hn, show ((n : Int) ≤ 8) by omega, hv, Nat.min_eq_left hv, hsh, hEl, heol, g1, g2, g3]
        refine cast (congrArg K ?_) hJ
        simp [ieq600, hn, fS, g1, g2, g3]
    · refine opsI_seg fun L hL => ?_
      simp [C.impl_DivideLaurents, fS, hgc0, hn, show ((n : Int) ≤ 8) by omega, hv, Nat.min_eq_left hv, hsh, hEl, heol, g1, g2]
      refine wcall1 (impl_expOk_calls E n (by omega)) (by simp [fS, hgc0, hn, show ((n : Int) ≤ 8) by omega, hv, Nat.min_eq_left hv, hsh, hEl, heol]) (by simp) ?_
      simp [C.impl_DivideLaurents, fS, hgc0, hn, show ((n : Int) ≤ 8) by omega, hv, Nat.min_eq_left hv, hsh, hEl, heol, g1, g2]
      refine hL _ ?_; clear hL L
      refine opsI_seg fun L hL => ?_
      simp [C.impl_DivideLaurents, fS, hgc0, hn, show ((n : Int) ≤ 8) by omega, hv, Nat.min_eq_left hv, hsh, hEl, heol, g1, g2]
      refine hL _ ?_; clear hL L
      refine opsI_end fun L hL => ?_
      simp [C.impl_DivideLaurents, fS, hgc0, hn, show ((n : Int) ≤ 8) by omega, hv, Nat.min_eq_left hv, hsh, hEl, heol, g1, g2]
      refine hL _ ?_; clear hL L
      simp [C.impl_DivideLaurents, fS, hgc0, hn, show ((n : Int) ≤ 8) by omega, hv, Nat.min_eq_left hv, hsh, hEl, heol, g1, g2]
      refine cast (congrArg K ?_) hJ
      simp [ieq600, hn, fS, g1, g2]
  · refine opsI_seg fun L hL => ?_
    simp [C.impl_DivideLaurents, fS, hgc0, hn, show ((n : Int) ≤ 8) by omega, hv, Nat.min_eq_left hv, hsh, hEl, heol, g1]
    refine hL _ ?_; clear hL L
    refine opsI_seg fun L hL => ?_
    simp [C.impl_DivideLaurents, fS, hgc0, hn, show ((n : Int) ≤ 8) by omega, hv, Nat.min_eq_left hv, hsh, hEl, heol, g1]
    refine hL _ ?_; clear hL L
    refine opsI_end fun L hL => ?_
    simp [C.impl_DivideLaurents, fS, hgc0, hn, show ((n : Int) ≤ 8) by omega, hv, Nat.min_eq_left hv, hsh, hEl, heol, g1]
    refine hL _ ?_; clear hL L
    simp [C.impl_DivideLaurents, fS, hgc0, hn, show ((n : Int) ≤ 8) by omega, hv, Nat.min_eq_left hv, hsh, hEl, heol, g1]
    refine cast (congrArg K ?_) hJ
    simp [ieq600, hn, fS, g1]

theorem impl_DivideLaurents_l4 (f g : Lau) (n : Nat) (hn : f.v = n) (hgn : g.v = n) (hv : n ≤ 8) (hg : Right g) (hgl : g.ts.length ≤ 600) (es l eo2 O : List (List Int × Int)) (hOl : O.length ≤ 600) (hLr : LJ n es l (600000000 + O.length * 600000000000000)) (E : List Int) (hEl : E.length = n) (e0 e1 e2 e3 e4 e5 e6 e7 q : Int) (hpe : pad E = [e0, e1, e2, e3, e4, e5, e6, e7]) (hbe : ∀ x ∈ [e0, e1, e2, e3, e4, e5, e6, e7], -1000000 ≤ x ∧ x ≤ 1000000) (g3 : q ≠ 0 ∧ -1000000 ≤ q ∧ q ≤ 1000000) (Q0 : AEx → St → Prop) (hX0 : ∀ es2 l2, LJ n es2 l2 (600000000 + O.length * 600000000000000 + 600000000000000) → l2.Perm (l ++ negT E q g.ts) → Q0 (.exit 6) ⟨ofL [(2, .pt (2, 0) [] 0), (3, .pt (3, 0) [] 0), (4, .pt (4, 0) [] 0), (6, .pt (6, 0) [] 0), (9, .pt (9, 0) [] 0), (10, .pt (10, 0) [] 0), (15, .pt (15, 0) [] 0), (16, .int q), (126, .d (.sh 2 g.ts.length (rows tS g.ts))), (127, .int g.ts.length), (128, .int g.ts.length), (129, .bool false)], ofRO [((2, 0), some (.bx (fS f))), ((3, 0), some (.bx (fS g))), ((4, 0), some (.bx [D.int 0, .v (.slice none 0 0)])), ((6, 0), some (.bx [D.int n, .mp es2])), ((9, 0), some (.bx [D.int n, .mp eo2])), ((10, 0), some (.bx [shI (leadE g), D.int (leadC g)])), ((15, 0), some (.bx [D.int e0, D.int e1, D.int e2, D.int e3, D.int e4, D.int e5, D.int e6, D.int e7]))]⟩) : AWp C.impl_DivideLaurents (codeAt Try.f13 [1, 1, 1, 1, 1, 1, 0, 0, 0, 1, 0, 1, 1, 1, 1, 1, 1, 1, 1, 1, 0]) 6 Q0 ⟨ofL [(2, .pt (2, 0) [] 0), (3, .pt (3, 0) [] 0), (4, .pt (4, 0) [] 0), (6, .pt (6, 0) [] 0), (9, .pt (9, 0) [] 0), (10, .pt (10, 0) [] 0), (15, .pt (15, 0) [] 0), (16, .int q), (126, .d (.sh 2 g.ts.length (rows tS g.ts))), (127, .int g.ts.length), (128, .int 0)], ofRO [((2, 0), some (.bx (fS f))), ((3, 0), some (.bx (fS g))), ((4, 0), some (.bx [D.int 0, .v (.slice none 0 0)])), ((6, 0), some (.bx [D.int n, .mp es])), ((9, 0), some (.bx [D.int n, .mp eo2])), ((10, 0), some (.bx [shI (leadE g), D.int (leadC g)])), ((15, 0), some (.bx [D.int e0, D.int e1, D.int e2, D.int e3, D.int e4, D.int e5, D.int e6, D.int e7]))]⟩ := by
  simp only [codeAt, Try.f13, walkCode]
  refine wloop (fun x : Nat × List (List Int × Int) × List (List Int × Int) => ⟨ofL [(2, .pt (2, 0) [] 0), (3, .pt (3, 0) [] 0), (4, .pt (4, 0) [] 0), (6, .pt (6, 0) [] 0), (9, .pt (9, 0) [] 0), (10, .pt (10, 0) [] 0), (15, .pt (15, 0) [] 0), (16, .int q), (126, .d (.sh 2 g.ts.length (rows tS g.ts))), (127, .int g.ts.length), (128, .int x.1)], ofRO [((2, 0), some (.bx (fS f))), ((3, 0), some (.bx (fS g))), ((4, 0), some (.bx [D.int 0, .v (.slice none 0 0)])), ((6, 0), some (.bx [D.int n, .mp x.2.1])), ((9, 0), some (.bx [D.int n, .mp eo2])), ((10, 0), some (.bx [shI (leadE g), D.int (leadC g)])), ((15, 0), some (.bx [D.int e0, D.int e1, D.int e2, D.int e3, D.int e4, D.int e5, D.int e6, D.int e7]))]⟩) (fun x => x.1 ≤ g.ts.length ∧ LJ n x.2.1 x.2.2 (600000000 + O.length * 600000000000000 + x.1 * 1000000000000) ∧ x.2.2.Perm (l ++ negT E q (g.ts.take x.1))) (fun x => g.ts.length - x.1) (0, es, l) (by simp [C.impl_DivideLaurents, fS, hn, hgn, hpe]) ⟨by simp, hLr.mono (by dsimp only; omega), by simp [negT]⟩ ?_
  intro x4 hx4 R4 hR4
  obtain ⟨j, es2, l2⟩ := x4
  obtain ⟨hj, hL2, hP2⟩ := hx4
  dsimp only at hj hL2 hP2 ⊢
  refine wseq ?_
  refine wreg fun K hK => ?_
  simp [C.impl_DivideLaurents, fS]
  refine hK _ ?_; clear hK K
  show AWp _ _ _ _ _
  refine wseq ?_
  refine wcond _ rfl (fun hc9 => ?_) (fun hc9 => ?_)
  · have hjg : j < g.ts.length := by have := d_t hc9; omega
    have hU := right_dig hg hgn _ (List.getElem_mem hjg)
    refine wskip ?_
    show AWp _ _ _ _ _
    refine wseq ?_
    refine wblock ?_
    refine wseq ?_
    refine wreg fun K hK => ?_
    simp [C.impl_DivideLaurents, fS, hjg, tS_0 hjg, tS_1 hjg]
    refine hK _ ?_; clear hK K
    show AWp _ _ _ _ _
    obtain ⟨u0, u1, u2, u3, u4, u5, u6, u7, hpu⟩ := eight (pad_length (e := g.ts[j].e) (by omega))
    have hbu := pad_bd hU.2.2.1
    rw [hpu] at hbu
    have hadd : [e0 + 1 * u0, e1 + 1 * u1, e2 + 1 * u2, e3 + 1 * u3, e4 + 1 * u4, e5 + 1 * u5, e6 + 1 * u6, e7 + 1 * u7] = pad (addE 1 E g.ts[j].e) := by
      rw [← pad_add (by omega), hpe, hpu]
      simp [addE]
    have hnl : (addE 1 E g.ts[j].e).length = n := by rw [addE_length _ _ _ (by omega)]; exact hEl
    have hcc := mul_bd (x := -q) (y := g.ts[j].c) (by omega) hU.2.2.2
    have hvj := hL2.val hnl (c := -q * g.ts[j].c) (X := 1000000000000) (by omega) (by omega)
    rw [← hadd] at hvj
    refine wdrawI [(true, 0), (true, 1), (true, 2), (true, 3), (true, 6), (true, 7), (true, 8), (true, 9), (true, 10), (false, 4), (false, 5), (false, 11)] ⟨by kernel_rfl, by kernel_rfl⟩ ([0, 1, 2, 3, 6, 7, 8, 9, 10, 4] ++ ([5] ++ ([11] ++ ([])))) rfl fun K hK => ?_
    refine opsI_seg fun L hL => ?_
    simp [C.impl_DivideLaurents, fS, tS, wrapOk (x := -q) (by omega) (by omega), wrapOk (x := -q * g.ts[j].c) (by omega) (by omega)]
    refine wcall1 (impl_keyOf_calls g.ts[j].e (by omega) u0 u1 u2 u3 u4 u5 u6 u7 hpu) (by simp) (by simp) ?_
    simp [C.impl_DivideLaurents, fS, tS, wrapOk (x := -q) (by omega) (by omega), wrapOk (x := -q * g.ts[j].c) (by omega) (by omega)]
    refine hL _ ?_; clear hL L
    refine opsI_seg fun L hL => ?_
    simp [C.impl_DivideLaurents, fS, tS, wrapOk (x := -q) (by omega) (by omega), wrapOk (x := -q * g.ts[j].c) (by omega) (by omega)]
    refine wcall1 (impl_plusExp_calls 1 e0 e1 e2 e3 e4 e5 e6 e7 u0 u1 u2 u3 u4 u5 u6 u7 (by omega) hbe hbu) (by simp) (by simp) ?_
    simp [C.impl_DivideLaurents, fS, tS, wrapOk (x := -q) (by omega) (by omega), wrapOk (x := -q * g.ts[j].c) (by omega) (by omega)]
    refine hL _ ?_; clear hL L
    refine opsI_seg fun L hL => ?_
    simp [C.impl_DivideLaurents, fS, tS, wrapOk (x := -q) (by omega) (by omega), wrapOk (x := -q * g.ts[j].c) (by omega) (by omega)]
    refine wcall1 (impl_building_add_calls n (-q * g.ts[j].c) es2 (e0 + 1 * u0) (e1 + 1 * u1) (e2 + 1 * u2) (e3 + 1 * u3) (e4 + 1 * u4) (e5 + 1 * u5) (e6 + 1 * u6) (e7 + 1 * u7) (hL2.map.len8 hv) hvj) (by simp) (by simp) ?_
    simp [C.impl_DivideLaurents, fS, tS, wrapOk (x := -q) (by omega) (by omega), wrapOk (x := -q * g.ts[j].c) (by omega) (by omega)]
    refine hL _ ?_; clear hL L
    refine opsI_end fun L hL => ?_
    simp only [AOpsI]
    refine hL _ ?_; clear hL L
    simp [C.impl_DivideLaurents, fS, tS, wrapOk (x := -q) (by omega) (by omega), wrapOk (x := -q * g.ts[j].c) (by omega) (by omega)]
    simp only [Int.one_mul] at hadd
    rw [hadd]
    refine hK _ ?_; clear hK K
    show AWp _ _ _ _ _
    refine wreg fun K hK => ?_
    simp [C.impl_DivideLaurents, fS, wrap_succ (show j < 4611686018427387904 by omega)]
    refine hK _ ?_; clear hK K
    simp [C.impl_DivideLaurents, fS]
    refine cast (congrArg R4 ?_) (hR4 (j + 1, madd es2 (pad (addE 1 E g.ts[j].e)) (-q * g.ts[j].c), (addE 1 E g.ts[j].e, -q * g.ts[j].c) :: l2) ⟨hjg, ?_, ?_⟩ (by dsimp only; omega))
    · simp [fS, hn, hgn]
    · have := hL2.add hnl (c := -q * g.ts[j].c) (X := 1000000000000) (by omega)
      exact this.mono (by dsimp only; omega)
    · dsimp only
      rw [negT_step hjg, ← List.append_assoc]
      exact (List.Perm.cons _ hP2).trans (List.perm_append_singleton _ _).symm
  · have hjg : j = g.ts.length := by have := d_f hc9; omega
    rw [hjg, List.take_length] at hP2
    refine wexit ?_
    refine cast (congrArg (Q0 (.exit 6)) ?_) (hX0 es2 l2 (hL2.mono (by omega)) hP2)
    simp [fS, hn, hgn, hjg]

theorem impl_DivideLaurents_calls (hDone : DoneOk) (f g : Lau) (hx : f.ts.length < 4611686018427387904) (hxe : ∀ t ∈ f.ts, t.e.length < 4611686018427387904) (hy : g.ts.length < 4611686018427387904) (hye : ∀ t ∈ g.ts, t.e.length < 4611686018427387904) : ACalls Try.prog F.impl_DivideLaurents [aF f, aF g] [] true (fun outs res => outs = [] ∧ WkRs res [.ag (fO (divF f g).1), .one (D.bool (divF f g).2)]) := by
  have hcall := impl_bothOk_calls f g hx hxe hy hye
  generalize hB : decide (Right f ∧ Right g ∧ f.v = g.v) = B at hcall
  refine ACalls.of_body (C := C.impl_DivideLaurents) (n := Try.f13.ntmps) tabT folT Try.func13 rfl (by kernel_rfl) rfl (Nat.le_of_ble_eq_true rfl) (by decide) (by kernel_rfl) (by kernel_rfl) rfl (by simp) (by simp) ?_
  simp only [Try.f13]
  refine wseq ?_
  refine wreg fun K hK => ?_
  simp [C.impl_DivideLaurents, fS]
  refine hK _ ?_; clear hK K
  show AWp _ _ _ _ _
  refine wseq ?_
  refine wseq ?_
  refine wregI ([0, 1, 2] ++ ([3, 4, 5, 6, 7, 8, 9])) rfl fun K hK => ?_
  have hJ : K ⟨ofL [(2, .pt (2, 0) [] 0), (3, .pt (3, 0) [] 0), (4, .pt (4, 0) [] 0), (28, .bool (!(B && !decide (g.ts = []))))], ofRO [((2, 0), some (.bx (fS f))), ((3, 0), some (.bx (fS g))), ((4, 0), some (.bx [D.int 0, .v (.slice none 0 0)]))]⟩ := by
    refine hK _ ?_; clear hK K
    show AWp _ _ _ _ _
    refine wcond _ rfl (fun hc1 => ?_) (fun hc1 => ?_)
    · have hr : ¬ ((Right f ∧ Right g ∧ f.v = g.v) ∧ g.ts ≠ []) := by
        rintro ⟨h1, h2⟩
        rw [← hB, decide_eq_true h1] at hc1
        simp [h2] at hc1
      have hm : divF f g = (zeroF, false) := if_neg hr
      refine wseq ?_
      refine wreg fun K hK => ?_
      simp [C.impl_DivideLaurents, fS]
      refine hK _ ?_; clear hK K
      show AWp _ _ _ _ _
      refine wret ?_
      simp [C.impl_DivideLaurents, fS, hm, fO, zeroF, rows]
    · have hr : (Right f ∧ Right g ∧ f.v = g.v) ∧ g.ts ≠ [] := by
        rw [← hB] at hc1
        simpa using hc1
      obtain ⟨⟨hf, hg, hfg⟩, hgne⟩ := hr
      have hv0 := hf.1
      obtain ⟨n, hn⟩ : ∃ n : Nat, f.v = n := ⟨f.v.toNat, by omega⟩
      have hgn : g.v = n := by omega
      have hv : n ≤ 8 := by omega
      have hm := divF_some hf hg hn hgn hgne
      have hfl := hf.2.1
      have hgl := hg.2.1
      have he := right_he hf hn
      have heg := right_he hg hgn
      have hG0 : 0 < g.ts.length := List.length_pos_iff.2 hgne
      obtain ⟨hl1, hl2⟩ := lead_get hG0
      have hgood := hg.2.2.1 _ (List.getElem_mem hG0)
      have hgle := heg _ (List.getElem_mem hG0)
      rw [hl1] at hgle
      obtain ⟨hgle1, hgle2⟩ := hgle
      have hgc : leadC g ≠ 0 ∧ -1000000 ≤ leadC g ∧ leadC g ≤ 1000000 := by rw [← hl2]; exact ⟨hgood.2.1, hgood.2.2.1⟩
      obtain ⟨b0, b1, b2, b3, b4, b5, b6, b7, hpb⟩ := eight (pad_length (e := leadE g) (by omega))
      have hbb := pad_bd hgle2
      rw [hpb] at hbb
      refine wskip ?_
      show AWp _ _ _ _ _
      refine wseq ?_
      refine wregI ([0, 1, 2] ++ ([3])) rfl fun K hK => ?_
      refine opsI_seg fun L hL => ?_
      simp [C.impl_DivideLaurents, fS, hn]
      refine wcall1 (impl_newBuilding_calls n) (by simp) (by simp) ?_
      simp [C.impl_DivideLaurents, fS, hn]
      refine hL _ ?_; clear hL L
      refine opsI_end fun L hL => ?_
      simp [C.impl_DivideLaurents, fS, hn]
      refine hL _ ?_; clear hL L
      simp [C.impl_DivideLaurents, fS, hn]
      refine hK _ ?_; clear hK K
      show AWp _ _ _ _ _
      refine wseq ?_
      refine wseq ?_
      refine wreg fun K hK => ?_
      simp [C.impl_DivideLaurents, fS]
      refine hK _ ?_; clear hK K
      show AWp _ _ _ _ _
      refine wblock ?_
      refine wcode (c' := codeAt Try.f13 [1, 1, 1, 0, 1, 0]) (by kernel_rfl) ?_
      refine wst (σ2 := ⟨ofL [(2, .pt (2, 0) [] 0), (3, .pt (3, 0) [] 0), (4, .pt (4, 0) [] 0), (6, .pt (6, 0) [] 0), (34, .d (.sh 2 f.ts.length (rows tS f.ts))), (35, .int f.ts.length), (36, .int 0)], ofRO [((2, 0), some (.bx (fS f))), ((3, 0), some (.bx (fS g))), ((4, 0), some (.bx [D.int 0, .v (.slice none 0 0)])), ((6, 0), some (.bx [D.int n, .mp []]))]⟩) (by simp [fS, hn]) ?_
      refine impl_DivideLaurents_l1 f g n hn hv hf hfl _ ?_
      intro es l hLJ hall
      have hnf0 : nf lexlt l = f.ts.map pr := by
        rw [nf_perm hall]
        exact (nf_unique lexOrd (pr_desc hf) (pr_nz hf) fun k => rfl).symm
      show AWp _ _ _ _ _
      refine wseq ?_
      refine wregI ([0, 1, 2] ++ ([3])) rfl fun K hK => ?_
      refine opsI_seg fun L hL => ?_
      simp [C.impl_DivideLaurents, fS, hn]
      refine wcall1 (impl_newBuilding_calls n) (by simp) (by simp) ?_
      simp [C.impl_DivideLaurents, fS, hn]
      refine hL _ ?_; clear hL L
      refine opsI_end fun L hL => ?_
      simp [C.impl_DivideLaurents, fS, hn]
      refine hL _ ?_; clear hL L
      simp [C.impl_DivideLaurents, fS, hn]
      refine hK _ ?_; clear hK K
      show AWp _ _ _ _ _
      refine wseq ?_
      refine wreg fun K hK => ?_
      simp [C.impl_DivideLaurents, fS, hG0, tS_0 hG0, tS_1 hG0, hl1, hl2]
      refine hK _ ?_; clear hK K
      show AWp _ _ _ _ _
      refine wseq ?_
      refine wblock ?_
      refine wloop (fun x : (List (List Int × Int) × List (List Int × Int)) × (List (List Int × Int) × List (List Int × Int)) × List (List Int × Int) => ⟨ofL [(2, .pt (2, 0) [] 0), (3, .pt (3, 0) [] 0), (4, .pt (4, 0) [] 0), (6, .pt (6, 0) [] 0), (9, .pt (9, 0) [] 0), (10, .pt (10, 0) [] 0)], ofRO [((2, 0), some (.bx (fS f))), ((3, 0), some (.bx (fS g))), ((4, 0), some (.bx [D.int 0, .v (.slice none 0 0)])), ((6, 0), some (.bx [D.int n, .mp x.1.1])), ((9, 0), some (.bx [D.int n, .mp x.2.1.1])), ((10, 0), some (.bx [shI (leadE g), D.int (leadC g)]))]⟩) (fun x => LJ n x.1.1 x.1.2 (600000000 + x.2.2.length * 600000000000000) ∧ LJ n x.2.1.1 x.2.1.2 (x.2.2.length * 1000000) ∧ x.2.1.2.Perm x.2.2 ∧ DivJ chkI f g n (nf lexlt x.1.2) x.2.2 ∧ DivO g n (nf lexlt x.1.2) x.2.2) (fun x => 600 - x.2.2.length) ((es, l), ([], []), []) (by simp [C.impl_DivideLaurents, fS, hn]) ⟨hLJ.mono (by dsimp only [List.length_nil]; omega), ⟨MapR.nil n, by simp, by simp [absE]⟩, by simp, by dsimp only; rw [hnf0]; exact DivJ.start _ hf hn, ⟨List.Pairwise.nil, by simp [Nz], by simp, by simp⟩⟩ ?_
      intro x2 hx2 R2 hR2
      obtain ⟨⟨es, l⟩, ⟨eo, lo⟩, O⟩ := x2
      obtain ⟨hLr, hLo, hPo, hJ1, hJ2⟩ := hx2
      dsimp only at hLr hLo hPo hJ1 hJ2 ⊢
      have hOl := hJ1.ol
      have helen := unpad_len hLr.map hLr.len
      have heol : eo.length = O.length := by
        have h1 := unpad_len hLo.map hLo.len
        rw [nf_perm hPo, hJ2.nf] at h1
        exact h1.symm
      refine wseq ?_
      refine wseq ?_
      refine wreg fun K hK => ?_
      simp [C.impl_DivideLaurents, fS]
      refine hK _ ?_; clear hK K
      show AWp _ _ _ _ _
      refine wcond _ rfl (fun hc3 => ?_) (fun hc3 => ?_)
      · have hes : 0 < es.length := by have := d_t hc3; omega
        obtain ⟨⟨a, c⟩, R', hR⟩ : ∃ y R', nf lexlt l = y :: R' := by
          cases hh : nf lexlt l with
          | nil => rw [hh] at helen; simp at helen; omega
          | cons y R' => exact ⟨y, R', rfl⟩
        rw [hR] at hJ1 hJ2
        refine wskip ?_
        show AWp _ _ _ _ _
        refine wblock ?_
        refine wseq ?_
        refine wreg fun K hK => ?_
        simp [C.impl_DivideLaurents, fS]
        refine hK _ ?_; clear hK K
        show AWp _ _ _ _ _
        refine wseq ?_
        refine wreg fun K hK => ?_
        simp [C.impl_DivideLaurents, fS]
        refine hK _ ?_; clear hK K
        show AWp _ _ _ _ _
        refine wseq ?_
        refine wseq ?_
        refine wreg fun K hK => ?_
        simp [C.impl_DivideLaurents, fS]
        refine hK _ ?_; clear hK K
        show AWp _ _ _ _ _
        refine wblock ?_
        refine wcode (c' := codeAt Try.f13 [1, 1, 1, 1, 1, 1, 0, 0, 0, 1, 0, 1, 1, 0, 1, 0]) (by kernel_rfl) ?_
        refine impl_DivideLaurents_l3 f g n hn es eo (hLr.map.len8 hv) _ ?_
        intro P top cur hqe hT
        have hPne : P ≠ [] := by intro e; rw [e] at hqe; have := hqe.length_eq; simp at this; omega
        obtain ⟨htop, hget⟩ := top_head hLr.map hLr.len hqe hT hR
        have ha := hJ1.rl (a, c) (by simp)
        obtain ⟨hal, ha60⟩ := ha
        dsimp only at hal ha60
        obtain ⟨a0, a1, a2, a3, a4, a5, a6, a7, hpa⟩ := eight (pad_length (e := a) (by omega))
        have hba := pad_bd60 (B := 60) (by omega) (by omega) ha60
        rw [hpa] at hba htop
        subst htop
        have hcb : -1000000000000000000 ≤ c ∧ c ≤ 1000000000000000000 := by
          have h1 := hJ1.ra
          simp only [absK, List.map_cons, List.sum_cons] at h1
          omega
        have hEl : (addE (-1) a (leadE g)).length = n := by rw [addE_length _ _ _ (by omega)]; exact hal
        have hE80 := addE_bd (B := 60) (C := 20) (k := -1) (.inr rfl) (hal.trans hgle1.symm) ha60 hgle2
        have hpe0 : [a0 + -1 * b0, a1 + -1 * b1, a2 + -1 * b2, a3 + -1 * b3, a4 + -1 * b4, a5 + -1 * b5, a6 + -1 * b6, a7 + -1 * b7] = pad (addE (-1) a (leadE g)) := by
          rw [← pad_add (by omega), hpa, hpb]
          simp [addE]
        show AWp _ _ _ _ _
        refine wseq ?_
        refine wdraw (.take 0 (.take 1 (.take 2 (.take 3 (.take 4 (.take 5 (.take 6 (.done)))))))) ⟨by kernel_rfl, by kernel_rfl⟩ fun K hK => ?_
        simp [C.impl_DivideLaurents, fS, hget, hLr.map.len8 hv]
        refine hK _ ?_; clear hK K
        show AWp _ _ _ _ _
        refine wseq ?_
        refine wcode (c' := codeAt Try.f13 [1, 1, 1, 1, 1, 1, 0, 0, 0, 1, 0, 1, 1, 1, 1, 0]) (by kernel_rfl) ?_
        refine impl_DivideLaurents_r24 f g n es eo a0 a1 a2 a3 a4 a5 a6 a7 b0 b1 b2 b3 b4 b5 b6 b7 c (by omega) hpb hba hbb _ _ ?_
        show AWp _ _ _ _ _
        refine wseq ?_
        obtain ⟨e0, e1, e2, e3, e4, e5, e6, e7, hpe⟩ := eight (pad_length (e := addE (-1) a (leadE g)) (by omega))
        rw [hpe] at hpe0
        simp only [List.cons.injEq, and_true] at hpe0
        obtain ⟨k0, k1, k2, k3, k4, k5, k6, k7⟩ := hpe0
        simp only [k0, k1, k2, k3, k4, k5, k6, k7]
        have hqb : -1000000000000000000 ≤ c.tdiv (leadC g) ∧ c.tdiv (leadC g) ≤ 1000000000000000000 := by
          have h1 : (c.tdiv (leadC g)).natAbs ≤ c.natAbs := by
            rw [Int.natAbs_tdiv]
            exact Nat.div_le_self _ _
          omega
        generalize hQ : c.tdiv (leadC g) = q at hqb
        have htkE : List.take n [e0, e1, e2, e3, e4, e5, e6, e7] = addE (-1) a (leadE g) := by
          rw [← hpe]
          have := pad_take (e := addE (-1) a (leadE g))
          rwa [hEl] at this
        have hsh := sh8 n e0 e1 e2 e3 e4 e5 e6 e7
        rw [htkE] at hsh
        refine wreg fun K hK => ?_
        simp [C.impl_DivideLaurents, fS, hgc.1, hQ, wrapOk (x := q) (by omega) (by omega)]
        refine hK _ ?_; clear hK K
        show AWp _ _ _ _ _
        refine wseq ?_
        refine wseq ?_
        refine wcode (c' := codeAt Try.f13 [1, 1, 1, 1, 1, 1, 0, 0, 0, 1, 0, 1, 1, 1, 1, 1, 1, 0, 0]) (by kernel_rfl) ?_
        refine impl_DivideLaurents_r26 f g n hn hv es eo O (addE (-1) a (leadE g)) e0 e1 e2 e3 e4 e5 e6 e7 c q hgc.1 hsh hEl heol _ _ ?_
        show AWp _ _ _ _ _
        refine wcond _ rfl (fun hc8 => ?_) (fun hc8 => ?_)
        · have hr := nd_t hc8
          have hfail := hJ1.fail (by
            rcases Classical.em (O.length = 600) with h | h
            · exact .inr h
            · refine .inl fun h2 => hr ⟨?_, h⟩
              dsimp only at h2
              rw [hQ] at h2
              simp only [chkI, decide_eq_true_eq] at h2
              exact ⟨⟨h2.1, okE_iff.2 ⟨by omega, h2.2.1⟩⟩, h2.2.2⟩)
          refine wseq ?_
          refine wreg fun K hK => ?_
          simp [C.impl_DivideLaurents, fS]
          refine hK _ ?_; clear hK K
          show AWp _ _ _ _ _
          refine wret ?_
          simp [C.impl_DivideLaurents, fS, hm, hfail, endF, zeroF, fO, rows]
        · obtain ⟨⟨⟨g1, g2⟩, g3⟩, g4⟩ := nd_f hc8
          have hE20 := (okE_iff.1 g2).2
          have hchk : chkI (addE (-1) a (leadE g)) q = true := by simp only [chkI, decide_eq_true_eq]; exact ⟨hE20, g3⟩
          have hJ1s := hJ1.step hg hgn g1 (by dsimp only; rw [hQ]; exact hchk) (by omega) hEl (fun z hz => by have := hE20 z hz; omega) (by dsimp only; rw [hQ]; exact g3.2)
          have hJ2s := hJ2.step hJ1.rd (fun y hy => (hJ1.rl y hy).1) hg hgn hgne g1 (by dsimp only; rw [hQ]; exact g3.1)
          dsimp only at hJ1s hJ2s
          rw [hQ] at hJ1s hJ2s
          have hvo := hLo.val hEl (c := q) (X := 1000000) (by omega) (by omega)
          rw [hpe] at hvo
          have hbe := pad_bd hE20
          rw [hpe] at hbe
          refine wskip ?_
          show AWp _ _ _ _ _
          refine wseq ?_
          refine wregI ([0, 1, 2, 3] ++ ([])) rfl fun K hK => ?_
          refine opsI_seg fun L hL => ?_
          simp [C.impl_DivideLaurents, fS]
          refine wcall1 (impl_building_add_calls n q eo e0 e1 e2 e3 e4 e5 e6 e7 (hLo.map.len8 hv) hvo) (by simp) (by simp) ?_
          simp [C.impl_DivideLaurents, fS]
          refine hL _ ?_; clear hL L
          refine opsI_end fun L hL => ?_
          simp only [AOpsI]
          refine hL _ ?_; clear hL L
          simp [C.impl_DivideLaurents, fS]
          rw [← hpe]
          refine hK _ ?_; clear hK K
          show AWp _ _ _ _ _
          refine wseq ?_
          refine wreg fun K hK => ?_
          simp [C.impl_DivideLaurents, fS]
          refine hK _ ?_; clear hK K
          show AWp _ _ _ _ _
          refine wblock ?_
          refine wcode (c' := codeAt Try.f13 [1, 1, 1, 1, 1, 1, 0, 0, 0, 1, 0, 1, 1, 1, 1, 1, 1, 1, 1, 1, 0]) (by kernel_rfl) ?_
          refine impl_DivideLaurents_l4 f g n hn hgn hv hg hgl es l (madd eo (pad (addE (-1) a (leadE g))) q) O hOl hLr (addE (-1) a (leadE g)) hEl e0 e1 e2 e3 e4 e5 e6 e7 q hpe hbe g3 _ ?_
          intro es2 l2 hL2 hP2
          have hnf2 : nf lexlt l2 = nf lexlt (stepL g (a, c) R') := step_nf hR (by dsimp only; rw [hQ]; exact hP2)
          simp [C.impl_DivideLaurents, fS]
          refine cast (congrArg R2 ?_) (hR2 ((es2, l2), (madd eo (pad (addE (-1) a (leadE g))) q, (addE (-1) a (leadE g), q) :: lo), O ++ [(addE (-1) a (leadE g), q)]) ⟨?_, ?_, ?_, ?_, ?_⟩ (by simp; omega))
          · simp [fS, hn, hgn]
          · exact hL2.mono (by simp; omega)
          · exact (hLo.add hEl (c := q) (X := 1000000) (by omega)).mono (by simp; omega)
          · exact (List.Perm.cons _ hPo).trans (List.perm_append_singleton _ _).symm
          · dsimp only
            rw [hnf2]
            exact hJ1s
          · dsimp only
            rw [hnf2]
            exact hJ2s
      · have hes : es.length = 0 := by have := d_f hc3; omega
        have hR0 : nf lexlt l = [] := List.eq_nil_of_length_eq_zero (by omega)
        rw [hR0] at hJ1 hJ2
        have hdone := hJ1.done
        have hsh0 := hJ2.shut n
        rw [← shutF_perm hPo] at hsh0
        refine wexit ?_
        show AWp _ _ _ _ _
        refine wseq ?_
        refine wregI ([0, 1] ++ ([2, 3, 4, 5])) rfl fun K hK => ?_
        refine opsI_seg fun L hL => ?_
        simp [C.impl_DivideLaurents, fS, hn]
        refine wcall1 (hDone n eo lo hLo.map hLo.len (by omega) hv (by have := hPo.length_eq; omega)) (by simp) (by simp) ?_
        simp [C.impl_DivideLaurents, fS, hn]
        refine hL _ ?_; clear hL L
        refine opsI_end fun L hL => ?_
        simp [C.impl_DivideLaurents, fS, hn]
        refine hL _ ?_; clear hL L
        simp [C.impl_DivideLaurents, fS, hn]
        refine hK _ ?_; clear hK K
        show AWp _ _ _ _ _
        refine wret ?_
        simp [C.impl_DivideLaurents, fS, hm, hdone, hsh0, fO]
  clear hK
  by_cases hb : B = true
  · refine opsI_seg fun L hL => ?_
    simp [C.impl_DivideLaurents, fS, hb]
    refine wcall1 (hcall) (by simp) (by simp) ?_
    simp [C.impl_DivideLaurents, fS, hb]
    refine hL _ ?_; clear hL L
    refine opsI_end fun L hL => ?_
    simp [C.impl_DivideLaurents, fS, hb]
    refine hL _ ?_; clear hL L
    simp [C.impl_DivideLaurents, fS, hb]
    refine cast (congrArg K ?_) hJ
    simp [ieq0, fS, hb]
  · refine opsI_seg fun L hL => ?_
    simp [C.impl_DivideLaurents, fS, hb]
    refine wcall1 (hcall) (by simp) (by simp) ?_
    simp [C.impl_DivideLaurents, fS, hb]
    refine hL _ ?_; clear hL L
    refine opsI_end fun L hL => ?_
    simp [C.impl_DivideLaurents, fS, hb]
    refine hL _ ?_; clear hL L
    simp [C.impl_DivideLaurents, fS, hb]
    refine cast (congrArg K ?_) hJ
    simp [ieq0, fS, hb]
theorem iDiv_calls (hDone : DoneOk) (f g : Lau) (hx : f.ts.length < 4611686018427387904) (hxe : ∀ t ∈ f.ts, t.e.length < 4611686018427387904) (hy : g.ts.length < 4611686018427387904) (hye : ∀ t ∈ g.ts, t.e.length < 4611686018427387904) : ACalls Try.prog F.impl_DivideLaurents [aF f, aF g] [] true (fun outs res => outs = [] ∧ res = [.ag (fO (divF f g).1), .one (D.bool (divF f g).2)]) := (impl_DivideLaurents_calls hDone f g hx hxe hy hye).weak1
theorem endF_right (v : Int) (O : Option (List (List Int × Int))) : Right (endF v O).1 ∨ endF v O = (zeroF, false) := by
  cases O with
  | none => exact .inr rfl
  | some O =>
    simp only [endF]
    split
    · rename_i h; exact .inl h
    · exact .inr rfl
theorem divF_small (f g : Lau) : SmallF (divF f g).1 := by
  unfold divF
  split
  · rcases endF_right f.v (divL chkI g 600 (f.ts.map pr)) with h | h
    · exact small_right h
    · rw [h]; exact small_zero
  · exact small_zero

end Go.Proofs.Ytocknokodgnlbaa.Ab
namespace Go.Proofs.Ytocknokodgnlbaa.Ab
open Go
set_option linter.unusedSimpArgs false
set_option linter.unusedVariables false
set_option maxRecDepth 10000
set_option maxHeartbeats 2000000


end Go.Proofs.Ytocknokodgnlbaa.Ab
namespace Go.Proofs.Ytocknokodgnlbaa.Ab
open Go
set_option linter.unusedSimpArgs false
set_option linter.unusedVariables false
set_option maxRecDepth 10000
set_option maxHeartbeats 2000000
theorem SmallF.sm {f : Lau} (h : SmallF f) : f.ts.length < 4611686018427387904 ∧ ∀ t ∈ f.ts, t.e.length < 4611686018427387904 := ⟨by have := h.1; omega, fun t ht => by have := h.2.1 t ht; omega⟩
theorem addF_small (f : Lau) (k : Int) (g : Lau) : SmallF (addF f k g).1 := by
  unfold addF
  split
  · rcases shutF_right f.v (f.ts.map pr ++ g.ts.map (prk k)) with h | h
    · exact small_right h
    · rw [h]; exact small_zero
  · exact small_zero
theorem mono_small2 (e : List Int) : SmallF (monoF e) := by
  unfold monoF
  split
  · rename_i h; exact small_right h
  · exact small_zero
noncomputable def r2P (b c : Int) (l : List Lau) (m : Nat) : Lau × Bool := powF (l.getD (m + 1) zeroF) (if m % 2 = 1 then c else b)
noncomputable def r2A (b c : Int) (l : List Lau) (m : Nat) : Lau × Bool := addF (r2P b c l m).1 1 (oneF 2)
noncomputable def r2D (b c : Int) (l : List Lau) (m : Nat) : Lau × Bool := divF (r2A b c l m).1 (l.getD m zeroF)
noncomputable def r2L (b c : Int) : Nat → Option (List Lau)
  | 0 => some [monoF [1, 0], monoF [0, 1]]
  | m + 1 => match r2L b c m with
    | some l => if (r2P b c l m).2 = true ∧ (r2A b c l m).2 = true ∧ (r2D b c l m).2 = true then some (l ++ [(r2D b c l m).1]) else none
    | none => none
noncomputable def r2F (b c n : Int) : List Lau × Bool := if (0 ≤ b ∧ b ≤ 4) ∧ (0 ≤ c ∧ c ≤ 4) ∧ 2 ≤ n ∧ n ≤ 12 then (match r2L b c (n - 2).toNat with | some l => (l, true) | none => ([], false)) else ([], false)
theorem r2L_ok (b c : Int) : ∀ (m : Nat) (l : List Lau), r2L b c m = some l → l.length = m + 2 ∧ ∀ f ∈ l, SmallF f
  | 0, l, h => by
    simp only [r2L, Option.some.injEq] at h
    subst h
    refine ⟨rfl, fun f hf => ?_⟩
    simp only [List.mem_cons, List.not_mem_nil, or_false] at hf
    rcases hf with rfl | rfl <;> exact mono_small2 _
  | m + 1, l, h => by
    simp only [r2L] at h
    split at h
    · rename_i l' hl
      obtain ⟨h1, h2⟩ := r2L_ok b c m l' hl
      split at h
      · injection h with h
        subst h
        refine ⟨by simp [h1], fun f hf => ?_⟩
        rcases List.mem_append.1 hf with hf | hf
        · exact h2 f hf
        · simp only [List.mem_singleton] at hf
          subst hf
          exact divF_small _ _
      · simp at h
    · simp at h
theorem r2L_none {b c : Int} {n m : Nat} (h : r2L b c n = none) (hm : n ≤ m) : r2L b c m = none := by
  induction m with
  | zero =>
    have : n = 0 := by omega
    subst this
    exact h
  | succ m ih =>
    rcases Nat.lt_or_ge m n with q | q
    · have : n = m + 1 := by omega
      subst this
      exact h
    · simp only [r2L, ih q]
theorem r2F_small (b c n : Int) : (r2F b c n).1.length ≤ 12 ∧ ∀ f ∈ (r2F b c n).1, SmallF f := by
  unfold r2F
  split
  · rename_i h
    split
    · rename_i l hl
      obtain ⟨h1, h2⟩ := r2L_ok b c _ l hl
      exact ⟨by dsimp only; omega, h2⟩
    · simp
  · simp
theorem getD_get {l : List Lau} {i : Nat} (h : i < l.length) : l[i] = l.getD i zeroF := by simp [List.getD_eq_getElem?_getD, h]
theorem small_getD {l : List Lau} (h : ∀ f ∈ l, SmallF f) (i : Nat) : SmallF (l.getD i zeroF) := by
  rw [List.getD_eq_getElem?_getD]
  by_cases q : i < l.length
  · rw [List.getElem?_eq_getElem q]; exact h _ (List.getElem_mem q)
  · rw [List.getElem?_eq_none (by omega)]; exact small_zero
theorem one2_small : SmallF (oneF 2) := small_right (oneF_right (by omega))

theorem listF_cnt : ∀ {l : List Lau}, (∀ f ∈ l, SmallF f) → cntL cntF l ≤ l.length * 5401
  | [], _ => by simp [cntL]
  | f :: l, h => by
    have h1 := h f (by simp)
    have h2 := listF_cnt (l := l) fun x hx => h x (by simp [hx])
    have h3 := h1.2.2
    simp only [cntL, List.length_cons, cntF]
    omega
theorem sM10 : ACalls Try.prog F.spec_MonomialLaurent [.d (.sh 1 2 [D.v (.int .i64 1), D.v (.int .i64 0)])] [] true (fun outs res => outs = [] ∧ res = [.ag (fO (monoF [1, 0]))]) := sMono_calls [1, 0] (by simp)
theorem sM01 : ACalls Try.prog F.spec_MonomialLaurent [.d (.sh 1 2 [D.v (.int .i64 0), D.v (.int .i64 1)])] [] true (fun outs res => outs = [] ∧ res = [.ag (fO (monoF [0, 1]))]) := sMono_calls [0, 1] (by simp)
theorem iM10 : ACalls Try.prog F.impl_MonomialLaurent [.d (.sh 1 2 [D.v (.int .i64 1), D.v (.int .i64 0)])] [] true (fun outs res => outs = [] ∧ res = [.ag (fO (monoF [1, 0]))]) := iMono_calls [1, 0] (by simp)
theorem iM01 : ACalls Try.prog F.impl_MonomialLaurent [.d (.sh 1 2 [D.v (.int .i64 0), D.v (.int .i64 1)])] [] true (fun outs res => outs = [] ∧ res = [.ag (fO (monoF [0, 1]))]) := iMono_calls [0, 1] (by simp)

theorem ofL_pad : ∀ l : List (Nat × FV), ofL l = ofL (l ++ [(0, .dead)])
  | [] => by funext t; simp [ofL]
  | x :: l => by
    funext t
    have := congrFun (ofL_pad l) t
    simp only [List.cons_append, ofL] at this ⊢
    split
    · rfl
    · exact this
theorem spec_RankTwoTerms_calls (b c n : Int) : ACalls Try.prog F.spec_RankTwoTerms [.int b, .int c, .int n] [] true (fun outs res => outs = [] ∧ WkRs res [.one (.ow 2 (r2F b c n).1.length (rows fO (r2F b c n).1)), .one (D.bool (r2F b c n).2)]) := by
  refine ACalls.of_body (C := C.spec_RankTwoTerms) (n := Try.f47.ntmps) tabT folT Try.func47 rfl (by kernel_rfl) rfl (Nat.le_of_ble_eq_true rfl) (by decide) (by kernel_rfl) (by kernel_rfl) rfl (by simp) (by simp) ?_
  simp only [Try.f47]
  refine wseq ?_
  refine wreg fun K hK => ?_
  simp [C.spec_RankTwoTerms, fO]
  refine hK _ ?_; clear hK K
  show AWp _ _ _ _ _
  refine wseq ?_
  refine wseq ?_
  refine wregI ([0, 1] ++ ([2, 3, 4, 5] ++ ([6, 7, 8, 9, 10] ++ ([11, 12])))) rfl fun K hK => ?_
  have hJ : K ⟨ofL [(0, .int b), (1, .int c), (2, .int n), (29, .bool (!decide ((0 ≤ b ∧ b ≤ 4) ∧ (0 ≤ c ∧ c ≤ 4) ∧ 2 ≤ n ∧ n ≤ 12)))], ofRO []⟩ := by
    refine hK _ ?_; clear hK K
    show AWp _ _ _ _ _
    refine wcond _ rfl (fun hc1 => ?_) (fun hc1 => ?_)
    · have hr := nd_t hc1
      have hm : r2F b c n = ([], false) := if_neg hr
      refine wseq ?_
      refine wreg fun K hK => ?_
      simp [C.spec_RankTwoTerms, fO]
      refine hK _ ?_; clear hK K
      show AWp _ _ _ _ _
      refine wret ?_
      simp [C.spec_RankTwoTerms, fO, hm, rows]
    · have hr := nd_f hc1
      obtain ⟨m, rfl⟩ : ∃ m : Nat, n = (m : Int) + 2 := ⟨(n - 2).toNat, by omega⟩
      have hm2 : m ≤ 10 := by omega
      have hm : r2F b c ((m : Int) + 2) = (match r2L b c m with | some l => (l, true) | none => ([], false)) := by
        unfold r2F
        rw [if_pos hr, show ((m : Int) + 2 - 2).toNat = m by omega]
      refine wskip ?_
      show AWp _ _ _ _ _
      refine wseq ?_
      refine wregI ([0, 1] ++ ([2, 3] ++ ([4, 5]))) rfl fun K hK => ?_
      refine opsI_seg fun L hL => ?_
      simp [C.spec_RankTwoTerms, fO]
      refine wcall1 (sM10) (by simp) (by simp) ?_
      simp [C.spec_RankTwoTerms, fO]
      refine hL _ ?_; clear hL L
      refine opsI_seg fun L hL => ?_
      simp [C.spec_RankTwoTerms, fO]
      refine wcall1 (sM01) (by simp) (by simp) ?_
      simp [C.spec_RankTwoTerms, fO]
      refine hL _ ?_; clear hL L
      refine opsI_end fun L hL => ?_
      simp [C.spec_RankTwoTerms, fO]
      refine hL _ ?_; clear hL L
      simp [C.spec_RankTwoTerms, fO]
      refine hK _ ?_; clear hK K
      show AWp _ _ _ _ _
      refine wseq ?_
      refine wseq ?_
      refine wreg fun K hK => ?_
      simp [C.spec_RankTwoTerms, fO]
      refine hK _ ?_; clear hK K
      show AWp _ _ _ _ _
      refine wblock ?_
      refine wloop (fun x : Nat × List Lau => ⟨ofL [(0, .int b), (1, .int c), (2, .int ((m : Int) + 2)), (8, .al (8, 0) [] 0 (x.1 + 2)), (9, .int ((x.1 : Int) + 2))], ofRO [((8, 0), some (.ow 2 (x.1 + 2) (rows fO x.2)))]⟩) (fun x => x.1 ≤ m ∧ r2L b c x.1 = some x.2) (fun x => m - x.1) (0, [monoF [1, 0], monoF [0, 1]]) (by simp [C.spec_RankTwoTerms, fO, rows]) ⟨by simp, rfl⟩ ?_
      intro x1 hx1 R1 hR1
      obtain ⟨j, l⟩ := x1
      obtain ⟨hj, hl⟩ := hx1
      dsimp only at hj hl ⊢
      obtain ⟨hll, hls⟩ := r2L_ok b c j l hl
      have hw1 : IntKind.i64.wrap ((j : Int) + 2 - 1) = (j : Int) + 1 := by rw [wrapOk (by omega) (by omega)]; omega
      have hw2 : IntKind.i64.wrap ((j : Int) + 2 - 2) = (j : Int) := by rw [wrapOk (by omega) (by omega)]; omega
      have ht1 : ((j : Int) + 1).toNat = j + 1 := by omega
      have hF1 := getD_get (l := l) (i := j + 1) (by omega)
      have hF0 := getD_get (l := l) (i := j) (by omega)
      have hs1 := (small_getD hls (j + 1)).sm
      have hs0 := (small_getD hls j).sm
      refine wseq ?_
      refine wseq ?_
      refine wreg fun K hK => ?_
      simp [C.spec_RankTwoTerms, fO]
      refine hK _ ?_; clear hK K
      show AWp _ _ _ _ _
      refine wcond _ rfl (fun hc2 => ?_) (fun hc2 => ?_)
      · have hjm : j < m := by have := d_t hc2; omega
        have hnext : r2L b c (j + 1) = if (r2P b c l j).2 = true ∧ (r2A b c l j).2 = true ∧ (r2D b c l j).2 = true then some (l ++ [(r2D b c l j).1]) else none := by simp only [r2L, hl]
        refine wskip ?_
        show AWp _ _ _ _ _
        refine wseq ?_
        refine wblock ?_
        refine wseq ?_
        refine wreg fun K hK => ?_
        simp [C.spec_RankTwoTerms, fO]
        refine hK _ ?_; clear hK K
        show AWp _ _ _ _ _
        refine wseq ?_
        refine wseq ?_
        refine wreg fun K hK => ?_
        simp [C.spec_RankTwoTerms, fO]
        refine hK _ ?_; clear hK K
        show AWp _ _ _ _ _
        refine wcondJ (fun σ' => ∃ e t f, e = (if j % 2 = 1 then c else b) ∧ σ' = ⟨ofL [(0, .int b), (1, .int c), (2, .int ((m : Int) + 2)), (8, .al (8, 0) [] 0 (j + 2)), (9, .int ((j : Int) + 2)), (10, .int e), (t, f)], ofRO [((8, 0), some (.ow 2 (j + 2) (rows fO l)))]⟩) _ rfl ?_ (fun hc3 Qc3 hQc3 => ?_) (fun hc3 Qc3 hQc3 => ?_)
        · rintro σc3 ⟨e, tt, ff, he, rfl⟩
          obtain ⟨P, hP⟩ : ∃ P, P = r2P b c l j := ⟨_, rfl⟩
          have hPe : powF (l.getD (j + 1) zeroF) e = P := by rw [hP, he]; rfl
          have hPc := sPow_calls (l.getD (j + 1) zeroF) e hs1.1 hs1.2
          have hPs : SmallF P.1 := hPe ▸ powF_small _ _
          rw [hPe] at hPc
          obtain ⟨A, hA⟩ : ∃ A, A = r2A b c l j := ⟨_, rfl⟩
          have hAe : addF P.1 1 (oneF 2) = A := by rw [hA, hP]; rfl
          have hAc := sAdd_calls P.1 1 (oneF 2) hPs.sm.1 hPs.sm.2 one2_small.sm.1 one2_small.sm.2
          have hAs : SmallF A.1 := hAe ▸ addF_small _ _ _
          rw [hAe] at hAc
          obtain ⟨V, hV⟩ : ∃ V, V = r2D b c l j := ⟨_, rfl⟩
          have hDe : divF A.1 (l.getD j zeroF) = V := by rw [hV, hA]; rfl
          have hDc := sDiv_calls A.1 (l.getD j zeroF) hAs.sm.1 hAs.sm.2 hs0.1 hs0.2
          rw [hDe] at hDc
          rw [← hP, ← hA, ← hV] at hnext
          clear hP hA hV he hPe hAe hDe
          have hone := spec_ConstantLaurent_calls 2 (by omega)
          show AWp _ _ _ _ _
          refine wseq ?_
          refine wregI ([0, 1, 2, 3, 4, 5, 6] ++ ([7, 8, 9, 10, 11, 12])) rfl fun K hK => ?_
          refine opsI_seg fun L hL => ?_
          simp [C.spec_RankTwoTerms, fO, hw1, ht1, fO_0 (show j + 1 < l.length by omega), fO_1 (show j + 1 < l.length by omega), hF1, show ((j : Int) + 1 < (j : Int) + 2) by omega, show (0 ≤ (j : Int) + 1) by omega]
          refine wcall1 (hPc) (by simp) (by simp) ?_
          simp [C.spec_RankTwoTerms, fO, hw1, ht1, fO_0 (show j + 1 < l.length by omega), fO_1 (show j + 1 < l.length by omega), hF1, show ((j : Int) + 1 < (j : Int) + 2) by omega, show (0 ≤ (j : Int) + 1) by omega]
          refine hL _ ?_; clear hL L
          refine opsI_end fun L hL => ?_
          simp [C.spec_RankTwoTerms, fO, hw1, ht1, fO_0 (show j + 1 < l.length by omega), fO_1 (show j + 1 < l.length by omega), hF1, show ((j : Int) + 1 < (j : Int) + 2) by omega, show (0 ≤ (j : Int) + 1) by omega]
          refine hL _ ?_; clear hL L
          simp [C.spec_RankTwoTerms, fO, hw1, ht1, fO_0 (show j + 1 < l.length by omega), fO_1 (show j + 1 < l.length by omega), hF1, show ((j : Int) + 1 < (j : Int) + 2) by omega, show (0 ≤ (j : Int) + 1) by omega]
          refine hK _ ?_; clear hK K
          show AWp _ _ _ _ _
          refine wseq ?_
          refine wdraw (.take 0 (.all [(1, .all [(2, .take 3 (.take 4 (.take 5 (.all [(6, .all [(7, .take 8 (.done))])])))), (6, .all [(2, .take 3 (.take 4 (.take 5 (.all [(7, .take 8 (.done))]))))])]), (6, .all [(1, .all [(2, .take 3 (.take 4 (.take 5 (.all [(7, .take 8 (.done))]))))])])])) ⟨by kernel_rfl, by kernel_rfl⟩ fun K hK => ?_
          have hJ : K ⟨ofL [(0, .int b), (1, .int c), (2, .int ((m : Int) + 2)), (8, .al (8, 0) [] 0 (j + 2)), (9, .int ((j : Int) + 2)), (12, .bool P.2), (13, .pt (13, 0) [] 0), (14, .bool A.2)], ofRO [((8, 0), some (.ow 2 (j + 2) (rows fO l))), ((13, 0), some (.bx (fO A.1)))]⟩ := by
            refine hK _ ?_; clear hK K
            show AWp _ _ _ _ _
            refine wseq ?_
            refine wseq ?_
            refine wreg fun K hK => ?_
            have hJ : K ⟨ofL [(0, .int b), (1, .int c), (2, .int ((m : Int) + 2)), (8, .al (8, 0) [] 0 (j + 2)), (9, .int ((j : Int) + 2)), (13, .pt (13, 0) [] 0), (66, .bool (!(P.2 && A.2)))], ofRO [((8, 0), some (.ow 2 (j + 2) (rows fO l))), ((13, 0), some (.bx (fO A.1)))]⟩ := by
              refine hK _ ?_; clear hK K
              show AWp _ _ _ _ _
              refine wcond _ rfl (fun hc4 => ?_) (fun hc4 => ?_)
              · have hno : ¬ (P.2 = true ∧ A.2 = true ∧ V.2 = true) := by
                  rintro ⟨q1, q2, _⟩
                  rw [q1, q2] at hc4
                  simp at hc4
                have hnone : r2L b c m = none := r2L_none (n := j + 1) (by rw [hnext, if_neg hno]) (by omega)
                refine wseq ?_
                refine wreg fun K hK => ?_
                simp [C.spec_RankTwoTerms, fO]
                refine hK _ ?_; clear hK K
                show AWp _ _ _ _ _
                refine wret ?_
                simp [C.spec_RankTwoTerms, fO, hm, hnone, rows]
              · have hyes : P.2 = true ∧ A.2 = true := by simpa using hc4
                refine wskip ?_
                show AWp _ _ _ _ _
                refine wseq ?_
                refine wdraw (.take 0 (.take 1 (.take 2 (.take 3 (.take 4 (.take 5 (.all [(6, .take 7 (.take 8 (.take 9 (.all [(10, .all [(11, .take 12 (.done))])])))), (10, .all [(6, .take 7 (.take 8 (.take 9 (.all [(11, .take 12 (.done))]))))])]))))))) ⟨by kernel_rfl, by kernel_rfl⟩ fun K hK => ?_
                have hJ : K ⟨ofL [(0, .int b), (1, .int c), (2, .int ((m : Int) + 2)), (8, .al (8, 0) [] 0 (j + 2)), (9, .int ((j : Int) + 2)), (15, .pt (15, 0) [] 0), (16, .bool V.2)], ofRO [((8, 0), some (.ow 2 (j + 2) (rows fO l))), ((15, 0), some (.bx (fO V.1)))]⟩ := by
                  refine hK _ ?_; clear hK K
                  show AWp _ _ _ _ _
                  refine wseq ?_
                  refine wseq ?_
                  refine wreg fun K hK => ?_
                  simp [C.spec_RankTwoTerms, fO]
                  refine hK _ ?_; clear hK K
                  show AWp _ _ _ _ _
                  refine wcond _ rfl (fun hc5 => ?_) (fun hc5 => ?_)
                  · have hno : ¬ (P.2 = true ∧ A.2 = true ∧ V.2 = true) := by
                      rintro ⟨_, _, q⟩
                      rw [q] at hc5
                      simp at hc5
                    have hnone : r2L b c m = none := r2L_none (n := j + 1) (by rw [hnext, if_neg hno]) (by omega)
                    refine wseq ?_
                    refine wreg fun K hK => ?_
                    simp [C.spec_RankTwoTerms, fO]
                    refine hK _ ?_; clear hK K
                    show AWp _ _ _ _ _
                    refine wret ?_
                    simp [C.spec_RankTwoTerms, fO, hm, hnone, rows]
                  · have hyes3 : V.2 = true := by simpa using hc5
                    refine wskip ?_
                    show AWp _ _ _ _ _
                    refine wreg fun K hK => ?_
                    simp [C.spec_RankTwoTerms, fO, fO_snoc, show (j + 2 + 1) * 32 ≤ 140737488355328 by omega]
                    refine hK _ ?_; clear hK K
                    show AWp _ _ _ _ _
                    refine wreg fun K hK => ?_
                    simp [C.spec_RankTwoTerms, fO, wrapOk (x := (j : Int) + 2 + 1) (by omega) (by omega)]
                    refine hK _ ?_; clear hK K
                    simp [C.spec_RankTwoTerms, fO]
                    refine cast (congrArg R1 ?_) (hR1 (j + 1, l ++ [V.1]) ⟨hjm, by rw [hnext, if_pos ⟨hyes.1, hyes.2, hyes3⟩]⟩ (by dsimp only; omega))
                    simp [show j + 2 + 1 = j + 1 + 2 by omega, show (j : Int) + 2 + 1 = (j : Int) + 1 + 2 by omega]
                clear hK
                simp [C.spec_RankTwoTerms, fO, wrap_nat (show j < 4611686018427387904 by omega), hF0, fO_0 (show j < l.length by omega), fO_1 (show j < l.length by omega), show ((j : Int) < (j : Int) + 2) by omega]
                repeat' first
                  | (refine wcall1 (hDc) ?_ (by simp) ?_; (focus (simp; done)); simp [C.spec_RankTwoTerms, fO])
                  | (refine cast (congrArg K ?_) hJ; simp [fO]; done)
                  | refine And.intro ?_ ?_
            clear hK
            by_cases h1 : P.2 = true
            · simp [C.spec_RankTwoTerms, fO, h1]
              refine cast (congrArg K ?_) hJ
              simp [fO, h1]
            · simp [C.spec_RankTwoTerms, fO, h1]
              refine cast (congrArg K ?_) hJ
              simp [fO, h1]
          clear hK
          simp [C.spec_RankTwoTerms, fO]
          repeat' first
            | (refine wcall1 (hone) ?_ (by simp) ?_; (focus (simp; done)); simp [C.spec_RankTwoTerms, fO])
            | (refine wcall1 (hAc) ?_ (by simp) ?_; (focus (simp; done)); simp [C.spec_RankTwoTerms, fO])
            | (refine cast (congrArg K ?_) hJ; simp [fO]; done)
            | refine And.intro ?_ ?_
        · refine wreg fun K hK => ?_
          simp [C.spec_RankTwoTerms, fO]
          refine hK _ ?_; clear hK K
          rw [ofL_pad]
          exact hQc3 _ ⟨c, 0, .dead, by rw [if_pos]; have := hc3; rw [beq_iff_eq, Int.tmod_eq_emod_of_nonneg (by omega)] at this; omega, rfl⟩
        · refine wskip ?_
          exact hQc3 _ ⟨b, _, _, by rw [if_neg]; have := hc3; rw [beq_eq_false_iff_ne, Int.tmod_eq_emod_of_nonneg (by omega)] at this; omega, rfl⟩
      · have hjm : j = m := by have := d_f hc2; omega
        subst hjm
        refine wexit ?_
        show AWp _ _ _ _ _
        refine wseq ?_
        refine wreg fun K hK => ?_
        simp [C.spec_RankTwoTerms, fO]
        refine hK _ ?_; clear hK K
        show AWp _ _ _ _ _
        refine wret ?_
        simp [C.spec_RankTwoTerms, fO, hm, hl, hll]
  clear hK
  by_cases ha : 0 ≤ b ∧ b ≤ 4
  · by_cases hb : 0 ≤ c ∧ c ≤ 4
    · by_cases hd : 2 ≤ n ∧ n ≤ 12
      · refine opsI_seg fun L hL => ?_
        simp [C.spec_RankTwoTerms, fO, ha, hb, hd]
        refine wcall1 (spec_l1In_calls b 0 4) (by simp) (by simp) ?_
        simp [C.spec_RankTwoTerms, fO, ha, hb, hd]
        refine hL _ ?_; clear hL L
        refine opsI_seg fun L hL => ?_
        simp [C.spec_RankTwoTerms, fO, ha, hb, hd]
        refine wcall1 (spec_l1In_calls c 0 4) (by simp) (by simp) ?_
        simp [C.spec_RankTwoTerms, fO, ha, hb, hd]
        refine hL _ ?_; clear hL L
        refine opsI_seg fun L hL => ?_
        simp [C.spec_RankTwoTerms, fO, ha, hb, hd]
        refine wcall1 (spec_l1In_calls n 2 12) (by simp) (by simp) ?_
        simp [C.spec_RankTwoTerms, fO, ha, hb, hd]
        refine hL _ ?_; clear hL L
        refine opsI_end fun L hL => ?_
        simp [C.spec_RankTwoTerms, fO, ha, hb, hd]
        refine hL _ ?_; clear hL L
        simp [C.spec_RankTwoTerms, fO, ha, hb, hd]
        refine cast (congrArg K ?_) hJ
        simp [fO, ha, hb, hd]
      · refine opsI_seg fun L hL => ?_
        simp [C.spec_RankTwoTerms, fO, ha, hb, hd]
        refine wcall1 (spec_l1In_calls b 0 4) (by simp) (by simp) ?_
        simp [C.spec_RankTwoTerms, fO, ha, hb, hd]
        refine hL _ ?_; clear hL L
        refine opsI_seg fun L hL => ?_
        simp [C.spec_RankTwoTerms, fO, ha, hb, hd]
        refine wcall1 (spec_l1In_calls c 0 4) (by simp) (by simp) ?_
        simp [C.spec_RankTwoTerms, fO, ha, hb, hd]
        refine hL _ ?_; clear hL L
        refine opsI_seg fun L hL => ?_
        simp [C.spec_RankTwoTerms, fO, ha, hb, hd]
        refine wcall1 (spec_l1In_calls n 2 12) (by simp) (by simp) ?_
        simp [C.spec_RankTwoTerms, fO, ha, hb, hd]
        refine hL _ ?_; clear hL L
        refine opsI_end fun L hL => ?_
        simp [C.spec_RankTwoTerms, fO, ha, hb, hd]
        refine hL _ ?_; clear hL L
        simp [C.spec_RankTwoTerms, fO, ha, hb, hd]
        refine cast (congrArg K ?_) hJ
        simp [fO, ha, hb, hd]
    · refine opsI_seg fun L hL => ?_
      simp [C.spec_RankTwoTerms, fO, ha, hb]
      refine wcall1 (spec_l1In_calls b 0 4) (by simp) (by simp) ?_
      simp [C.spec_RankTwoTerms, fO, ha, hb]
      refine hL _ ?_; clear hL L
      refine opsI_seg fun L hL => ?_
      simp [C.spec_RankTwoTerms, fO, ha, hb]
      refine wcall1 (spec_l1In_calls c 0 4) (by simp) (by simp) ?_
      simp [C.spec_RankTwoTerms, fO, ha, hb]
      refine hL _ ?_; clear hL L
      refine opsI_seg fun L hL => ?_
      simp [C.spec_RankTwoTerms, fO, ha, hb]
      refine hL _ ?_; clear hL L
      refine opsI_end fun L hL => ?_
      simp [C.spec_RankTwoTerms, fO, ha, hb]
      refine hL _ ?_; clear hL L
      simp [C.spec_RankTwoTerms, fO, ha, hb]
      refine cast (congrArg K ?_) hJ
      simp [fO, ha, hb]
  · refine opsI_seg fun L hL => ?_
    simp [C.spec_RankTwoTerms, fO, ha]
    refine wcall1 (spec_l1In_calls b 0 4) (by simp) (by simp) ?_
    simp [C.spec_RankTwoTerms, fO, ha]
    refine hL _ ?_; clear hL L
    refine opsI_seg fun L hL => ?_
    simp [C.spec_RankTwoTerms, fO, ha]
    refine hL _ ?_; clear hL L
    refine opsI_seg fun L hL => ?_
    simp [C.spec_RankTwoTerms, fO, ha]
    refine hL _ ?_; clear hL L
    refine opsI_end fun L hL => ?_
    simp [C.spec_RankTwoTerms, fO, ha]
    refine hL _ ?_; clear hL L
    simp [C.spec_RankTwoTerms, fO, ha]
    refine cast (congrArg K ?_) hJ
    simp [fO, ha]
theorem sRk_calls (b c n : Int) : ACalls Try.prog F.spec_RankTwoTerms [.int b, .int c, .int n] [] true (fun outs res => outs = [] ∧ res = [.one (.ow 2 (r2F b c n).1.length (rows fO (r2F b c n).1)), .one (D.bool (r2F b c n).2)]) := (spec_RankTwoTerms_calls b c n).weak1

theorem impl_RankTwoTerms_calls (b c n : Int) : ACalls Try.prog F.impl_RankTwoTerms [.int b, .int c, .int n] [] true (fun outs res => outs = [] ∧ WkRs res [.one (.ow 2 (r2F b c n).1.length (rows fO (r2F b c n).1)), .one (D.bool (r2F b c n).2)]) := by
  refine ACalls.of_body (C := C.impl_RankTwoTerms) (n := Try.f48.ntmps) tabT folT Try.func48 rfl (by kernel_rfl) rfl (Nat.le_of_ble_eq_true rfl) (by decide) (by kernel_rfl) (by kernel_rfl) rfl (by simp) (by simp) ?_
  simp only [Try.f48]
  refine wseq ?_
  refine wreg fun K hK => ?_
  simp [C.impl_RankTwoTerms, fO]
  refine hK _ ?_; clear hK K
  show AWp _ _ _ _ _
  refine wseq ?_
  refine wseq ?_
  refine wregI ([0, 1] ++ ([2, 3, 4, 5] ++ ([6, 7, 8, 9, 10] ++ ([11, 12])))) rfl fun K hK => ?_
  have hJ : K ⟨ofL [(0, .int b), (1, .int c), (2, .int n), (29, .bool (!decide ((0 ≤ b ∧ b ≤ 4) ∧ (0 ≤ c ∧ c ≤ 4) ∧ 2 ≤ n ∧ n ≤ 12)))], ofRO []⟩ := by
    refine hK _ ?_; clear hK K
    show AWp _ _ _ _ _
    refine wcond _ rfl (fun hc1 => ?_) (fun hc1 => ?_)
    · have hr := nd_t hc1
      have hm : r2F b c n = ([], false) := if_neg hr
      refine wseq ?_
      refine wreg fun K hK => ?_
      simp [C.impl_RankTwoTerms, fO]
      refine hK _ ?_; clear hK K
      show AWp _ _ _ _ _
      refine wret ?_
      simp [C.impl_RankTwoTerms, fO, hm, rows]
    · have hr := nd_f hc1
      obtain ⟨m, rfl⟩ : ∃ m : Nat, n = (m : Int) + 2 := ⟨(n - 2).toNat, by omega⟩
      have hm2 : m ≤ 10 := by omega
      have hm : r2F b c ((m : Int) + 2) = (match r2L b c m with | some l => (l, true) | none => ([], false)) := by
        unfold r2F
        rw [if_pos hr, show ((m : Int) + 2 - 2).toNat = m by omega]
      refine wskip ?_
      show AWp _ _ _ _ _
      refine wseq ?_
      refine wregI ([0, 1] ++ ([2, 3] ++ ([4, 5]))) rfl fun K hK => ?_
      refine opsI_seg fun L hL => ?_
      simp [C.impl_RankTwoTerms, fO]
      refine wcall1 (iM10) (by simp) (by simp) ?_
      simp [C.impl_RankTwoTerms, fO]
      refine hL _ ?_; clear hL L
      refine opsI_seg fun L hL => ?_
      simp [C.impl_RankTwoTerms, fO]
      refine wcall1 (iM01) (by simp) (by simp) ?_
      simp [C.impl_RankTwoTerms, fO]
      refine hL _ ?_; clear hL L
      refine opsI_end fun L hL => ?_
      simp [C.impl_RankTwoTerms, fO]
      refine hL _ ?_; clear hL L
      simp [C.impl_RankTwoTerms, fO]
      refine hK _ ?_; clear hK K
      show AWp _ _ _ _ _
      refine wseq ?_
      refine wseq ?_
      refine wreg fun K hK => ?_
      simp [C.impl_RankTwoTerms, fO]
      refine hK _ ?_; clear hK K
      show AWp _ _ _ _ _
      refine wblock ?_
      refine wloop (fun x : Nat × List Lau => ⟨ofL [(0, .int b), (1, .int c), (2, .int ((m : Int) + 2)), (8, .al (8, 0) [] 0 (x.1 + 2)), (9, .int ((x.1 : Int) + 2))], ofRO [((8, 0), some (.ow 2 (x.1 + 2) (rows fO x.2)))]⟩) (fun x => x.1 ≤ m ∧ r2L b c x.1 = some x.2) (fun x => m - x.1) (0, [monoF [1, 0], monoF [0, 1]]) (by simp [C.impl_RankTwoTerms, fO, rows]) ⟨by simp, rfl⟩ ?_
      intro x1 hx1 R1 hR1
      obtain ⟨j, l⟩ := x1
      obtain ⟨hj, hl⟩ := hx1
      dsimp only at hj hl ⊢
      obtain ⟨hll, hls⟩ := r2L_ok b c j l hl
      have hw1 : IntKind.i64.wrap ((j : Int) + 2 - 1) = (j : Int) + 1 := by rw [wrapOk (by omega) (by omega)]; omega
      have hw2 : IntKind.i64.wrap ((j : Int) + 2 - 2) = (j : Int) := by rw [wrapOk (by omega) (by omega)]; omega
      have ht1 : ((j : Int) + 1).toNat = j + 1 := by omega
      have hF1 := getD_get (l := l) (i := j + 1) (by omega)
      have hF0 := getD_get (l := l) (i := j) (by omega)
      have hs1 := (small_getD hls (j + 1)).sm
      have hs0 := (small_getD hls j).sm
      refine wseq ?_
      refine wseq ?_
      refine wreg fun K hK => ?_
      simp [C.impl_RankTwoTerms, fO]
      refine hK _ ?_; clear hK K
      show AWp _ _ _ _ _
      refine wcond _ rfl (fun hc2 => ?_) (fun hc2 => ?_)
      · have hjm : j < m := by have := d_t hc2; omega
        have hnext : r2L b c (j + 1) = if (r2P b c l j).2 = true ∧ (r2A b c l j).2 = true ∧ (r2D b c l j).2 = true then some (l ++ [(r2D b c l j).1]) else none := by simp only [r2L, hl]
        refine wskip ?_
        show AWp _ _ _ _ _
        refine wseq ?_
        refine wblock ?_
        refine wseq ?_
        refine wreg fun K hK => ?_
        simp [C.impl_RankTwoTerms, fO]
        refine hK _ ?_; clear hK K
        show AWp _ _ _ _ _
        refine wseq ?_
        refine wseq ?_
        refine wreg fun K hK => ?_
        simp [C.impl_RankTwoTerms, fO]
        refine hK _ ?_; clear hK K
        show AWp _ _ _ _ _
        refine wcondJ (fun σ' => ∃ e t f, e = (if j % 2 = 1 then c else b) ∧ σ' = ⟨ofL [(0, .int b), (1, .int c), (2, .int ((m : Int) + 2)), (8, .al (8, 0) [] 0 (j + 2)), (9, .int ((j : Int) + 2)), (10, .int e), (t, f)], ofRO [((8, 0), some (.ow 2 (j + 2) (rows fO l)))]⟩) _ rfl ?_ (fun hc3 Qc3 hQc3 => ?_) (fun hc3 Qc3 hQc3 => ?_)
        · rintro σc3 ⟨e, tt, ff, he, rfl⟩
          obtain ⟨P, hP⟩ : ∃ P, P = r2P b c l j := ⟨_, rfl⟩
          have hPe : powF (l.getD (j + 1) zeroF) e = P := by rw [hP, he]; rfl
          have hPc := iPow_calls mulOk (l.getD (j + 1) zeroF) e hs1.1 hs1.2
          have hPs : SmallF P.1 := hPe ▸ powF_small _ _
          rw [hPe] at hPc
          obtain ⟨A, hA⟩ : ∃ A, A = r2A b c l j := ⟨_, rfl⟩
          have hAe : addF P.1 1 (oneF 2) = A := by rw [hA, hP]; rfl
          have hAc := iAdd_calls P.1 1 (oneF 2) hPs.sm.1 hPs.sm.2 one2_small.sm.1 one2_small.sm.2
          have hAs : SmallF A.1 := hAe ▸ addF_small _ _ _
          rw [hAe] at hAc
          obtain ⟨V, hV⟩ : ∃ V, V = r2D b c l j := ⟨_, rfl⟩
          have hDe : divF A.1 (l.getD j zeroF) = V := by rw [hV, hA]; rfl
          have hDc := iDiv_calls doneOk A.1 (l.getD j zeroF) hAs.sm.1 hAs.sm.2 hs0.1 hs0.2
          rw [hDe] at hDc
          rw [← hP, ← hA, ← hV] at hnext
          clear hP hA hV he hPe hAe hDe
          have hone := impl_ConstantLaurent_calls 2 (by omega)
          show AWp _ _ _ _ _
          refine wseq ?_
          refine wregI ([0, 1, 2, 3, 4, 5, 6] ++ ([7, 8, 9, 10, 11, 12])) rfl fun K hK => ?_
          refine opsI_seg fun L hL => ?_
          simp [C.impl_RankTwoTerms, fO, hw1, ht1, fO_0 (show j + 1 < l.length by omega), fO_1 (show j + 1 < l.length by omega), hF1, show ((j : Int) + 1 < (j : Int) + 2) by omega, show (0 ≤ (j : Int) + 1) by omega]
          refine wcall1 (hPc) (by simp) (by simp) ?_
          simp [C.impl_RankTwoTerms, fO, hw1, ht1, fO_0 (show j + 1 < l.length by omega), fO_1 (show j + 1 < l.length by omega), hF1, show ((j : Int) + 1 < (j : Int) + 2) by omega, show (0 ≤ (j : Int) + 1) by omega]
          refine hL _ ?_; clear hL L
          refine opsI_end fun L hL => ?_
          simp [C.impl_RankTwoTerms, fO, hw1, ht1, fO_0 (show j + 1 < l.length by omega), fO_1 (show j + 1 < l.length by omega), hF1, show ((j : Int) + 1 < (j : Int) + 2) by omega, show (0 ≤ (j : Int) + 1) by omega]
          refine hL _ ?_; clear hL L
          simp [C.impl_RankTwoTerms, fO, hw1, ht1, fO_0 (show j + 1 < l.length by omega), fO_1 (show j + 1 < l.length by omega), hF1, show ((j : Int) + 1 < (j : Int) + 2) by omega, show (0 ≤ (j : Int) + 1) by omega]
          refine hK _ ?_; clear hK K
          show AWp _ _ _ _ _
          refine wseq ?_
          refine wdraw (.take 0 (.all [(1, .all [(2, .take 3 (.take 4 (.take 5 (.all [(6, .all [(7, .take 8 (.done))])])))), (6, .all [(2, .take 3 (.take 4 (.take 5 (.all [(7, .take 8 (.done))]))))])]), (6, .all [(1, .all [(2, .take 3 (.take 4 (.take 5 (.all [(7, .take 8 (.done))]))))])])])) ⟨by kernel_rfl, by kernel_rfl⟩ fun K hK => ?_
          have hJ : K ⟨ofL [(0, .int b), (1, .int c), (2, .int ((m : Int) + 2)), (8, .al (8, 0) [] 0 (j + 2)), (9, .int ((j : Int) + 2)), (12, .bool P.2), (13, .pt (13, 0) [] 0), (14, .bool A.2)], ofRO [((8, 0), some (.ow 2 (j + 2) (rows fO l))), ((13, 0), some (.bx (fO A.1)))]⟩ := by
            refine hK _ ?_; clear hK K
            show AWp _ _ _ _ _
            refine wseq ?_
            refine wdraw (.take 0 (.take 1 (.take 2 (.take 3 (.take 4 (.take 5 (.all [(6, .take 7 (.take 8 (.take 9 (.all [(10, .all [(11, .take 12 (.done))])])))), (10, .all [(6, .take 7 (.take 8 (.take 9 (.all [(11, .take 12 (.done))]))))])]))))))) ⟨by kernel_rfl, by kernel_rfl⟩ fun K hK => ?_
            have hJ : K ⟨ofL [(0, .int b), (1, .int c), (2, .int ((m : Int) + 2)), (8, .al (8, 0) [] 0 (j + 2)), (9, .int ((j : Int) + 2)), (12, .bool P.2), (14, .bool A.2), (15, .pt (15, 0) [] 0), (16, .bool V.2)], ofRO [((8, 0), some (.ow 2 (j + 2) (rows fO l))), ((15, 0), some (.bx (fO V.1)))]⟩ := by
              refine hK _ ?_; clear hK K
              show AWp _ _ _ _ _
              refine wseq ?_
              refine wseq ?_
              refine wreg fun K hK => ?_
              have hJ : K ⟨ofL [(0, .int b), (1, .int c), (2, .int ((m : Int) + 2)), (8, .al (8, 0) [] 0 (j + 2)), (9, .int ((j : Int) + 2)), (15, .pt (15, 0) [] 0), (80, .bool (!(P.2 && (A.2 && V.2))))], ofRO [((8, 0), some (.ow 2 (j + 2) (rows fO l))), ((15, 0), some (.bx (fO V.1)))]⟩ := by
                refine hK _ ?_; clear hK K
                show AWp _ _ _ _ _
                refine wcond _ rfl (fun hc4 => ?_) (fun hc4 => ?_)
                · have hno : ¬ (P.2 = true ∧ A.2 = true ∧ V.2 = true) := by
                    rintro ⟨q1, q2, q3⟩
                    rw [q1, q2, q3] at hc4
                    simp at hc4
                  have hnone : r2L b c m = none := r2L_none (n := j + 1) (by rw [hnext, if_neg hno]) (by omega)
                  refine wseq ?_
                  refine wreg fun K hK => ?_
                  simp [C.impl_RankTwoTerms, fO]
                  refine hK _ ?_; clear hK K
                  show AWp _ _ _ _ _
                  refine wret ?_
                  simp [C.impl_RankTwoTerms, fO, hm, hnone, rows]
                · have hyes : P.2 = true ∧ A.2 = true ∧ V.2 = true := by simpa using hc4
                  refine wskip ?_
                  show AWp _ _ _ _ _
                  refine wreg fun K hK => ?_
                  simp [C.impl_RankTwoTerms, fO, fO_snoc, show (j + 2 + 1) * 32 ≤ 140737488355328 by omega]
                  refine hK _ ?_; clear hK K
                  show AWp _ _ _ _ _
                  refine wreg fun K hK => ?_
                  simp [C.impl_RankTwoTerms, fO, wrapOk (x := (j : Int) + 2 + 1) (by omega) (by omega)]
                  refine hK _ ?_; clear hK K
                  simp [C.impl_RankTwoTerms, fO]
                  refine cast (congrArg R1 ?_) (hR1 (j + 1, l ++ [V.1]) ⟨hjm, by rw [hnext, if_pos hyes]⟩ (by dsimp only; omega))
                  simp [show j + 2 + 1 = j + 1 + 2 by omega, show (j : Int) + 2 + 1 = (j : Int) + 1 + 2 by omega]
              clear hK
              by_cases h1 : P.2 = true
              · by_cases h2 : A.2 = true
                · simp [C.impl_RankTwoTerms, fO, h1, h2]
                  refine cast (congrArg K ?_) hJ
                  simp [fO, h1, h2]
                · simp [C.impl_RankTwoTerms, fO, h1, h2]
                  refine cast (congrArg K ?_) hJ
                  simp [fO, h1, h2]
              · simp [C.impl_RankTwoTerms, fO, h1]
                refine cast (congrArg K ?_) hJ
                simp [fO, h1]
            clear hK
            simp [C.impl_RankTwoTerms, fO, wrap_nat (show j < 4611686018427387904 by omega), hF0, fO_0 (show j < l.length by omega), fO_1 (show j < l.length by omega), show ((j : Int) < (j : Int) + 2) by omega]
            repeat' first
              | (refine wcall1 (hDc) ?_ (by simp) ?_; (focus (simp; done)); simp [C.impl_RankTwoTerms, fO])
              | (refine cast (congrArg K ?_) hJ; simp [fO]; done)
              | refine And.intro ?_ ?_
          clear hK
          simp [C.impl_RankTwoTerms, fO]
          repeat' first
            | (refine wcall1 (hone) ?_ (by simp) ?_; (focus (simp; done)); simp [C.impl_RankTwoTerms, fO])
            | (refine wcall1 (hAc) ?_ (by simp) ?_; (focus (simp; done)); simp [C.impl_RankTwoTerms, fO])
            | (refine cast (congrArg K ?_) hJ; simp [fO]; done)
            | refine And.intro ?_ ?_
        · refine wreg fun K hK => ?_
          simp [C.impl_RankTwoTerms, fO]
          refine hK _ ?_; clear hK K
          rw [ofL_pad]
          exact hQc3 _ ⟨c, 0, .dead, by rw [if_pos]; have := hc3; rw [beq_iff_eq, Int.tmod_eq_emod_of_nonneg (by omega)] at this; omega, rfl⟩
        · refine wskip ?_
          exact hQc3 _ ⟨b, _, _, by rw [if_neg]; have := hc3; rw [beq_eq_false_iff_ne, Int.tmod_eq_emod_of_nonneg (by omega)] at this; omega, rfl⟩
      · have hjm : j = m := by have := d_f hc2; omega
        subst hjm
        refine wexit ?_
        show AWp _ _ _ _ _
        refine wseq ?_
        refine wreg fun K hK => ?_
        simp [C.impl_RankTwoTerms, fO]
        refine hK _ ?_; clear hK K
        show AWp _ _ _ _ _
        refine wret ?_
        simp [C.impl_RankTwoTerms, fO, hm, hl, hll]
  clear hK
  by_cases ha : 0 ≤ b ∧ b ≤ 4
  · by_cases hb : 0 ≤ c ∧ c ≤ 4
    · by_cases hd : 2 ≤ n ∧ n ≤ 12
      · refine opsI_seg fun L hL => ?_
        simp [C.impl_RankTwoTerms, fO, ha, hb, hd]
        refine wcall1 (impl_within_calls b 0 4) (by simp) (by simp) ?_
        simp [C.impl_RankTwoTerms, fO, ha, hb, hd]
        refine hL _ ?_; clear hL L
        refine opsI_seg fun L hL => ?_
        simp [C.impl_RankTwoTerms, fO, ha, hb, hd]
        refine wcall1 (impl_within_calls c 0 4) (by simp) (by simp) ?_
        simp [C.impl_RankTwoTerms, fO, ha, hb, hd]
        refine hL _ ?_; clear hL L
        refine opsI_seg fun L hL => ?_
        simp [C.impl_RankTwoTerms, fO, ha, hb, hd]
        refine wcall1 (impl_within_calls n 2 12) (by simp) (by simp) ?_
        simp [C.impl_RankTwoTerms, fO, ha, hb, hd]
        refine hL _ ?_; clear hL L
        refine opsI_end fun L hL => ?_
        simp [C.impl_RankTwoTerms, fO, ha, hb, hd]
        refine hL _ ?_; clear hL L
        simp [C.impl_RankTwoTerms, fO, ha, hb, hd]
        refine cast (congrArg K ?_) hJ
        simp [fO, ha, hb, hd]
      · refine opsI_seg fun L hL => ?_
        simp [C.impl_RankTwoTerms, fO, ha, hb, hd]
        refine wcall1 (impl_within_calls b 0 4) (by simp) (by simp) ?_
        simp [C.impl_RankTwoTerms, fO, ha, hb, hd]
        refine hL _ ?_; clear hL L
        refine opsI_seg fun L hL => ?_
        simp [C.impl_RankTwoTerms, fO, ha, hb, hd]
        refine wcall1 (impl_within_calls c 0 4) (by simp) (by simp) ?_
        simp [C.impl_RankTwoTerms, fO, ha, hb, hd]
        refine hL _ ?_; clear hL L
        refine opsI_seg fun L hL => ?_
        simp [C.impl_RankTwoTerms, fO, ha, hb, hd]
        refine wcall1 (impl_within_calls n 2 12) (by simp) (by simp) ?_
        simp [C.impl_RankTwoTerms, fO, ha, hb, hd]
        refine hL _ ?_; clear hL L
        refine opsI_end fun L hL => ?_
        simp [C.impl_RankTwoTerms, fO, ha, hb, hd]
        refine hL _ ?_; clear hL L
        simp [C.impl_RankTwoTerms, fO, ha, hb, hd]
        refine cast (congrArg K ?_) hJ
        simp [fO, ha, hb, hd]
    · refine opsI_seg fun L hL => ?_
      simp [C.impl_RankTwoTerms, fO, ha, hb]
      refine wcall1 (impl_within_calls b 0 4) (by simp) (by simp) ?_
      simp [C.impl_RankTwoTerms, fO, ha, hb]
      refine hL _ ?_; clear hL L
      refine opsI_seg fun L hL => ?_
      simp [C.impl_RankTwoTerms, fO, ha, hb]
      refine wcall1 (impl_within_calls c 0 4) (by simp) (by simp) ?_
      simp [C.impl_RankTwoTerms, fO, ha, hb]
      refine hL _ ?_; clear hL L
      refine opsI_seg fun L hL => ?_
      simp [C.impl_RankTwoTerms, fO, ha, hb]
      refine hL _ ?_; clear hL L
      refine opsI_end fun L hL => ?_
      simp [C.impl_RankTwoTerms, fO, ha, hb]
      refine hL _ ?_; clear hL L
      simp [C.impl_RankTwoTerms, fO, ha, hb]
      refine cast (congrArg K ?_) hJ
      simp [fO, ha, hb]
  · refine opsI_seg fun L hL => ?_
    simp [C.impl_RankTwoTerms, fO, ha]
    refine wcall1 (impl_within_calls b 0 4) (by simp) (by simp) ?_
    simp [C.impl_RankTwoTerms, fO, ha]
    refine hL _ ?_; clear hL L
    refine opsI_seg fun L hL => ?_
    simp [C.impl_RankTwoTerms, fO, ha]
    refine hL _ ?_; clear hL L
    refine opsI_seg fun L hL => ?_
    simp [C.impl_RankTwoTerms, fO, ha]
    refine hL _ ?_; clear hL L
    refine opsI_end fun L hL => ?_
    simp [C.impl_RankTwoTerms, fO, ha]
    refine hL _ ?_; clear hL L
    simp [C.impl_RankTwoTerms, fO, ha]
    refine cast (congrArg K ?_) hJ
    simp [fO, ha]
theorem iRk_calls (b c n : Int) : ACalls Try.prog F.impl_RankTwoTerms [.int b, .int c, .int n] [] true (fun outs res => outs = [] ∧ res = [.one (.ow 2 (r2F b c n).1.length (rows fO (r2F b c n).1)), .one (D.bool (r2F b c n).2)]) := (impl_RankTwoTerms_calls b c n).weak1

end Go.Proofs.Ytocknokodgnlbaa.Ab
namespace Go.Proofs.Ytocknokodgnlbaa.Ab
open Go
set_option linter.unusedSimpArgs false
set_option linter.unusedVariables false
set_option maxRecDepth 10000
set_option maxHeartbeats 2000000
theorem laws_FnExactRankTwoTerms_calls (b c n : Int) : ACalls Try.prog F.laws_FnExactRankTwoTerms [.int b, .int c, .int n] [] true (fun outs res => outs = [] ∧ res = [.one (D.bool true)]) := by
  have hgs := r2F_small b c n
  have hw := sRk_calls b c n
  have hg := iRk_calls b c n
  generalize r2F b c n = g at hgs hw hg
  obtain ⟨g, b⟩ := g
  obtain ⟨hg1, hg2⟩ := hgs
  dsimp only at hg1 hg2 hw hg
  have hg3 := listF_cnt hg2
  have hg4 : g.length * 5401 ≤ 1000000 := by omega
  have hg5 : ∀ f ∈ g, SmF f := fun f hf => (hg2 f hf).sm
  refine ACalls.of_body (C := C.laws_FnExactRankTwoTerms) (n := Try.f9.ntmps) tabT folT Try.func9 rfl (by kernel_rfl) rfl (Nat.le_of_ble_eq_true rfl) (by decide) (by kernel_rfl) (by kernel_rfl) rfl (by simp) (by simp) ?_
  simp only [Try.f9]
  refine wseq ?_
  refine wreg fun K hK => ?_
  simp [C.laws_FnExactRankTwoTerms]
  refine hK _ ?_; clear hK K
  show AWp _ _ _ _ _
  refine wseq ?_
  refine wregI ([0, 1, 2, 3] ++ ([4, 5, 6, 7, 8])) rfl fun K hK => ?_
  refine opsI_seg fun L hL => ?_
  simp [C.laws_FnExactRankTwoTerms]
  refine wcall1 (hw) (by simp) (by simp) ?_
  simp [C.laws_FnExactRankTwoTerms]
  refine hL _ ?_; clear hL L
  refine opsI_end fun L hL => ?_
  simp [C.laws_FnExactRankTwoTerms]
  refine hL _ ?_; clear hL L
  simp [C.laws_FnExactRankTwoTerms]
  refine hK _ ?_; clear hK K
  show AWp _ _ _ _ _
  refine wseq ?_
  refine wregI ([0, 1, 2, 3] ++ ([4, 5, 6, 7, 8])) rfl fun K hK => ?_
  refine opsI_seg fun L hL => ?_
  simp [C.laws_FnExactRankTwoTerms]
  refine wcall1 (hg) (by simp) (by simp) ?_
  simp [C.laws_FnExactRankTwoTerms]
  refine hL _ ?_; clear hL L
  refine opsI_end fun L hL => ?_
  simp [C.laws_FnExactRankTwoTerms]
  refine hL _ ?_; clear hL L
  simp [C.laws_FnExactRankTwoTerms]
  refine hK _ ?_; clear hK K
  show AWp _ _ _ _ _
  refine wseq ?_
  refine wseq ?_
  refine wregI ([0, 1, 2] ++ ([3, 4, 5, 6, 7, 8])) rfl fun K hK => ?_
  refine opsI_seg fun L hL => ?_
  simp [C.laws_FnExactRankTwoTerms]
  refine wcall1 (laws_eqLaurentS_calls g g (by omega) hg5) (by simp) (by simp) ?_
  simp [C.laws_FnExactRankTwoTerms]
  refine hL _ ?_; clear hL L
  refine opsI_end fun L hL => ?_
  simp [C.laws_FnExactRankTwoTerms]
  refine hL _ ?_; clear hL L
  simp [C.laws_FnExactRankTwoTerms]
  refine hK _ ?_; clear hK K
  show AWp _ _ _ _ _
  refine wcond _ rfl (fun hc1 => ?_) (fun hc1 => ?_)
  · simp at hc1
  · refine wskip ?_
    show AWp _ _ _ _ _
    refine wseq ?_
    refine wreg fun K hK => ?_
    simp [C.laws_FnExactRankTwoTerms]
    refine hK _ ?_; clear hK K
    show AWp _ _ _ _ _
    refine wseq ?_
    refine wregI ([0, 1, 2] ++ ([3])) rfl fun K hK => ?_
    refine opsI_seg fun L hL => ?_
    simp [C.laws_FnExactRankTwoTerms]
    refine wcall1 (laws_markLaurentS_calls g 1 (by omega) (by omega) (by omega) hg5) (by simp) (by simp) ?_
    simp [C.laws_FnExactRankTwoTerms]
    refine hL _ ?_; clear hL L
    refine opsI_end fun L hL => ?_
    simp [C.laws_FnExactRankTwoTerms]
    refine hL _ ?_; clear hL L
    simp [C.laws_FnExactRankTwoTerms]
    refine hK _ ?_; clear hK K
    show AWp _ _ _ _ _
    refine wseq ?_
    refine wreg fun K hK => ?_
    simp [C.laws_FnExactRankTwoTerms]
    refine hK _ ?_; clear hK K
    show AWp _ _ _ _ _
    refine wseq ?_
    refine wregI ([0, 1, 2] ++ ([3])) rfl fun K hK => ?_
    refine opsI_seg fun L hL => ?_
    simp [C.laws_FnExactRankTwoTerms]
    refine wcall1 (laws_heldLaurentS_calls g 1 (by omega) (by omega) (by omega) hg5) (by simp) (by simp) ?_
    simp [C.laws_FnExactRankTwoTerms]
    refine hL _ ?_; clear hL L
    refine opsI_end fun L hL => ?_
    simp [C.laws_FnExactRankTwoTerms]
    refine hL _ ?_; clear hL L
    simp [C.laws_FnExactRankTwoTerms]
    refine hK _ ?_; clear hK K
    show AWp _ _ _ _ _
    refine wseq ?_
    refine wseq ?_
    refine wreg fun K hK => ?_
    simp [C.laws_FnExactRankTwoTerms]
    refine hK _ ?_; clear hK K
    show AWp _ _ _ _ _
    refine wcond _ rfl (fun hc2 => ?_) (fun hc2 => ?_)
    · have := d_t hc2; omega
    · refine wskip ?_
      show AWp _ _ _ _ _
      refine wseq ?_
      refine wseq ?_
      refine wreg fun K hK => ?_
      simp [C.laws_FnExactRankTwoTerms]
      refine hK _ ?_; clear hK K
      show AWp _ _ _ _ _
      refine wcond _ rfl (fun hc3 => ?_) (fun hc3 => ?_)
      · simp at hc3
      · refine wskip ?_
        show AWp _ _ _ _ _
        refine wseq ?_
        refine wregI ([0, 1, 2, 3] ++ ([4, 5, 6, 7, 8])) rfl fun K hK => ?_
        refine opsI_seg fun L hL => ?_
        simp [C.laws_FnExactRankTwoTerms]
        refine wcall1 (hg) (by simp) (by simp) ?_
        simp [C.laws_FnExactRankTwoTerms]
        refine hL _ ?_; clear hL L
        refine opsI_end fun L hL => ?_
        simp [C.laws_FnExactRankTwoTerms]
        refine hL _ ?_; clear hL L
        simp [C.laws_FnExactRankTwoTerms]
        refine hK _ ?_; clear hK K
        show AWp _ _ _ _ _
        refine wseq ?_
        refine wseq ?_
        refine wregI ([0, 1, 2] ++ ([3, 4, 5, 6, 7, 8])) rfl fun K hK => ?_
        refine opsI_seg fun L hL => ?_
        simp [C.laws_FnExactRankTwoTerms]
        refine wcall1 (laws_eqLaurentS_calls g g (by omega) hg5) (by simp) (by simp) ?_
        simp [C.laws_FnExactRankTwoTerms]
        refine hL _ ?_; clear hL L
        refine opsI_end fun L hL => ?_
        simp [C.laws_FnExactRankTwoTerms]
        refine hL _ ?_; clear hL L
        simp [C.laws_FnExactRankTwoTerms]
        refine hK _ ?_; clear hK K
        show AWp _ _ _ _ _
        refine wcond _ rfl (fun hc4 => ?_) (fun hc4 => ?_)
        · simp at hc4
        · refine wskip ?_
          show AWp _ _ _ _ _
          refine wseq ?_
          refine wreg fun K hK => ?_
          simp [C.laws_FnExactRankTwoTerms]
          refine hK _ ?_; clear hK K
          show AWp _ _ _ _ _
          refine wseq ?_
          refine wregI ([0, 1, 2] ++ ([3])) rfl fun K hK => ?_
          refine opsI_seg fun L hL => ?_
          simp [C.laws_FnExactRankTwoTerms]
          refine wcall1 (laws_heldLaurentS_calls g 1 (by omega) (by omega) (by omega) hg5) (by simp) (by simp) ?_
          simp [C.laws_FnExactRankTwoTerms]
          refine hL _ ?_; clear hL L
          refine opsI_end fun L hL => ?_
          simp [C.laws_FnExactRankTwoTerms]
          refine hL _ ?_; clear hL L
          simp [C.laws_FnExactRankTwoTerms]
          refine hK _ ?_; clear hK K
          show AWp _ _ _ _ _
          refine wseq ?_
          refine wseq ?_
          refine wreg fun K hK => ?_
          simp [C.laws_FnExactRankTwoTerms]
          refine hK _ ?_; clear hK K
          show AWp _ _ _ _ _
          refine wcond _ rfl (fun hc5 => ?_) (fun hc5 => ?_)
          · have := d_t hc5; omega
          · refine wskip ?_
            show AWp _ _ _ _ _
            refine wseq ?_
            refine wseq ?_
            refine wreg fun K hK => ?_
            simp [C.laws_FnExactRankTwoTerms]
            refine hK _ ?_; clear hK K
            show AWp _ _ _ _ _
            refine wcond _ rfl (fun hc6 => ?_) (fun hc6 => ?_)
            · simp at hc6
            · refine wskip ?_
              show AWp _ _ _ _ _
              refine wseq ?_
              refine wreg fun K hK => ?_
              simp [C.laws_FnExactRankTwoTerms]
              refine hK _ ?_; clear hK K
              show AWp _ _ _ _ _
              refine wret ?_
              simp [C.laws_FnExactRankTwoTerms]

end Go.Proofs.Ytocknokodgnlbaa.Ab
