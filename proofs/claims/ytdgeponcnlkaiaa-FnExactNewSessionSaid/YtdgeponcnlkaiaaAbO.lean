/- Maps: where a key stands; what a lookup yields. Then all silent operations. No condition. -/
import Derived.Test.YtdgeponcnlkaiaaAbN
namespace Go.Proofs.Ytdgeponcnlkaiaa.Ab
open Go
set_option linter.unusedSimpArgs false
set_option linter.unusedVariables false
set_option linter.unusedSectionVars false

def midx (k : List Int) : List (List Int × Int) → Nat → Option (Nat × Value)
  | [], _ => none
  | x :: r, i => if x.1 = k then some (i, .int .i64 x.2) else midx k r (i + 1)

theorem midx_cases (k : List Int) (c : Int) : ∀ (es : List (List Int × Int)) (i : Nat),
    (midx k es i = none ∧ mget k es = none ∧ mset k c es = es ++ [(k, c)] ∧ mdel k es = es ∧ ∀ x ∈ es, x.1 ≠ k) ∨
    ∃ j x, midx k es i = some (i + j, .int .i64 x.2) ∧ es[j]? = some x ∧ x.1 = k ∧ mget k es = some x.2 ∧ mset k c es = es.set j (k, c) ∧ mdel k es = es.eraseIdx j
  | [], i => .inl ⟨rfl, rfl, rfl, rfl, by simp⟩
  | x :: es, i => by
    by_cases h : x.1 = k
    · exact .inr ⟨0, x, by simp [midx, h], rfl, h, by simp [mget, h], by simp [mset, h], by simp [mdel, h]⟩
    · rcases midx_cases k c es (i + 1) with ⟨h1, h2, h3, h4, h5⟩ | ⟨j, y, h1, h2, h3, h4, h5, h6⟩
      · refine .inl ⟨by simp [midx, h, h1], by simp [mget, h, h2], by simp [mset, h, h3], by simp [mdel, h, h4], fun y hy => ?_⟩
        rcases List.mem_cons.1 hy with rfl | hy
        · exact h
        · exact h5 y hy
      · exact .inr ⟨j + 1, y, by simp [midx, h, h1]; omega, by simpa using h2, h3, by simp [mget, h, h4], by simp [mset, h, h5], by simp [mdel, h, h6]⟩

section
variable {w0 w : World} {fp0 : List Nat} {ok : Nat → Prop} {P : Program} {T : TT} {σ : St} {θ : Nat → Value} {ρ : Rn → Value} {φ : Rn → List Nat}

theorem key_eq {t : Nat} {i : TI} (hT : tabB P T = true) (hf : flatInt T 4 t = true) (ha : isAggK i.kd = true) (hi : tget T t = some i) {a b : List Int} (h1 : a.length = i.size) (h2 : b.length = i.size) (w : World) :
    (Op.equal t (keyV a) (keyV b)).run P w = .ok (decide (a = b)) w := by
  have := flat_equal hT 4 9996 t hf w i a b hi h1 h2
  simp only [valT, ha, if_true] at this
  exact this

theorem find_run {t : Nat} {i : TI} (hT : tabB P T = true) (hf : flatInt T 4 t = true) (ha : isAggK i.kd = true) (hi : tget T t = some i) {k : List Int} (h1 : k.length = i.size) (w : World) :
    ∀ (es : List (List Int × Int)) (en : List MapEntry) (j : Nat), mapLen i.size es → en.map (fun e => (e.key, e.val)) = es.map (fun x => (keyV x.1, .int .i64 x.2)) →
      (Instr.findAsking t (keyV k) en j).run P w = .ok (midx k es j) w
  | [], en, j, _, h => by
    have : en = [] := by simpa using h
    subst this
    simp [Instr.findAsking, midx]
  | x :: es, en, j, hl, h => by
    cases en with
    | nil => simp at h
    | cons e en =>
      simp only [List.map_cons, List.cons.injEq, Prod.mk.injEq] at h
      obtain ⟨⟨e1, e2⟩, h⟩ := h
      have hx : x.1.length = i.size := hl x (List.mem_cons_self ..)
      simp only [Instr.findAsking, Sem.run_bind, e1, key_eq hT hf ha hi h1 hx, Result.andThen_ok, midx]
      by_cases he : k = x.1
      · subst he
        simp [e2]
      · have he' : ¬ x.1 = k := fun h => he h.symm
        simp only [he, he', decide_false, Bool.false_eq_true, if_false]
        exact find_run hT hf ha hi h1 w es en (j + 1) (fun y hy => hl y (List.mem_cons_of_mem _ hy)) h

structure MapTy (P : Program) (T : TT) (t sz : Nat) : Prop where
  out : ∃ k e ki ei, tget T k = some ki ∧ tget T e = some ei ∧ P.underlying t = some (.map k e) ∧ flatInt T 4 k = true ∧ isAggK ki.kd = true ∧ ki.size = sz ∧ ei.zero = [.int .i64 0] ∧ isAggK ei.kd = false
theorem map_ty (hT : tabB P T = true) {t sz : Nat} (h : mapKV T t = some sz) : MapTy P T t sz := by
  unfold mapKV at h
  split at h
  · rename_i i hi
    split at h
    · rename_i k e hk
      split at h
      · rename_i ki ei hki hei
        split at h
        · rename_i hek hz
          split at h
          · rename_i hf
            injection h with h
            simp only [Bool.and_eq_true] at hf
            exact ⟨k, e, ki, ei, hki, hei, kd_map (tab_ok hT hi) hk, hf.1, hf.2, h, hz, by rw [hek]; rfl⟩
          · simp at h
        · simp at h
      · simp at h
    · simp at h
  · simp at h

theorem wide_of_agg {k : Nat} {ki : TI} (h : RowOk P k ki) (ha : isAggK ki.kd = true) : (match P.underlying k with | some (.array _ _) | some (.struct _) => true | _ => false) = true := by
  have h1 := h.kd
  unfold kdB at h1
  split at h1 <;> simp_all [isAggK]

theorem findKey_run (hT : tabB P T = true) {k : Nat} {ki : TI} (hki : tget T k = some ki) (hf : flatInt T 4 k = true) (ha : isAggK ki.kd = true) {key : List Int} (hl : key.length = ki.size) {es : List (List Int × Int)} {en : Array MapEntry}
    (hm : mapLen ki.size es) (hkv : en.toList.map (fun e => (e.key, e.val)) = es.map (fun x => (keyV x.1, .int .i64 x.2))) (w : World) :
    (Instr.findKey k (keyV key) en.toList).run P w = .ok (midx key es 0) w := by
  rw [run_findKey_eq w (wide_of_agg (tab_ok hT hki) ha)]
  exact find_run hT hf ha hki hl w es en.toList 0 hm hkv

theorem check_run (hT : tabB P T = true) {k : Nat} {ki : TI} (hki : tget T k = some ki) (hf : flatInt T 4 k = true) (ha : isAggK ki.kd = true) {key : List Int} (hl : key.length = ki.size) (em : Bool) (w : World) :
    (Instr.checkKey em 10000 k (keyV key)).run P w = .ok () w := by
  have := flat_check hT em 4 9996 k hf w ki key hki hl
  simp only [valT, ha, if_true] at this
  exact this

theorem keyInts_eq : ∀ {fs : List FV} {key : List Int} {us : List Value}, keyInts fs = some key → FRL w ok σ ρ fs us → us = key.map (Value.int .i64)
  | [], key, us, h, hu => by
    simp only [keyInts, Option.some.injEq] at h
    simp only [FRL] at hu
    subst h; subst hu
    rfl
  | f :: fs, key, us, h, hu => by
    simp only [FRL] at hu
    obtain ⟨u, vs, rfl, h1, h2⟩ := hu
    unfold keyInts at h
    split at h
    · simp_all
    · rename_i n r heq
      injection heq with e1 e2
      subst e1; subst e2
      split at h
      · rename_i l hl
        injection h with h
        subst h
        rw [FR_v h1, keyInts_eq hl h2]
        rfl
      · simp at h
    · simp at h
theorem key_value {fs : List FV} {key : List Int} {u : Value} (h : keyInts fs = some key) (hu : FR w ok σ ρ (.ag fs) u) : u = keyV key := by
  simp only [FR] at hu
  obtain ⟨vs, rfl, h1⟩ := hu
  have := keyInts_eq h h1
  unfold keyV
  rw [← this]

/-- A map that the frame names. -/
theorem mr_map (h : Rel w0 fp0 ok σ θ w ρ φ) {r : Rn} {p : List Nat} {es : List (List Int × Int)} {u : Value} (ho : σ.obj r p = some (.mp es)) (hu : FR w ok σ ρ (.mr r p) u) :
    ∃ m en clock, u = .map (some m) ∧ MapAt w m es en clock ∧ hdr w (ρ r) p = some (.map (some m)) := by
  simp only [FR] at hu
  obtain ⟨es', hv, h1, h2, rfl⟩ := hu
  obtain ⟨hv', fo, hat⟩ := h.rts_.at_ (r := r) (p := p) ho
  have e6 : hv' = u := by have := hat.hdr; rw [h2] at this; injection this with this; exact this.symm
  subst e6
  have := hat.own
  simp only [Ow] at this
  obtain ⟨m, en, cl, e7, _, h3⟩ := this
  exact ⟨m, en, cl, e7, h3, by rw [h2, e7]⟩

theorem lookup_sound (hT : tabB P T = true) (h : Rel w0 fp0 ok σ θ w ρ φ) {t sz : Nat} {r : Rn} {p : List Nat} {fs : List FV} {es : List (List Int × Int)} {key : List Int} {u v : Value} (ht : mapKV T t = some sz)
    (ho : σ.obj r p = some (.mp es)) (hk : keyInts fs = some key) (hl : key.length = sz) (hm : mapLen sz es) (hu : FR w ok σ ρ (.mr r p) u) (hv : FR w ok σ ρ (.ag fs) v) (w' : World) (hw : Later w w') :
    (Instr.lookup t u v false).run P w' = .ok (.int .i64 ((mget key es).getD 0)) w' := by
  obtain ⟨k, e, ki, ei, hki, hei, hu0, hf, ha, hs, hz, hna⟩ := (map_ty hT ht).out
  obtain ⟨m, en, cl, rfl, hmap, _⟩ := mr_map h ho hu
  rw [key_value hk hv]
  subst hs
  have hb : w'.heap[m]? = some (.map en cl) := hw.heap hmap.at_
  obtain ⟨z, z1, z2, z3⟩ := (tab_ok hT hei).zeroV
  have hz0 : z = .int .i64 0 := by
    have := z2 hna
    rw [hz] at z1
    cases z <;> simp [Value.cells] at z1 <;> simp [Value.oneCell'] at this <;> simp_all
  simp only [Instr.lookup, Sem.run_bind, run_underlying hu0, Result.andThen_ok, MapKept.run_getObj_map hb, Sem.run_pure, check_run hT hki hf ha hl, findKey_run hT hki hf ha hl hm hmap.kv]
  rcases midx_cases key 0 es 0 with ⟨h1, h2, _⟩ | ⟨j, x, h1, _, _, h2, _⟩
  · rw [h1, h2]
    simp [z3, hz0]
  · rw [h1, h2]
    simp

end
end Go.Proofs.Ytdgeponcnlkaiaa.Ab
